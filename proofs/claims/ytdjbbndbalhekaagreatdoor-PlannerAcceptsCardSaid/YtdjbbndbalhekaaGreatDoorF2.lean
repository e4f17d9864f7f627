/- Part of a proof, packed. -/
import Derived.Test.YtdjbbndbalhekaaGreatDoorF1
open List (range replicate length_append append_assoc)
open Option.some (injEq)
open Go.IntKind (i64)
open Go.Proofs.Tryz
set_option linter.defProp false
set_option maxRecDepth 100000
set_option maxHeartbeats 3200000
namespace Go.Proofs.YtdjbbndbalhekaaGreatDoor
open Go
def ZmT:false=Rows.plannerAcceptsRow.goesBy Tryz.pinned.checked.prog:=EC
end Go.Proofs.YtdjbbndbalhekaaGreatDoor
namespace Go.Proofs.YtdjbbndbalhekaaGreatDoor.Pv
open Go
inductive PV where
 |junk
 |sc (v:Value)
 |agg (cs:List PV)
 |tup (vs:List PV)
 |lst (n:Nat) (cs:List PV)
 |ip (cs:List PV)
 |ptr (o ver off:Nat)
 |sl (o ver sz off n:Nat)
 |fn (f:Fn) (first cap:List PV)
 |ifc (t:TypeId) (v:PV)
 |mp (o ver:Nat)
 |nl (low sz n:Nat) (cs:List PV)
inductive Ob where
 |dead
 |cells (ver:Nat) (e:TypeId) (cs:List PV)
 |map (ver:Nat) (es:List (Value × PV))
abbrev Store:=Nat->Ob
def Ob.ver:Ob->Option Nat
 |.dead=>none
 |.cells v _ _=>some v
 |.map v _=>some v
def Store.set(S:Store)(o:Nat)(x:Ob):Store:=λi=>if i=o then x else S i
theorem q11(S:Store)(o:Nat)(x:Ob):S.set o x o=x:=by simp[Store.set]
theorem q10(S:Store)(o i:Nat)(x:Ob)(h:i≠o):S.set o x i=S i:=by simp_all[Store.set]
theorem Store.set_set(S:Store)(o:Nat)(x y:Ob):(S.set o x).set o y=S.set o y:=by grind[Store.set]
theorem Store.set_comm(S:Store)(o i:Nat)(x y:Ob)(h:i≠o):(S.set o x).set i y=(S.set i y).set o x:=by grind[Store.set]
structure Ctx where
 loc:Nat->Option (Nat × Nat)
 next:Nat
 clock:Nat
def Ctx.M(C:Ctx)(S:Store)(b:Nat):Prop:=∃o k,S o≠.dead/\C.loc o=some (b,k)
def xO:Nat:=9223372036854775807
inductive Rel (C:Ctx) (S:Store) (w:World):PV->Value->Prop where
 |junk (v:Value):Rel C S w .junk v
 |sc (v:Value):Rel C S w (.sc v) v
 |agg {cs:List PV} {vs:Array Value} (hl:cs.length=vs.size) (h1:∀(i:Nat) (v:Value),vs[i]?=some v->v.oneCell'=true) (h:∀(i:Nat) (c:PV) (v:Value),cs[i]?=some c->vs[i]?=some v->Rel C S w c v):Rel C S w (.agg cs) (.agg vs)
 |tup {cs:List PV} {vs:Array Value} (hl:cs.length=vs.size) (h:∀(i:Nat) (c:PV) (v:Value),cs[i]?=some c->vs[i]?=some v->Rel C S w c v):Rel C S w (.tup cs) (.tuple vs)
 |lst0 {cap:Nat} {a:Option Addr}:Rel C S w (.lst 0 []) (.slice a 0 cap)
 |lst1 {n cap b o:Nat} {cs:List PV} {c:Array Value} {e:TypeId} {fz:Nat × Nat} (hn:n<=cap) (hm:n<=xO) (hb:w.heap[b]?=some (.cells c e fz)) (hM:¬C.M S b)
   (hs:cs≠[]->o+cs.length<=c.size) (h1:∀(i:Nat) (v:Value),i<cs.length->c[o+i]?=some v->v.oneCell'=true) (h:∀(i:Nat) (p:PV) (v:Value),cs[i]?=some p->c[o+i]?=some v->Rel C S w p v):Rel C S w (.lst n cs) (.slice (some ⟨b,o,none⟩) n cap)
 |ip {b o:Nat} {cs:List PV} {c:Array Value} {e:TypeId} {fz:Nat × Nat} (hb:w.heap[b]?=some (.cells c e fz)) (hM:¬C.M S b)
   (hs:cs≠[]->o+cs.length<=c.size) (h1:∀(i:Nat) (v:Value),i<cs.length->c[o+i]?=some v->v.oneCell'=true) (h:∀(i:Nat) (p:PV) (v:Value),cs[i]?=some p->c[o+i]?=some v->Rel C S w p v):Rel C S w (.ip cs) (.pointer (some ⟨b,o,none⟩))
 |ptr {o ver off:Nat} {v:Value} (h1:∃a,v=.pointer (some a)) (ho:o<C.next/\ver<C.clock) (h:∀v0,(S o).ver=some v0->ver<=v0/\(ver=v0->∃b k,C.loc o=some (b,k)/\v=.pointer (some ⟨b,off,none⟩))):Rel C S w (.ptr o ver off) v
 |sl {o ver sz off n:Nat} {v:Value} (h1:∃a cap,v=.slice a n cap/\n<=cap/\n<=xO/\cap<=maxLen/\(n≠0->∃b f,a=some ⟨b,f,none⟩)) (ho:o<C.next/\ver<C.clock) (h:∀v0,(S o).ver=some v0->ver<=v0/\(ver=v0 ->
   (C.loc o=none/\n=0/\off=0/\v=.slice none 0 0)\/∃b k a cap,C.loc o=some (b,k)/\v=.slice a n cap/\(off=0->a=some ⟨b,0,none⟩/\cap*sz=k)/\(n≠0->a=some ⟨b,off,none⟩))) :
   Rel C S w (.sl o ver sz off n) v
 |nl0 {low sz cap:Nat} {a:Option Addr}:Rel C S w (.nl low sz 0 []) (.slice a 0 cap)
 |nl {low sz n cap b:Nat} {cs:List PV} {c:Array Value} {e:TypeId} (hn:0<n/\n<=cap/\n<=xO/\cap<=maxLen) (hb:w.heap[b]?=some (.cells c e (0,0))) (hM:¬C.M S b) (hl:low<=b/\cs.length=n*sz/\cap*sz=c.size)
   (h1:∀(i:Nat) (v:Value),i<cs.length->c[i]?=some v->v.oneCell'=true) (h:∀(i:Nat) (p:PV) (v:Value),cs[i]?=some p->c[i]?=some v->Rel C S w p v):Rel C S w (.nl low sz n cs) (.slice (some ⟨b,0,none⟩) n cap)
 |fn {f:Fn} {fs cs:List PV} {fv cv:Array Value} (hf:fs.length=fv.size) (hc:cs.length=cv.size) (h:∀(i:Nat) (c:PV) (v:Value),fs[i]?=some c->fv[i]?=some v->Rel C S w c v)
   (h':∀(i:Nat) (c:PV) (v:Value),cs[i]?=some c->cv[i]?=some v->Rel C S w c v):Rel C S w (.fn f fs cs) (.func f fv cv)
 |ifc {t:TypeId} {p:PV} {v:Value} (h:Rel C S w p v):Rel C S w (.ifc t p) (.iface t v)
 |mp {o ver:Nat} {v:Value} (h1:∃b,v=.map (some b)) (ho:o<C.next/\ver<C.clock) (h:∀v0,(S o).ver=some v0->ver<=v0/\(ver=v0->∃b k,C.loc o=some (b,k)/\v=.map (some b))):Rel C S w (.mp o ver) v
structure Sim (C:Ctx) (S:Store) (w:World):Prop where
 lt:∀o,S o≠.dead->o<C.next
 clk:∀o v,(S o).ver=some v->v<C.clock
 J:∀o o' b k k',S o≠.dead->S o'≠.dead->C.loc o=some (b,k)->C.loc o'=some (b,k')->o=o'
 cells:∀o ver e cs,S o=.cells ver e cs->(C.loc o=none/\cs=[])\/∃(b k:Nat) (c:Array Value),C.loc o=some (b,k)/\w.heap[b]?=some (.cells c e (0,0))/\c.size=k/\cs.length<=k /\
  (∀(i:Nat) (v:Value),i<cs.length->c[i]?=some v->v.oneCell'=true)/\∀(i:Nat) (p:PV) (v:Value),cs[i]?=some p->c[i]?=some v->Rel C S w p v
 maps:∀o ver es,S o=.map ver es->∃(b k:Nat) (ms:Array MapEntry) (cl:Nat),C.loc o=some (b,k)/\w.heap[b]?=some (.map ms cl)/\es.length=ms.size /\
  (∀(i:Nat) (e:Value × PV) (m:MapEntry),es[i]?=some e->ms[i]?=some m->m.key=e.1/\Rel C S w e.2 m.val)
structure Step (C:Ctx) (S:Store) (w:World) (C':Ctx) (S':Store) (w':World):Prop where
 os:w'.os=w.os
 tape:w'.tape=w.tape/\w.drawn<=w'.drawn
 output:w'.output=w.output
 size:w.heap.size<=w'.heap.size
 next:C.next<=C'.next
 clock:C.clock<=C'.clock
 blocks:∀b,b<w.heap.size->¬C.M S b->w'.heap[b]?=w.heap[b]?/\¬C'.M S' b
 vers:∀o v1,(S' o).ver=some v1->(C.next<=o\/C.clock<=v1)\/∃v0,(S o).ver=some v0/\v0<=v1/\(v0=v1->C'.loc o=C.loc o)
variable {w:World}{b:Nat}{o:Obj}
def jh(h:w.heap[b]?=some o):b<w.heap.size:=(Bd.1 h).1
theorem Step.refl(C:Ctx)(S:Store)(w:World):Step C S w C S w :=
 ⟨rfl,⟨rfl,Ag _⟩,rfl,Ag _,Ag _,Ag _,λ_ _ h=>⟨rfl,h⟩,λ_ v1 h=>.inr ⟨v1,h,Ag _,λ_=>rfl⟩⟩
variable {C C':Ctx}{S S':Store}{w':World}
theorem Step.trans{C'':Ctx}{S'':Store}{w'':World}(h:Step C S w C' S' w')(k:Step C' S' w' C'' S'' w''):Step C S w C'' S'' w'' :=
 ⟨k.os.trans h.os,⟨k.tape.1.trans h.tape.1,AF h.tape.2 k.tape.2⟩,k.output.trans h.output,AF h.size k.size,AF h.next k.next,AF h.clock k.clock,
  λb hb hM=>by
   obtain⟨h1,h2⟩:=h.blocks b hb hM;obtain⟨k1,d⟩:=k.blocks b (Br hb h.size) h2;simp_all,
  λo v1 hv=>by have hn:=h.next;have e:=h.clock;obtain q|⟨v0,a,b,c⟩:=k.vers o v1 hv;omega;obtain q|⟨u,a',b',f⟩:=h.vers o v0 a<;>grind⟩
variable {p:PV}
theorem Rel.mono(st:Step C S w C' S' w'){v:Value}(h:Rel C S w p v):Rel C' S' w' p v:=by
 induction h with
 |junk v=>exact .junk v
 |sc v=>exact .sc v
 |agg hl h1 _ d=>exact .agg hl h1 d
 |tup hl _ d=>exact .tup hl d
 |lst0=>exact .lst0
 |lst1 hn hm hb hM hs h1 _ d =>
 obtain⟨k1,e⟩:=st.blocks _ (jh hb) hM;exact .lst1 hn hm (k1.trans hb) e hs h1 d
 |ip hb hM hs h1 _ d =>
 obtain⟨k1,e⟩:=st.blocks _ (jh hb) hM;exact .ip (k1.trans hb) e hs h1 d
 |nl0=>exact .nl0
 |nl hn hb hM hl h1 _ d =>
 obtain⟨k1,e⟩:=st.blocks _ (jh hb) hM;exact .nl hn (k1.trans hb) e hl h1 d
 |ptr h1 ho h =>
 refine .ptr h1 ⟨Br ho.1 st.next,Br ho.2 st.clock⟩ λv1 hv=>?_;obtain q|⟨v0,a,b,c⟩:=st.vers _ v1 hv<;>grind
 |sl h1 ho h =>
 refine .sl h1 ⟨Br ho.1 st.next,Br ho.2 st.clock⟩ λv1 hv=>?_;obtain q|⟨v0,a,b,c⟩:=st.vers _ v1 hv<;>grind
 |fn hf hc _ _ d f=>exact .fn hf hc d f
 |ifc _ d=>exact .ifc d
 |mp h1 ho h =>
 refine .mp h1 ⟨Br ho.1 st.next,Br ho.2 st.clock⟩ λv1 hv=>?_;obtain q|⟨v0,a,b,c⟩:=st.vers _ v1 hv<;>grind
theorem Sim.M_lt(h:Sim C S w)(hM:C.M S b):b<w.heap.size:=by
 obtain⟨o,k,ho,hl⟩:=hM;cases hs:S o with
 |dead=>simp_all
 |cells ver e cs =>
 obtain⟨hn,_⟩|⟨b',k',c,a,hb,_⟩:=h.cells o ver e cs hs<;>grind
 |map ver es =>
 obtain⟨b',k',ms,cl,a,hb,_⟩:=h.maps o _ es hs;grind
theorem Sim.still(h:Sim C S w)(ho:w'.os=w.os)(g:w'.tape=w.tape/\w.drawn<=w'.drawn)(j:w'.output=w.output)(l:w.heap.size<=w'.heap.size)
  (hb:∀b,b<w.heap.size->w'.heap[b]?=w.heap[b]?):Sim C S w'/\Step C S w C S w':=by
 have st:Step C S w C S w':=⟨ho,g,j,l,Ag _,Ag _,λb d hM=>⟨hb b d,hM⟩,λ_ v1 h=>.inr ⟨v1,h,Ag _,λ_=>rfl⟩⟩;refine⟨⟨h.lt,h.clk,h.J,?_,?_⟩,st⟩;intro o ver e cs hs;obtain hn|⟨b,k,c,h1,h2,h3,a,n,q⟩:=h.cells o ver e cs hs;exact .inl hn;exact .inr ⟨b,k,c,h1,(hb b (jh h2)).trans h2,h3,a,n,λi p v r hv=>(q i p v r hv).mono st⟩;intro o ver es hs;obtain⟨b,k,ms,cl,h1,h2,h3,a⟩:=h.maps o ver es hs;exact⟨b,k,ms,cl,h1,(hb b (jh h2)).trans h2,h3,λi e m f hm=>⟨(a i e m f hm).1,(a i e m f hm).2.mono st⟩⟩
theorem Sim.drew(h:Sim C S w):Sim C S w.drew/\Step C S w C S w.drew :=
 h.still rfl ⟨rfl,C4 _⟩ rfl (Ag _) (λ_ _=>rfl)
def Z7(w:World)(o:Obj)(b:Nat)(h:b<w.heap.size):(w.alloc o).heap[b]?=w.heap[b]?:=by show (w.heap.push o)[b]?=_;grind
theorem QH(w:World)(o:Obj):(w.alloc o).heap[w.heap.size]?=some o:=by show (w.heap.push o)[w.heap.size]?=_;simp
theorem Sim.alloc(h:Sim C S w)(o:Obj):Sim C S (w.alloc o)/\Step C S w C S (w.alloc o)/\¬C.M S w.heap.size:=by obtain⟨h1,h2⟩:=h.still (w':=w.alloc o) rfl ⟨rfl,Ag _⟩ rfl EA (λb hb=>Z7 w o b hb);exact⟨h1,h2,λhM=>by have:=h.M_lt hM;omega⟩
theorem Sim.free(h:Sim C S w):S C.next=.dead:=by
 cases hs:S C.next with
 |dead=>rfl
 |cells v e cs=>have:=h.lt C.next (by rw[hs];simp);omega
 |map v es=>have:=h.lt C.next (by rw[hs];simp);omega
def Ctx.put(C:Ctx)(o ver:Nat)(x:Option (Nat × Nat)):Ctx:={ loc:=λi=>if i=o then x else C.loc i,next:=max C.next (o+1),clock:=max C.clock (ver+1) }
structure Fresh (C:Ctx) (S:Store) (o ver:Nat):Prop where
 dead:S o=.dead
 new:C.next<=o\/C.clock<=ver
def Sim.step_new{o ver:Nat}(hf:Fresh C S o ver){x:Ob}(hx:x.ver=some ver)(l:Option (Nat × Nat))(ho:w'.os=w.os)(f:w'.tape=w.tape/\w.drawn<=w'.drawn)(g:w'.output=w.output)
  (h:w.heap.size<=w'.heap.size) (hb:∀b,b<w.heap.size->w'.heap[b]?=w.heap[b]?) (hl:∀b k,l=some (b,k)->w.heap.size<=b):Step C S w (C.put o ver l) (S.set o x) w':=by
 have a:∀i,i≠o->(C.put o ver l).loc i=C.loc i:=λi hi=>by simp_all[Ctx.put]
 have d:(C.put o ver l).loc o=l:=by simp[Ctx.put]
 refine⟨ho,f,g,h,by grind[Ctx.put],by grind[Ctx.put],λb e hM=>⟨hb b e,?_⟩,?_⟩;rintro⟨i,k,hi,c⟩;by_cases hc:i=o;grind;rw[a i hc]at c;rw[q10 _ _ _ _ hc]at hi;exact hM ⟨i,k,hi,c⟩;intro i v1 hv;by_cases hc:i=o;subst hc;rw[q11,hx]at hv;cases hv;exact .inl hf.new;simp_all[q10]
theorem Sim.object'(h:Sim C S w){o ver:Nat}(hf:Fresh C S o ver)(e:TypeId)(c:Array Value)(cs:List PV)(hl:cs.length<=c.size)
  (h1:∀(i:Nat) (v:Value),i<cs.length->c[i]?=some v->v.oneCell'=true)
  (s:∀(i:Nat) (p:PV) (v:Value),cs[i]?=some p->c[i]?=some v->Rel C S w p v) :
  Sim (C.put o ver (some (w.heap.size,c.size))) (S.set o (.cells ver e cs)) (w.alloc (.cells c e)) /\
  Step C S w (C.put o ver (some (w.heap.size,c.size))) (S.set o (.cells ver e cs)) (w.alloc (.cells c e)):=by
 have a:∀i,i≠o->(C.put o ver (some (w.heap.size,c.size))).loc i=C.loc i:=λi hi=>by simp_all[Ctx.put]
 have d:(C.put o ver (some (w.heap.size,c.size))).loc o=some (w.heap.size,c.size):=by simp[Ctx.put]
 have st:Step C S w (C.put o ver (some (w.heap.size,c.size))) (S.set o (.cells ver e cs)) (w.alloc (.cells c e)) :=
  Sim.step_new hf rfl _ rfl ⟨rfl,Ag _⟩ rfl EA (λb hb=>Z7 w _ b hb) (λb k z=>by simp_all)
 refine⟨⟨?_,?_,?_,?_,?_⟩,st⟩;intro i hi;by_cases hc:i=o;grind[Ctx.put];rw[q10 _ _ _ _ hc]at hi;have:=h.lt i hi;grind[Ctx.put];intro i v hv;by_cases hc:i=o;subst hc;rw[q11]at hv;cases hv;grind[Ctx.put];rw[q10 _ _ _ _ hc]at hv;have:=h.clk i v hv;grind[Ctx.put];intro i l b k k' ho j hl f;by_cases hc:i=o<;>by_cases g:l=o;omega;subst hc;rw[d]at hl;rw[a l g]at f;rw[q10 _ _ _ _ g]at j;have:=h.M_lt ⟨l,k',j,f⟩;simp_all;subst g;rw[d]at f;rw[a i hc]at hl;rw[q10 _ _ _ _ hc]at ho;have:=h.M_lt ⟨i,k,ho,hl⟩;simp_all;rw[a i hc]at hl;rw[a l g]at f;rw[q10 _ _ _ _ hc]at ho;rw[q10 _ _ _ _ g]at j;exact h.J i l b k k' ho j hl f;intro i ver' t cs' hs;by_cases hc:i=o;subst hc;rw[q11]at hs;cases hs;exact .inr ⟨w.heap.size,c.size,c,d,QH w _,rfl,hl,h1,λi p v q hv=>(s i p v q hv).mono st⟩;rw[q10 _ _ _ _ hc]at hs;obtain hn|⟨b,k,u,g1,n,g3,g4,x,y⟩:=h.cells i ver' t cs' hs;simp_all;exact .inr ⟨b,k,u,(a i hc).trans g1,(Z7 w _ b (jh n)).trans n,g3,g4,x,λi p v q hv=>(y i p v q hv).mono st⟩;intro i ver' es hs;by_cases hc:i=o;simp_all[q11];rw[q10 _ _ _ _ hc]at hs;obtain⟨b,k,ms,cl,g1,n,g3,g4⟩:=h.maps i ver' es hs;exact⟨b,k,ms,cl,(a i hc).trans g1,(Z7 w _ b (jh n)).trans n,g3,λi e m r hm=>⟨(g4 i e m r hm).1,(g4 i e m r hm).2.mono st⟩⟩
theorem Sim.kill(h:Sim C S w)(g:∀o,S' o=S o\/S' o=.dead):Sim C S' w/\Step C S w C S' w:=by
 have a:∀o,S' o≠.dead->S' o=S o:=λo ho=>(g o).resolve_right ho;have hM:∀b,C.M S' b->C.M S b:=λb ⟨o,k,ho,hl⟩=>⟨o,k,by grind,hl⟩;have st:Step C S w C S' w:=by
  refine⟨rfl,⟨rfl,Ag _⟩,rfl,Ag _,Ag _,Ag _,λb _ hb=>⟨rfl,λh=>hb (hM b h)⟩,λo v1 hv=>?_⟩;have:S' o≠.dead:=by intro e;rw[e]at hv;cases hv
  rw[a o this]at hv;exact .inr ⟨v1,hv,Ag _,λ_=>rfl⟩
 refine⟨⟨λo ho=>h.lt o EH,λo v hv=>h.clk o v (by rw[<-a o (by intro e;rw[e]at hv;cases hv)];exact hv),λo o' b k k' ho j=>h.J o o' b k k' EH EH,?_,?_⟩,st⟩;intro o ver e cs hs;have:=a o (by rw[hs];simp);obtain hn|⟨b,k,c,h1,h2,h3,d,l,n⟩:=h.cells o ver e cs (this ▸ hs);exact .inl hn;exact .inr ⟨b,k,c,h1,h2,h3,d,l,λi p v q hv=>(n i p v q hv).mono st⟩;intro o ver es hs;have:=a o (by rw[hs];simp);obtain⟨b,k,ms,cl,h1,h2,h3,d⟩:=h.maps o ver es (this ▸ hs);exact⟨b,k,ms,cl,h1,h2,h3,λi e m f hm=>⟨(d i e m f hm).1,(d i e m f hm).2.mono st⟩⟩
def Ctx.at(C:Ctx)(o ver:Nat)(l:Option (Nat × Nat)):Ctx:={ loc:=λi=>if i=o then l else C.loc i,next:=C.next,clock:=max C.clock (ver+1) }
variable {e:Nat}{cs:List PV}
theorem Sim.turn(h:Sim C S w){o ver:Nat}(hs:S o=.cells ver e cs){ver':Nat}{cs':List PV}{l:Option (Nat × Nat)}
  (a2:ver<=ver') (a1:ver=ver'->l=C.loc o)
  (q:w.grownBy w' ((C.loc o).map (·.1))/\w.drawn<=w'.drawn)
  (hl:(l=none/\cs'=[])\/∃b k c,l=some (b,k)/\(w.heap.size<=b\/(C.loc o).map (·.1)=some b)/\w'.heap[b]?=some (.cells c e (0,0))/\c.size=k/\cs'.length<=k /\
   (∀(i:Nat) (v:Value),i<cs'.length->c[i]?=some v->v.oneCell'=true)/\∀(i:Nat) (p:PV) (v:Value),cs'[i]?=some p->c[i]?=some v->Rel C S w p v) :
  Sim (C.at o ver' l) (S.set o (.cells ver' e cs')) w' /\
  Step C S w (C.at o ver' l) (S.set o (.cells ver' e cs')) w':=by
 have n:S o≠.dead:=by rw[hs];simp
 have a:∀i,i≠o->(C.at o ver' l).loc i=C.loc i:=λi hi=>by simp[Ctx.at,hi]
 have d:(C.at o ver' l).loc o=l:=by simp[Ctx.at]
 have r:∀i b k,i≠o->S i≠.dead->C.loc i=some (b,k)->some b≠(C.loc o).map (·.1):=by
  intro i b k hi s hb g;cases ho:C.loc o with
  |none=>simp_all
  |some x =>
  obtain⟨b',k'⟩:=x;rw[ho]at g;simp only[AU,injEq]at g;subst g;exact hi (h.J i o b k k' s n hb ho)
 have st:Step C S w (C.at o ver' l) (S.set o (.cells ver' e cs')) w':=by
  refine⟨q.1.os,⟨q.1.tape,q.2⟩,q.1.output,q.1.size,Ag _,by grind[Ctx.at],λb hb hM=>⟨q.1.block b hb ?_,?_⟩,?_⟩
  .intro g;cases ho:C.loc o with
   |none=>simp_all
   |some x =>
   obtain⟨b',k'⟩:=x;rw[ho]at g;simp only[AU,injEq]at g;subst g;exact hM ⟨o,k',n,ho⟩
  rintro⟨i,k,s,f⟩;by_cases hi:i=o
  .subst hi;rw[d]at f;obtain⟨h0,_⟩|⟨b2,k2,c,h0,h1,_⟩:=hl;simp_all;rw[h0]at f;cases f;obtain h1|h1:=h1;omega;cases ho:C.loc i with
   |none=>simp_all
   |some x =>
   obtain⟨b',k'⟩:=x;rw[ho]at h1;simp only[AU,injEq]at h1;subst h1;exact hM ⟨i,k',n,ho⟩
  rw[a i hi]at f;rw[q10 _ _ _ _ hi]at s;exact hM ⟨i,k,s,f⟩;grind[q11,Ob.ver,q10]
 refine⟨⟨?_,?_,?_,?_,?_⟩,st⟩;intro i hi;by_cases hc:i=o;subst hc;exact h.lt i n;rw[q10 _ _ _ _ hc]at hi;exact h.lt i hi;intro i v hv;by_cases hc:i=o;subst hc;rw[q11]at hv;cases hv;grind[Ctx.at];rw[q10 _ _ _ _ hc]at hv;have:=h.clk i v hv;grind[Ctx.at];have one:∀i b k k',i≠o->S i≠.dead->C.loc i=some (b,k)->l=some (b,k')->False:=by intro i b k k' hi s hb t;obtain⟨h0,_⟩|⟨b2,k2,c,h0,h1,_⟩:=hl;simp_all;rw[h0]at t;cases t;obtain h1|h1:=h1;have:=h.M_lt ⟨i,k,s,hb⟩;omega;grind
 intro i j b k k' hi hj u y;by_cases hc:i=o<;>by_cases z:j=o;omega;grind[q10];grind[q10];rw[a i hc]at u;rw[a j z]at y;rw[q10 _ _ _ _ hc]at hi;rw[q10 _ _ _ _ z]at hj;exact h.J i j b k k' hi hj u y;intro i v' e' ds hi;by_cases hc:i=o;subst hc;rw[q11]at hi;cases hi;obtain⟨h0,h1⟩|⟨b,k,c,h0,_,h2,h3,h4,h5,h6⟩:=hl;simp_all;exact .inr ⟨b,k,c,d.trans h0,h2,h3,h4,h5,λj p v hp hv=>(h6 j p v hp hv).mono st⟩;rw[q10 _ _ _ _ hc]at hi;obtain hn|⟨b,k,c',g1,g2,g3,g4,g5,g6⟩:=h.cells i v' e' ds hi;grind;exact .inr ⟨b,k,c',(a i hc).trans g1,(q.1.block b (jh g2) (r i b k hc (by rw[hi];simp) g1)).trans g2,g3,g4,g5,λj p v hp hv=>(g6 j p v hp hv).mono st⟩;intro i a0 es hi;by_cases hc:i=o;simp_all[q11];rw[q10 _ _ _ _ hc]at hi;obtain⟨b,k,ms,cl,g1,g2,g3,g4⟩:=h.maps i a0 es hi;exact⟨b,k,ms,cl,(a i hc).trans g1,(q.1.block b (jh g2) (r i b k hc (by rw[hi];simp) g1)).trans g2,g3,λj x m g hm=>⟨(g4 j x m g hm).1,(g4 j x m g hm).2.mono st⟩⟩
def Jo(v:Value):PV :=
 match v with
 |.agg cs=>if cs.all (·.oneCell') then .agg (cs.toList.map .sc) else .sc v
 |v=>.sc v
def ev(F:Nat->PV):Operand->PV
 |.tmp t=>F t
 |.const v=>Jo v
 |.global g=>.sc (.pointer (some ⟨g,0,none⟩))
 |.func f=>.fn (.func f) [] []
def vH(F:Nat->PV)(d:Nat)(p:PV):Nat->PV:=λi=>if i=d then p else F i
def yo(F:Nat->PV)(d:Option Nat)(p:PV):Nat->PV :=
 match d with
 |some d=>vH F d p
 |none=>F
def lN(F:Nat->PV)(d:Nat)(p:PV):vH F d p d=p:=by simp[vH]
def lO(F:Nat->PV)(d i:Nat)(p:PV)(h:i≠d):vH F d p i=F i:=by simp[vH,h]
def PV.cells:PV->List PV
 |.agg cs=>cs
 |p=>[p]
def PV.one:PV->Bool
 |.junk|.agg _|.tup _=>false
 |.sc v=>v.oneCell'
 |_=>true
theorem bz(v:Value):Rel C S w (Jo v) v:=by unfold Jo;split;split;rename_i cs h;refine .agg EA ?_ ?_;grind;intro i c v hc hv;simp only[Ai,Array.getElem?_toList,hv,AU,injEq]at hc;subst hc;exact .sc v;exact .sc _;exact .sc _
theorem Rel.cells{v:Value}(h:Rel C S w p v)(h1:p.cells.all PV.one=true):
  p.cells.length=v.cells.size/\(∀(i:Nat) (u:Value),v.cells[i]?=some u->u.oneCell'=true)/\∀(i:Nat) (c:PV) (u:Value),p.cells[i]?=some c->v.cells[i]?=some u->Rel C S w c u:=by
 cases h with
 |agg hl h2 l=>exact⟨hl,h2,l⟩
 |junk=>simp_all[PV.cells,PV.one]
 |tup=>simp_all[PV.cells,PV.one]
 |sc v =>
 simp only[PV.cells,PV.one,Cl,DW,CO]at h1;have hv:v.cells=#[v]:=by cases v<;>first|rfl|cases h1
 rw[hv];refine⟨rfl,?_,?_⟩;grind;intro i c u hc e;obtain _|i:=i;simp[PV.cells]at hc e;subst hc;subst e;exact .sc _;simp at e
 |lst0=>exact⟨rfl,by intro i u e;obtain _|i:=i<;>simp[Value.cells]at e;subst e;rfl,by intro i c u hc e;obtain _|i:=i<;>simp[PV.cells,Value.cells]at hc e;subst hc;subst e;exact .lst0⟩
 |lst1 g j a3 a4 a5 f k=>exact⟨rfl,by intro i u e;obtain _|i:=i<;>simp[Value.cells]at e;subst e;rfl,by intro i c u hc e;obtain _|i:=i<;>simp[PV.cells,Value.cells]at hc e;subst hc;subst e;exact .lst1 g j a3 a4 a5 f k⟩
 |nl0=>exact⟨rfl,by intro i u e;obtain _|i:=i<;>simp[Value.cells]at e;subst e;rfl,by intro i c u hc e;obtain _|i:=i<;>simp[PV.cells,Value.cells]at hc e;subst hc;subst e;exact .nl0⟩
 |nl g j a3 a4 a5 f=>exact⟨rfl,by intro i u e;obtain _|i:=i<;>simp[Value.cells]at e;subst e;rfl,by intro i c u hc e;obtain _|i:=i<;>simp[PV.cells,Value.cells]at hc e;subst hc;subst e;exact .nl g j a3 a4 a5 f⟩
 |ip a3 a4 a5 f k=>exact⟨rfl,by intro i u e;obtain _|i:=i<;>simp[Value.cells]at e;subst e;rfl,by intro i c u hc e;obtain _|i:=i<;>simp[PV.cells,Value.cells]at hc e;subst hc;subst e;exact .ip a3 a4 a5 f k⟩
 |ptr a b c =>
 obtain⟨x,rfl⟩:=a;exact⟨rfl,by intro i u e;obtain _|i:=i<;>simp[Value.cells]at e;subst e;rfl,by intro i c u hc e;obtain _|i:=i<;>simp[PV.cells,Value.cells]at hc e;subst hc;subst e;exact .ptr ⟨_,rfl⟩ b c⟩
 |sl a b c =>
 obtain⟨x,y,rfl,z⟩:=a;exact⟨rfl,by intro i u e;obtain _|i:=i<;>simp[Value.cells]at e;subst e;rfl,by intro i c u hc e;obtain _|i:=i<;>simp[PV.cells,Value.cells]at hc e;subst hc;subst e;exact .sl ⟨_,_,rfl,z⟩ b c⟩
 |fn a b c d=>exact⟨rfl,by intro i u e;obtain _|i:=i<;>simp[Value.cells]at e;subst e;rfl,by intro i c u hc e;obtain _|i:=i<;>simp[PV.cells,Value.cells]at hc e;subst hc;subst e;exact .fn a b ‹_› d⟩
 |ifc a=>exact⟨rfl,by intro i u e;obtain _|i:=i<;>simp[Value.cells]at e;subst e;rfl,by intro i c u hc e;obtain _|i:=i<;>simp[PV.cells,Value.cells]at hc e;subst hc;subst e;exact .ifc a⟩
 |mp a b c =>
 obtain⟨x,rfl⟩:=a;exact⟨rfl,by intro i u e;obtain _|i:=i<;>simp[Value.cells]at e;subst e;rfl,by intro i c u hc e;obtain _|i:=i<;>simp[PV.cells,Value.cells]at hc e;subst hc;subst e;exact .mp ⟨_,rfl⟩ b c⟩
def We(d:Option TypeDesc):Bool :=
 match d with
 |some (.struct _)=>true
 |some (.array _ _)=>true
 |_=>false
def Z8(P:Program)(t:TypeId)(cs:List PV):Option PV :=
 if We (P.underlying t) then (if P.cellsOf t<=cs.length then some (.agg (cs.take (P.cellsOf t))) else none) else cs.head?
def bA(op:BinOp)(k:IntKind)(a:Int)(k':IntKind)(b:Int):Option Value :=
 match op with
 |.shl=>if b<0 then none else some (.int k (k.wrap (a*2^(min b.toNat k.bits))))
 |.shr=>if b<0 then none else some (.int k (a.fdiv (2^(min b.toNat k.bits))))
 |.add=>if k=k' then some (.int k (k.wrap (a+b))) else none
 |.sub=>if k=k' then some (.int k (k.wrap (a-b))) else none
 |.mul=>if k=k' then some (.int k (k.wrap (a*b))) else none
 |.quo=>if k=k'/\b≠0 then some (.int k (k.wrap (a.tdiv b))) else none
 |.rem=>if k=k'/\b≠0 then some (.int k (a.tmod b)) else none
 |.and=>if k=k' then some (.int k (bits .and k a b)) else none
 |.or=>if k=k' then some (.int k (bits .or k a b)) else none
 |.xor=>if k=k' then some (.int k (bits .xor k a b)) else none
 |.andNot=>if k=k' then some (.int k (bits .andNot k a b)) else none
 |.eql=>if k=k' then some (.bool (a==b)) else none
 |.neq=>if k=k' then some (.bool (a != b)) else none
 |.lss=>if k=k' then some (.bool (decide (a<b))) else none
 |.leq=>if k=k' then some (.bool (decide (a<=b))) else none
 |.gtr=>if k=k' then some (.bool (decide (a > b))) else none
 |.geq=>if k=k' then some (.bool (decide (a>=b))) else none
variable {P:Program}{op:BinOp}
def Gu{k k':IntKind}{a b:Int}{v:Value}(t:TypeId)(h:bA op k a k' b=some v):
  (binOp op t (.int k a) (.int k' b)).run P w=.ok v w:=by
 cases op<;>simp only[bA,Dc,Option.ite_none_left_eq_some,injEq]at h;case shl=>obtain⟨h0,rfl⟩:=h;simp[binOp,Op.shift,h0]
 case shr=>obtain⟨h0,rfl⟩:=h;simp[binOp,Op.shift,h0]
 case quo=>obtain⟨⟨rfl,h0⟩,rfl⟩:=h;simp_all[binOp,Op.intDiv]
 case rem=>obtain⟨⟨rfl,h0⟩,rfl⟩:=h;simp_all[binOp,Op.intDiv]
 all_goals
  obtain⟨rfl,rfl⟩:=h;simp[binOp,Op.intArith,Op.intCmp,Op.intBits,bits]
def yq(op:BinOp)(x y:ByteArray):Option Value :=
 match op with
 |.add=>if x.size+y.size<=9223372036854775807 then some (.string (x++y)) else none
 |.eql=>some (.bool (x.toList==y.toList))
 |.neq=>some (.bool (!(x.toList==y.toList)))
 |.lss=>some (.bool (Op.bytesLess x.toList y.toList))
 |.leq=>some (.bool (Op.bytesLess x.toList y.toList||x.toList==y.toList))
 |.gtr=>some (.bool (!(Op.bytesLess x.toList y.toList||x.toList==y.toList)))
 |.geq=>some (.bool (!(Op.bytesLess x.toList y.toList)))
 |_=>none
def Gv{x y:ByteArray}{v:Value}(t:TypeId)(h:yq op x y=some v):
  (binOp op t (.string x) (.string y)).run P w=.ok v w:=by
 cases op<;>simp only[yq,Dc,injEq,reduceCtorEq]at h;case add =>
  obtain⟨h0,rfl⟩:=h;simp only[binOp,Op.stringOp,IntKind.max_i64];rw[if_neg D9];rfl
 all_goals simp_all[binOp,Op.stringOp]
variable {t:TypeId}
def lP(hb:P.underlying t=some .bool)(w:World)(a b:Bool):(Op.equal t (.bool a) (.bool b)).run P w=.ok (a==b) w:=by unfold Op.equal Op.maxDepth;show (Op.equalIn (9999+1) _ _ _).run P w=_;unfold Op.equalIn;simp[run_underlying hb]
def bB{e:TypeId}(hb:P.underlying t=some (.pointer e))(w:World)(a:Option Addr):(Op.equal t (.pointer a) (.pointer none)).run P w=.ok a.isNone w:=by unfold Op.equal Op.maxDepth;show (Op.equalIn (9999+1) _ _ _).run P w=_;unfold Op.equalIn;cases a<;>simp[run_underlying hb]
def bC(P:Program)(op:BinOp)(t:TypeId)(x y:PV):Option PV :=
 match x,y with
 |.sc (.int k a),.sc (.int k' b)=>(bA op k a k' b).map .sc
 |.sc (.string a),.sc (.string b)=>(yq op a b).map .sc
 |.sc (.bool a),.sc (.bool b) =>
  match P.underlying t,op with
  |some .bool,.eql=>some (.sc (.bool (a==b)))
  |some .bool,.neq=>some (.sc (.bool (!(a==b))))
  |_,_=>none
 |.ptr _ _ _,.sc (.pointer none) =>
  match P.underlying t,op with
  |some (.pointer _),.eql=>some (.sc (.bool false))
  |some (.pointer _),.neq=>some (.sc (.bool true))
  |_,_=>none
 |.sc (.pointer none),.sc (.pointer none) =>
  match P.underlying t,op with
  |some (.pointer _),.eql=>some (.sc (.bool true))
  |some (.pointer _),.neq=>some (.sc (.bool false))
  |_,_=>none
 |_,_=>none
variable {x y:PV}{u:Value}
def Gw{v:Value}(X Y:Operand)(h:bC P op t x y=some p)
  (b:Rel C S w x u) (hv:Rel C S w y v) :
  ∃r,(do eqGuard op t X Y u v;binOp op t u v:Sem Value).run P w=.ok r w/\Rel C S w p r:=by
 unfold bC at h;split at h;cases b;cases hv;obtain⟨r,c,rfl⟩:=Al.1 h;exact⟨r,by simp_all[eqGuard_at_int,Gu],.sc _⟩;cases b;cases hv;obtain⟨r,c,rfl⟩:=Al.1 h;exact⟨r,by simp_all[eqGuard_at_string,Gv],.sc _⟩;cases b;cases hv;split at h;rename_i hb;cases h;exact⟨_,by simp_all[eqGuard_at_bool,binOp,lP],.sc _⟩;rename_i hb;cases h;exact⟨_,by simp_all[eqGuard_at_bool,binOp,lP],.sc _⟩;cases h
 .cases hv;cases b with
  |ptr h1 h2 h3 =>
  obtain⟨a,rfl⟩:=h1;split at h;rename_i e hb;cases h;exact⟨_,by simp_all[eqGuard_at_pointer,binOp,bB],.sc _⟩;rename_i e hb;cases h;exact⟨_,by simp_all[eqGuard_at_pointer,binOp,bB],.sc _⟩;cases h
 cases b;cases hv;split at h;rename_i e hb;cases h;exact⟨_,by simp_all[eqGuard_at_pointer,binOp,bB],.sc _⟩;rename_i e hb;cases h;exact⟨_,by simp_all[eqGuard_at_pointer,binOp,bB],.sc _⟩;cases h;cases h
def Xf(P:Program)(t:TypeId)(x i:PV):Option PV :=
 match i with
 |.sc (.int _ n) =>
  match P.underlying t with
  |some (.slice e) =>
   match x with
   |.lst len cs=>if (0<=n/\n<(len:Int))/\P.cellsOf e≠0 then some (.ip (cs.drop (n.toNat * P.cellsOf e))) else none
   |.sl o ver _ off len=>if (0<=n/\n<(len:Int))/\P.cellsOf e≠0 then some (.ptr o ver (off+n.toNat * P.cellsOf e)) else none
   |_=>none
  |some (.array len e) =>
   match x with
   |.ip cs=>if (0<=n/\n<(len:Int))/\P.cellsOf e≠0 then some (.ip (cs.drop (n.toNat * P.cellsOf e))) else none
   |.ptr o ver off=>if (0<=n/\n<(len:Int))/\P.cellsOf e≠0 then some (.ptr o ver (off+n.toNat * P.cellsOf e)) else none
   |_=>none
  |_=>none
 |_=>none
theorem ue(h:P.cellsOf t≠0)(w:World):(sizeOf t).run P w=.ok (P.cellsOf t) w:=by unfold sizeOf typeInfo;unfold Program.cellsOf at h ⊢;cases hi:P.info? t<;>simp_all
variable {d:TypeDesc}
def lQ(h:P.underlying t=some d)(w:World):(sizeOf t).run P w=.ok (P.cellsOf t) w:=by unfold sizeOf typeInfo Program.cellsOf;unfold Program.underlying at h;cases hi:P.info? t<;>simp_all
def VF{c:Array Value}{o k:Nat}(hs:cs≠[]->o+cs.length<=c.size)
  (h1:∀(i:Nat) (v:Value),i<cs.length->c[o+i]?=some v->v.oneCell'=true)
  (h:∀(i:Nat) (p:PV) (v:Value),cs[i]?=some p->c[o+i]?=some v->Rel C S w p v) :
  (cs.drop k≠[]->(o+k)+(cs.drop k).length<=c.size)/\(∀(i:Nat) (v:Value),i<(cs.drop k).length->c[(o+k)+i]?=some v->v.oneCell'=true) /\
  ∀(i:Nat) (p:PV) (v:Value),(cs.drop k)[i]?=some p->c[(o+k)+i]?=some v->Rel C S w p v:=by
 refine⟨λa=>?_,λi v hi hv=>?_,λi p v d hv=>?_⟩;have b:k<cs.length:=by obtain h|h:=Bc k cs.length;exact h;exact absurd (BU h) a
 have:=hs (by intro e;rw[e]at b;simp at b);rw[A7];omega;rw[A7]at hi;exact h1 (k+i) v D9 (by rw[<-Nat.add_assoc];exact hv);grind
theorem Addr.add_plain(b o n:Nat):Addr.add ⟨b,o,none⟩ n=⟨b,o+n,none⟩:=Addr.add_lit b o n
variable {i:PV}
def Gx{v:Value}
  (h:Xf P t x i=some p) (g:Rel C S w x u) (hv:Rel C S w i v):∃r,(Instr.indexAt t u v).run P w=.ok r w/\Rel C S w p r:=by
 unfold Xf at h;split at h;cases hv;rename_i k n;split at h;rename_i e d;split at h;rename_i len cs;split at h
 .rename_i hn;obtain⟨hn,c⟩:=hn;cases h;cases g with
  |lst0=>omega
  |lst1 q hm hb hM hs h1 j =>
  obtain⟨g1,l,g3⟩:=VF (k:=n.toNat * P.cellsOf e) hs h1 j;refine⟨_,?_,.ip hb hM g1 l g3⟩;simp[Instr.indexAt,asIntOf,run_underlying d,hn,ue c,Addr.add_plain]
 cases h;rename_i o ver sz off len;split at h
 .rename_i hn;obtain⟨hn,c⟩:=hn;cases h;cases g with
  |sl h1 h2 h3 =>
  obtain⟨a,cap,rfl,k1,y,z,s⟩:=h1;obtain⟨b,f,rfl⟩:=s D9;refine⟨_,by simp[Instr.indexAt,asIntOf,run_underlying d,hn,ue c,Addr.add_plain];rfl,.ptr ⟨_,rfl⟩ h2 λv0 m=>?_⟩;grind
 cases h;cases h;rename_i len e d;split at h;rename_i cs;split at h
 .rename_i hn;obtain⟨hn,c⟩:=hn;cases h;cases g with
  |ip hb hM hs h1 j =>
  obtain⟨g1,l,g3⟩:=VF (k:=n.toNat * P.cellsOf e) hs h1 j;refine⟨_,?_,.ip hb hM g1 l g3⟩;simp[Instr.indexAt,asIntOf,run_underlying d,hn,ue c,Addr.add_plain,Instr.sureAddr]
 cases h;rename_i o ver off;split at h
 .rename_i hn;obtain⟨hn,c⟩:=hn;cases h;cases g with
  |ptr h1 h2 h3 =>
  obtain⟨a,rfl⟩:=h1;refine⟨_,by simp[Instr.indexAt,asIntOf,run_underlying d,hn,ue c,Instr.sureAddr];rfl,.ptr ⟨_,rfl⟩ h2 λv0 m=>?_⟩;grind[Addr.add_plain]
 cases h;cases h;cases h;cases h
def bD(P:Program)(t:TypeId)(x:PV)(f:Nat):Option PV :=
 match P.underlying t with
 |some (.struct fs) =>
  match fs[f]? with
  |some fd =>
   if P.cellsOf fd.type=0 then none else
   match x with
   |.ip cs=>some (.ip (cs.drop fd.offset))
   |.ptr o ver off=>some (.ptr o ver (off+fd.offset))
   |_=>none
  |none=>none
 |_=>none
variable {f:Nat}
def Gy(h:bD P t x f=some p)(d:Rel C S w x u):
  ∃r,(Instr.fieldAt t u f).run P w=.ok r w/\Rel C S w p r:=by
 unfold bD at h;split at h;rename_i fs e;split at h;rename_i g hf;split at h;cases h;rename_i c;have b:=ue c w;split at h
 .cases h;cases d with
  |ip hb hM hs h1 i =>
  obtain⟨g1,j,g3⟩:=VF (k:=g.offset) hs h1 i;refine⟨_,?_,.ip hb hM g1 j g3⟩;simp[Instr.fieldAt,run_underlying e,hf,Instr.sureAddr,fieldPlace,b,c,Addr.add_plain]
 .cases h;cases d with
  |ptr h1 h2 h3 =>
  obtain⟨a,rfl⟩:=h1;refine⟨_,by simp[Instr.fieldAt,run_underlying e,hf,Instr.sureAddr,fieldPlace,b,c];rfl,.ptr ⟨_,rfl⟩ h2 λv0 l=>?_⟩;grind[Addr.add_plain]
 cases h;cases h;cases h
def bE(c:Array Value)(o:Nat):c.extract o o=#[]:=EH
def lR{o:Nat}{c:Array Value}{e:TypeId}{fz:Nat × Nat}(hb:w.heap[b]?=some (.cells c e fz)):
  ∀(n i:Nat) (a:Array Value),o+i+n<=c.size->(loadCellsFrom ⟨b,o,none⟩ i n a).run P w=.ok (a++c.extract (o+i) (o+i+n)) w:=by
 intro n;induction n with
 |zero =>
 simp[loadCellsFrom,bE]
 |succ n d =>
 intro i a h;have hc:w.cell? ⟨b,o+i,none⟩=some (c[o+i]' D9):=by simp[World.cell?,hb]
 unfold loadCellsFrom;simp only[Sem.run_bind,run_load,Addr.add_plain,hc,Aq];rw[d (i+1) _ D9];congr 1;grind
def lS(h:P.underlying t=some d)(w:World):(isAgg t).run P w=.ok (We (P.underlying t)) w:=by unfold isAgg;rw[h];simp only[Sem.run_bind,run_underlying h,Aq];cases d<;>rfl
def eO{o:Nat}{c:Array Value}{e:TypeId}{fz:Nat × Nat}(j:P.underlying t=some d)
  (hb:w.heap[b]?=some (.cells c e fz)) (hs:cs≠[]->o+cs.length<=c.size)
  (h1:∀(i:Nat) (v:Value),i<cs.length->c[o+i]?=some v->v.oneCell'=true)
  (h:∀(i:Nat) (q:PV) (v:Value),cs[i]?=some q->c[o+i]?=some v->Rel C S w q v) (a:Z8 P t cs=some p) :
  ∃r,(loadVar t ⟨b,o,none⟩).run P w=.ok r w/\Rel C S w p r:=by
 unfold Z8 at a;unfold loadVar;simp only[Sem.run_bind,lS j,Aq];cases k:We (P.underlying t)
 .simp only[k,AW,if_false]at a ⊢;cases cs with
  |nil=>cases a
  |cons q l =>
  cases a;have:=hs EA;simp only[Ae]at this;have hc:w.cell? ⟨b,o,none⟩=some (c[o]' D9):=by simp[World.cell?,hb]
  refine⟨c[o]' D9,by simp_all,?_⟩;exact h 0 p _ rfl EA
 simp only[k,if_true]at a ⊢;split at a;rename_i g;cases a;refine⟨.agg (c.extract o (o+P.cellsOf t)),?_,?_⟩;simp only[Sem.run_bind,lQ j,Aq,loadCells];by_cases h0:P.cellsOf t=0;simp_all[loadCellsFrom,bE];have f:cs≠[]:=by intro e;rw[e]at g;simp at g;exact h0 g
 have:=hs f;have m:=lR (P:=P) (o:=o) hb (P.cellsOf t) 0 #[] D9;simp_all;by_cases h0:P.cellsOf t=0;rw[h0,BJ,bE];refine .agg EA ?_ ?_;intro i v hv;simp at hv;intro i c v hc;simp at hc;have f:cs≠[]:=by intro e;rw[e]at g;simp at g;exact h0 g
 have:=hs f;have hx:∀(i:Nat) (v:Value),(c.extract o (o+P.cellsOf t))[i]?=some v->i<P.cellsOf t/\c[o+i]?=some v:=by intro i v hv;rw[B5]at hv;split at hv;exact⟨by omega,hv⟩;cases hv
 refine .agg ED ?_ ?_<;>grind;cases a
variable {vs:Array Value}
def bF(b:P.underlying t=some d){o:Nat}(hl:cs.length=vs.size)
  (h1:∀(i:Nat) (v:Value),vs[i]?=some v->v.oneCell'=true) (h:∀(i:Nat) (c:PV) (v:Value),cs[i]?=some c->vs[i]?=some v->Rel C S w c v)
  (a:Z8 P t (cs.drop o)=some p):∃r,(part t vs o).run P w=.ok r w/\Rel C S w p r:=by
 unfold Z8 at a;unfold part;simp only[Sem.run_bind,lS b,Aq];cases e:We (P.underlying t);simp only[e,AW,if_false]at a ⊢;rw[List.head?_drop]at a;have ho:o<cs.length:=(Af.1 a).1;have hv:vs[o]?=some (vs[o]' D9):=EA;exact⟨_,by simp[hv],h o p _ a hv⟩;simp only[e,if_true]at a ⊢;split at a;rename_i f;cases a;rw[A7]at f;refine⟨.agg (vs.extract o (o+P.cellsOf t)),by simp[lQ b],?_⟩;by_cases h0:P.cellsOf t=0;rw[h0,BJ,bE];refine .agg EA ?_ ?_;intro i v hv;simp at hv;intro i c v hc;simp at hc;have hx:∀(i:Nat) (v:Value),(vs.extract o (o+P.cellsOf t))[i]?=some v->i<P.cellsOf t/\vs[o+i]?=some v:=by intro i v hv;rw[B5]at hv;split at hv;exact⟨by omega,hv⟩;cases hv
 refine .agg ED ?_ ?_<;>grind;cases a
def RelL(C:Ctx)(S:Store)(w:World)(cs:List PV)(vs:Array Value):Prop :=
 cs.length=vs.size/\(∀(i:Nat) (v:Value),vs[i]?=some v->v.oneCell'=true)/\∀(i:Nat) (c:PV) (v:Value),cs[i]?=some c->vs[i]?=some v->Rel C S w c v
theorem RelL.mono(st:Step C S w C' S' w')(h:RelL C S w cs vs):RelL C' S' w' cs vs :=
 ⟨h.1,h.2.1,λi c v hc hv=>(h.2.2 i c v hc hv).mono st⟩
def Gz(l:List Value):∀(k off:Nat) (cells:Array Value),off+k+l.length<=cells.size ->
  ((l.zipIdx k).foldl (λcs x=>cs.setIfInBounds (off+x.2) x.1) cells).size=cells.size /\
  ∀i,((l.zipIdx k).foldl (λcs x=>cs.setIfInBounds (off+x.2) x.1) cells)[i]?=if off+k<=i/\i<off+k+l.length then l[i-(off+k)]? else cells[i]?:=by
 induction l with
 |nil=>simp[if_neg]
 |cons x xs a =>
 intro k off cells h;simp only[Ae]at h;simp only[List.zipIdx_cons,Ba];obtain⟨h1,h2⟩:=a (k+1) off (cells.setIfInBounds (off+k) x) ED;refine⟨by rw[h1];simp,λi=>?_⟩;rw[h2 i];simp only[Ae];by_cases hi:i=off+k;subst hi;rw[if_neg D9,if_pos D9];have:off+k<cells.size:=D9;simp[this];grind
def PV.fit:PV->Bool
 |.agg _=>true
 |p=>p.one
def YV(place:Nat->Option (Nat × Nat))(cells:List PV):List (Nat × PV)->Option (List PV)
 |[]=>some cells
 |(i,p)::rest =>
  match place i with
  |none=>none
  |some (off,size) =>
  if p.cells.length=size/\off+size<=cells.length/\p.fit=true then YV place (cells.take off++p.cells++cells.drop (off+size)) rest else none
theorem Rel.cells'{v:Value}(h:Rel C S w p v)(h1:p.fit=true):RelL C S w p.cells v.cells:=by
 cases p with
 |agg cs=>cases h with|agg hl h1 h2=>exact⟨hl,h1,h2⟩
 |junk=>cases h1
 |tup=>cases h1
 |sc v=>exact h.cells (by simp[PV.cells];exact h1)
 |_=>exact h.cells (by simp[PV.cells,PV.one])
def lT{place:Nat->Option (Nat × Nat)}(F:Operand->PV)(ρ:Operand->Value)(d:∀x,Rel C S w (F x) (ρ x)):
  ∀(parts:List (Nat × Operand)) (cs:List PV) (vs:Array Value) (cs':List PV),RelL C S w cs vs->YV place cs (parts.map λx=>(x.1,F x.2))=some cs' ->
   ∃vs',Instr.fill place vs (parts.map λx=>(x.1,ρ x.2))=some vs'/\RelL C S w cs' vs':=by
 intro parts;induction parts with
 |nil=>intro cs vs cs' h hf;cases hf;exact⟨vs,rfl,h⟩
 |cons x xs f =>
 intro cs vs cs' h hf;obtain⟨i,x⟩:=x;simp only[Aw,YV]at hf;split at hf;cases hf;rename_i off size n;split at hf;rename_i hc;obtain⟨g,k,a⟩:=hc;have l:=(d x).cells' a;obtain⟨hl,h1,h2⟩:=h;obtain⟨o,g1,p⟩:=l;obtain⟨s1,s2⟩:=Gz (ρ x).cells.toList 0 off vs ED;simp only[BJ,Array.length_toList]at s1 s2;refine Exists.imp (λvs'=>And.imp_left λe=>?_) (f _ (((ρ x).cells.toList.zipIdx 0).foldl (λcs x=>cs.setIfInBounds (off+x.2) x.1) vs) cs' ?_ hf);grind[Instr.fill,Array.toList_zipIdx];refine⟨?_,?_,?_⟩;rw[s1];simp;omega;grind;intro j c v b hv;rw[s2 j]at hv;split at hv;grind;rename_i q;by_cases m:j<off;grind[List.getElem?_append_left];rw[Ao ED,length_append,AA,Bm D9,AL]at b;grind;cases hf
def Program.zeroOf(P:Program)(t:TypeId):Option Value:=(P.info? t).bind (·.zero)
variable {z:Value}
def Xg(h:Program.zeroOf P t=some z)(w:World):(zeroValue t).run P w=.ok z w:=by unfold zeroValue typeInfo;unfold Program.zeroOf at h;cases hi:P.info? t<;>simp_all
def xh(z:Value):List PV:=z.cells.toList.map .sc
def lU(h:z.cells.all (·.oneCell')=true):RelL C S w (xh z) z.cells:=by refine⟨by simp[xh],?_,?_⟩;grind;intro i c v hc hv;simp only[xh,Ai,Array.getElem?_toList,hv,AU,injEq]at hc;subst hc;exact .sc v
def eP(P:Program)(t:TypeId):Nat->Option (Nat × Nat):=λi =>
 match P.underlying t with
 |some (.struct fs) =>
  match fs[i]? with
  |some f=>some (f.offset,P.cellsOf f.type)
  |none=>none
 |some (.array _ e)=>some (i*P.cellsOf e,P.cellsOf e)
 |_=>none
def eQ(P:Program)(t:TypeId):Bool :=
 match P.underlying t with
 |some (.struct fs)=>fs.all λf=>(P.info? f.type).isSome
 |some (.array _ e)=>(P.info? e).isSome
 |_=>false
def bG(P:Program)(t:TypeId)(parts:List (Nat × PV)):Option PV :=
 match Program.zeroOf P t with
 |none=>none
 |some z=>if z.cells.all (·.oneCell')=true/\eQ P t=true then (YV (eP P t) (xh z) parts).map .agg else none
def lV(h:(P.info? t).isSome=true)(w:World):(sizeOf t).run P w=.ok (P.cellsOf t) w:=by unfold sizeOf typeInfo Program.cellsOf;cases hi:P.info? t<;>simp_all
def GA:∀(l:List Field),(∀f∈l,(P.info? f.type).isSome=true) ->
  (l.mapM λf=>(do pure (f.offset,<-sizeOf f.type):Sem (Nat × Nat))).run P w=.ok (l.map λf=>(f.offset,P.cellsOf f.type)) w:=by
 intro l;induction l<;>simp_all[lV]
def GB{parts:List (Nat × Operand)}(F:Operand->PV)(ρ:Operand->Value)(k:∀x,Rel C S w (F x) (ρ x))
  (h:bG P t (parts.map λx=>(x.1,F x.2))=some p):∃r,(Instr.build t (parts.map λx=>(x.1,ρ x.2)).toArray).run P w=.ok r w/\Rel C S w p r:=by
 unfold bG at h;split at h;cases h;rename_i z l;split at h
 .rename_i hc;obtain⟨b,a⟩:=hc;obtain⟨cs',hf,rfl⟩:=Al.1 h;obtain⟨vs',hv,c⟩:=lT F ρ k parts _ _ _ (lU b) hf;refine⟨.agg vs',?_,.agg c.1 c.2.1 c.2.2⟩;unfold Instr.build;simp only[Sem.run_bind,Xg l,Aq];unfold eQ at a;unfold eP at hv;cases j:P.underlying t with
  |none=>simp_all
  |some d =>
  rw[j]at a hv;cases d with
  |struct fs =>
  simp only at a hv;simp only[run_underlying j,Aq,Sem.run_bind];have hm:=GA (P:=P) (w:=w) fs.toList (λf hf=>by rw[Array.all_eq_true_iff_forall_mem]at a;exact a f (Cf.1 hf));have g:(fs.mapM λf=>(do pure (f.offset,<-sizeOf f.type):Sem (Nat × Nat))).run P w=.ok (fs.map λf=>(f.offset,P.cellsOf f.type)) w:=by rw[<-Array.toArray_toList (xs:=fs),List.mapM_toArray];simp only[Sem.run_map,hm,Aq];congr 1;apply BV.1;simp
  rw[g];simp only[Aq];have m:(λ(x:Nat)=>(fs.map λ(f:Field)=>(f.offset,P.cellsOf f.type))[x]?)=(λi=>match fs[i]? with|some (f:Field)=>some (f.offset,P.cellsOf f.type)|none=>none):=by funext i;rw[Array.getElem?_map];cases fs[i]?<;>rfl
  simp_all
  |array n e =>
  simp_all[run_underlying,lV]
  |_=>cases a
 cases h
def qr(n:Nat)(z:Value):List PV:=(range (n*z.cells.size)).map λi=>.sc (z.cells[i%z.cells.size]!)
def lW(h:z.cells.all (·.oneCell')=true)(n:Nat):
  RelL C S w (qr n z) ((Array.range (n*z.cells.size)).map (z.cells[·%z.cells.size]!)):=by
 refine⟨by simp[qr],?_,?_⟩;grind[Nat.mod_lt];intro i c v hc hv;rw[Array.getElem?_map,Al]at hv;obtain⟨j,a,rfl⟩:=hv;obtain⟨h1,h2⟩:=Bd.1 a;simp at h1 h2;subst h2;simp only[qr,Ai,Bg h1,AU,injEq]at hc;subst hc;exact .sc _
def Yp(P:Program)(e:TypeId)(len:Nat)(parts:List (Nat × PV)):Option (List PV) :=
 match Program.zeroOf P e with
 |none=>none
 |some z=>if z.cells.all (·.oneCell')=true/\z.cells.size=P.cellsOf e/\P.cellsOf e≠0/\len*P.cellsOf e<=2^24 then
   YV (λi=>some (i*P.cellsOf e,P.cellsOf e)) (qr len z) parts else none
variable {N:Nat}
def eR{e:TypeId}{parts:List (Nat × Operand)}(k:P.underlying t=some (.slice e))(F:Operand->PV)(ρ:Operand->Value)
  (m:∀x,Rel C S w (F x) (ρ x)) (h:Yp P e N (parts.map λx=>(x.1,F x.2))=some cs) :
  ∃vs,(Instr.buildSlice t N (parts.map λx=>(x.1,ρ x.2)).toArray).run P w=.ok (.slice (some ⟨w.heap.size,0,none⟩) N N) (w.alloc (.cells vs e))/\RelL C S w cs vs/\vs.size=N*P.cellsOf e:=by
 unfold Yp at h;split at h;cases h;rename_i z q;split at h;rename_i hc;obtain⟨d,n,h0,o⟩:=hc;obtain⟨vs',hv,i⟩:=lT F ρ m parts _ _ _ (lW d N) h;have f:∀(l:List (Nat × PV)) (a b:List PV) (j:Nat->Option (Nat × Nat)),YV j a l=some b->b.length=a.length:=by
  intro l;induction l with
  |nil=>intro a b j p;cases p;rfl
  |cons x xs r =>
  grind[YV]
 refine⟨vs',?_,i,?_⟩;unfold Instr.buildSlice;simp only[Sem.run_bind,run_underlying k,Aq,ue h0];rw[if_neg D9];by_cases g:N*P.cellsOf e=0;have c:N=0:=by obtain h|h:=Nat.mul_eq_zero.1 g;exact h;exact absurd h h0
 subst c;simp only[C9,DC,DX]at hv;simp only[C9,if_true,Sem.run_pure,Aq,Sem.run_bind,DC,DX];rw[hv];simp[newRow];simp_all[Xg,newRow];rw[<-i.1,f _ _ _ _ h];simp_all[qr];cases h
def vq(d:Nat)(x:Option PV):Option Nat :=
 match x with
 |none=>some d
 |some (.sc (.int _ n))=>if 0<=n then some n.toNat else none
 |_=>none
def eT{d y:Nat}{x:Option PV}{u:Option Value}(h:vq d x=some b)(hx:∀p,x=some p->∃v,u=some v/\Rel C S w p v)(hn:x=none->u=none)
  (hb:b<=y) (a:BoundsCode):(u=none/\b=d)\/∃v,u=some v/\(Instr.sliceBound v y a).run P w=.ok b w:=by
 unfold vq at h;split at h;simp_all;split at h;rename_i k n e;cases h;obtain⟨v,hv,c⟩:=hx _ rfl;cases c;simp_all[Instr.sliceBound,asIntOf];cases h;cases h
def bH(P:Program)(t:TypeId)(x:PV)(lo hi mx:Option PV):Option PV :=
 match vq 0 lo with
 |none=>none
 |some l =>
 match x with
 |.lst n cs =>
  match P.underlying t,vq n hi,vq n mx with
  |some (.slice e),some h,some m =>
  if l<=h/\h<=m/\m<=n/\P.cellsOf e≠0/\(mx.isSome=true->hi.isSome=true) then some (.lst (h-l) ((cs.drop (l*P.cellsOf e)).take ((h-l)*P.cellsOf e))) else none
  |_,_,_=>none
 |.sl o ver sz off n =>
  match P.underlying t,vq n hi with
  |some (.slice e),some h=>if l<=h/\h<=n/\P.cellsOf e≠0/\sz=P.cellsOf e/\mx.isSome=false then some (.sl o ver sz (off+l*sz) (h-l)) else none
  |_,_=>none
 |.sc (.string s) =>
  match P.underlying t,vq s.size hi with
  |some .string,some h=>if l<=h/\h<=s.size/\mx.isSome=false then some (.sc (.string (s.extract l h))) else none
  |_,_=>none
 |_=>none
def bI{n cap l m:Nat}{lo hi mx:Option PV}{c d umx:Option Value}(b:Bool)(hl:vq 0 lo=some l)(r:vq n hi=some N)
  (hm:vq cap mx=some m) (h1:l<=N) (h2:N<=m) (h3:m<=cap) (j:mx.isSome=true->hi.isSome=true)
  (g:(∀p,lo=some p->∃v,c=some v/\Rel C S w p v)/\(lo=none->c=none)) (i:(∀p,hi=some p->∃v,d=some v/\Rel C S w p v)/\(hi=none->d=none))
  (e:(∀p,mx=some p->∃v,umx=some v/\Rel C S w p v)/\(mx=none->umx=none)) :
  (Instr.sliceBounds b n cap c d umx).run P w=.ok (l,N,m) w:=by
 unfold Instr.sliceBounds;have hM:∀a,(umx=none/\m=cap)\/∃v,umx=some v/\(Instr.sliceBound v cap a).run P w=.ok m w:=λa=>eT hm e.1 e.2 h3 a;have o:∀y a,N<=y->(d=none/\N=n)\/∃v,d=some v/\(Instr.sliceBound v y a).run P w=.ok N w:=λy a s=>eT r i.1 i.2 s a;have t:∀a,(c=none/\l=0)\/∃v,c=some v/\(Instr.sliceBound v N a).run P w=.ok l w:=λa=>eT hl g.1 g.2 h1 a;have low:∀a,(match c with|some v=>(do let l <-Instr.sliceBound v N a;pure (l,N,m))|none=>(do let l <-pure 0;pure (l,N,m)):Sem (Nat × Nat × Nat)).run P w=.ok (l,N,m) w:=by intro a;obtain⟨rfl,rfl⟩|⟨v,rfl,hv⟩:=t a;rfl;simp_all
 obtain⟨rfl,rfl⟩|⟨x,rfl,k⟩:=hM (if b then .slice3Acap else .slice3Alen);rcases o m (if b then .sliceAcap else .sliceAlen) h2 with ⟨rfl,rfl⟩|⟨u,rfl,f⟩
 exact low _;simp only[pure_bind];rw[Sem.run_bind,f];exact low _;obtain⟨rfl,rfl⟩|⟨u,rfl,f⟩:=o m .slice3B h2;have:hi.isSome=true:=j (by
  cases q:mx with
  |none=>have:=e.2 q;cases this
  |some _=>rfl)
 cases q:hi<;>simp_all;simp only;rw[Sem.run_bind,k];simp only[Aq];rw[Sem.run_bind,f];exact low _
variable {n:Nat}
def GD{x:Option PV}(y:Nat)(h:vq n x=some b):x≠none->vq y x=some b:=by intro hx;unfold vq at h ⊢;grind
def GE{lo hi mx:Option PV}{j y umx:Option Value}(h:bH P t x lo hi mx=some p)(hu:Rel C S w x u)
  (z:(∀p,lo=some p->∃v,j=some v/\Rel C S w p v)/\(lo=none->j=none)) (a0:(∀p,hi=some p->∃v,y=some v/\Rel C S w p v)/\(hi=none->y=none))
  (g:(∀p,mx=some p->∃v,umx=some v/\Rel C S w p v)/\(mx=none->umx=none)):∃r,(Instr.sliceAt t u j y umx).run P w=.ok r w/\Rel C S w p r:=by
 unfold bH at h;split at h;cases h;rename_i l hl;split at h;rename_i n cs;split at h;rename_i e hb m ht hh hm;split at h
 .rename_i hc;obtain⟨c1,c2,c3,c4,c5⟩:=hc;cases h;have sz:=ue c4 w;have a3:∀(a:Option Addr) (cap:Nat),n<=cap->∃m',hb<=m'/\(Instr.sliceAt t (.slice a n cap) j y umx).run P w=.ok (.slice (if m'=l then a else a.map (·.add (l*P.cellsOf e))) (hb-l) (m'-l)) w:=by
   intro a cap c7;cases hq:mx with
   |none =>
   have d:vq cap (none:Option PV)=some cap:=rfl;have:=bI (P:=P) true hl hh (hq ▸ d:vq cap mx=some cap) c1 D9 (Ag _) c5 z a0 g;refine⟨cap,by omega,?_⟩;simp only[Instr.sliceAt,Sem.run_bind,run_underlying ht,Aq,Instr.slice,this,sz,Sem.run_pure]
   |some pm =>
   have d:=GD cap hm (by rw[hq];simp);have:=bI (P:=P) (n:=n) (cap:=cap) true hl hh d c1 c2 D9 c5 z a0 g;refine⟨m,by omega,?_⟩;simp only[Instr.sliceAt,Sem.run_bind,run_underlying ht,Aq,Instr.slice,this,sz,Sem.run_pure]
  cases hu with
  |lst0 =>
  obtain⟨m',a6,hr⟩:=a3 _ _ (Bx _);have:hb-l=0:=D9;refine⟨_,hr,?_⟩;rw[this];simp only[List.drop_nil,DJ];exact .lst0
  |lst1 hn d1 a7 hM hs h1 hr =>
  rename_i cap b o c ee fz;obtain⟨m',a6,a8⟩:=a3 _ _ hn;refine⟨_,a8,?_⟩;obtain⟨g1,g2,g3⟩:=VF (k:=l*P.cellsOf e) hs h1 hr;by_cases a9:m'=l;have:hb-l=0:=D9;rw[this];simp only[C9,C8];exact .lst0;rw[if_neg a9];simp only[AU,Addr.add_plain];refine .lst1 D9 D9 a7 hM (λa1=>?_) (λi v hi hv=>?_) (λi q v hq hv=>?_);have:=g1 (by intro e0;rw[e0]at a1;simp at a1);grind;simp only[AA]at hi;exact g2 i v D9 hv;by_cases b7:i<(hb-l)*P.cellsOf e;rw[AP b7]at hq;exact g3 i q v hq hv;rw[An ED]at hq;cases hq
 cases h;cases h;rename_i o ver sz off n;split at h;rename_i e hb ht hh;split at h
 .rename_i hc;obtain⟨c1,c2,c3,rfl,c5⟩:=hc;cases h;have f:mx=none:=by cases mx with|none=>rfl|some _=>cases c5
  cases hu with
  |sl h1 h2 h3 =>
  obtain⟨a,cap,rfl,k1,k2,k3,k4⟩:=h1;have d:vq cap mx=some cap:=by rw[f];rfl
  have a2:=bI (P:=P) (n:=n) (cap:=cap) true hl hh d c1 D9 (Ag _) (by rw[f];simp) z a0 g;refine⟨.slice (if cap=l then a else a.map (·.add (l*P.cellsOf e))) (hb-l) (cap-l),?_,?_⟩;simp only[Instr.sliceAt,Sem.run_bind,run_underlying ht,Aq,Instr.slice,a2,ue c3,Sem.run_pure];have e1:hb-l<=cap-l:=D9;have e2:hb-l<=xO:=AF (Nat.sub_le _ _) (AF c2 k2);have e3:cap-l<=maxLen:=AF (Nat.sub_le _ _) k3;clear a2 d;refine .sl ⟨_,_,rfl,e1,e2,e3,λa1=>?_⟩ h2 λv0 b8=>?_;grind[Addr.add_plain];obtain⟨g1,g2⟩:=h3 v0 b8;refine⟨g1,λhq=>?_⟩;obtain⟨q1,q2,q3,q4⟩|⟨b,k',a',c8,q1,q2,q3,q4⟩:=g2 hq;simp_all;cases q2;refine .inr ⟨b,k',_,_,q1,rfl,λd0=>?_,λa1=>?_⟩;have c6:l=0:=by obtain h|h:=Ca l;exact h;have:0<l*P.cellsOf e:=Nat.mul_pos h (Cb c3);omega
  subst c6;obtain⟨z1,z2⟩:=q3 D9;subst z1;refine⟨?_,by simpa using z2⟩;by_cases a4:cap=0;simp[a4];simp[a4,Addr.add_plain];grind[Addr.add_plain]
 cases h;cases h;rename_i s;split at h;rename_i hb ht hh;split at h;rename_i hc;obtain⟨c1,c2,c5⟩:=hc;cases h;have f:mx=none:=by cases mx with|none=>rfl|some _=>cases c5
 have a5:umx=none:=g.2 f;subst a5;cases hu;have d:vq s.size mx=some s.size:=by rw[f];rfl
 have a2:=bI (P:=P) (n:=s.size) (cap:=s.size) (umx:=none) false hl hh d c1 c2 (Ag _) (by rw[f];simp) z a0 g;refine⟨_,?_,.sc _⟩;simp[Instr.sliceAt,run_underlying ht,Instr.slice,a2];cases h;cases h;cases h
def bJ(P:Program)(t:TypeId)(x:PV):Option PV :=
 match P.underlying t with
 |some (.slice _) =>
  match x with
  |.lst n _=>some (.sc (.int .i64 n))
  |.nl _ _ n _=>some (.sc (.int .i64 n))
  |.sl _ _ _ _ n=>some (.sc (.int .i64 n))
  |.sc (.slice _ n _)=>some (.sc (.int .i64 n))
  |_=>none
 |some .string =>
  match x with
  |.sc (.string s)=>some (.sc (.int .i64 s.size))
  |_=>none
 |_=>none
def unP(op:UnOp)(x:PV):Option PV :=
 match x with
 |.sc (.bool b)=>match op with|.not=>some (.sc (.bool (!b)))|_=>none
 |.sc (.int k n)=>match op with|.neg=>some (.sc (.int k (k.wrap (0-n))))|_=>none
 |_=>none
def bK(P:Program)(src dst:TypeId)(x:PV):Option PV :=
 match P.underlying src with
 |none=>none
 |some _ =>
 match x with
 |.sc (.int _ n)=>match P.underlying dst with|some (.int k)=>some (.sc (.int k (k.wrap n)))|_=>none
 |.sc (.string s)=>match P.underlying dst with|some .string=>some (.sc (.string s))|_=>none
 |_=>none
def bL(P:Program)(t:TypeId)(x i:PV):Option PV :=
 match i with
 |.sc (.int _ n) =>
  match P.underlying t with
  |some (.array len e) =>
   match x with
   |.agg cs=>if (0<=n/\n<(len:Int))/\P.cellsOf e≠0/\(P.underlying e).isSome=true then Z8 P e (cs.drop (n.toNat * P.cellsOf e)) else none
   |_=>none
  |some .string =>
   match x with
   |.sc (.string s)=>if 0<=n then (s[n.toNat]?).map λb=>.sc (.int .u8 b.toNat) else none
   |_=>none
  |_=>none
 |_=>none
def bM(P:Program)(t:TypeId)(x:PV)(f:Nat):Option PV :=
 match P.underlying t with
 |some (.struct fs) =>
  match fs[f]? with
  |some fd=>if (P.underlying fd.type).isSome=true then (match x with|.agg cs=>Z8 P fd.type (cs.drop fd.offset)|_=>none) else none
  |none=>none
 |_=>none
def eU(x:PV):Option PV :=
 match x with
 |.ptr _ _ _=>some x
 |.ip _=>some x
 |.fn (.func _) _ _=>some x
 |_=>none
def Wf(f:Int->Int->Int)(x y:PV):Option PV :=
 match x,y with
 |.sc (.int k a),.sc (.int _ b)=>some (.sc (.int k (f a b)))
 |_,_=>none
def xk(x y:Int):Int:=if y<x then y else x
def jU(x y:Int):Int:=if x<y then y else x
def bN(P:Program)(F:Nat->PV)(c:Call):Option PV :=
 match c.callee with
 |.builtin .len=>match c.args.toList,c.argTypes.toList with|[x],[t]=>bJ P t (ev F x)|_,_=>none
 |.builtin .min=>match c.args.toList with|[x,y]=>Wf xk (ev F x) (ev F y)|_=>none
 |.builtin .max=>match c.args.toList with|[x,y]=>Wf jU (ev F x) (ev F y)|_=>none
 |_=>none
def YW(P:Program):List Field->List PV->List PV->Option Bool
 |[],[],[]=>some true
 |f::fs,.sc (.int k a)::cs,.sc (.int k' b)::ds =>
  match P.underlying f.type with
  |some (.int _)=>if k=k' then (YW P fs cs ds).map (a==b&&·) else none
  |_=>none
 |f::fs,.sc (.bool a)::cs,.sc (.bool b)::ds =>
  match P.underlying f.type with
  |some .bool=>(YW P fs cs ds).map (a==b&&·)
  |_=>none
 |_,_,_=>none
def bO:Nat->List Field->Bool
 |_,[]=>true
 | i, f :: fs => f.name != "_" && f.offset == i && bO (i + 1) fs
def bP(P:Program)(t:TypeId):Bool:=!P.stoodInHeld t&&!P.eqGuardType P.depth t&&bO 0 (P.fieldsOf t).toList
def bQ(P:Program)(op:BinOp)(t:TypeId)(x y:PV):Option PV :=
 match x,y with
 |.agg cs,.agg ds =>
  match P.underlying t with
  |some (.struct fs) =>
  if bP P t=true then
   match YW P fs.toList cs ds,op with
   |some b,.eql=>some (.sc (.bool b))
   |some b,.neq=>some (.sc (.bool (!b)))
   |_,_=>none
  else none
  |_=>none
 |_,_=>none
variable {CS DS:List PV}
theorem lX{xs z:Array Value}(hx:Rel C S w (.agg CS) (.agg xs))(hy:Rel C S w (.agg DS) (.agg z))(d:Nat):
  ∀(fs:List Field) (i:Nat) (b:Bool),bO i fs=true->YW P fs (CS.drop i) (DS.drop i)=some b->(Op.eqFields (d+1) xs z fs).run P w=.ok b w
 |[],i,b,_,h=>by
  generalize CS.drop i=cs at h;generalize DS.drop i=ds at h;cases cs with
  |nil =>
  cases ds<;>simp_all[YW,Op.eqFields]
  |cons=>simp_all[YW]
 |f::fs,i,b,g,h=>by
  simp only[bO,Ar,bne_iff_ne,beq_iff_eq]at g;obtain⟨⟨hn,rfl⟩,g⟩:=g;have step:∀(p q:PV) (ps j:List PV),CS.drop f.offset=p::ps->DS.drop f.offset=q::j->CS.drop (f.offset+1)=ps/\DS.drop (f.offset+1)=j:=by
   intro p q ps j h1 h2;have e1:CS.drop (f.offset+1)=(CS.drop f.offset).drop 1:=by rw[List.drop_drop]
   have e2:DS.drop (f.offset+1)=(DS.drop f.offset).drop 1:=by rw[List.drop_drop]
   rw[e1,e2,h1,h2];exact⟨rfl,rfl⟩
  have x:∀(e:TypeDesc) (p q:PV) (ps j:List PV) (u v:Value) (c b':Bool),P.underlying f.type=some e->We (some e)=false->CS.drop f.offset=p::ps->DS.drop f.offset=q::j->(∀r,Rel C S w p r->r=u)->(∀r,Rel C S w q r->r=v) ->
    (Op.equalIn (d+1) f.type u v).run P w=.ok c w->YW P fs ps j=some b'->b=(c&&b')->(Op.eqFields (d+1) xs z (f::fs)).run P w=.ok b w:=by
   intro e p q ps j u v c b' l a0 h1 h2 hu hv y m hb;cases hx with
   |agg lx ox rx =>
   cases hy with
   |agg ly oy ry =>
   obtain⟨r1,k1,k2⟩:=bF (P:=P) (w:=w) (t:=f.type) l lx ox rx (o:=f.offset) (p:=p) (by grind[Z8]);obtain⟨r2,k3,k4⟩:=bF (P:=P) (w:=w) (t:=f.type) l ly oy ry (o:=f.offset) (p:=q) (by grind[Z8]);cases hu r1 k2;cases hv r2 k4;obtain⟨g1,g2⟩:=step _ _ _ _ h1 h2;have ih:=lX (.agg lx ox rx) (.agg ly oy ry) d fs (f.offset+1) b' g (by rw[g1,g2];exact m);unfold Op.eqFields;rw[if_pos hn];simp only[Sem.run_bind,k1,k3,Aq,y];cases c;simp[hb];simp[hb,ih]
  unfold YW at h;split at h;simp_all;rename_i k a ps k' c j h1 h2 h3;cases h1;split at h;rename_i k2 l;split at h;rename_i hk;subst hk;obtain⟨b',n,rfl⟩:=Al.1 h;exact x _ _ _ _ _ _ _ _ _ l rfl h2 h3 (λr s=>by cases s;rfl) (λr s=>by cases s;rfl) (run_equalIn_int w d f.type k k2 a c l) n rfl;cases h;cases h;rename_i a ps c j h1 h2 h3;cases h1;split at h;rename_i l;obtain⟨b',n,rfl⟩:=Al.1 h;exact x _ _ _ _ _ _ _ _ _ l rfl h2 h3 (λr s=>by cases s;rfl) (λr s=>by cases s;rfl) (run_equalIn_bool' w d f.type a c l) n rfl;cases h;cases h
def GF{v:Value}(X Y:Operand)(h:bQ P op t x y=some p)
  (g:Rel C S w x u) (hv:Rel C S w y v):∃r,(do eqGuard op t X Y u v;binOp op t u v:Sem Value).run P w=.ok r w/\Rel C S w p r:=by
 unfold bQ at h;split at h;rename_i cs ds;split at h;rename_i fs i;split at h
 .rename_i a;unfold bP at a;simp only[Ar,Cq]at a;obtain⟨⟨h1,h2⟩,h3⟩:=a;have hf:P.fieldsOf t=fs:=by unfold Program.fieldsOf;rw[i]
  have c:P.underlying t=some (.struct (P.fieldsOf t)):=by rw[hf];exact i
  have d:=g;have e:=hv;cases g with
  |agg j k a3 =>
  cases hv with
  |agg b1 b2 b3 =>
  rename_i xs f;have key:∀b,YW P fs.toList cs ds=some b->(Op.equalIn 10000 t (.agg xs) (.agg f)).run P w=.ok b w:=by intro b hb;show (Op.equalIn (9999+1) _ _ _).run P w=_;rw[run_equalIn_struct w 9999 t xs f c h1,hf];show (Op.eqFields (9998+1) xs f fs.toList).run P w=_;rw[hf]at h3;exact lX d e 9998 fs.toList 0 b h3 (by simpa using hb)
  split at h;rename_i b hb;cases h;exact⟨_,by simp_all[run_eqGuard_agg,run_eql_struct],.sc _⟩;rename_i b hb;cases h;exact⟨_,by simp_all[run_eqGuard_agg,run_neq_struct],.sc _⟩;cases h
 cases h;cases h;cases h
def uf(P:Program)(F:Nat->PV)(o:Oper):Option PV :=
 match o.op with
 |.move x=>some (ev F x)
 |.assign x=>some (ev F x)
 |.pick c a b=>match ev F c with|.sc (.bool t)=>some (bif t then ev F a else ev F b)|_=>none
 |.build t parts=>bG P t (parts.toList.map λx=>(x.1,ev F x.2))
 |.buildSlice t len parts =>
  match P.underlying t with
  |some (.slice e)=>(Yp P e len (parts.toList.map λx=>(x.1,ev F x.2))).map (.lst len)
  |_=>none
 |.load t x=>match ev F x with|.ip cs=>if (P.underlying t).isSome=true then Z8 P t cs else none|_=>none
 |.nilCheck x=>eU (ev F x)
 |.binOp op t x y _ =>
  match bC P op t (ev F x) (ev F y) with
  |some p=>some p
  |none=>bQ P op t (ev F x) (ev F y)
 |.unOp op _ x=>unP op (ev F x)
 |.convert src dst x=>bK P src dst (ev F x)
 |.makeInterface t x=>match P.underlying t with|some (.interface _)=>none|some _=>some (.ifc t (ev F x))|none=>none
 |.makeFunc fn first cap=>some (.fn fn (first.toList.map (ev F)) (cap.toList.map (ev F)))
 |.slice t x lo hi mx=>bH P t (ev F x) (lo.map (ev F)) (hi.map (ev F)) (mx.map (ev F))
 |.fieldAddr t x f=>bD P t (ev F x) f
 |.field t x f=>bM P t (ev F x) f
 |.indexAddr t x i=>Xf P t (ev F x) (ev F i)
 |.index t x i=>bL P t (ev F x) (ev F i)
 |.extract t i=>match ev F t with|.tup ps=>ps[i]?|_=>none
 |.call c=>bN P F c
 |_=>none
section
variable {P:Program} {C:Ctx} {S:Store} {w:World} {F:Nat->PV} {ρ:Operand->Value} {p:PV}
def GG{b:Bool}{v:Value}(h1:Rel C S w x u)(h2:Rel C S w y v):Rel C S w (bif b then x else y) (if b=true then u else v):=EH
def GI{ty:TypeId}(h:bJ P t x=some p)(d:Rel C S w x u):∃r,(Builtin.len_ #[t] ty #[u]).run P w=.ok r w/\Rel C S w p r:=by
 unfold bJ at h;split at h;rename_i e b;split at h;cases h;cases d<;>exact⟨_,by simp[Builtin.len_,run_underlying b];rfl,.sc _⟩;cases h;cases d<;>exact⟨_,by simp[Builtin.len_,run_underlying b];rfl,.sc _⟩;cases h;cases d with|sl h1=>obtain⟨a,c,rfl,_⟩:=h1;exact⟨_,by simp[Builtin.len_,run_underlying b];rfl,.sc _⟩
 cases h;cases d;exact⟨_,by simp[Builtin.len_,run_underlying b];rfl,.sc _⟩;cases h;rename_i b;split at h;cases h;cases d;exact⟨_,by simp[Builtin.len_,run_underlying b];rfl,.sc _⟩;cases h;cases h
def GJ{op:UnOp}(h:unP op x=some p)(a:Rel C S w x u):∃r,(Op.unary op u).run P w=.ok r w/\Rel C S w p r:=by unfold unP at h;split at h;cases a;split at h;cases h;exact⟨_,by simp[Op.unary],.sc _⟩;cases h;cases a;split at h;cases h;exact⟨_,by simp[Op.unary,Op.intArith],.sc _⟩;cases h;cases h
def GK{dst:TypeId}(h:bK P t dst x=some p)(a:Rel C S w x u):∃r,(convert t dst u).run P w=.ok r w/\Rel C S w p r:=by unfold bK at h;split at h;cases h;rename_i d hs;split at h;cases a;split at h;rename_i k b;cases h;exact⟨_,by simp_all[convert,run_underlying,Conv.intToInt],.sc _⟩;cases h;cases a;split at h;rename_i b;cases h;refine⟨_,?_,.sc _⟩;simp_all[convert,run_underlying];cases h;cases h
def GL{v:Value}(h:bL P t x i=some p)(a:Rel C S w x u)(hv:Rel C S w i v):∃r,(Instr.index t u v).run P w=.ok r w/\Rel C S w p r:=by
 unfold bL at h;split at h;cases hv;rename_i k n;split at h;rename_i len e f;split at h;split at h
 .rename_i hc;obtain⟨c1,c2,c3⟩:=hc;cases g:P.underlying e with
  |none=>simp_all
  |some d =>
  cases a with
  |agg hl h1 h2 =>
  obtain⟨r,j,c⟩:=bF g hl h1 h2 h;simp_all[Instr.index,asIntOf,run_underlying,ue]
 cases h;cases h;rename_i f;split at h;cases a;split at h;rename_i hn;obtain⟨b,hb,rfl⟩:=Al.1 h;exact⟨_,by simp_all[Instr.index,asIntOf,run_underlying],.sc _⟩;cases h;cases h;cases h;cases h
def GM(h:bM P t x f=some p)(b:Rel C S w x u):∃r,(Instr.field t u f).run P w=.ok r w/\Rel C S w p r:=by
 unfold bM at h;split at h;rename_i fs i;split at h;rename_i c hf;split at h;rename_i e;split at h
 .cases g:P.underlying c.type with
  |none=>simp_all
  |some d =>
  cases b with
  |agg hl h1 h2 =>
  obtain⟨r,j,a⟩:=bF g hl h1 h2 h;simp_all[Instr.field,run_underlying,asAgg]
 cases h;cases h;cases h;cases h
def VG{l:List Operand}(a:∀x,Rel C S w (ev F x) (ρ x)):(l.map (ev F)).length=(l.toArray.map ρ).size/\∀(i:Nat) (c:PV) (v:Value),(l.map (ev F))[i]?=some c->(l.toArray.map ρ)[i]?=some v->Rel C S w c v:=EH
def eV{x:Option Operand}(a:∀x,Rel C S w (ev F x) (ρ x)):(∀p,x.map (ev F)=some p->∃v,x.map ρ=some v/\Rel C S w p v)/\(x.map (ev F)=none->x.map ρ=none):=by cases x<;>simp_all
theorem lY{x y:PV}{u v:Value}(a:Rel C S w x u)(hv:Rel C S w y v):
  (Wf xk x y=some p->∃r,(Builtin.min2 u v).run P w=.ok r w/\Rel C S w p r)/\(Wf jU x y=some p->∃r,(Builtin.max2 u v).run P w=.ok r w/\Rel C S w p r):=by
 constructor <;>
 .intro h;unfold Wf at h;split at h;cases h;cases a;cases hv;exact⟨_,rfl,.sc _⟩;cases h
def GN{o:Oper}(h:uf P F o=some p)(hS:Sim C S w)(k:∀x,Rel C S w (ev F x) (ρ x)):
  ∃v w',(execOp ρ o).run P w=.ok (.value v) w'/\Rel C S w' p v/\Sim C S w'/\Step C S w C S w':=by
 have j:(∃v,(execOp ρ o).run P w=.ok (.value v) w/\Rel C S w p v)->∃v w',(execOp ρ o).run P w=.ok (.value v) w'/\Rel C S w' p v/\Sim C S w'/\Step C S w C S w' :=
  λ⟨v,h1,h2⟩=>⟨v,w,h1,h2,hS,.refl _ _ _⟩
 unfold uf at h;unfold execOp at j ⊢;cases ho:o.op<;>simp only[ho]at h j ⊢<;>try (cases h;done)
 case move x=>cases h;simp_all
 case assign x=>cases h;simp_all
 case pick c a b =>
  split at h;rename_i t hc;cases h;have:=k c;rw[hc]at this;generalize ρ c=v at this j ⊢;cases this;simp_all[asBool,GG];cases h
 case build t parts =>
  obtain⟨r,m,g⟩:=GB (ev F) ρ k h;refine j ⟨r,?_,g⟩;have e:(parts.map λ(x:Nat × Operand)=>(x.1,ρ x.2))=(parts.toList.map λx=>(x.1,ρ x.2)).toArray:=by apply BV.1;simp
  simp_all
 case buildSlice t len parts =>
  split at h;rename_i e ht;obtain⟨cs,hl,rfl⟩:=Al.1 h;obtain⟨vs,m,g,a0⟩:=eR ht (ev F) ρ k hl;have eq:(parts.map λ(x:Nat × Operand)=>(x.1,ρ x.2))=(parts.toList.map λx=>(x.1,ρ x.2)).toArray:=by apply BV.1;simp
  obtain⟨g1,g2,g3⟩:=hS.alloc (.cells vs e);refine⟨_,_,by simp only[Sem.run_bind];rw[eq,m];rfl,?_,g1,g2⟩;have n:len<=xO:=by unfold Yp at hl;split at hl;cases hl;split at hl;rename_i hc;obtain⟨_,_,c3,c4⟩:=hc;have:len*1<=len*P.cellsOf e:=Ch _ (Cb c3);unfold xO;omega;cases hl
  obtain⟨r1,r2,r3⟩:=g.mono g2;exact .lst1 (Ag _) n (QH _ _) g3 (λ_=>by omega) (λi v _ hv=>r2 i v (by simpa using hv)) (λi q v hq hv=>r3 i q v hq (by simpa using hv));cases h
 case load t x =>
  split at h;rename_i cs hx;split at h
  .rename_i a1;cases hd:P.underlying t with
   |none=>simp_all
   |some d =>
   have:=k x;rw[hx]at this;generalize ρ x=v at this j ⊢;cases this with
   |ip hb hM hs h1 m =>
   obtain⟨r,a2,g⟩:=eO hd hb hs h1 m h;simp_all[Instr.loadAt,Instr.sureAddr]
  cases h;cases h
 case nilCheck x =>
  have hx:=k x;unfold eU at h;generalize ρ x=v at hx j ⊢;split at h
  .rename_i s;cases h;rw[s]at hx j ⊢;cases hx with
   |ptr h1 h2 h3=>obtain⟨a,rfl⟩:=h1;exact j ⟨_,rfl,.ptr ⟨_,rfl⟩ h2 h3⟩
  .rename_i s;cases h;rw[s]at hx j ⊢;cases hx with
   |ip a b c d e=>exact j ⟨_,rfl,.ip a b c d e⟩
  .rename_i s;cases h;rw[s]at hx j ⊢;cases hx with
   |fn a b c d=>exact j ⟨_,rfl,.fn a b c d⟩
  cases h
 case binOp op t x y ty =>
  split at h;rename_i p' hp;cases h;obtain⟨r,m,g⟩:=Gw (w:=w) x y hp (k x) (k y);refine j ⟨r,?_,g⟩;rw[Sem.run_bind,m];rfl;obtain⟨r,m,g⟩:=GF (w:=w) x y h (k x) (k y);refine j ⟨r,?_,g⟩;rw[Sem.run_bind,m];rfl
 case unOp op t x =>
  obtain⟨r,m,g⟩:=GJ (P:=P) h (k x);simp_all
 case convert src dst x =>
  obtain⟨r,m,g⟩:=GK h (k x);simp_all
 case makeInterface t x =>
  split at h;cases h;rename_i d a3 hd;cases h;refine j ⟨_,?_,.ifc (k x)⟩;simp_all[Instr.makeInterface,run_underlying];cases h
 case makeFunc fn first cap =>
  cases h;have h1:=VG (l:=first.toList) k;have h2:=VG (l:=cap.toList) k;simp only[Array.toArray_toList]at h1 h2;exact j ⟨_,rfl,.fn h1.1 h2.1 h1.2 h2.2⟩
 case slice t x lo hi mx =>
  obtain⟨r,m,g⟩:=GE h (k x) (eV k) (eV k) (eV k);simp_all
 case fieldAddr t x f =>
  obtain⟨r,m,g⟩:=Gy h (k x);simp_all
 case field t x f =>
  obtain⟨r,m,g⟩:=GM h (k x);simp_all
 case indexAddr t x i =>
  obtain⟨r,m,g⟩:=Gx h (k x) (k i);simp_all
 case index t x i =>
  obtain⟨r,m,g⟩:=GL h (k x) (k i);simp_all
 case extract t i =>
  split at h
  .rename_i ps hx;have:=k t;rw[hx]at this;generalize ρ t=v at this j ⊢;cases this with
   |tup hl m =>
   rename_i vs;obtain⟨hi,_⟩:=Af.1 h;have u:vs[i]?=some (vs[i]' D9):=EA;exact j ⟨_,by simp[Instr.extract,u],m i p _ h u⟩
  cases h
 case call c =>
  unfold bN at h;split at h;rename_i hc;split at h;rename_i x t hx ht;have z:c.args=#[x]:=by apply BV.1;simpa using hx
  have et:c.argTypes=#[t]:=by apply BV.1;simpa using ht
  obtain⟨r,m,g⟩:=GI (ty:=o.type) h (k x);refine j ⟨r,?_,g⟩;grind[resolve,invoke,builtin,Sem.run_bind,Sem.run_pure,Result.andThen_ok];cases h;rename_i hc;split at h;rename_i x y hx;have z:c.args=#[x,y]:=by apply BV.1;simpa using hx
  obtain⟨r,m,g⟩:=(lY (P:=P) (k x) (k y)).1 h;refine j ⟨r,?_,g⟩;simp only[resolve,hc,invoke,builtin,z,Sem.run_bind,Sem.run_pure,Aq,DM,Aw,Bf,Builtin.min_,List.foldlM,m];cases h;rename_i hc;split at h;rename_i x y hx;have z:c.args=#[x,y]:=by apply BV.1;simpa using hx
  obtain⟨r,m,g⟩:=(lY (P:=P) (k x) (k y)).2 h;refine j ⟨r,?_,g⟩;simp only[resolve,hc,invoke,builtin,z,Sem.run_bind,Sem.run_pure,Aq,DM,Aw,Bf,Builtin.max_,List.foldlM,m];cases h;cases h
end
structure Rd where
 round:Option Nat
 V:Ctx->Store->World->Prop
 keep:∀{C C':Ctx} {S S':Store} {w w':World},Step C S w C' S' w'->V C S w->V C' S' w'
def jM:Rd:=⟨none,λ_ _ _=>True,λ_ _=>trivial⟩
def Fe(r:Rd):Fence:={ Fence.wide with round:=r.round }
structure St (r:Rd) (C:Ctx) (S:Store) (w:World) (N:Nat) (F:Nat->PV) (a:Act):Prop where
 sim:Sim C S w
 size:a.tmps.size=N
 fr:∀i,Rel C S w (F i) (a.tmps.getD i undef)
 v:r.V C S w
variable {r:Rd}{F:Nat->PV}{a:Act}
theorem St.ev(h:St r C S w N F a)(x:Operand):Rel C S w (ev F x) (a.eval x):=by
 cases x with
 |tmp t=>exact h.fr t
 |const v=>exact bz v
 |global g=>exact .sc _
 |func f=>exact .fn rfl rfl EA EA
def GO(a:Act)(d:Nat)(v:Value)(b:d<a.tmps.size)(i:Nat):(a.put (some d) v).tmps.getD i undef=if i=d then v else a.tmps.getD i undef:=by simp only[Act.put,Bb];grind
theorem St.put(h:St r C S w N F a)(st:Step C S w C' S' w')(hs:Sim C' S' w'){d:Option Nat}(c:∀x,d=some x->x<N){v:Value}
  (e:Rel C' S' w' p v):St r C' S' w' N (yo F d p) (a.put d v):=by
 cases d with
 |none=>exact⟨hs,h.size,λi=>(h.fr i).mono st,r.keep st h.v⟩
 |some d =>
 have b:d<a.tmps.size:=by rw[h.size];exact c d rfl
 refine⟨hs,by simp[Act.put,h.size],λi=>?_,r.keep st h.v⟩;rw[GO a d v b];simp only[yo,vH];split;exact e;exact(h.fr i).mono st
def gd(ops:Array Oper)(F:Nat->PV)(o:Oper):Option Bool :=
 match o.guard with
 |none=>some true
 |some (j,want) =>
 match (ops[j]?).bind (·.dst) with
 |none=>some false
 |some d=>match F d with
  |.sc v=>match v with
   |.bool b=>some (b==want)
   |_=>some false
  |_=>none
def Jp{ops:Array Oper}{o:Oper}{b:Bool}(h:St r C S w N F a)(c:gd ops F o=some b):Region.wanted o (yielded ops a.tmps)=b:=by
 unfold gd at c;unfold Region.wanted;split at c;simp_all;rename_i j f hn;rw[hn];simp only;split at c;grind[yielded];rename_i d i;have g:=h.fr d;split at c;rename_i v hv;rw[hv]at g;generalize e:a.tmps.getD d undef=u at g;cases g;rw[Bb]at e;split at c
 .rename_i b';cases c;cases hx:a.tmps[d]? with
  |none=>rw[hx]at e;cases e
  |some y =>
  rw[hx]at e;simp only[Option.getD_some]at e;subst e;simp only[yielded,i,CI,hx];cases b'<;>cases f<;>rfl
 grind[yielded];cases c
def Yq(P:Program)(t:TypeId)(S:Store)(x:PV):Option PV :=
 match x with
 |.ptr o ver off =>
  match S o with
  |.cells v _ cs=>if v=ver/\(P.underlying t).isSome=true then Z8 P t (cs.drop off) else none
  |_=>none
 |.ip cs=>if (P.underlying t).isSome=true then Z8 P t cs else none
 |_=>none
def lZ(h:Yq P t S x=some p)(y:Sim C S w)(j:Rel C S w x u):∃r,(Instr.loadAt t u).run P w=.ok r w/\Rel C S w p r:=by
 unfold Yq at h;split at h;rename_i o ver off;split at h;rename_i v e cs hs;split at h
 .rename_i hc;obtain⟨rfl,f⟩:=hc;cases g:P.underlying t with
  |none=>simp_all
  |some d =>
  cases j with
  |ptr h1 h2 h3 =>
  obtain⟨b,k,hl,rfl⟩:=(h3 v (by rw[hs];rfl)).2 rfl;obtain⟨hn,_⟩|⟨b',k',c,g1,z,g3,g4,g5,g6⟩:=y.cells o v e cs hs;simp_all;rw[g1]at hl;cases hl;obtain⟨l,m,n⟩:=VF (k:=off) (o:=0) (c:=c) (cs:=cs) (λ_=>by omega) (λi v hi hv=>g5 i v hi (by simpa using hv)) (λi q v hq hv=>g6 i q v hq (by simpa using hv));rw[AV]at l m n;obtain⟨r,s,a⟩:=eO (P:=P) (b:=b) g z l m n h;simp_all[Instr.loadAt,Instr.sureAddr]
 cases h;cases h;split at h
 .rename_i f;cases g:P.underlying t with
  |none=>simp_all
  |some d =>
  cases j with
  |ip hb hM hs h1 s =>
  obtain⟨r,a0,a⟩:=eO g hb hs h1 s h;simp_all[Instr.loadAt,Instr.sureAddr]
 cases h;cases h
def yr(cs:List PV)(off:Nat)(ds:List PV):List PV:=cs.take off++ds++cs.drop (off+ds.length)
def Wg(P:Program)(t:TypeId)(S:Store)(x y:PV):Option Store :=
 match x with
 |.ptr o ver off =>
  match S o with
  |.cells v e cs=>if v=ver/\y.cells.length=P.cellsOf t/\P.cellsOf t≠0/\off+y.cells.length<=cs.length/\y.fit=true then some (S.set o (.cells v e (yr cs off y.cells))) else none
  |_=>none
 |_=>none
def GQ{v:Value}(h:Wg P t S x y=some S')(hS:Sim C S w)(hu:Rel C S w x u)(hv:Rel C S w y v):
  ∃w' C',(Instr.storeAt t u v).run P w=.ok () w'/\Sim C' S' w'/\Step C S w C' S' w':=by
 unfold Wg at h;split at h;rename_i o ver off;split at h;rename_i vv e cs hs;split at h
 .rename_i hc;obtain⟨rfl,c1,c2,c3,c4⟩:=hc;cases h;cases hu with
  |ptr h1 h2 h3 =>
  obtain⟨b,k,hl,rfl⟩:=(h3 vv (by rw[hs];rfl)).2 rfl;obtain⟨hn,_⟩|⟨b',k',c,g1,g2,g3,g4,g5,g6⟩:=hS.cells o vv e cs hs;simp_all;rw[g1]at hl;cases hl;obtain⟨r1,r2,r3⟩:=hv.cells' c4;have n:∀z∈v.cells.toList,z.oneCell'=true:=by intro z a;obtain⟨i,hi⟩:=Cg a;exact r2 i z (by rw[<-Array.getElem?_toList];exact hi)
  have q:off+0+v.cells.toList.length<=c.size:=by simp only[Array.length_toList];omega
  have d:=run_storeCells_at P b off e v.cells.toList 0 c w g2 q n;have a3:v.cells.toList.length=y.cells.length:=by simp[r1]
  simp only[BJ]at d;generalize r:w.setRow b (c.toList.take off++v.cells.toList++c.toList.drop (off+v.cells.toList.length)).toArray=w' at d;have g:w'.heap[b]?=some (.cells (c.toList.take off++v.cells.toList++c.toList.drop (off+v.cells.toList.length)).toArray e (0,0)):=by rw[<-r];exact setRow_heap w b c _ e _ g2
  have a0:w.grownBy w' (some b)/\w.drawn<=w'.drawn:=by rw[<-r];exact⟨⟨rfl,rfl,rfl,by simp[World.setRow],λj hj a1=>setRow_other w b j _ (λe=>a1 (by rw[e]))⟩,Ag _⟩
  have m:(c.toList.take off++v.cells.toList++c.toList.drop (off+v.cells.toList.length)).toArray.size=k:=by simp;omega
  obtain⟨t1,t2⟩:=hS.turn (l:=C.loc o) (ver':=vv) (cs':=yr cs off y.cells) hs (Ag _) (λ_=>rfl) (by rw[g1];exact a0)
   (.inr ⟨b,k,_,g1,.inr (by rw[g1];rfl),g,m,by simp[yr];omega,λi z hi a=>by
     rw[AH]at a;by_cases s:i<off;rw[append_assoc,Au ED,AP s]at a;exact g5 i z D9 (by rw[<-Array.getElem?_toList];exact a);by_cases q2:i<off+v.cells.toList.length;rw[append_assoc,Ao ED,AA,Bm ED,Au D9]at a;exact r2 _ z (by rw[<-Array.getElem?_toList];exact a);rw[Ao (by simp at q2 ⊢;omega),length_append,AA,Bm ED,AL]at a;have:off+v.cells.toList.length+(i-(off+v.cells.toList.length))=i:=D9;rw[this]at a;have a2:i<cs.length:=by simp[yr]at hi;omega
     exact g5 i z a2 (by rw[<-Array.getElem?_toList];exact a),
    λi p z f a=>by rw[AH]at a;unfold yr at f;by_cases s:i<off;rw[append_assoc,Au ED,AP s]at a;rw[append_assoc,Au ED,AP s]at f;exact g6 i p z f (by rw[<-Array.getElem?_toList];exact a);by_cases q2:i<off+v.cells.toList.length;rw[append_assoc,Ao ED,AA,Bm ED,Au D9]at a;rw[append_assoc,Ao ED,AA,Bm D9,Au D9]at f;exact r3 _ p z f (by rw[<-Array.getElem?_toList];exact a);rw[Ao (by simp at q2 ⊢;omega),length_append,AA,Bm ED,AL]at a;rw[Ao (by simp at q2 ⊢;omega),length_append,AA,Bm D9,AL]at f;have e1:off+v.cells.toList.length+(i-(off+v.cells.toList.length))=i:=D9;have e2:off+y.cells.length+(i-(off+y.cells.length))=i:=D9;rw[e1]at a;rw[e2]at f;exact g6 i p z f (by rw[<-Array.getElem?_toList];exact a)⟩)
  grind[Instr.storeAt,Instr.sureAddr,Sem.run_bind,Result.andThen_ok,storeVar,ue]
 cases h;cases h;cases h
def jN(P:Program)(F:Nat->PV)(S:Store)(o:Oper):Option (PV × Store) :=
 match o.op with
 |.load t x=>(Yq P t S (ev F x)).map λp=>(p,S)
 |.store t x y=>(Wg P t S (ev F x) (ev F y)).map λS'=>(.sc undef,S')
 |_=>none
def PO0(P:Program)(r:Rd)(n:Nat)(o:Oper)(F:Nat->PV)(S:Store)(K:PV->Store->Prop):Prop :=
 ∀(C:Ctx) (w:World) (a:Act) (N:Nat),St r C S w N F a->∀(next:Act->World->Prop) (Q:Exit->Act->World->Prop),
  (∀v w' C' S' p,K p S'->Rel C' S' w' p v->Sim C' S' w'->Step C S w C' S' w'->next (a.put o.dst v) w')->o.wpIn (Fe r) n P a w next Q
def PO(P:Program)(r:Rd)(n:Nat)(o:Oper)(F:Nat->PV)(S:Store)(K:PV->Store->Prop):Prop :=
 ∀G:Nat->PV,(∀x∈o.op.operands,ev G x=ev F x)->PO0 P r n o G S K
def GR{G:Nat->PV}{o:Oper}(h:∀x∈o.op.operands,ev G x=ev F x):uf P G o=uf P F o:=by
 unfold uf;cases ho:o.op<;>simp only[ho]at h ⊢;case move x=>simp_all[Op.operands]
 case assign x=>simp_all[Op.operands]
 case pick c a b=>simp_all[Op.operands]
 case build t parts =>
  grind[List.map_congr_left,Op.operands]
 case buildSlice t len parts =>
  grind[List.map_congr_left,Op.operands]
 case load t x=>simp_all[Op.operands]
 case nilCheck x=>simp_all[Op.operands]
 case binOp op t x y ty=>simp_all[Op.operands]
 case unOp op t x=>simp_all[Op.operands]
 case convert src dst x=>simp_all[Op.operands]
 case makeInterface t x=>simp_all[Op.operands]
 case makeFunc fn first cap =>
  simp_all[Op.operands]
 case slice t x lo hi mx =>
  have e:∀(y:Option Operand),(∀z,y=some z->ev G z=ev F z)->y.map (ev G)=y.map (ev F):=by
   intro y d;cases y with
   |none=>rfl
   |some z=>simp[d z rfl]
  simp_all[Op.operands]
 case fieldAddr t x f=>simp_all[Op.operands]
 case field t x f=>simp_all[Op.operands]
 case indexAddr t x i=>simp_all[Op.operands]
 case index t x i=>simp_all[Op.operands]
 case extract t i=>simp_all[Op.operands]
 case call c =>
  have g:∀x∈c.args.toList,ev G x=ev F x:=λx hx=>h x (by simp only[Op.operands,Call.operands,Array.mem_append];exact .inr (Cf.1 hx));grind[bN]
def GS{G:Nat->PV}{o:Oper}(h:∀x∈o.op.operands,ev G x=ev F x):jN P G S o=jN P F S o:=by grind[jN,Op.operands]
def qx{o:Oper}{x:Next}{next:Act->World->Prop}{Q:Exit->Act->World->Prop}(b:∀c,o.op≠.defer c)
  (d:(execOp a.eval o).run P w=.ok x w') (h:o.uponIn (Fe r) n P a next Q (.ok x w')):o.wpIn (Fe r) n P a w next Q:=by
 refine⟨λ_ _=>trivial,?_⟩;simp_all[Oper.semAt_eq]
variable {K:PV->Store->Prop}
theorem bR{o:Oper}(h:uf P F o=some p)(f:K p S):PO P r n o F S K:=by
 intro G g;rw[<-GR g]at h;intro C w a N st next Q b;obtain⟨v,w',d,e,hs,c⟩:=GN h st.sim st.ev;refine qx ?_ d (b v w' C S p f e hs c)
 grind[uf]
theorem Wh{o:Oper}(h:jN P F S o=some (p,S'))(k:K p S'):PO P r n o F S K:=by
 intro G l;rw[<-GS l]at h;intro C w a N st next Q b;have e:∀c,o.op≠.defer c:=by intro c hc;simp[jN,hc]at h
 unfold jN at h;split at h;rename_i t x ho;obtain⟨q,i,j⟩:=Al.1 h;cases j;obtain⟨v,f,g⟩:=lZ i st.sim (st.ev x);refine qx (x:=.value v) (w':=w) e ?_ (b v w C S p k g st.sim (.refl _ _ _));simp_all[execOp];rename_i t x y ho;obtain⟨q,i,j⟩:=Al.1 h;cases j;obtain⟨w',C',f,hs,d⟩:=GQ i st.sim (st.ev x) (st.ev y);refine qx (x:=.skip) (w':=w') e ?_ (b undef w' C' S' _ k (.sc _) hs d);simp_all[execOp];cases h
def bS(H:List Nat)(o:Oper):Bool :=
 match o.dst with
 |some d=>H.contains d
 |none=>false
def ZE(P:Program)(r:Rd)(n:Nat)(H:List Nat)(ops:Array Oper):List Oper->(Nat->PV)->Store->((Nat->PV)->Store->Prop)->Prop
 |[],F,S,K=>K F S
 |o::os,F,S,K =>
  match gd ops F o with
  |none=>False
  |some false=>ZE P r n H ops os (yo F o.dst (.sc undef)) S K
  |some true =>
  if bS H o=true then PO P r n o F S (λp S'=>ZE P r n H ops os (yo F o.dst p) S' K) else
  match uf P F o with
  |some p=>ZE P r n H ops os (yo F o.dst p) S K
  |none =>
  match jN P F S o with
  |some (p,S')=>ZE P r n H ops os (yo F o.dst p) S' K
  |none=>PO P r n o F S (λp S'=>ZE P r n H ops os (yo F o.dst p) S' K)
def Marks(n0:Nat)(C:Ctx)(S:Store)(w:World):List Deferred->Prop
 |[]=>True
 |d::ds=>(∃D,n0<=D/\d={ target:=.collected D,args:=#[] }/\w.heap[D]?=some (.deferred (some []))/\¬C.M S D/\∀d'∈ds,d'≠d)/\Marks n0 C S w ds
theorem Marks.mono{a:Nat}(st:Step C S w C' S' w'):∀{ds:List Deferred},Marks a C S w ds->Marks a C' S' w' ds
 |[],_=>trivial
 |_::_,⟨⟨D,h1,h2,h3,b,c⟩,h⟩=>by obtain⟨k1,d⟩:=st.blocks D (jh h3) b;exact⟨⟨D,h1,h2,k1.trans h3,d,c⟩,Marks.mono st h⟩
theorem Marks.mem:∀{ds:List Deferred},Marks b C S w ds->∀d∈ds,∃D,b<=D/\D<w.heap.size/\d={ target:=.collected D,args:=#[] }
 |_::ds,⟨⟨D,h1,h2,h3,_,_⟩,h⟩,d,a=>by obtain rfl|a:=Am.1 a;exact⟨D,h1,jh h3,h2⟩;exact Marks.mem h d a
variable {ms:List Deferred}
theorem Marks.app{a:Nat}(hn:a<=N)(hm:Marks a C S w ms)(b:∀d∈ms,∃D,D<N/\d={ target:=.collected D,args:=#[] }):
  ∀{ds:List Deferred},Marks N C S w ds->Marks a C S w (ds++ms)
 |[],_=>hm
 |d::ds,⟨⟨D,h1,h2,h3,e,f⟩,h⟩=>by refine⟨⟨D,AF hn h1,h2,h3,e,λg c=>?_⟩,Marks.app hn hm b h⟩;obtain q|q:=AC.1 c<;>grind
def Defs(n0:Nat)(ds:List Deferred)(C:Ctx)(S:Store)(w:World)(ds':List Deferred):Prop:=∃ms,ds'=ms++ds/\Marks n0 C S w ms
theorem Defs.of_eq{a:Nat}{ds:List Deferred}(h:ms=ds):Defs a ds C S w ms:=⟨[],h,trivial⟩
theorem Defs.trans{c:Nat}{ds a:List Deferred}{b:World}(h1:Defs c ds C S b a)(st:Step C S b C' S' w)(hn:c<=b.heap.size)(h2:Defs b.heap.size a C' S' w ms):Defs c ds C' S' w ms:=by obtain⟨f,rfl,i⟩:=h1;obtain⟨g,rfl,j⟩:=h2;refine⟨g++f,by simp,Marks.app hn (i.mono st) (λd k=>?_) j⟩;obtain⟨D,_,h,e⟩:=i.mem d k;simp_all
def PW(P:Program)(r:Rd)(n N:Nat)(c:Code)(Q:Exit->(Nat->PV)->Store->Prop)(F:Nat->PV)(S:Store):Prop :=
 ∀(C:Ctx) (w:World) (a:Act),St r C S w N F a->c.wpIn (Fe r) n P (λe a' w'=>∃F' S' C',Q e F' S'/\St r C' S' w' N F' a'/\Defs w.heap.size a.defers C' S' w' a'.defers/\Step C S w C' S' w') a w
section rules
variable {P:Program} {r:Rd} {n N:Nat} {Q:Exit->(Nat->PV)->Store->Prop} {F:Nat->PV} {S:Store}
def eW(k m:Nat)(h:k<m):(range m).drop k=k::(range m).drop (k+1):=by simp_all[AG]
def VH(a:Act)(d:Option Nat)(v:Value):(a.put d v).defers=a.defers:=by cases d<;>rfl
variable {ops:Array Oper}
def GT{H:List Nat}{Q':Exit->Act->World->Prop}(q:∀o∈ops,∀d,o.dst=some d->d<N){K:(Nat->PV)->Store->Prop}{C0:Ctx}{S0:Store}{w0:World}{ds:List Deferred}
  (s:∀F' S' C' w' a',K F' S'->St r C' S' w' N F' a'->a'.defers=ds->Step C0 S0 w0 C' S' w'->Q' .normal a' w') :
  ∀(m k:Nat) (F:Nat->PV) (S:Store) (C:Ctx) (w:World) (a:Act),ops.size-k=m->ZE P r n H ops (ops.toList.drop k) F S K->St r C S w N F a->a.defers=ds->Step C0 S0 w0 C S w ->
   wpOpsIn (Fe r) n P ops Q' ((range ops.size).drop k) a w:=by
 intro m;induction m with
 |zero =>
 intro k F S C w a hm h st g step;have t:(range ops.size).drop k=[]:=BU ED;have e2:ops.toList.drop k=[]:=BU ED;rw[t];rw[e2]at h;exact s F S C w a h st g step
 |succ m j =>
 intro k F S C w a hm h st g step;have l:k<ops.size:=D9;rw[eW k _ l];have e2:ops.toList.drop k=ops[k]::ops.toList.drop (k+1):=by rw[AG D9];simp
 rw[e2]at h;have e:ops[k]?=some ops[k]:=EA;have c:∀x,ops[k].dst=some x->x<N:=q _ (DD l);rw[wpOpsIn_cons];unfold wpOpIn;rw[e];dsimp only;simp only[ZE]at h;split at h;exact h.elim;rename_i i;rw[Jp st i];simp only[AW,if_false];exact⟨λ_ _=>trivial,j (k+1) _ _ C w _ D9 h (st.put (.refl _ _ _) st.sim c (.sc _)) (by simp_all[VH]) step⟩;rename_i i;rw[Jp st i];simp only[if_true];have y:PO P r n ops[k] F S (λp S'=>ZE P r n H ops (ops.toList.drop (k+1)) (yo F ops[k].dst p) S' K)->Oper.wpIn (Fe r) n P ops[k] a w (wpOpsIn (Fe r) n P ops Q' ((range ops.size).drop (k+1))) Q':=λhpo =>
  hpo F (λ_ _=>rfl) C w a N st _ _ (λv w' C' S' p u f hs b=>j (k+1) _ _ C' w' _ D9 u (st.put b hs c f) (by rw[VH];exact g) (step.trans b))
 grind[bR,Wh]
def ug(N:Nat)(ops:Array Oper):Bool:=ops.toList.all λo=>match o.dst with|some d=>Nat.blt d N|none=>true
def bT(h:ug N ops=true):∀o∈ops,∀d,o.dst=some d->d<N:=by grind[ug,Nat.blt_eq]
def mc{id:Nat}(H:List Nat)(d:ug N ops=true)(h:ZE P r n H ops ops.toList F S (Q .normal)):PW P r n N (.region id ops false) Q F S:=by
 intro C w a st;refine wpIn_region ?_;have:=GT (H:=H) (Q':=λe a' w'=>∃F' S' C',Q e F' S'/\St r C' S' w' N F' a'/\Defs w.heap.size a.defers C' S' w' a'.defers/\Step C S w C' S' w') (bT d)
  (λF' S' C' w' a' f c g b=>⟨F',S',C',f,c,.of_eq g,b⟩) ops.size 0 F S C w a rfl (K:=Q .normal) (by simpa using h) st rfl (.refl _ _ _)
 simpa using this
def QI(K:(Nat->PV)->Store->Prop)(Q:Exit->(Nat->PV)->Store->Prop):Exit->(Nat->PV)->Store->Prop
 |.normal,F,S=>K F S
 |e,F,S=>Q e F S
def VI{c:Code}{Q':Exit->(Nat->PV)->Store->Prop}(h:PW P r n N c Q F S)(b:∀e F S,Q e F S->Q' e F S):PW P r n N c Q' F S:=by intro C w a st;exact wpIn_mono (h C w a st) λe a' w' ⟨F',S',C',h1,h2⟩=>⟨F',S',C',b _ _ _ h1,h2⟩
def ze{x y:Code}(h:PW P r n N x (QI (PW P r n N y Q) Q) F S):PW P r n N (.seq x y) Q F S:=by
 intro C w a st;refine wpIn_seq (wpIn_mono (h C w a st) ?_);rintro e a' w' ⟨F',S',C',d,c,f,b⟩;cases e with
 |normal =>
 refine wpIn_mono (d C' w' a' c) ?_;rintro e i w'' ⟨F2,S2,C2,h1,h2,h3,g⟩;exact⟨F2,S2,C2,h1,h2,f.trans g b.size h3,b.trans g⟩
 |_=>exact⟨F',S',C',d,c,f,b⟩
def zk(h:Q .normal F S):PW P r n N .skip Q F S:=λC _ _ st=>wpIn_skip ⟨F,S,C,h,st,.of_eq rfl,.refl _ _ _⟩
def zB{id:Nat}(h:Q (.exit id) F S):PW P r n N (.exit id) Q F S:=λC _ _ st=>wpIn_exit ⟨F,S,C,h,st,.of_eq rfl,.refl _ _ _⟩
def zj(h:Q .ret F S):PW P r n N .ret Q F S:=λC _ _ st=>wpIn_ret ⟨F,S,C,h,st,.of_eq rfl,.refl _ _ _⟩
def zA{c:Operand}{x y:Code}{t:Bool}(hc:ev F c=.sc (.bool t))(h1:t=true->PW P r n N x Q F S)(h2:t=false->PW P r n N y Q F S):PW P r n N (.cond c x y) Q F S:=by intro C w a st;have:=st.ev c;rw[hc]at this;generalize hv:a.eval c=v at this;cases this;exact wpIn_cond_split hv (λe=>h1 e C w a st) (λe=>h2 e C w a st)
def xB(id:Nat)(Q:Exit->(Nat->PV)->Store->Prop):Exit->(Nat->PV)->Store->Prop
 |.exit id',F,S=>if id'=id then Q .normal F S else Q (.exit id') F S
 |e,F,S=>Q e F S
def zn{id:Nat}{c:Code}(h:PW P r n N c (xB id Q) F S):PW P r n N (.block id c) Q F S:=by intro C w a st;refine wpIn_block (wpIn_mono (h C w a st) ?_);rintro e a' w' ⟨F',S',C',b,rest⟩;cases e<;>grind[xB,Exit.inBlock]
def aA{id:Nat}{c y:Code}(h:PW P r n N c (xB id (QI (PW P r n N y Q) Q)) F S):PW P r n N (.seq (.block id c) y) Q F S:=ze (zn h)
def aB{x y:Code}(h:PW P r n N x (QI (PW P r n N y Q) Q) F S):PW P r n N .skip (QI (PW P r n N (.seq x y) Q) Q) F S:=zk (ze h)
def eX{c:Code}(I:(Nat->PV)->Store->Nat->Prop)(m0:Nat)(h0:I F S m0)(round:∀m F S,I F S m->PW P r n N c (QI (λF' S'=>∃v,I F' S' v/\v<m) Q) F S):PW P r n N (.loop c) Q F S:=by
 intro C w a st b k cs y hb z;have key:∀j F1 S1 C1 s u,I F1 S1 j->St r C1 S1 s N F1 u->Defs w.heap.size a.defers C1 S1 s u.defers->Step C S w C1 S1 s ->
   ∃e a' w',(∃F' S' C',Q e F' S'/\St r C' S' w' N F' a'/\Defs w.heap.size a.defers C' S' w' a'.defers/\Step C S w C' S' w')/\ArrivesIn (Machine.fenced P (Fe r)) P (lone (b.atR u (.code c::.inLoop c::k)) cs s) b k cs e a' w':=by
  intro j;induction j using Nat.strongRecOn with
  |_ j ih =>
  intro F1 S1 C1 s u hI a0 h d;obtain⟨e,t,w2,⟨F2,S2,C2,p,i,o,f⟩,g⟩:=round j F1 S1 hI C1 s u a0 b (.inLoop c::k) cs y hb z;cases e with
  |normal =>
  obtain⟨v,a4,a5⟩:=p;obtain⟨e3,a3,w3,a6,q⟩:=ih v a5 F2 S2 C2 w2 t a4 i (h.trans f d.size o) (d.trans f);exact⟨e3,a3,w3,a6,.of_steps (StepsIn.trans g (.one (fenced_calm hb z rfl) stepR_inLoop)) q⟩
  |exit id=>exact⟨_,t,w2,⟨F2,S2,C2,p,i,h.trans f d.size o,d.trans f⟩,.pass (x:=.inLoop c) rfl (λ_ _=>.inl EA) g⟩
  |goto l=>exact⟨_,t,w2,⟨F2,S2,C2,p,i,h.trans f d.size o,d.trans f⟩,.pass (x:=.inLoop c) rfl (λ_ _=>.inl EA) g⟩
  |ret=>exact⟨_,t,w2,⟨F2,S2,C2,p,i,h.trans f d.size o,d.trans f⟩,.pass (x:=.inLoop c) rfl (λ_ _=>.inl EA) g⟩
  |panic ch=>exact⟨_,t,w2,⟨F2,S2,C2,p,i,h.trans f d.size o,d.trans f⟩,.pass (x:=.inLoop c) rfl (λ_ _=>.inl EA) g⟩
  |outgrown=>exact⟨_,t,w2,⟨F2,S2,C2,p,i,h.trans f d.size o,d.trans f⟩,.pass (x:=.inLoop c) rfl (λ_ _=>.inl EA) g⟩
 obtain⟨e,a',w',p,g⟩:=key m0 F S C w a h0 st (.of_eq rfl) (.refl _ _ _);exact⟨e,a',w',p,.of_steps (.one (fenced_calm hb z rfl) stepR_loop) g⟩
end rules
def uF(o:Oper):List Nat:=(o.after.toList.filter (Region.binds .any)).map (·.on)
def ZF(ops:Array Oper)(o:Oper):List Nat :=
 (o.op.operands.toList.filterMap fun|.tmp t=>some t|_=>none) ++
 (match o.guard with
  |none=>[]
  |some (j,_)=>match (ops[j]?).bind (·.dst) with|some d=>[d]|none=>[])
def bU:List Oper->List (List Nat)->List (List Nat)
 |[],acc=>acc
 |o::os,acc=>bU os (acc++[((uF o).flatMap λe=>e::acc.getD e []).eraseDups])
def Xh(ops:Array Oper):List (List Nat):=bU ops.toList []
def md(ops:Array Oper)(A:List (List Nat))(i j:Nat):Bool :=
 match ops[i]?,ops[j]? with
 |some oi,some oj =>
  match oj.dst with
  |none=>true
  |some d =>
  if i=j then !(ZF ops oi).contains d
  else decide (oi.dst≠some d)&&(!(ZF ops oi).contains d||(if j<i then (A.getD i []).contains j else (A.getD j []).contains i))
 |_,_=>true
def Xi(ops:Array Oper):Bool :=
 let A:=Xh ops
 (range ops.size).all λi =>
  (match ops[i]? with|some o=>(uF o).all (·<i)|none=>true) &&
  (range ops.size).all λj=>md ops A i j
inductive Row where
 |done
 |pure (i:Nat) (r:Row)
 |alt (i:Nat) (r more:Row)
 |stop
def Row.pures:List Nat->Row->Row
 |[],r=>r
 |i::is,r=>.pure i (Row.pures is r)
def Row.chain:Row->Bool
 |.alt _ _ _=>true
 |.stop=>true
 |_=>false
def QJ(ops:Array Oper)(pre:List Nat)(i:Nat):Bool :=
 match ops[i]? with
 |some o=>(uF o).all (pre.contains ·)&&!pre.contains i
 |none=>false
def wY(ops:Array Oper):List Nat->List Nat->Row->Bool
 |pre,_,.done=>(range ops.size).all (pre.contains ·)
 |pre,_,.pure i r=>QJ ops pre i&&wY ops (i::pre) [] r
 |pre,acc,.alt i r more=>QJ ops pre i&&wY ops (i::pre) [] r&&wY ops pre (i::acc) more&&more.chain
 |pre,acc,.stop=>!acc.isEmpty&&(range ops.size).all λj=>pre.contains j||acc.contains j||!QJ ops pre j
def Xj(ops:Array Oper)(L:Nat->Prop):Prop:=∀j o,L j->ops[j]?=some o->∀e∈uF o,L e
theorem me(L:Nat->Prop)(a:List Oper)(t:∀j o,L j->a[j]?=some o->∀e∈uF o,L e):
  ∀(l:List Oper) (pre:List Oper) (b:List (List Nat)),a=pre++l->b.length=pre.length ->
   (∀(j:Nat) (o:List Nat),b[j]?=some o->∀p,a[j]?=some p->(∀e∈uF p,L e)->∀k∈o,L k) ->
   ∀(j:Nat) (o:List Nat),(bU l b)[j]?=some o->∀p,a[j]?=some p->(∀e∈uF p,L e)->∀k∈o,L k
 |[],_,_,_,_,h=>h
 |x::xs,pre,b,d,hl,h=>by
  simp only[bU];refine me L a t xs (pre++[x]) _ (by rw[d];simp) (by simp[hl]) ?_;intro j o f p r u k c;by_cases v:j<b.length;grind;rw[Ao D9]at f;have g:j=b.length:=by obtain q|q:=Bc (j-b.length) 1;omega;grind
  subst g;simp only[Bk,Bi,injEq]at f;subst f;have i:p=x:=by rw[d,Ao D9,hl,Bk]at r;simpa using r.symm
  subst i;rw[List.mem_eraseDups,Bz]at c;obtain⟨e,m,c⟩:=c;rw[Am]at c;obtain rfl|c:=c;exact u k m;cases s:b[e]? with
  |none=>simp_all
  |some w =>
  rw[Aa,s]at c;have n:∃q,a[e]?=some q:=by have:e<b.length:=(Af.1 s).1;exact⟨_,Ac (by rw[d];simp;omega)⟩
  obtain⟨q,y⟩:=n;grind
variable {j k:Nat}
def eY{ops:Array Oper}{L:Nat->Prop}(a:Xj ops L){o:Oper}(ho:ops[j]?=some o)(b:∀e∈uF o,L e)(c:k∈(Xh ops).getD j []):L k:=by have:=me L ops.toList (λj o h1 h2=>a j o h1 (by rw[<-Array.getElem?_toList];exact h2)) ops.toList [] [] EA rfl (λj o h=>by cases h);grind[Xh]
section
variable {P:Program} {r:Rd} {n N:Nat} {Q:Exit->(Nat->PV)->Store->Prop} {F:Nat->PV} {S:Store}
def y8(ids:Option (List Nat))(S0 S:Store):Prop :=
 match ids with
 |none=>S=S0
 |some l=>∀x∈l,S x=S0 x
def Xk(P:Program)(ids:Option (List Nat))(S0:Store)(F:Nat->PV)(o:Oper):Option PV :=
 match o.op with
 |.load t x =>
  match ev F x with
  |.ptr id ver off =>
   match ids with
   |none=>Yq P t S0 (.ptr id ver off)
   |some l=>if id∈l then Yq P t S0 (.ptr id ver off) else none
  |_=>none
 |_=>none
variable {ids:Option (List Nat)}
theorem GU{S0:Store}{o:Oper}(h:Xk P ids S0 F o=some p)(S':Store)(a:y8 ids S0 S'):PO P r n o F S' (λq S''=>q=p/\S''=S'):=by
 unfold Xk at h;split at h;rename_i t x ho;split at h;rename_i id ver off hx;have hl:Yq P t S' (.ptr id ver off)=some p:=by
  cases ids with
  |none=>cases a;exact h
  |some l =>
  simp only at h;split at h;rename_i hm;have:=a id hm;simp_all[Yq];cases h
 exact Wh (p:=p) (S':=S') (by simp_all[jN]) ⟨rfl,rfl⟩;cases h;cases h
def PX(P:Program)(r:Rd)(n:Nat)(ops:Array Oper)(ids:Option (List Nat))(S0:Store):Row->(Nat->PV)->Store->((Nat->PV)->Store->Prop)->Prop
 |.done,F,S,K=>K F S
 |.stop,_,_,_=>True
 |.pure i is,F,S,K =>
  match ops[i]? with
  |none=>False
  |some o =>
  match gd ops F o with
  |none=>False
  |some false=>PX P r n ops ids S0 is (yo F o.dst (.sc undef)) S K
  |some true =>
  match uf P F o with
  |some p=>PX P r n ops ids S0 is (yo F o.dst p) S K
  |none =>
  match Xk P ids S0 F o with
  |some p=>PX P r n ops ids S0 is (yo F o.dst p) S K
  |none=>∃p,(∀S',y8 ids S0 S'->PO P r n o F S' (λq S''=>q=p/\S''=S'))/\PX P r n ops ids S0 is (yo F o.dst p) S K
 |.alt i is more,F,S,K =>
  (match ops[i]? with
  |none=>False
  |some o =>
   match gd ops F o with
   |none=>False
   |some false=>PX P r n ops ids S0 is (yo F o.dst (.sc undef)) S K
   |some true =>
   match jN P F S o with
   |some (p,S')=>y8 ids S0 S'/\PX P r n ops ids S0 is (yo F o.dst p) S' K
   |none=>PO P r n o F S (λp S'=>y8 ids S0 S'/\PX P r n ops ids S0 is (yo F o.dst p) S' K)) /\
  PX P r n ops ids S0 more F S K
def VJ(ops:Array Oper)(val:Nat->PV)(F0:Nat->PV)(j:Nat)(o:Oper)(G:Nat->PV):Prop :=
 ∀t∈ZF ops o,(∀j' o',ops[j']?=some o'->o'.dst=some t->j'<j->G t=val j')/\((∀j' o',ops[j']?=some o'->o'.dst=some t->¬j'<j)->G t=F0 t)
def VK(ops:Array Oper)(val:Nat->PV)(F0:Nat->PV)(L:Nat->Prop)(G:Nat->PV):Prop :=
 ∀t,(∀j o,L j->ops[j]?=some o->o.dst=some t->G t=val j)/\((∀j o,L j->ops[j]?=some o->o.dst≠some t)->G t=F0 t)
structure RegOk (ops:Array Oper):Prop where
 edge:∀(i:Nat) (o:Oper),ops[i]?=some o->∀e∈uF o,e<i
 dst:∀(i j:Nat) (oi oj:Oper) (d:Nat),ops[i]?=some oi->ops[j]?=some oj->i≠j->oi.dst=some d->oj.dst≠some d
 self:∀(i:Nat) (o:Oper) (d:Nat),ops[i]?=some o->o.dst=some d->d ∉ ZF ops o
 before:∀(i j:Nat) (oi oj:Oper) (d:Nat),ops[i]?=some oi->ops[j]?=some oj->oj.dst=some d->d∈ZF ops oi->j<i->j∈(Xh ops).getD i []
 behind:∀(i j:Nat) (oi oj:Oper) (d:Nat),ops[i]?=some oi->ops[j]?=some oj->oj.dst=some d->d∈ZF ops oi->i<j->i∈(Xh ops).getD j []
variable {ops:Array Oper}
def GV(h:Xi ops=true):RegOk ops:=by
 unfold Xi at h;simp only[Av,AI,Ar]at h;have lt:∀{i o},ops[i]?=some o->i<ops.size:=λh=>(Bd.1 h).1;have a:∀{i j oi oj d},ops[i]?=some oi->ops[j]?=some oj->oj.dst=some d ->
   (if i=j then !(ZF ops oi).contains d else decide (oi.dst≠some d)&&(!(ZF ops oi).contains d||(if j<i then ((Xh ops).getD i []).contains j else ((Xh ops).getD j []).contains i)))=true:=by
  intro i j oi oj d hi b c;have:=(h i (lt hi)).2 j (lt b);unfold md at this;rw[hi,b]at this;simp only[c]at this;exact this
 refine⟨?_,?_,?_,?_,?_⟩;grind;grind;grind;intro i j oi oj d hi b c e f;have:=a hi b c;rw[if_neg D9]at this;grind;intro i j oi oj d hi b c e f;have:=a hi b c;rw[if_neg D9]at this;grind
variable {F0 G:Nat->PV}{E:Nat->Prop}
def bV(R:RegOk ops){val:Nat->PV}(c:Xj ops E)(h:VK ops val F0 E G){i:Nat}{o:Oper}(hi:ops[i]?=some o)(hn:¬E i)
  (l:∀e∈uF o,E e):VJ ops val F0 i o G:=by
 intro t k;refine⟨λj o' a b d=>?_,λf=>?_⟩;exact(h t).1 j o' (eY c hi l (R.before i j o o' t hi a b k d)) a b;refine(h t).2 λj o' g a b=>?_;have h1:=f j o' a b;obtain q|q:=Bc i j;exact hn (eY c a (c j o' g a) (R.behind i j o o' t hi a b k q));grind
def mg{val:Nat->PV}{i:Nat}{o:Oper}(h:VJ ops val F0 i o G)(h':VJ ops val F0 i o F):∀t∈ZF ops o,G t=F t:=by intro t b;by_cases hx:∃j o',ops[j]?=some o'/\o'.dst=some t/\j<i;obtain⟨j,o',h1,h2,h3⟩:=hx;rw[(h t b).1 j o' h1 h2 h3,(h' t b).1 j o' h1 h2 h3];have a:∀j' o',ops[j']?=some o'->o'.dst=some t->¬j'<i:=λj' o' h1 h2 h3=>hx ⟨j',o',h1,h2,h3⟩;rw[(h t b).2 a,(h' t b).2 a]
def mh{o:Oper}(h:∀t∈ZF ops o,G t=F t):∀x∈o.op.operands,ev G x=ev F x:=by
 intro x hx;cases x with
 |tmp t =>
 refine h t ?_;unfold ZF;rw[AC];left;rw[Cm];exact⟨.tmp t,Cf.2 hx,rfl⟩
 |_=>rfl
def bW{o:Oper}(h:∀t∈ZF ops o,G t=F t):gd ops G o=gd ops F o:=by grind[gd,ZF]
def eZ(P:Program)(r:Rd)(n:Nat)(ops:Array Oper)(T:Store->Prop)(val F0:Nat->PV)(j:Nat):Prop :=
 ∃o,ops[j]?=some o/\∀G,VJ ops val F0 j o G->(gd ops G o=some false/\val j=.sc undef)\/(gd ops G o=some true/\∀S',T S'->PO P r n o G S' (λq S''=>q=val j/\S''=S'))
def GW{o:Oper}(h:PO P r n o F S K)(b:∀x∈o.op.operands,ev G x=ev F x):PO P r n o G S K :=
 λG' a=>h G' (λx hx=>(a x hx).trans (b x hx))
def bX(R:RegOk ops){val:Nat->PV}(h:VK ops val F0 E G){i:Nat}{o:Oper}(hi:ops[i]?=some o){val':Nat->PV}(k:val' i=p)(hv:∀j,E j->val' j=val j):
  VK ops val' F0 (λj=>j=i\/E j) (yo G o.dst p):=by
 intro t;by_cases f:o.dst=some t;rw[f];simp only[yo,vH,if_pos];refine⟨λj oj a ho b=>?_,λc=>absurd f (c i o (.inl rfl) hi)⟩;obtain rfl|a:=a;exact k.symm;by_cases g:j=i;simp_all;exact absurd b (R.dst i j o oj t hi ho (λe=>g e.symm) f);have e:yo G o.dst p t=G t:=by
  cases l:o.dst with
  |none=>rfl
  |some d=>simp only[yo,vH];grind
 rw[e];refine⟨λj oj a ho b=>?_,λc=>(h t).2 λj oj a ho=>c j oj (.inr a) ho⟩;obtain rfl|a:=a;simp_all;rw[hv j a];exact(h t).1 j oj a ho b
variable {val':Nat->PV}
def ml(R:RegOk ops){T:Store->Prop}{val:Nat->PV}(b:Xj ops E)(hv:∀j,E j->val' j=val j)(c:E j)(h:eZ P r n ops T val F0 j):eZ P r n ops T val' F0 j:=by obtain⟨o,ho,h⟩:=h;refine⟨o,ho,λG d=>?_⟩;rw[hv j c];refine h G λt a=>⟨λj' o' h1 h2 h3=>?_,(d t a).2⟩;have hl:E j':=eY b ho (b j o c ho) (R.before j j' o o' t ho h1 h2 a h3);rw[<-hv j' hl];exact(d t a).1 j' o' h1 h2 h3
structure Mid (P:Program) (r:Rd) (n:Nat) (ops:Array Oper) (ids:Option (List Nat)) (S0:Store) (F0:Nat->PV) (K:(Nat->PV)->Store->Prop) (E:Nat->Prop) (G:Nat->PV) (S:Store) (val:Nat->PV) (pre:List Nat) (row:Row) (Fp:Nat->PV):Prop where
 closedE:Xj ops E
 closedP:Xj ops (·∈pre)
 frmE:VK ops val F0 E G
 frmP:VK ops val F0 (·∈pre) Fp
 sub:∀j,E j->j∈pre
 evid:∀j,j∈pre->¬E j->eZ P r n ops (y8 ids S0) val F0 j
 px:PX P r n ops ids S0 row Fp S K
 ag:wY ops pre [] row=true
 t:y8 ids S0 S
variable {pre:List Nat}
theorem bY{i:Nat}(h:QJ ops pre i=true):∃o,ops[i]?=some o/\(∀e∈uF o,e∈pre)/\i ∉ pre:=by grind[QJ]
variable {rest:Row}
def mn(R:RegOk ops){S0:Store}{K:(Nat->PV)->Store->Prop}{val:Nat->PV}{i:Nat}{o:Oper}
  (h:Mid P r n ops ids S0 F0 K E G S val pre (.pure i rest) F) (ho:ops[i]?=some o)  (hx:PX P r n ops ids S0 rest (yo F o.dst p) S K)
  (m:(gd ops F o=some false/\p=.sc undef)\/(gd ops F o=some true/\∀S',y8 ids S0 S'->PO P r n o F S' (λq S''=>q=p/\S''=S'))) :
  Mid P r n ops ids S0 F0 K E G S (λj=>if j=i then p else val j) (i::pre) rest (yo F o.dst p):=by
 have b:=h.ag;simp only[wY,Ar]at b;obtain⟨o',k,d,f⟩:=bY b.1;rw[ho]at k;cases k;have s:∀j,E j->j≠i:=λj a e=>f (e ▸ h.sub j a);have l:Xj ops (·∈i::pre):=by intro j oj a g e z;rw[Am]at a ⊢;obtain rfl|a:=a;simp_all;exact .inr (h.closedP j oj a g e z)
 have c:∀j,j∈pre->(λj=>if j=i then p else val j) j=val j:=λj a=>if_neg (λ(e:j=i)=>f (e ▸ a));refine⟨h.closedE,l,?_,?_,λj a=>BR _ (h.sub j a),?_,hx,b.2,h.t⟩;intro t;refine⟨λj oj a g hd=>?_,(h.frmE t).2⟩;simp only[if_neg (s j a)];exact(h.frmE t).1 j oj a g hd;have:=bX (val':=λj=>if j=i then p else val j) R h.frmP ho (p:=p) EA c;simp_all;intro j a u;rw[Am]at a;by_cases v:j=i;subst v;refine⟨o,ho,λG' w=>?_⟩;have s1:VJ ops (λj'=>if j'=j then p else val j') F0 j o F:=by have:=bV R h.closedP h.frmP ho f d;intro t y;refine⟨λj' o' h1 h2 h3=>?_,(this t y).2⟩;simp only[if_neg (Nat.ne_of_lt h3)];exact(this t y).1 j' o' h1 h2 h3
 have eq:=mg w s1;simp only[if_pos];obtain⟨e1,e2⟩|⟨e1,e2⟩:=m;simp_all[bW];exact .inr ⟨by simp_all[bW],λS' x=>GW (e2 S' x) (mh eq)⟩;obtain a|a:=a;omega;exact ml R h.closedP c a (h.evid j a u)
def GX{S0:Store}{i:Nat}{a:Row}{K:(Nat->PV)->Store->Prop}{o:Oper}(ho:ops[i]?=some o)(h:PX P r n ops ids S0 (.pure i a) F S K):
  (gd ops F o=some false/\PX P r n ops ids S0 a (yo F o.dst (.sc undef)) S K) \/
  (gd ops F o=some true/\∃p,(∀S',y8 ids S0 S'->PO P r n o F S' (λq S''=>q=p/\S''=S'))/\PX P r n ops ids S0 a (yo F o.dst p) S K):=by grind[PX,bR,GU]
def GY{S0:Store}{K:(Nat->PV)->Store->Prop}{i:Nat}{o:Oper}(ho:ops[i]?=some o)(k:QJ ops pre i=true):
  ∀(row:Row) (a:List Nat),i ∉ a->row.chain=true->wY ops pre a row=true->PX P r n ops ids S0 row F S K ->
   ∃rest,wY ops (i::pre) [] rest=true /\
    ((gd ops F o=some false/\PX P r n ops ids S0 rest (yo F o.dst (.sc undef)) S K)\/(gd ops F o=some true/\PO P r n o F S (λp S'=>y8 ids S0 S'/\PX P r n ops ids S0 rest (yo F o.dst p) S' K))):=by
 intro row;induction row with
 |done=>intro a _ h;cases h
 |pure j r _=>intro a _ h;cases h
 |stop =>
 grind[wY,bY]
 |alt j rest more e f =>
 intro a d _ b c;simp only[wY,Ar]at b;simp only[PX]at c;by_cases g:i=j<;>grind[Wh]
theorem mq{S0:Store}{K:(Nat->PV)->Store->Prop}{val:Nat->PV}{row:Row}
  (h:Mid P r n ops ids S0 F0 K E G S val pre row F) (f:∀i,i<ops.size->E i):K G S:=by
 have c:∀i,i<ops.size->i∈pre:=λi hi=>h.sub i (f i hi);have a:∀i,QJ ops pre i=true->False:=by intro i hi;obtain⟨o,ho,_,d⟩:=bY hi;exact d (c i (Bd.1 ho).1)
 have l:K F S:=by
  have b:=h.ag;have e:=h.px;cases row with
  |done=>exact e
  |pure i k=>simp only[wY,Ar]at b;exact(a i b.1).elim
  |alt i k m=>simp only[wY,Ar]at b;exact(a i b.1.1.1).elim
  |stop=>simp[wY]at b
 have:G=F:=by funext t;by_cases hx:∃(j:Nat) (o:Oper),ops[j]?=some o/\o.dst=some t;obtain⟨j,o,h1,h2⟩:=hx;have g:=f j (Bd.1 h1).1;rw[(h.frmE t).1 j o g h1 h2,(h.frmP t).1 j o (h.sub j g) h1 h2];rw[(h.frmE t).2 λj o _ h1 h2=>hx ⟨j,o,h1,h2⟩,(h.frmP t).2 λj o _ h1 h2=>hx ⟨j,o,h1,h2⟩]
 simp_all
def GZ{Q':Exit->Act->World->Prop}(hN:∀o∈ops,∀d,o.dst=some d->d<N)(R:RegOk ops){Sb:Store}{K:(Nat->PV)->Store->Prop}
  {C0:Ctx} {S0:Store} {w0:World} {ds:List Deferred}
  (hQ:∀F' S' C' w' a',K F' S'->St r C' S' w' N F' a'->a'.defers=ds->Step C0 S0 w0 C' S' w'->Q' .normal a' w') :
  ∀(g:Nat) (listed:Array Bool) (U:List Nat) (G:Nat->PV) (S:Store) (C:Ctx) (w:World) (a:Act) (val:Nat->PV) (pre:List Nat) (row:Row) (Fp:Nat->PV),
   listed.size=ops.size->U.length=g->(∀i,i<ops.size->listed.getD i false=false->i∈U) ->
   Mid P r n ops ids Sb F0 K (λj=>listed.getD j false=true) G S val pre row Fp ->
   St r C S w N G a->a.defers=ds->Step C0 S0 w0 C S w->wpAnyIn (Fe r) n P .any ops Q' g listed a w:=by
 intro g;induction g with
 |zero =>
 intro listed U G S C w a val pre row Fp c7 hU a2 b st hd step;have e0:U=[]:=As hU;have a0:∀i,i<ops.size->listed.getD i false=true:=by
  intro i hi;cases hb:listed.getD i false with
  |false=>have:=a2 i hi hb;rw[e0]at this;cases this
  |true=>rfl
 refine⟨?_,hQ G S C w a (mq b a0) st hd step⟩;rw[List.eq_nil_iff_forall_not_mem];grind[mem_ready]
 |succ g ih =>
 intro listed U G S C w a val pre row Fp c7 hU a2 b st hd step;refine⟨λhr=>?_,λi hi=>?_⟩;have a0:∀i,i<ops.size->listed.getD i false=true:=by
  intro i;induction i using Nat.strongRecOn with
  |_ i e3 =>
  intro hi;cases hb:listed.getD i false with
  |true=>rfl
  |false =>
  have ho:ops[i]?=some (ops[i]'hi):=EA;have:i∈Region.ready .any ops listed:=by refine mem_ready.2 ⟨?_,ops[i]'hi,ho,λe he e4=>?_⟩;rw[Bb]at hb ⊢;rw[A5 D9]at hb ⊢;simpa using hb;have a4:=R.edge i _ ho e.on (by unfold uF;rw[Ak];exact⟨e,by rw[Bu];exact⟨Cf.2 he,e4⟩,rfl⟩);exact e3 e.on a4 D9
  rw[hr]at this;cases this
 grind[mq];obtain⟨h1,o,ho,a9⟩:=mem_ready.1 hi;have a4:i<ops.size:=(Bd.1 ho).1;have a5:¬(listed.getD i false=true):=by rw[Bb]at h1 ⊢;rw[A5 D9]at h1 ⊢;simp only[Option.getD_some]at h1 ⊢;rw[h1];simp
 have u:∀e∈uF o,listed.getD e false=true:=by intro e he;unfold uF at he;rw[Ak]at he;obtain⟨x,hx,rfl⟩:=he;rw[Bu]at hx;exact a9 x (Cf.1 hx.1) hx.2
 have d3:∀x,o.dst=some x->x<N:=by
  have:o∈ops:=by obtain⟨h,rfl⟩:=Bd.1 ho;exact DD h
  exact hN o this
 have e5:i∈U:=a2 i a4 (by simpa using a5);have a6:∀j,(listed.setIfInBounds i true).getD j false=true<->j=i\/listed.getD j false=true:=by intro j;rw[Bb,Bb,Di];by_cases c8:i=j;subst c8;simp[c7,a4];rw[if_neg c8];constructor;exact .inr;rintro(rfl|h);exact absurd rfl c8;exact h
 have d0:(λj=>(listed.setIfInBounds i true).getD j false=true)=(λj=>j=i\/listed.getD j false=true):=funext λj=>propext (a6 j);have c6:Xj ops (λj=>j=i\/listed.getD j false=true):=by intro j oj c f e he;obtain rfl|c:=c;rw[ho]at f;cases f;exact .inr (u e he);exact .inr (b.closedE j oj c f e he)
 have a3:∀(val':Nat->PV) (a7:List Nat) (a8:Row) (Fp':Nat->PV) (p:PV) (S':Store) (C':Ctx) (w':World) (v:Value),
   Mid P r n ops ids Sb F0 K (λj=>j=i\/listed.getD j false=true) (yo G o.dst p) S' val' a7 a8 Fp'->Rel C' S' w' p v->Sim C' S' w'->Step C S w C' S' w' ->
   wpAnyIn (Fe r) n P .any ops Q' g (listed.setIfInBounds i true) (a.put o.dst v) w':=by
  intro val' a7 a8 Fp' p S' C' w' v d1 a1 hs q;refine ih _ (U.erase i) (yo G o.dst p) S' C' w' _ val' a7 a8 Fp' (by simp[c7]) (by rw[DE e5,hU];rfl) ?_ (by rw[d0];exact d1) (st.put q hs d3 a1) (by rw[VH];exact hd) (step.trans q);intro j c b7;have e6:j≠i:=by intro e;have:=(a6 j).2 (.inl e);rw[this]at b7;cases b7
  have d4:listed.getD j false=false:=by
   cases hb:listed.getD j false with
   |false=>rfl
   |true=>have:=(a6 j).2 (.inr hb);rw[this]at b7;cases b7
  exact(List.mem_erase_of_ne e6).2 (a2 j c d4)
 have y:∀(pre:List Nat) (row:Row) (val:Nat->PV) (Fp:Nat->PV),i∈pre->Mid P r n ops ids Sb F0 K (λj=>listed.getD j false=true) G S val pre row Fp ->
   wpOpIn (Fe r) n P ops Q' i (wpAnyIn (Fe r) n P .any ops Q' g (listed.setIfInBounds i true)) a w:=by
  intro pre row val Fp k b;obtain⟨o',d5,e7⟩:=b.evid i k a5;rw[ho]at d5;cases d5;have d6:=bV R b.closedE b.frmE ho a5 u;unfold wpOpIn;rw[ho];dsimp only;have l:∀p,val i=p->Mid P r n ops ids Sb F0 K (λj=>j=i\/listed.getD j false=true) (yo G o.dst p) S val pre row Fp:=λp hp =>
   ⟨c6,b.closedP,bX R b.frmE ho hp (λ_ _=>rfl),b.frmP,λj c=>c.elim (λe=>e ▸ k) (b.sub j),λj c hn=>b.evid j c (λh=>hn (.inr h)),b.px,b.ag,b.t⟩
  obtain⟨e1,e2⟩|⟨e1,e2⟩:=e7 G d6;rw[Jp st e1];exact⟨λ_ _=>trivial,a3 val pre row Fp _ S C w _ (l _ e2) (.sc _) st.sim (.refl _ _ _)⟩;rw[Jp st e1];refine e2 S b.t G (λ_ _=>rfl) C w a N st _ _ ?_;rintro v w' C' S' p ⟨rfl,rfl⟩ a1 hs q;exact a3 val pre row Fp _ _ C' w' _ (l _ rfl) a1 hs q
 have chain:∀(pre:List Nat) (row:Row) (val:Nat->PV) (Fp:Nat->PV),row.chain=true->i ∉ pre->Mid P r n ops ids Sb F0 K (λj=>listed.getD j false=true) G S val pre row Fp ->
   wpOpIn (Fe r) n P ops Q' i (wpAnyIn (Fe r) n P .any ops Q' g (listed.setIfInBounds i true)) a w:=by
  intro pre row val Fp e8 k b;have z:∀e∈uF o,e∈pre:=λe he=>b.sub e (u e he);have b8:QJ ops pre i=true:=by unfold QJ;rw[ho];simp only[Ar,Av];exact⟨λe he=>by simpa using z e he,by simpa using k⟩
  obtain⟨rest,s,hx⟩:=GY ho b8 row [] EA e8 b.ag b.px;have s1:=bV R b.closedE b.frmE ho a5 u;have s2:=bV R b.closedP b.frmP ho k z;have eq:=mg s1 s2;have l:∀(p:PV) (S':Store),PX P r n ops ids Sb rest (yo Fp o.dst p) S' K->y8 ids Sb S'->Mid P r n ops ids Sb F0 K (λj=>j=i\/listed.getD j false=true) (yo G o.dst p) S' (λj=>if j=i then p else val j) (i::pre) rest (yo Fp o.dst p):=by intro p S' hp d2;have e9:∀j,listed.getD j false=true->(λj=>if j=i then p else val j) j=val j:=λj c=>if_neg (λ(e:j=i)=>a5 (e ▸ c));have d7:∀j,j∈pre->(λj=>if j=i then p else val j) j=val j:=λj c=>if_neg (λ(e:j=i)=>k (e ▸ c));refine⟨c6,?_,bX R b.frmE ho EA e9,?_,?_,?_,hp,s,d2⟩;intro j oj c f e he;rw[Am]at c ⊢;obtain rfl|c:=c;rw[ho]at f;cases f;exact .inr (z e he);exact .inr (b.closedP j oj c f e he);have:=bX (val':=λj=>if j=i then p else val j) R b.frmP ho (p:=p) EA d7;intro t;exact⟨λj oj c f hd=>(this t).1 j oj (Am.1 c) f hd,λf0=>(this t).2 λj oj c f=>f0 j oj (Am.2 c) f⟩;intro j c;rw[Am];exact c.imp id (b.sub j);intro j c hn;rw[Am]at c;obtain c|c:=c;exact absurd (.inl c) hn;exact ml R b.closedP d7 c (b.evid j c (λh=>hn (.inr h)))
  unfold wpOpIn;rw[ho];dsimp only;obtain⟨e1,hx⟩|⟨e1,hx⟩:=hx;rw[Jp st ((bW eq).trans e1)];exact⟨λ_ _=>trivial,a3 _ _ _ _ _ S C w _ (l _ S hx b.t) (.sc _) st.sim (.refl _ _ _)⟩;rw[Jp st ((bW eq).trans e1)];refine hx G (mh eq) C w a N st _ _ ?_;rintro v w' C' S' p ⟨d2,hp⟩ a1 d8 q;exact a3 _ _ _ _ p S' C' w' v (l p S' hp d2) a1 d8 q
 have f1:∀(row:Row) (pre:List Nat) (val:Nat->PV) (Fp:Nat->PV),Mid P r n ops ids Sb F0 K (λj=>listed.getD j false=true) G S val pre row Fp ->
   wpOpIn (Fe r) n P ops Q' i (wpAnyIn (Fe r) n P .any ops Q' g (listed.setIfInBounds i true)) a w:=by
  intro row;induction row with
  |done =>
  intro pre val Fp b;have s:=b.ag;simp only[wY,Av,AI]at s;exact y pre _ val Fp (by simpa using s i a4) b
  |stop =>
  intro pre val Fp b;by_cases k:i∈pre;exact y pre _ val Fp k b;exact chain pre _ val Fp rfl k b
  |alt j r1 m _ _ =>
  intro pre val Fp b;by_cases k:i∈pre;exact y pre _ val Fp k b;exact chain pre _ val Fp rfl k b
  |pure j rest d9 =>
  intro pre val Fp b;by_cases k:i∈pre;exact y pre _ val Fp k b;have s:=b.ag;simp only[wY,Ar]at s;obtain⟨oj,f,_,_⟩:=bY s.1;obtain⟨e1,hx⟩|⟨e1,p,e2,hx⟩:=GX f b.px;exact d9 _ _ _ (mn R b f hx (.inl ⟨e1,rfl⟩));exact d9 _ _ _ (mn R b f hx (.inr ⟨e1,e2⟩))
 grind
def bZ{id:Nat}(ids:Option (List Nat))(row:Row)(hm:P.follows .mixedOrders=true)(q:ug N ops=true)(s:Xi ops=true)(f:wY ops [] [] row=true)
  (h:PX P r n ops ids S row F S (Q .normal)):PW P r n N (.region id ops true) Q F S:=by
 intro C w a st;have R:=GV s;refine wpIn_region_any hm ?_;obtain⟨hs,b⟩:=st.sim.drew;have k:St r C S w.drew N F a:=⟨hs,st.size,λi=>(st.fr i).mono b,r.keep b st.v⟩;have m:∀j,(Array.replicate ops.size false).getD j false=false:=by intro j;rw[Bb,DF];split<;>rfl
 refine GZ (Q':=λe a' w'=>∃F' S' C',Q e F' S'/\St r C' S' w' N F' a'/\Defs w.heap.size a.defers C' S' w' a'.defers/\Step C S w C' S' w') (bT q) R (ids:=ids) (Sb:=S) (F0:=F) (K:=Q .normal) (C0:=C) (S0:=S) (w0:=w) (ds:=a.defers)
  (λF' S' C' w' a' u p x g=>⟨F',S',C',u,p,.of_eq x,g⟩) ops.size _ (range ops.size) F S C w.drew a (λ_=>.junk) [] row F EA EA (λi hi _=>AI.2 hi) ?_ k rfl b
 have d:∀j,¬((Array.replicate ops.size false).getD j false=true):=λj h=>by simp_all
 refine⟨λj o c=>absurd c (d j),(λj o c=>nomatch c),?_,?_,λj c=>absurd c (d j),(λj c=>nomatch c),h,f,?_⟩;exact λt=>⟨λj o c=>absurd c (d j),λ_=>rfl⟩;exact λt=>⟨(λj o c=>nomatch c),λ_=>rfl⟩;cases ids with
 |none=>rfl
 |some l=>exact λ_ _=>rfl
end
def PCalls(P:Program)(f:FuncId)(args:List PV)(S:Store)(Q:PV->Store->Prop):Prop :=
 ∀(C:Ctx) (w:World) (vs:Array Value),Sim C S w->args.length=vs.size->(∀(i:Nat) (c:PV) (v:Value),args[i]?=some c->vs[i]?=some v->Rel C S w c v) ->
  Calls P f vs w λe w'=>∃p v S' C',e=.returned v/\Q p S'/\Rel C' S' w' p v/\Sim C' S' w'/\Step C S w C' S' w'
variable {Q Q':PV->Store->Prop}
theorem PCalls.mono{f:FuncId}{args:List PV}(h:PCalls P f args S Q)(a:∀p S',Q p S'->Q' p S'):PCalls P f args S Q':=by intro C w vs h1 h2 h3;refine(h C w vs h1 h2 h3).mono ?_;grind
def PCallsV(P:Program)(V:Ctx->Store->World->Prop)(f:FuncId)(args:List PV)(S:Store)(Q:PV->Store->Prop):Prop :=
 ∀(C:Ctx) (w:World) (vs:Array Value),Sim C S w->V C S w->args.length=vs.size->(∀(i:Nat) (c:PV) (v:Value),args[i]?=some c->vs[i]?=some v->Rel C S w c v) ->
  Calls P f vs w λe w'=>∃p v S' C',e=.returned v/\Q p S'/\Rel C' S' w' p v/\Sim C' S' w'/\Step C S w C' S' w'
variable {V:Ctx->Store->World->Prop}
theorem PCalls.v{f:FuncId}{args:List PV}(h:PCalls P f args S Q):PCallsV P V f args S Q:=λC w vs a _=>h C w vs a
theorem PCallsV.mono{f:FuncId}{args:List PV}(h:PCallsV P V f args S Q)(b:∀p S',Q p S'->Q' p S'):PCallsV P V f args S Q':=by intro C w vs h1 h2 h3 a;refine(h C w vs h1 h2 h3 a).mono ?_;grind
def qU(P:Program)(f:FuncId):Prop:=∀(args:Array Value) (w:World),(callFunc f args).run P w=.ok (.enter f args) w
section
variable {P:Program} {r:Rd} {n N:Nat} {Q:Exit->(Nat->PV)->Store->Prop} {F:Nat->PV} {S:Store}
def fe{f:FuncId}{args:Array Value}{R:Ending->World->Prop}(h:Calls P f args w R):CallsIn (Fe r) n P f args w R:=by exact(callsIn_wide (n:=n)).2 h
variable {fs:List PV}
def mr{o:Oper}{c:Call}{x:Operand}{k:FuncId}{R:PV->Store->Prop}(ho:o.op=.call c)(hc:c.callee=.value x)(hx:ev F x=.fn (.func k) fs cs)(hE:qU P k)
  (h:PCallsV P r.V k (fs++c.args.toList.map (ev F)++cs) S R) (hK:∀p S',R p S'->K p S'):PO P r n o F S K:=by
 intro G hG C w a N st next Q' q;have s:x∈o.op.operands:=by simp[ho,Op.operands,Call.operands,hc]
 have t:ev G x=.fn (.func k) fs cs:=(hG x s).trans hx;have g:∀y∈c.args.toList,ev G y=ev F y:=λy hy=>hG y (by simp_all[Op.operands,Call.operands]);have j:c.args.toList.map (ev F)=c.args.toList.map (ev G):=AQ λy hy=>(g y hy).symm;rw[j]at h;have b:=st.ev x;rw[t]at b;generalize hv:a.eval x=v at b;cases b with
 |fn hf u h1 h2 =>
 rename_i fv cv;have m:(execOp a.eval o).run P w=.ok (.enter k ((fv++c.args.map a.eval)++cv)) w:=by unfold execOp;simp only[ho,resolve,hc,hv,Deferred.ofValue,Sem.run_bind,Sem.run_pure,Aq,invoke];exact hE _ w
 refine qx (x:=.enter k ((fv++c.args.map a.eval)++cv)) (w':=w) EI m ?_;rw[Oper.uponIn_enter];refine⟨λhd=>?_,?_⟩;cases hd;have d:=VG (l:=c.args.toList) st.ev;simp only[Array.toArray_toList]at d;have key:=h C w ((fv++c.args.map a.eval)++cv) st.sim st.v (by simp[hf,u]) (by
  intro i p v f hv;by_cases q1:i<fs.length;rw[append_assoc,Au q1]at f;rw[Array.append_assoc,BC D9]at hv;exact h1 i p v f hv;by_cases z:i<fs.length+(c.args.toList.map (ev G)).length;rw[append_assoc,Ao D9,Au D9]at f;rw[Array.append_assoc,B1 D9,BC (by simp at z ⊢;omega)]at hv;rw[<-hf]at hv;exact d.2 _ p v f hv;rw[Ao (by simp at z ⊢;omega),length_append]at f;rw[B1 (by simp at z ⊢;omega),Cr]at hv;have e:fs.length+(c.args.toList.map (ev G)).length=fv.size+(c.args.map a.eval).size:=by simp[hf]
  rw[<-e]at hv;exact h2 _ p v f hv)
 refine(fe key).mono ?_;grind
def Jq{o:Oper}{c:Call}{x:Operand}{k:FuncId}(ho:o.op=.call c)(hc:c.callee=.value x)(hx:ev F x=.fn (.func k) fs cs)(a:qU P k)
  (h:PCalls P k (fs++c.args.toList.map (ev F)++cs) S Q') (b:∀p S',Q' p S'->K p S'):PO P r n o F S K :=
 mr ho hc hx a h.v b
def ZG(args:List PV):Nat->PV:=λi=>args.getD i (.sc undef)
def vI(P:Program)(F:Nat->PV)(S:Store):List ResultVar->Option (List PV)
 |[]=>some []
 |.tmp t::rs=>(vI P F S rs).map (F t::·)
 |.cell a t::rs =>
  match Yq P t S (F a) with
  |some p=>(vI P F S rs).map (p::·)
  |none=>none
def zr:List PV->PV
 |[p]=>p
 |ps=>.tup ps
def Yr(P:Program)(rs:List ResultVar)(Q:PV->Store->Prop):Exit->(Nat->PV)->Store->Prop
 |.normal,F,S=>∃ps S',vI P F S rs=some ps/\Q (zr ps) S'/\∀o,S' o=S o\/S' o=.dead
 |.ret,F,S=>∃ps S',vI P F S rs=some ps/\Q (zr ps) S'/\∀o,S' o=S o\/S' o=.dead
 |_,_,_=>False
def VL(a:Act)(x:ResultVar):Sem Value :=
 match x with
 |.tmp t=>pure (a.tmps.getD t undef)
 |.cell x t=>do loadVar t (<-asAddr (a.tmps.getD x undef))
def Ha(st:St r C S w N F a):∀(rs:List ResultVar) (ps:List PV),vI P F S rs=some ps ->
  ∃vs:List Value,(rs.mapM (VL a)).run P w=.ok vs w/\ps.length=vs.length /\
   ∀(i:Nat) (p:PV) (v:Value),ps[i]?=some p->vs[i]?=some v->Rel C S w p v:=by
 intro rs;induction rs with
 |nil=>intro ps h;cases h;simp
 |cons x rs k =>
 intro ps h;cases x with
 |tmp t =>
  simp only[vI]at h;obtain⟨f,g,rfl⟩:=Al.1 h;obtain⟨vs,h1,h2,h3⟩:=k f g;refine⟨a.tmps.getD t undef::vs,?_,by simp[h2],?_⟩;simp_all[VL];intro i p v l hv;cases i with
  |zero=>simp only[Bi,injEq]at l hv;subst l;subst hv;exact st.fr t
  |succ i=>grind
 |cell y t =>
 simp only[vI]at h;split at h;rename_i s b;obtain⟨f,g,rfl⟩:=Al.1 h;obtain⟨vs,h1,h2,h3⟩:=k f g;obtain⟨u,o,m⟩:=lZ b st.sim (st.fr y);have c:∃n,a.tmps.getD y undef=.pointer (some n):=by
  have d:=st.fr y;generalize a.tmps.getD y undef=u0 at d;unfold Yq at b;split at b;rename_i e;rw[e]at d;cases d with|ptr q=>exact q
  rename_i e;rw[e]at d;cases d with|ip=>exact⟨_,rfl⟩
  cases b
 obtain⟨n,j⟩:=c;rw[j]at o;refine⟨u::vs,?_,by simp[h2],?_⟩<;>grind[Instr.loadAt,Instr.sureAddr,Sem.run_bind,Sem.run_pure,Result.andThen_ok,VL,asAddr];cases h
variable {rs:List ResultVar}
def Hb(st:St r C S w N F a){fn:Func}(b:fn.results.toList=rs)(h:vI P F S rs=some cs):
  ∃v,(results fn a.tmps).run P w=.ok v w/\Rel C S w (zr cs) v:=by
 obtain⟨vs,h1,h2,h3⟩:=Ha (P:=P) st rs cs h;have hm:(fn.results.mapM (VL a)).run P w=.ok vs.toArray w:=by rw[<-Array.toArray_toList (xs:=fn.results),List.mapM_toArray,b];simp only[Sem.run_map,h1,Aq]
 have e:∀g:ResultVar->Sem Value,g=VL a->(fn.results.mapM g).run P w=.ok vs.toArray w:=by rintro g rfl;exact hm
 unfold results;rw[Sem.run_bind,e _ (by funext x;cases x<;>rfl)];simp only[Aq,Sem.run_pure];refine⟨_,rfl,?_⟩
 match vs,cs,h2 with
 |[v],[p],_=>exact h3 0 p v rfl rfl
 |[],[],_=>exact .tup rfl EA
 |v::d::vs,p::f::cs,h2 =>
 simp only[BY,Ae];rw[dif_neg D9];exact .tup D9 (λi c v hc hv=>h3 i c v hc (by simpa using hv))
variable {D:Nat}
def mu(a:w.heap[D]?=some (.deferred (some [])))(b:Nat)(o:Obj)(hb:w.heap[b]?=some o)(ho:∀x,o≠.deferred x):(w.putObj D (.deferred none)).heap[b]?=some o:=by grind[World.putObj_heap_other]
def mw(e:w.heap[D]?=some (.deferred (some []))){v:Value}(f:Rel C S w p v):Rel C S (w.putObj D (.deferred none)) p v:=by
 have c:=mu e;induction f with
 |junk v=>exact .junk v
 |sc v=>exact .sc v
 |agg hl h1 _ a=>exact .agg hl h1 a
 |tup hl _ a=>exact .tup hl a
 |lst0=>exact .lst0
 |lst1 hn hm hb b hs h1 _ a=>exact .lst1 hn hm (c _ _ hb EA) b hs h1 a
 |ip hb b hs h1 _ a=>exact .ip (c _ _ hb EA) b hs h1 a
 |nl0=>exact .nl0
 |nl hn hb b hl h1 _ a=>exact .nl hn (c _ _ hb EA) b hl h1 a
 |ptr h1 ho h=>exact .ptr h1 ho h
 |sl h1 ho h=>exact .sl h1 ho h
 |fn hf hc _ _ a d=>exact .fn hf hc a d
 |ifc _ a=>exact .ifc a
 |mp h1 ho h=>exact .mp h1 ho h
theorem Sim.take(h:Sim C S w)(a:w.heap[D]?=some (.deferred (some [])))(hM:¬C.M S D):Sim C S (w.putObj D (.deferred none)):=by have f:=mu a;have d:∀{p v},Rel C S w p v->Rel C S (w.putObj D (.deferred none)) p v:=λg=>mw a g;refine⟨h.lt,h.clk,h.J,?_,?_⟩;intro o ver e cs hs;obtain hn|⟨b,k,c,h1,h2,h3,i,j,l⟩:=h.cells o ver e cs hs<;>grind;intro o ver es hs;obtain⟨b,k,ms,cl,h1,h2,h3,i⟩:=h.maps o ver es hs;grind
theorem Marks.take{c:Nat}:∀{ds:List Deferred},(∀d∈ds,d≠{ target:=.collected D,args:=#[] })->Marks c C S w ds->Marks c C S (w.putObj D (.deferred none)) ds
 |[],_,_=>trivial
 |d::ds,a,⟨⟨D',h1,h2,h3,e,f⟩,h⟩=>by refine⟨⟨D',h1,h2,?_,e,f⟩,Marks.take (λg b=>a g (by simp[b])) h⟩;simp_all[BD]
def Hc{C0:Ctx}{S0:Store}{w0:World}{fn:Func}{tmps:Array Value}{Q:PV->Store->Prop}{S1:Store}(g:fn.results.toList=rs)(h1:vI P F S rs=some cs)(n:Q (zr cs) S1)(q:∀o,S1 o=S o\/S1 o=.dead):
  ∀(ds:List Deferred) (C:Ctx) (w:World),Marks w0.heap.size C S w ds->St jM C S w N F { tmps:=tmps,defers:=[] }->Step C0 S0 w0 C S w ->
   LeavesInM (Fe jM) 0 P fn tmps (λe w'=>∃p v S' C',e=.returned v/\Q p S'/\Rel C' S' w' p v/\Sim C' S' w'/\Step C0 S0 w0 C' S' w') ds .returning w:=by
 intro ds;induction ds with
 |nil =>
 intro C w _ st step;obtain⟨v,hv,c⟩:=Hb (a:={ tmps:=tmps,defers:=[] }) st g h1;obtain⟨k1,h⟩:=st.sim.kill q;exact⟨v,hv,_,v,S1,C,rfl,n,c.mono h,k1,step.trans h⟩
 |cons d ds r =>
 intro C w ⟨⟨D,x,l,j,s,t⟩,hm⟩ st step;refine⟨by simp,.inl ⟨D,w.putObj D (.deferred none),by rw[l],run_takeDeferred j,?_⟩⟩;have m:=jh j;have f:=st.sim.take j s;refine r C _ (Marks.take (λu k=>l ▸ t u k) hm) ⟨f,st.size,λi=>?_,trivial⟩ ?_;have y:=st.fr i;simp_all[mw];refine⟨step.os,step.tape,step.output,by simpa using step.size,step.next,step.clock,λb hb hM=>?_,step.vers⟩;obtain⟨k1,h⟩:=step.blocks b hb hM;grind[World.putObj_heap_other]
def ff{keep:∀{C C':Ctx} {S S':Store} {w w':World},Step C S w C' S' w'->V C S w->V C' S' w'}{f:FuncId}{fn:Func}{c:Code}{args:List PV}{Q:PV->Store->Prop}(hf:P.funcs[f]?=some fn)(hb:fn.body=some c)(l:fn.ntmps=N)(g:fn.results.toList=rs)(j:args.length<=N)
  (h:PW P ⟨none,V,keep⟩ 0 N c (Yr P rs Q) (ZG args) S):PCallsV P V f args S Q:=by
 intro C w vs m q hl s;refine(callsIn_wide (n:=0)).1 (callsIn_of_wp_marks hf hb n' ?_ rfl);have st:St ⟨none,V,keep⟩ C S w N (ZG args) { tmps:=vs++Array.replicate (fn.ntmps-vs.size) undef,defers:=[] }:=by refine⟨m,by simp[l];omega,λi=>?_,q⟩;unfold ZG;simp only[Bb,Aa];by_cases hi:i<args.length;grind;rw[An D9,B1 D9,DF];split<;>exact .sc _
 refine wpIn_mono (h C w _ st) ?_;rintro e a' w' ⟨F',S',C',k,b,⟨ms,r,hm⟩,d⟩;have a:(∃ps S'',vI P F' S' rs=some ps/\Q (zr ps) S''/\∀o,S'' o=S' o\/S'' o=.dead) ->
   LeavesInM (Fe jM) 0 P fn a'.tmps (λe w'=>∃p v S' C',e=.returned v/\Q p S'/\Rel C' S' w' p v/\Sim C' S' w'/\Step C S w C' S' w') a'.defers .returning w':=by
  rintro⟨ps,S'',h1,h2,h3⟩;rw[r,Ay];exact Hc g h1 h2 h3 ms C' w' hm ⟨b.sim,b.size,b.fr,trivial⟩ d
 cases e with
 |normal=>exact a k
 |ret=>exact a k
 |_=>exact k.elim
def uG{f:FuncId}{fn:Func}{c:Code}{args:List PV}{Q:PV->Store->Prop}(hf:P.funcs[f]?=some fn)(hb:fn.body=some c)(d:fn.ntmps=N)(b:fn.results.toList=rs)(a:args.length<=N)
  (h:PW P jM 0 N c (Yr P rs Q) (ZG args) S):PCalls P f args S Q :=
 λC w vs e hl g=>ff hf hb d b a h C w vs e trivial hl g
def QK{c:Code}{F':Nat->PV}(f:∀C w a,St r C S w N F a->∃C',St r C' S' w N F' a/\Step C S w C' S' w)(h:PW P r n N c Q F' S'):PW P r n N c Q F S:=by intro C w a st;obtain⟨C',d,b⟩:=f C w a st;refine wpIn_mono (h C' w a d) ?_;rintro e a' w' ⟨F2,S2,C2,h1,h2,h3,g⟩;exact⟨F2,S2,C2,h1,h2,h3,b.trans g⟩
def Hd{c:Code}{F':Nat->PV}(b:∀i,F' i=F i\/F' i=.junk)(h:PW P r n N c Q F' S):PW P r n N c Q F S :=
 QK (λC w a st=>⟨C,⟨st.sim,st.size,λi=>by obtain e|e:=b i<;>rw[e];exact st.fr i;exact .junk _,st.v⟩,.refl _ _ _⟩) h
def Wi(P:Program)(ops:Array Oper):List Oper->(Nat->PV)->Option (Nat->PV)
 |[],F=>some F
 |o::os,F =>
  match gd ops F o with
  |none=>none
  |some false=>Wi P ops os (yo F o.dst (.sc undef))
  |some true =>
  match uf P F o with
  |some p=>Wi P ops os (yo F o.dst p)
  |none=>none
variable {ops:Array Oper}
theorem fg{K:(Nat->PV)->Store->Prop}:∀(l:List Oper) (F F':Nat->PV),Wi P ops l F=some F'->K F' S->ZE P r n [] ops l F S K
 |[],F,F',h,a=>by cases h;exact a
 |o::os,F,F',h,a=>by
  have hb:bS [] o=false:=by unfold bS;split<;>rfl
  simp only[Wi]at h;simp only[ZE];split at h;cases h;rename_i b;(try simp only[b]);exact fg os _ _ h a;rename_i b;(try simp only[b,hb,AW,if_false]);split at h;rename_i p c;(try simp only[c]);exact fg os _ _ h a;cases h
def js{id:Nat}{F':Nat->PV}(a:ug N ops=true)(h:Wi P ops ops.toList F=some F')(b:Q .normal F' S):PW P r n N (.region id ops false) Q F S :=
 mc [] a (fg _ _ _ h b)
def qt{id:Nat}(H:List Nat)(a:ug N ops=true)(h:∀K:(Nat->PV)->Store->Prop,(∀F' S',Q .normal F' S'->K F' S')->ZE P r n H ops ops.toList F S K):PW P r n N (.region id ops false) Q F S :=
 mc H a (h _ λ_ _ h=>h)
def Xl(P:Program)(ops:Array Oper)(S:Store):List Oper->(Nat->PV)->Option (Nat->PV)
 |[],F=>some F
 |o::os,F =>
  match gd ops F o with
  |none=>none
  |some false=>Xl P ops S os (yo F o.dst (.sc undef))
  |some true =>
  match uf P F o with
  |some p=>Xl P ops S os (yo F o.dst p)
  |none =>
  match Xk P none S F o with
  |some p=>Xl P ops S os (yo F o.dst p)
  |none=>none
def He{id:Nat}{F':Nat->PV}(hm:P.follows .mixedOrders=true)(d:ug N ops=true)(e:Xi ops=true)(b:wY ops [] [] (Row.pures (range ops.size) .done)=true)
  (h:Xl P ops S ops.toList F=some F') (f:Q .normal F' S):PW P r n N (.region id ops true) Q F S:=by
 refine bZ none (Row.pures (range ops.size) .done) hm d e b ?_;have key:∀(m k:Nat) (G:Nat->PV),ops.size-k=m->Xl P ops S (ops.toList.drop k) G=some F'->PX P r n ops none S (Row.pures ((range ops.size).drop k) .done) G S (Q .normal):=by
  intro m;induction m with
  |zero =>
  intro k G g a;rw[BU ED]at a ⊢;cases a;exact f
  |succ m i =>
  intro k G g a;have c:k<ops.size:=D9;rw[eW k _ c];have e2:ops.toList.drop k=ops[k]::ops.toList.drop (k+1):=by rw[AG (by simpa using c)];simp
  grind[Xl,Row.pures,PX]
 exact key ops.size 0 F rfl (by simpa using h)
def Xm{id:Nat}(ids:Option (List Nat))(row:Row)(hm:P.follows .mixedOrders=true)(b:ug N ops=true)(c:Xi ops=true)(a:wY ops [] [] row=true)
  (h:∀K:(Nat->PV)->Store->Prop,(∀F' S',Q .normal F' S'->K F' S')->PX P r n ops ids S row F S K):PW P r n N (.region id ops true) Q F S :=
 bZ ids row hm b c a (h _ λ_ _ h=>h)
end
section
variable {P:Program} {r:Rd} {n N:Nat} {Q:Exit->(Nat->PV)->Store->Prop} {F:Nat->PV} {S:Store}
def fh(h:RelL C S w cs vs):cs.length<=vs.size/\(∀(i:Nat) (v:Value),i<cs.length->vs[i]?=some v->v.oneCell'=true) /\
  ∀(i:Nat) (p:PV) (v:Value),cs[i]?=some p->vs[i]?=some v->Rel C S w p v :=
 ⟨by rw[h.1];omega,λi v _ hv=>h.2.1 i v hv,h.2.2⟩
def my(C:Ctx)(S:Store)(w w':World)(o ver k:Nat)(x:Ob)(hx:x.ver=some ver):Rel (C.put o ver (some (w.heap.size,k))) (S.set o x) w' (.ptr o ver 0) (.pointer (some ⟨w.heap.size,0,none⟩)):=by refine .ptr ⟨_,rfl⟩ (by simp only[Ctx.put];omega) λv0 a=>?_;simp_all[q11,Ctx.put]
theorem Fresh.clock(C:Ctx)(h:S j=.dead):Fresh C S j C.clock:=⟨h,.inr (Ag _)⟩
def mA{o:Oper}(ho:o.op=.alloc t)(h:Program.zeroOf P t=some z)(h1:z.cells.all (·.oneCell')=true)
  (d:∀C:Ctx,S C.next=.dead->∃id v,Fresh C S id v/\K (.ptr id v 0) (S.set id (.cells v t (xh z)))):PO P r n o F S K:=by
 intro G _ C w a N st next Q' b;have e:=fh (lU (C:=C) (S:=S) (w:=w) h1);obtain⟨id,ver,f,d⟩:=d C st.sim.free;obtain⟨k1,g⟩:=st.sim.object' f t z.cells (xh z) e.1 e.2.1 e.2.2;refine qx (x:=.value (.pointer (some ⟨w.heap.size,0,none⟩))) (w':=w.alloc (.cells z.cells t)) (by intro c hc;rw[ho]at hc;cases hc) ?_ (b _ _ _ _ _ d (my C S w _ _ _ _ _ rfl) k1 g);unfold execOp
 simp_all[Instr.alloc,Xg,newVar,newRow]
def Hf{o:Oper}{x:Operand}(ho:o.op=.box t x)(hf:(ev F x).fit=true)
  (d:∀C:Ctx,S C.next=.dead->∃id v,Fresh C S id v/\K (.ptr id v 0) (S.set id (.cells v t (ev F x).cells))):PO P r n o F S K:=by
 intro G h C w a N st next Q' b;have e:ev G x=ev F x:=h x (by simp[ho,Op.operands]);rw[<-e]at hf;simp only[<-e]at d;have f:=fh ((st.ev x).cells' hf);obtain⟨id,ver,g,d⟩:=d C st.sim.free;obtain⟨k1,i⟩:=st.sim.object' g t (a.eval x).cells (ev G x).cells f.1 f.2.1 f.2.2;refine qx (x:=.value (.pointer (some ⟨w.heap.size,0,none⟩))) (w':=w.alloc (.cells (a.eval x).cells t)) (by intro c hc;rw[ho]at hc;cases hc) ?_ (b _ _ _ _ _ d (my C S w _ _ _ _ _ rfl) k1 i)
 simp_all[execOp,Instr.box,newVar,newRow]
def VM(C:Ctx)(S:Store)(w w':World)(o ver k sz m cap:Nat)(x:Ob)(hx:x.ver=some ver)(hm:m<=cap)(hM:m<=xO)(hc:cap<=maxLen)(b:cap*sz=k):
  Rel (C.put o ver (some (w.heap.size,k))) (S.set o x) w' (.sl o ver sz 0 m) (.slice (some ⟨w.heap.size,0,none⟩) m cap):=by
 refine .sl ⟨_,_,rfl,hm,hM,hc,λ_=>⟨_,_,rfl⟩⟩ (by simp only[Ctx.put];omega) λv0 a=>?_;grind[q11,Ctx.put]
def Program.bytesOf'(P:Program)(t:TypeId):Option Nat:=(P.info? t).map (·.bytes)
def fi(h:Program.bytesOf' P t=some b)(w:World):∃i,(typeInfo t).run P w=.ok i w/\i.bytes=b:=by unfold Program.bytesOf' at h;obtain⟨i,hi,rfl⟩:=Al.1 h;simp_all[typeInfo]
variable {by_:Nat}
def Hg{o:Oper}{e:TypeId}{l c:Operand}{kl kc:IntKind}{a:Nat}(ho:o.op=.makeSlice t l c)(ht:P.underlying t=some (.slice e))(hl:ev F l=.sc (.int kl (a:Int)))(hc:ev F c=.sc (.int kc (b:Int)))
  (hz:Program.zeroOf P e=some z) (h1:z.cells.all (·.oneCell')=true) (k:z.cells.size=P.cellsOf e) (h0:P.cellsOf e≠0) (m:Program.bytesOf' P e=some by_) (p:a<=b) (hb:b<=140737488355328) (s:b*by_<=281474976710656)
  (u:∀C:Ctx,S C.next=.dead->∃id v,Fresh C S id v/\K (.sl id v (P.cellsOf e) 0 a) (S.set id (.cells v e (qr b z)))):PO P r n o F S K:=by
 intro G hG C w h N st next Q' d;have e1:ev G l=_:=(hG l (by simp_all[Op.operands])).trans hl;have e2:ev G c=_:=(hG c (by simp_all[Op.operands])).trans hc;have r1:=st.ev l;have r2:=st.ev c;rw[e1]at r1;rw[e2]at r2;generalize y:h.eval l=v1 at r1;generalize a0:h.eval c=v2 at r2;cases r1;cases r2;have hr:=fh (lW (C:=C) (S:=S) (w:=w) h1 b);obtain⟨id,ver,a1,u⟩:=u C st.sim.free;obtain⟨k1,k2⟩:=st.sim.object' a1 e ((Array.range (b*z.cells.size)).map (z.cells[·%z.cells.size]!)) (qr b z) hr.1 hr.2.1 hr.2.2;obtain⟨i,hi,a2⟩:=fi m w;have f:i64.wrap (b:Int)=b:=IntWalk.i64_in _ ⟨by omega,by omega⟩;have g:i64.wrap (a:Int)=a:=IntWalk.i64_in _ ⟨by omega,by omega⟩;refine qx (x:=.value (.slice (some ⟨w.heap.size,0,none⟩) a b)) (w':=w.alloc (.cells ((Array.range (b*z.cells.size)).map (z.cells[·%z.cells.size]!)) e)) EH ?_
  (d _ _ _ _ _ u (VM C S w _ _ _ _ _ _ _ _ rfl p (by unfold xO;omega) (by unfold maxLen;omega) EH) k1 k2)
 unfold execOp;simp only[ho,y,a0,Instr.makeSlice,Sem.run_bind,run_underlying ht,Aq,asInt,asIntOf,Sem.run_pure,hi,a2,g,f];have a3:(by_:Int)*(b:Int)<=281474976710656:=by
  obtain⟨q,hq⟩:∃q,b*by_=q:=⟨_,rfl⟩;have e:(by_:Int)*(b:Int)=(q:Int):=by rw[<-hq,Int.natCast_mul,Int.mul_comm]
  rw[e];rw[hq]at s;omega
 have a5:(2:Int)^48=281474976710656:=rfl;have q1:decide ((b:Int)<0)=false:=decide_eq_false D9;have q2:decide ((by_:Int)*(b:Int) > 2^48)=false:=decide_eq_false D9;have q3:decide ((a:Int)<0)=false:=decide_eq_false D9;have q4:decide ((a:Int) > (b:Int))=false:=decide_eq_false D9;rw[if_neg (by rw[q1,q2,q3,q4];decide)];simp only[Sem.run_bind,run_askRoom,Aq,AN,ue h0];by_cases j:b=0;subst j;simp only[C9,if_true,Sem.run_pure,Aq,Sem.run_bind,newRow,run_newObj,DC,DX,D3];have a4:b*P.cellsOf e≠0:=Nat.mul_ne_zero j h0;rw[if_neg a4];simp only[Sem.run_bind,Xg hz,Aq,Sem.run_pure,newRow,run_newObj,D3,k]
def Hh{X:Nat->Nat->Prop}(h:∀id,S id=.dead->X id 0):∀C:Ctx,S C.next=.dead->∃id v,Fresh C S id v/\X id v:=λC a=>⟨C.next,0,⟨a,.inl (Ag _)⟩,h _ a⟩
def YX{X:Nat->Nat->Prop}(j:Nat)(a:S j=.dead)(h:∀v,X j v):∀C:Ctx,S C.next=.dead->∃id v,Fresh C S id v/\X id v:=λC _=>⟨j,C.clock,.clock C a,h _⟩
def Xn{o:Oper}(ho:o.op=.alloc t)(a:Program.zeroOf P t=some z)(h1:z.cells.all (·.oneCell')=true)
  (b:∀id,S id=.dead->K (.ptr id 0 0) (S.set id (.cells 0 t (xh z)))):PO P r n o F S K :=
 mA ho a h1 (Hh (X:=λid v=>K (.ptr id v 0) (S.set id (.cells v t (xh z)))) b)
structure SrcOk (P:Program) (w:World) (sz:Nat) (x:Value) (m:Nat) (news:List Value):Prop where
 len:(Builtin.lenOf x).run P w=.ok m w
 cells:(Builtin.firstCells sz m x).run P w=.ok news.toArray w
 cells':(Builtin.firstCells sz m x).run P w.drew=.ok news.toArray w.drew
 size:news.length=m*sz
 one:∀v∈news,v.oneCell'=true
def fj{ty e:TypeId}{x:Value}{b:Option Addr}{cap:Nat}(c:P.underlying t=some (.slice e))(h0:P.cellsOf e≠0)(hs:SrcOk P w (P.cellsOf e) x 0 [])(d:k<=cap):
  (Builtin.append_ #[t,t] ty #[.slice b k cap,x]).run P w=.ok (.slice b k cap) w:=by
 have a:=ue h0 w;unfold Builtin.append_;simp only[AH,Bi,Bj,Sem.run_bind,run_underlying c,Aq,a,Sem.run_pure,AW,if_false,hs.len,BJ];rw[if_pos d];simp only[Dw,if_true,Sem.run_bind,hs.cells,Aq];cases b<;>simp_all[storeCells]
variable {g cap:Nat}{news:List Value}
def Hi{ty e:TypeId}{x:Value}{m:Nat}(f:P.underlying t=some (.slice e))(h0:P.cellsOf e≠0)(hs:SrcOk P w (P.cellsOf e) x m news)
  (h:w.heap[g]?=some (.cells vs e (0,0))) (d:k+m<=cap) (hc:vs.size=cap*P.cellsOf e) :
  (Builtin.append_ #[t,t] ty #[.slice (some ⟨g,0,none⟩) k cap,x]).run P w =
   .ok (.slice (some ⟨g,0,none⟩) (k+m) cap) (w.setRow g (vs.toList.take (k*P.cellsOf e)++news++vs.toList.drop (k*P.cellsOf e+news.length)).toArray):=by
 have c:=ue h0 w;have a:k*P.cellsOf e+0+news.length<=vs.size:=by rw[hs.size,hc,BJ,<-Nat.add_mul];exact Cp _ d
 have b:=run_storeCells_at P g (k*P.cellsOf e) e news 0 vs w h a hs.one;simp only[BJ]at b;unfold Builtin.append_;simp only[AH,Bi,Bj,Sem.run_bind,run_underlying f,Aq,c,Sem.run_pure,AW,if_false,hs.len];rw[if_pos d];simp only[Dw,if_true,Sem.run_bind,hs.cells,Aq,Addr.add_plain,AV,b,Sem.run_pure]
def cd{ty e:TypeId}{x:Value}{b:Option Addr}{m:Nat}{olds:List Value}(l:P.underlying t=some (.slice e))(h0:P.cellsOf e≠0)(n:Program.zeroOf P e=some z)(c:Program.bytesOf' P e=some by_)
   (hs:SrcOk P w (P.cellsOf e) x m news) (hold:(Builtin.firstCells (P.cellsOf e) k (.slice b k cap)).run P w.drew=.ok olds.toArray w.drew) (o:cap<k+m) (a:(k+m)*by_<=140737488355328) (p:by_≠0) :
  (Builtin.append_ #[t,t] ty #[.slice b k cap,x]).run P w =
   .ok (.slice (some ⟨w.heap.size,0,none⟩) (k+m) (grownCap w (k+m) cap e)) (w.drew.alloc (.cells (olds.toArray++news.toArray++Builtin.zeroCells z.cells (grownCap w (k+m) cap e-(k+m))) e)):=by
 have f:=ue h0 w;obtain⟨i,hi,d⟩:=fi c w;obtain⟨i2,g,h⟩:=fi c w.drew;have j:Builtin.nextslicecap (k+m) cap*by_<=281474976710656:=growslice_fits o a;unfold Builtin.append_;simp only[AH,Bi,Bj,Sem.run_bind,run_underlying l,Aq,f,Sem.run_pure,AW,if_false,hs.len];rw[if_neg D9];simp only[Sem.run_bind,hi,Aq,d];rw[if_neg EI];simp only[Sem.run_bind,hi,Aq,d];rw[if_neg D9];simp only[Sem.run_bind,run_choose,Question.forced,AW,if_false,Aq,World.drew_eq];rw[show (Question.appendCap (k+m) cap e).cut (w.tape w.drawn (.appendCap (k+m) cap e))=grownCap w (k+m) cap e from rfl];simp only[g,Aq,run_askRoom,hold,Dw,if_true,hs.cells',Xg n,newRow,Sem.run_bind,run_newObj,Sem.run_pure,D3,World.size_drew]
theorem fk{sz:Nat}{c:Array Value}{e:TypeId}{fz:Nat × Nat}(hb:w.heap[b]?=some (.cells c e fz))(o:Nat)(hl:o+k*sz<=c.size):
  (Builtin.firstCells sz k (.slice (some ⟨b,o,none⟩) k cap)).run P w=.ok (c.extract o (o+k*sz)) w:=by
 unfold Builtin.firstCells loadCells;have:=lR (P:=P) (o:=o) hb (k*sz) 0 #[] D9;simpa using this
def YY(S:Store)(sz:Nat)(x:PV):Option (Nat × List PV) :=
 match x with
 |.lst m ds=>if ds.length=m*sz then some (m,ds) else none
 |.sl o ver sz' off m =>
  match S o with
  |.cells v _ cs=>if v=ver/\sz'=sz/\off+m*sz<=cs.length then some (m,(cs.drop off).take (m*sz)) else none
  |_=>none
 |.sc (.slice none 0 0)=>some (0,[])
 |.sc (.string s)=>if sz=1/\s.size<=9223372036854775807 then some (s.size,s.data.toList.map λb=>.sc (.int .u8 (b.toNat:Int))) else none
 |_=>none
def cg{sz m:Nat}{ds:List PV}(hS:Sim C S w)(h:YY S sz x=some (m,ds))(z:Rel C S w x u):
  ∃news:List Value,SrcOk P w sz u m news/\RelL C S w ds news.toArray/\m<=xO:=by
 have d:∀(b o cap:Nat) (c:Array Value) (e:TypeId) (fz:Nat × Nat) (ds:List PV),w.heap[b]?=some (.cells c e fz)->ds.length=m*sz->(ds≠[]->o+ds.length<=c.size) ->
   (∀(i:Nat) (v:Value),i<ds.length->c[o+i]?=some v->v.oneCell'=true)->(∀(i:Nat) (p:PV) (v:Value),ds[i]?=some p->c[o+i]?=some v->Rel C S w p v) ->
   ∃news:List Value,SrcOk P w sz (.slice (some ⟨b,o,none⟩) m cap) m news/\RelL C S w ds news.toArray:=by
  intro b o cap c e fz ds hb hl hs h1 hr;by_cases hd:ds=[];subst hd;have q:m*sz=0:=by simpa using hl.symm
  refine⟨[],⟨rfl,?_,?_,by simp[q],by simp⟩,by simp[RelL]⟩<;>simp_all[Builtin.firstCells,loadCells,loadCellsFrom];have j:=hs hd;rw[hl]at j;have a1:w.drew.heap[b]?=some (.cells c e fz):=hb;refine⟨(c.extract o (o+m*sz)).toList,⟨rfl,by rw[Array.toArray_toList];grind[fk],by rw[Array.toArray_toList];grind[fk],by simp;omega,?_⟩,?_⟩;grind[List.getElem?_of_mem,Array.getElem?_extract];rw[Array.toArray_toList];refine⟨by simp;omega,λi v hv=>?_,λi p v n hv=>?_⟩<;>grind[Array.getElem?_extract]
 unfold YY at h;split at h;rename_i m' ds';split at h
 .rename_i hl;cases h;cases z with
  |lst0 =>
  rename_i cap a;refine⟨[],⟨rfl,?_,?_,by simp,by simp⟩,by simp[RelL],by omega⟩;cases a<;>simp[Builtin.firstCells,loadCells,loadCellsFrom];cases a<;>simp[Builtin.firstCells,loadCells,loadCellsFrom]
  |lst1 hn hm hb hM hs h1 hr =>
  obtain⟨news,k1,k2⟩:=d _ _ _ _ _ _ ds hb hl hs h1 hr;exact⟨news,k1,k2,hm⟩
 cases h;rename_i o ver f off m';split at h;rename_i v e cs hs;split at h
 .rename_i hc;obtain⟨rfl,rfl,j⟩:=hc;cases h;cases z with
  |sl h1 h2 h3 =>
  obtain⟨a,cap,rfl,q1,q2,q3,q4⟩:=h1;obtain⟨hn,l⟩|⟨b,k,c,g1,g2,g3,g4,g5,g6⟩:=hS.cells o v e cs hs;have g:(cs.drop off).take (m*f)=[]:=by rw[l];simp
  rw[g];have q:m*f=0:=by rw[l]at j;simp at j;omega
  refine⟨[],⟨rfl,?_,?_,by simp[q],by simp⟩,by simp[RelL],q2⟩;cases a<;>simp[Builtin.firstCells,loadCells,q,loadCellsFrom];cases a<;>simp[Builtin.firstCells,loadCells,q,loadCellsFrom];by_cases g:m=0;subst g;refine⟨[],⟨rfl,?_,?_,by simp,by simp⟩,by simp[RelL],q2⟩;cases a<;>simp[Builtin.firstCells,loadCells,loadCellsFrom];cases a<;>simp[Builtin.firstCells,loadCells,loadCellsFrom];have r:a=some ⟨b,off,none⟩:=by
   rcases (h3 v (by rw[hs];rfl)).2 rfl with ⟨z1,z2,_⟩|⟨b',k',a',cap',z1,z2,z3,z4⟩
   exact absurd z2 g;rw[g1]at z1;cases z1;cases z2;exact z4 g
  subst r;have t:∀(i:Nat) (p:PV),((cs.drop off).take (m*f))[i]?=some p->cs[off+i]?=some p:=by intro i p n;by_cases hi:i<m*f;rw[AP hi,AL]at n;exact n;rw[An ED]at n;cases n
  obtain⟨news,k1,k2⟩:=d b off cap c e (0,0) ((cs.drop off).take (m*f)) g2 ED (λ_=>by simp;omega) (λi v hi hv=>g5 (off+i) v (by simp at hi;omega) hv) (λi p v n hv=>g6 (off+i) p v (t i p n) hv);grind
 cases h;cases h;cases h;cases z;exact⟨[],⟨rfl,by simp[Builtin.firstCells],by simp[Builtin.firstCells],by simp,by simp⟩,by simp[RelL],by omega⟩;rename_i s;split at h;rename_i hc;obtain⟨rfl,hc⟩:=hc;cases h;cases z;have hf:∀W:World,(Builtin.firstCells 1 s.size (.string s)).run P W=.ok (s.data.toList.map λb=>Value.int .u8 (b.toNat:Int)).toArray W:=by intro W;simp[Builtin.firstCells];apply Array.ext';simp
 refine⟨_,⟨rfl,hf w,hf w.drew,by simp,λv hv=>by obtain⟨b,_,rfl⟩:=Ak.1 hv;rfl⟩,⟨by simp,λi v hv=>?_,λi c v hc hv=>?_⟩,by unfold xO;omega⟩;rw[AH,Ai,Al]at hv;obtain⟨b,_,rfl⟩:=hv;rfl;rw[Ai,Al]at hc;rw[AH,Ai,Al]at hv;obtain⟨b,a0,rfl⟩:=hc;obtain⟨b',y,rfl⟩:=hv;rw[a0]at y;cases y;exact .sc _;cases h;cases h
def Wj{ds:List PV}{vs us:List Value}(h:RelL C S w cs vs.toArray)(k:RelL C S w ds us.toArray)(rest:List Value):
  (cs++ds).length<=(vs++us++rest).length/\(∀(i:Nat) (v:Value),i<(cs++ds).length->(vs++us++rest)[i]?=some v->v.oneCell'=true) /\
  ∀(i:Nat) (p:PV) (v:Value),(cs++ds)[i]?=some p->(vs++us++rest)[i]?=some v->Rel C S w p v:=by
 obtain⟨h1,h2,h3⟩:=h;obtain⟨k1,a,b⟩:=k;simp only[BY,AH]at h1 h2 h3 k1 a b;grind
end
theorem Sim.nilObject'(h:Sim C S w){o ver:Nat}(hf:Fresh C S o ver)(e:TypeId):
  Sim (C.put o ver none) (S.set o (.cells ver e [])) w/\Step C S w (C.put o ver none) (S.set o (.cells ver e [])) w:=by
 have a:∀i,i≠o->(C.put o ver none).loc i=C.loc i:=λi hi=>by simp_all[Ctx.put]
 have g:(C.put o ver none).loc o=none:=by simp[Ctx.put]
 have st:Step C S w (C.put o ver none) (S.set o (.cells ver e [])) w :=
  Sim.step_new hf rfl _ rfl ⟨rfl,Ag _⟩ rfl (Ag _) (λ_ _=>rfl) (λb k n=>nomatch n)
 refine⟨⟨?_,?_,?_,?_,?_⟩,st⟩;intro i ho;by_cases hc:i=o;grind[Ctx.put];rw[q10 _ _ _ _ hc]at ho;have:=h.lt i ho;grind[Ctx.put];intro i v hv;by_cases hc:i=o;subst hc;rw[q11]at hv;cases hv;grind[Ctx.put];rw[q10 _ _ _ _ hc]at hv;have:=h.clk i v hv;grind[Ctx.put];intro i o' b k k' ho c hl d;by_cases hc:i=o;simp_all;by_cases f:o'=o;simp_all;rw[a i hc]at hl;rw[a o' f]at d;rw[q10 _ _ _ _ hc]at ho;rw[q10 _ _ _ _ f]at c;exact h.J i o' b k k' ho c hl d;intro i ver q cs' hs;by_cases hc:i=o;simp_all[q11];rw[q10 _ _ _ _ hc]at hs;obtain hn|⟨b,k,r,g1,j,g3,g4,s,t⟩:=h.cells i ver q cs' hs;simp_all;exact .inr ⟨b,k,r,(a i hc).trans g1,j,g3,g4,s,λi p v u hv=>(t i p v u hv).mono st⟩;intro i ver es hs;by_cases hc:i=o;simp_all[q11];rw[q10 _ _ _ _ hc]at hs;obtain⟨b,k,ms,cl,g1,j,g3,g4⟩:=h.maps i ver es hs;exact⟨b,k,ms,cl,(a i hc).trans g1,j,g3,λi x m l hm=>⟨(g4 i x m l hm).1,(g4 i x m l hm).2.mono st⟩⟩
section
variable {P:Program} {r:Rd} {n N:Nat} {Q:Exit->(Nat->PV)->Store->Prop} {F:Nat->PV} {S:Store}
structure ElemOk (P:Program) (t e:TypeId) (z:Value) (by_:Nat):Prop where
 ty:P.underlying t=some (.slice e)
 pos:P.cellsOf e≠0
 zero:Program.zeroOf P e=some z
 zsize:z.cells.size=P.cellsOf e
 bytes:Program.bytesOf' P e=some by_
 bpos:by_≠0
def QL(P:Program)(t u:TypeId):Bool:=u==t||(match P.underlying u with|some .string=>true|_=>false)
variable {ty:TypeId}
def Hj{u e:TypeId}(b:P.underlying t=some (.slice e))(a:QL P t u=true)(s x:Value)(w:World):(Builtin.append_ #[t,u] ty #[s,x]).run P w=(Builtin.append_ #[t,t] ty #[s,x]).run P w:=by
 unfold QL at a;rw[Dl]at a;obtain a|a:=a;rw[eq_of_beq a];have hs:P.underlying u=some .string:=by split at a;omega;cases a
 unfold Builtin.append_;simp only[AH,Bi,Bj,Sem.run_bind,run_underlying b,Aq];cases s with
 |slice base n cap=>simp only[Sem.run_bind,run_underlying b,run_underlying hs,Aq,Sem.run_pure]
 |_=>rfl
def Wl{o:Oper}{s x:Operand}{u e:TypeId}{v:Value}(ho:o.op=.call { callee:=.builtin .append,args:=#[s,x],argTypes:=#[t,u] })(b:P.underlying t=some (.slice e))(c:QL P t u=true)
  (h:(Builtin.append_ #[t,t] o.type #[a.eval s,a.eval x]).run P w=.ok v w'):(execOp a.eval o).run P w=.ok (.value v) w':=by
 rw[<-Hj b c]at h;unfold execOp;grind[resolve,invoke,builtin,Sem.run_bind,Sem.run_pure,Result.andThen_ok]
theorem fm{o:Oper}{s x:Operand}{u e:TypeId}{by_ id ver m:Nat}{ds:List PV}(ho:o.op=.call { callee:=.builtin .append,args:=#[s,x],argTypes:=#[t,u] })(hu:QL P t u=true)
  (q:ElemOk P t e z by_) (hs:ev F s=.sl id ver (P.cellsOf e) 0 k) (hid:S id=.cells ver e cs) (hk:k*P.cellsOf e<=cs.length) (hx:YY S (P.cellsOf e) (ev F x)=some (m,ds)) (hb:(k+m)*by_<=140737488355328) (hm:k+m<=140737488355328)
  (hK:K (.sl id (ver+1) (P.cellsOf e) 0 (k+m)) (S.set id (.cells (ver+1) e (cs.take (k*P.cellsOf e)++ds)))):PO P r n o F S K:=by
 intro G hG C w a N st next Q' a0;have e1:ev G s=_:=(hG s (by simp_all[Op.operands,Call.operands])).trans hs;have e2:ev G x=ev F x:=hG x (by simp_all[Op.operands,Call.operands]);rw[<-e2]at hx;have r1:=st.ev s;rw[e1]at r1;obtain⟨news,f,a4,_⟩:=cg (P:=P) st.sim hx (st.ev x);have b7:∀c,o.op≠.defer c:=by intro c hc;rw[ho]at hc;cases hc
 have d4:k+m<=xO:=AF hm (by simp[xO]);generalize hv:a.eval s=v at r1;cases r1 with
 |sl h1 h2 h3 =>
 obtain⟨ad,cap,rfl,q1,q2,q3,q4⟩:=h1;have c8:=(h3 ver (by rw[hid];rfl)).2 rfl;have a6:=st.sim.cells id ver e cs hid;have a1:∀(C':Ctx) (w':World) (b8:Option Addr) (y b':Nat),(C.next<=C'.next/\ver+1<C'.clock)->C'.loc id=some (b',y*P.cellsOf e)->b8=some ⟨b',0,none⟩->k+m<=y->y<=maxLen ->
   Rel C' (S.set id (.cells (ver+1) e (cs.take (k*P.cellsOf e)++ds))) w' (.sl id (ver+1) (P.cellsOf e) 0 (k+m)) (.slice b8 (k+m) y):=by
  intro C' w' b8 y b' hn hl d1 d6 d7;refine .sl ⟨_,_,rfl,d6,d4,d7,λ_=>⟨_,_,d1⟩⟩ ⟨Br h2.1 hn.1,hn.2⟩ λv0 a7=>?_;rw[q11]at a7;cases a7;exact⟨Ag _,λ_=>.inr ⟨b',_,_,_,hl,rfl,λ_=>⟨d1,rfl⟩,λ_=>d1⟩⟩
 obtain⟨hn,d0⟩|⟨b,kk,c,g1,g2,g3,g4,g5,g6⟩:=a6
 ·-- nothing yet
  have hz:k*P.cellsOf e=0:=by rw[d0]at hk;simpa using hk
  have e4:k=0:=by obtain h|h:=Nat.mul_eq_zero.1 hz;exact h;exact absurd h q.pos
  obtain⟨_,_,_,d8⟩|⟨b',k',_,_,z1,_⟩:=c8;cases d8;subst d0;simp only[C9,DJ,AK,AV]at hK hb hm d4 a1;by_cases d9:m=0;subst d9;have c6:news=[]:=As (by rw[f.size];simp);have e0:ds=[]:=As (by rw[a4.1,c6];rfl);subst c6;subst e0;have d:=Wl (P:=P) (a:=a) (w:=w) ho q.ty hu (by rw[hv];exact fj (ty:=o.type) q.ty q.pos f (Bx 0));obtain⟨t1,t2⟩:=st.sim.turn (l:=C.loc id) (ver':=ver+1) (cs':=[]) hid D9 (λh=>absurd h D9) (w':=w) ⟨⟨rfl,rfl,rfl,Ag _,λ_ _ _=>rfl⟩,Ag _⟩ (.inl ⟨hn,rfl⟩);refine qx b7 d (a0 _ _ _ _ _ hK ?_ t1 t2);refine .sl ⟨_,_,rfl,Ag _,by omega,by omega,λh=>absurd rfl h⟩ ⟨h2.1,by simp only[Ctx.at];omega⟩ λv0 a7=>?_;rw[q11]at a7;cases a7;exact⟨Ag _,λ_=>.inl ⟨by simp[Ctx.at,hn],rfl,rfl,rfl⟩⟩;have d:=Wl (P:=P) (a:=a) (w:=w) ho q.ty hu (by rw[hv];exact cd (ty:=o.type) (olds:=[]) q.ty q.pos q.zero q.bytes f (by simp[Builtin.firstCells]) D9 (by simpa using hb) q.bpos);have d2:m<=grownCap w m 0 e:=by have:=grownCap_ge w m 0 e;exact this
  have d3:grownCap w m 0 e<=maxLen:=grownCap_le_maxLen w m 0 e (by unfold maxLen;omega);simp only[AV]at d;have a8:(#[]++news.toArray++Builtin.zeroCells z.cells (grownCap w m 0 e-m):Array Value).size=grownCap w m 0 e*P.cellsOf e:=by simp only[Cr,BY,Aj,AV,size_zeroCells,q.zsize,f.size];rw[<-Nat.add_mul];congr 1;omega
  have g:=Wj (cs:=[]) (vs:=[]) (by simp[RelL]) a4 (Builtin.zeroCells z.cells (grownCap w m 0 e-m)).toList;simp only[AK]at g;have a2:∀i:Nat,(#[]++news.toArray++Builtin.zeroCells z.cells (grownCap w m 0 e-m):Array Value)[i]?=(news++(Builtin.zeroCells z.cells (grownCap w m 0 e-m)).toList)[i]?:=by intro i;rw[<-Array.getElem?_toList];simp
  obtain⟨t1,t2⟩:=st.sim.turn (l:=some (w.heap.size,grownCap w m 0 e*P.cellsOf e)) (ver':=ver+1) (cs':=ds) hid D9 (λh=>absurd h D9)
   (w':=w.drew.alloc (.cells (#[]++news.toArray++Builtin.zeroCells z.cells (grownCap w m 0 e-m)) e)) ⟨⟨rfl,rfl,rfl,by simp,λj hj _=>Z7 w.drew _ j hj⟩,C4 _⟩
   (.inr ⟨w.heap.size,_,_,rfl,.inl (Ag _),QH w.drew _,a8,by rw[<-a8];have:=g.1;simp at this ⊢;omega,λi v hi hv=>g.2.1 i v hi (by rw[<-a2];exact hv),λi p v hp hv=>g.2.2 i p v hp (by rw[<-a2];exact hv)⟩)
  refine qx b7 d (a0 _ _ _ _ _ hK ?_ t1 t2);have:=a1 (C.at id (ver+1) (some (w.heap.size,grownCap w m 0 e*P.cellsOf e))) (w.drew.alloc (.cells (#[]++news.toArray++Builtin.zeroCells z.cells (grownCap w m 0 e-m)) e)) (some ⟨w.heap.size,0,none⟩) (grownCap w m 0 e) w.heap.size ⟨Ag _,by simp only[Ctx.at];omega⟩ (by simp[Ctx.at]) rfl d2 d3;omega;rw[hn]at z1;cases z1
 -- it lies in block b
 obtain⟨z1,_⟩|⟨b',k',b8,y,z1,z2,z3,z4⟩:=c8;rw[g1]at z1;cases z1;rw[g1]at z1;cases z1;cases z2;obtain⟨rfl,a9⟩:=z3 rfl;have a5:c.size=cap*P.cellsOf e:=g3.trans a9.symm;by_cases a3:k+m<=cap;have d:=Wl (P:=P) (a:=a) (w:=w) ho q.ty hu (by rw[hv];exact Hi (ty:=o.type) q.ty q.pos f g2 a3 a5);have d5:k*P.cellsOf e<=c.size:=by rw[a5];exact Cp _ q1
 have e3:k*P.cellsOf e+news.length<=c.size:=by rw[f.size,a5,<-Nat.add_mul];exact Cp _ a3
 have hold:RelL C S w (cs.take (k*P.cellsOf e)) (c.toList.take (k*P.cellsOf e)).toArray:=by refine⟨by simp;omega,λi v hv=>?_,λi p v hp hv=>?_⟩;rw[AH]at hv;have hi:=(Af.1 hv).1;simp only[AA]at hi;rw[AP D9,Array.getElem?_toList]at hv;exact g5 i v D9 hv;have hi:=(Af.1 hp).1;simp only[AA]at hi;rw[AP D9]at hp;rw[AH,AP D9,Array.getElem?_toList]at hv;exact g6 i p v hp hv
 have g:=Wj hold a4 (c.toList.drop (k*P.cellsOf e+news.length));obtain⟨t1,t2⟩:=st.sim.turn (l:=C.loc id) (ver':=ver+1) (cs':=cs.take (k*P.cellsOf e)++ds) hid D9 (λh=>absurd h D9)
  (w':=w.setRow b (c.toList.take (k*P.cellsOf e)++news++c.toList.drop (k*P.cellsOf e+news.length)).toArray)
  (by rw[g1];exact⟨⟨rfl,rfl,rfl,by simp,λj hj c6=>setRow_other w b j _ (λe=>c6 (by rw[e];rfl))⟩,Ag _⟩)
  (.inr ⟨b,cap*P.cellsOf e,_,by rw[g1,a9],.inr (by rw[g1];rfl),setRow_heap w b c _ e _ g2,by simp;omega,by have:=g.1;simp at this ⊢;omega,λi v hi hv=>g.2.1 i v hi (by rw[AH]at hv;exact hv),λi p v hp hv=>g.2.2 i p v hp (by rw[AH]at hv;exact hv)⟩)
 refine qx b7 d (a0 _ _ _ _ _ hK ?_ t1 t2);exact a1 _ _ _ cap b ⟨Ag _,by simp only[Ctx.at];omega⟩ (by simp[Ctx.at,g1,a9]) rfl a3 q3;have c7:=fk (P:=P) (w:=w.drew) (b:=b) (k:=k) (cap:=cap) (sz:=P.cellsOf e) (c:=c) (e:=e) (fz:=(0,0)) g2 0 D9;rw[AV]at c7;have d:=Wl (P:=P) (a:=a) (w:=w) ho q.ty hu (by rw[hv];exact cd (ty:=o.type) (olds:=(c.extract 0 (k*P.cellsOf e)).toList) q.ty q.pos q.zero q.bytes f D9 D9 hb q.bpos);have d2:=grownCap_ge w (k+m) cap e;have d3:grownCap w (k+m) cap e<=maxLen:=grownCap_le_maxLen w (k+m) cap e (by unfold maxLen;omega);have d5:k*P.cellsOf e<=c.size:=by rw[a5];exact Cp _ q1
 rw[Array.toArray_toList]at d;have a8:(c.extract 0 (k*P.cellsOf e)++news.toArray++Builtin.zeroCells z.cells (grownCap w (k+m) cap e-(k+m)):Array Value).size=grownCap w (k+m) cap e*P.cellsOf e:=by simp only[Cr,BY,size_zeroCells,q.zsize,f.size,Array.size_extract,D6,Bm d5,<-Nat.add_mul];congr 1;omega
 have hold:RelL C S w (cs.take (k*P.cellsOf e)) (c.extract 0 (k*P.cellsOf e)).toList.toArray:=by rw[Array.toArray_toList];refine⟨by simp;omega,λi v hv=>?_,λi p v hp hv=>?_⟩;rw[B5]at hv;split at hv;rw[AV]at hv;exact g5 i v D9 hv;cases hv;have hi:=(Af.1 hp).1;simp only[AA]at hi;rw[AP D9]at hp;rw[B5]at hv;split at hv;rw[AV]at hv;exact g6 i p v hp hv;omega
 have g:=Wj hold a4 (Builtin.zeroCells z.cells (grownCap w (k+m) cap e-(k+m))).toList;have a2:∀i:Nat,(c.extract 0 (k*P.cellsOf e)++news.toArray++Builtin.zeroCells z.cells (grownCap w (k+m) cap e-(k+m)):Array Value)[i]? =
   ((c.extract 0 (k*P.cellsOf e)).toList++news++(Builtin.zeroCells z.cells (grownCap w (k+m) cap e-(k+m))).toList)[i]?:=by
  intro i;rw[<-Array.getElem?_toList];simp
 obtain⟨t1,t2⟩:=st.sim.turn (l:=some (w.heap.size,grownCap w (k+m) cap e*P.cellsOf e)) (ver':=ver+1) (cs':=cs.take (k*P.cellsOf e)++ds) hid D9 (λh=>absurd h D9)
  (w':=w.drew.alloc (.cells (c.extract 0 (k*P.cellsOf e)++news.toArray++Builtin.zeroCells z.cells (grownCap w (k+m) cap e-(k+m))) e)) ⟨⟨rfl,rfl,rfl,by simp,λj hj _=>Z7 w.drew _ j hj⟩,C4 _⟩
  (.inr ⟨w.heap.size,_,_,rfl,.inl (Ag _),QH w.drew _,a8,by rw[<-a8];have:=g.1;simp at this ⊢;omega,λi v hi hv=>g.2.1 i v hi (by rw[<-a2];exact hv),λi p v hp hv=>g.2.2 i p v hp (by rw[<-a2];exact hv)⟩)
 refine qx b7 d (a0 _ _ _ _ _ hK ?_ t1 t2);exact a1 _ _ _ (grownCap w (k+m) cap e) w.heap.size ⟨Ag _,by simp only[Ctx.at];omega⟩ (by simp[Ctx.at]) rfl d2 d3
def Hk{o:Oper}{s x:Operand}{e:TypeId}{id ver m:Nat}{ds:List PV}(ho:o.op=.call { callee:=.builtin .append,args:=#[s,x],argTypes:=#[t,t] })
  (a:ElemOk P t e z f) (hs:ev F s=.sl id ver (P.cellsOf e) 0 k) (hid:S id=.cells ver e cs) (b:k*P.cellsOf e<=cs.length) (hx:YY S (P.cellsOf e) (ev F x)=some (m,ds)) (hb:(k+m)*f<=140737488355328) (hm:k+m<=140737488355328)
  (c:K (.sl id (ver+1) (P.cellsOf e) 0 (k+m)) (S.set id (.cells (ver+1) e (cs.take (k*P.cellsOf e)++ds)))):PO P r n o F S K :=
 fm ho (by simp[QL]) a hs hid b hx hb hm c
def Hl{c:Code}(d e sz:Nat)(k:F d=.sc (.slice none 0 0))(h:∀C:Ctx,S C.next=.dead->∃id v,Fresh C S id v/\PW P r n N c Q (vH F d (.sl id v sz 0 0)) (S.set id (.cells v e []))):PW P r n N c Q F S:=by
 intro C w a st;obtain⟨id,ver,f,h⟩:=h C st.sim.free;obtain⟨k1,g⟩:=st.sim.nilObject' f e;have j:St r (C.put id ver none) (S.set id (.cells ver e [])) w N (vH F d (.sl id ver sz 0 0)) a:=by refine⟨k1,st.size,λi=>?_,r.keep g st.v⟩;by_cases hi:i=d;subst hi;rw[lN];have:=st.fr i;rw[k]at this;generalize a.tmps.getD i undef=v at this;cases this;refine .sl ⟨_,_,rfl,Ag _,by unfold xO;omega,by unfold maxLen;omega,λh=>absurd rfl h⟩ (by simp only[Ctx.put];omega) λv0 b=>?_;rw[q11]at b;cases b;simp[Ctx.put];rw[lO _ _ _ _ hi];exact(st.fr i).mono g
 refine wpIn_mono (h _ w a j) ?_;rintro e a' w' ⟨F2,S2,C2,h1,h2,h3,l⟩;exact⟨F2,S2,C2,h1,h2,h3,g.trans l⟩
end
attribute [simp] Wi Xl ZE PX Row.pures Xk y8 gd uf jN bN bJ ev Jo yo vH bC bA unP eU Xf bD Yq Z8 We bM bL bK Wf QI xB PV.cells PV.one PV.fit Value.oneCell' zr vI bS vq bH Value.cells xh bG Yp eQ eP YV Wg YY ZG
@[simp] theorem ZzG(a b:Int):(a==b)=decide (a=b):=rfl
def Jr(n:Nat)(z:Value):qr (n+1) z=xh z++qr n z:=by unfold qr xh;generalize z.cells=c;rw[Nat.succ_mul,Nat.add_comm,Dx,List.map_append,B3];congr 1;apply A3;intro i;by_cases h:i<c.size;simp[h,Dd h];simp[h];simp
@[simp] theorem ZzH(z:Value):qr 0 z=[]:=by simp[qr]
@[simp] theorem ZzI(z:Value):qr 1 z=xh z:=by rw[Jr 0 z];simp
@[simp] theorem ZzJ(z:Value):qr 2 z=xh z++xh z:=by rw[Jr 1 z];simp
@[simp] theorem ZzK(z:Value):qr 3 z=xh z++(xh z++xh z):=by rw[Jr 2 z];simp
@[simp] theorem ZzL(z:Value):qr 4 z=xh z++(xh z++(xh z++xh z)):=by rw[Jr 3 z];simp
@[simp] theorem ZzM(cs:List PV)(off:Nat):yr cs off []=cs:=by simp[yr]
@[simp] theorem ZzN(c d:PV)(cs ds:List PV):yr (c::cs) 0 (d::ds)=d::yr cs 0 ds:=by simp[yr]
@[simp] theorem ZzO(c d:PV)(cs ds:List PV)(k:Nat):yr (c::cs) (k+1) (d::ds)=c::yr cs k (d::ds):=by simp[yr,Nat.add_right_comm k 1]
@[simp] theorem ZzP(cs ds:List PV)(off:Nat)(h:off+ds.length<=cs.length):(yr cs off ds).length=cs.length:=by simp[yr];omega
@[simp] theorem fp(S:Store)(o:Nat)(x:Ob):S.set o x o=x:=q11 S o x
theorem xl(S:Store)(o i:Nat)(x:Ob)(h:i≠o):S.set o x i=S i:=q10 S o i x h
@[simp] theorem ZzQ(S:Store)(o:Nat)(x y:Ob):(S.set o x).set o y=S.set o y:=Store.set_set S o x y
theorem YZ(x:Int)(h1:-9223372036854775808<=x)(h2:x<=9223372036854775807):i64.wrap x=x:=IntWalk.i64_in x ⟨h1,h2⟩
def zU(x:Int):Prop:=-9223372036854775808<=x/\x<=9223372036854775807
def yk(x:Int):PV:=.sc (.int .i64 x)
def uh(b:Bool):PV:=.sc (.bool b)
theorem Wm{α:Type}(enc:α->List PV)(k:Nat)(a:∀x,(enc x).length=k):∀(l:List α) (i:Nat),(l.flatMap enc).drop (i*k)=(l.drop i).flatMap enc
 |l,0=>by simp
 |[],i+1=>by simp
 |x::xs,i+1=>by rw[AB,List.drop_succ_cons,<-Wm enc k a xs i,Cu,a,Nat.add_mul,D5];simp_all
variable {α:Type}
def mB(enc:α->List PV)(k:Nat)(a:∀x,(enc x).length=k)(l:List α)(i:Nat)(hi:i<l.length):(l.flatMap enc).drop (i*k)=enc l[i]++(l.drop (i+1)).flatMap enc:=by grind[Wm,List.drop_eq_getElem_cons]
theorem Wn(enc:α->List PV)(k:Nat)(a:∀x,(enc x).length=k):∀(l:List α),(l.flatMap enc).length=l.length*k
 |[]=>by simp
 |x::xs=>by rw[AB,length_append,a,Wn enc k a xs,Ae,Nat.add_mul];omega
theorem Js(enc:α->List PV)(k:Nat)(a:∀x,(enc x).length=k):∀(l:List α) (i:Nat),(l.flatMap enc).take (i*k)=(l.take i).flatMap enc
 |l,0=>by simp
 |[],i+1=>by simp
 |x::xs,i+1=>by rw[AB,CK,AB,<-Js enc k a xs i,List.take_append,a,Nat.add_mul,D5];grind
theorem Sim.turnMap(h:Sim C S w){o ver:Nat}{es es':List (Value × PV)}(hs:S o=.map ver es)(hl:C.loc o=some (b,k))(f:w.grownBy w' (some b)/\w.drawn<=w'.drawn){ms:Array MapEntry}{cl:Nat}
  (hb:w'.heap[b]?=some (.map ms cl)) (n:es'.length=ms.size) (z:∀(i:Nat) (e:Value × PV) (m:MapEntry),es'[i]?=some e->ms[i]?=some m->m.key=e.1/\Rel C S w e.2 m.val) :
  Sim C (S.set o (.map ver es')) w'/\Step C S w C (S.set o (.map ver es')) w':=by
 have q:S o≠.dead:=by rw[hs];simp
 have g:∀i b' k',i≠o->S i≠.dead->C.loc i=some (b',k')->some b'≠some b:=by intro i b' k' hi t l d;cases d;exact hi (h.J i o b k' k t q l hl)
 have a:∀i,S.set o (.map ver es') i≠.dead->S i≠.dead:=by intro i hi;by_cases hc:i=o;simp_all;simp_all[q10]
 have st:Step C S w C (S.set o (.map ver es')) w':=by refine⟨f.1.os,⟨f.1.tape,f.2⟩,f.1.output,f.1.size,Ag _,Ag _,λc hc hM=>⟨f.1.block c hc ?_,?_⟩,?_⟩;intro d;cases d;exact hM ⟨o,k,q,hl⟩;rintro⟨i,k',t,l⟩;exact hM ⟨i,k',a i t,l⟩;intro i v1 hv;by_cases hc:i=o;subst hc;rw[q11]at hv;cases hv;exact .inr ⟨ver,by rw[hs];rfl,Ag _,λ_=>rfl⟩;simp_all[q10]
 refine⟨⟨λi hi=>h.lt i (a i hi),λi v hv=>(by by_cases hc:i=o;subst hc;rw[q11]at hv;cases hv;exact h.clk i ver (by rw[hs];rfl);rw[q10 _ _ _ _ hc]at hv;exact h.clk i v hv),λi j b1 k1 k2 hi hj=>h.J i j b1 k1 k2 (a i hi) (a j hj),?_,?_⟩,st⟩;intro i v' e' ds hi;by_cases hc:i=o;simp_all;rw[q10 _ _ _ _ hc]at hi;obtain hn|⟨b1,k1,c',g1,r,g3,g4,g5,g6⟩:=h.cells i v' e' ds hi;exact .inl hn;exact .inr ⟨b1,k1,c',g1,(f.1.block b1 (jh r) (g i b1 k1 hc (by rw[hi];simp) g1)).trans r,g3,g4,g5,λj p v hp hv=>(g6 j p v hp hv).mono st⟩;intro i s fs hi;by_cases hc:i=o;subst hc;rw[q11]at hi;cases hi;exact⟨b,k,ms,cl,hl,hb,n,λj e m d hm=>⟨(z j e m d hm).1,(z j e m d hm).2.mono st⟩⟩;rw[q10 _ _ _ _ hc]at hi;obtain⟨b1,k1,u,y,g1,r,g3,g4⟩:=h.maps i s fs hi;exact⟨b1,k1,u,y,g1,(f.1.block b1 (jh r) (g i b1 k1 hc (by rw[hi];simp) g1)).trans r,g3,λj x m d hm=>⟨(g4 j x m d hm).1,(g4 j x m d hm).2.mono st⟩⟩
theorem Sim.newMap'(h:Sim C S w){o ver:Nat}(hf:Fresh C S o ver):
  Sim (C.put o ver (some (w.heap.size,0))) (S.set o (.map ver [])) (w.alloc (.map #[] 0))/\Step C S w (C.put o ver (some (w.heap.size,0))) (S.set o (.map ver [])) (w.alloc (.map #[] 0)):=by
 have a:∀i,i≠o->(C.put o ver (some (w.heap.size,0))).loc i=C.loc i:=λi hi=>by simp_all[Ctx.put]
 have c:(C.put o ver (some (w.heap.size,0))).loc o=some (w.heap.size,0):=by simp[Ctx.put]
 have st:Step C S w (C.put o ver (some (w.heap.size,0))) (S.set o (.map ver [])) (w.alloc (.map #[] 0)) :=
  Sim.step_new hf rfl _ rfl ⟨rfl,Ag _⟩ rfl EA (λb hb=>Z7 w _ b hb) (λb k x=>by simp_all)
 refine⟨⟨?_,?_,?_,?_,?_⟩,st⟩;intro i ho;by_cases hc:i=o;grind[Ctx.put];rw[q10 _ _ _ _ hc]at ho;have:=h.lt i ho;grind[Ctx.put];intro i v hv;by_cases hc:i=o;subst hc;rw[q11]at hv;cases hv;grind[Ctx.put];rw[q10 _ _ _ _ hc]at hv;have:=h.clk i v hv;grind[Ctx.put];intro i j b k k' ho g hl d;by_cases hc:i=o<;>by_cases f:j=o;omega;subst hc;rw[c]at hl;rw[a j f]at d;rw[q10 _ _ _ _ f]at g;have:=h.M_lt ⟨j,k',g,d⟩;simp_all;subst f;rw[c]at d;rw[a i hc]at hl;rw[q10 _ _ _ _ hc]at ho;have:=h.M_lt ⟨i,k,ho,hl⟩;simp_all;rw[a i hc]at hl;rw[a j f]at d;rw[q10 _ _ _ _ hc]at ho;rw[q10 _ _ _ _ f]at g;exact h.J i j b k k' ho g hl d;intro i ver' q cs' hs;by_cases hc:i=o;simp_all;rw[q10 _ _ _ _ hc]at hs;obtain hn|⟨b,k,r,g1,l,g3,g4,s,t⟩:=h.cells i ver' q cs' hs;simp_all;exact .inr ⟨b,k,r,(a i hc).trans g1,(Z7 w _ b (jh l)).trans l,g3,g4,s,λi p v u hv=>(t i p v u hv).mono st⟩;intro i ver' es hs;by_cases hc:i=o;grind[q11,QH];rw[q10 _ _ _ _ hc]at hs;obtain⟨b,k,ms,cl,g1,l,g3,g4⟩:=h.maps i ver' es hs;exact⟨b,k,ms,cl,(a i hc).trans g1,(Z7 w _ b (jh l)).trans l,g3,λi e m n hm=>⟨(g4 i e m n hm).1,(g4 i e m n hm).2.mono st⟩⟩
def j5(d:TypeDesc)(k:Value):List (Value × PV)->Nat->Option (Option (Nat × PV))
 |[],_=>some none
 |e::es,i =>
  match Instr.sameNow d k e.1 with
  |some true=>some (some (i,e.2))
  |some false=>j5 d k es (i+1)
  |none=>none
def VN(d:TypeDesc):Bool :=
 match d with
 |.int _=>true
 |.string=>true
 |.bool=>true
 |_=>false
section
variable {P:Program} {r:Rd} {n N:Nat} {Q:Exit->(Nat->PV)->Store->Prop} {F:Nat->PV} {S:Store}
theorem cj{k:Value}:∀(es:List (Value × PV)) (ms:List MapEntry) (i:Nat) (a:Option (Nat × PV)),es.length=ms.length ->
  (∀(j:Nat) (e:Value × PV) (m:MapEntry),es[j]?=some e->ms[j]?=some m->m.key=e.1/\Rel C S w e.2 m.val)->j5 d k es i=some a ->
  (a=none/\Instr.findNow d k ms i=some none)\/∃j p v,a=some (j,p)/\Instr.findNow d k ms i=some (some (j,v))/\Rel C S w p v
 |[],[],i,a,_,_,h=>by cases h;exact .inl ⟨rfl,rfl⟩
 |e::es,m::ms,i,a,hl,b,h=>by obtain⟨c,hv⟩:=b 0 e m rfl rfl;simp only[j5]at h;simp only[Instr.findNow,c];split at h;grind;rename_i hs;simp only[hs];exact cj es ms (i+1) a (by simpa using hl) (λj e m f hm=>b (j+1) e m (by simpa using f) (by simpa using hm)) h;cases h
def Wo(a:P.underlying t=some d)(c:VN d=true)(b:Bool)(k:Value)(w:World):(Instr.checkKey b 10000 t k).run P w=.ok () w:=by show (Instr.checkKey b (9999+1) t k).run P w=_;unfold Instr.checkKey;simp only[Sem.run_bind,run_underlying a,Aq];cases d<;>simp[VN]at c<;>rfl
def Y0(ok:Bool)(z:Value)(res:Option (Nat × PV)):PV :=
 match res with
 |some (_,p)=>if ok=true then .tup [p,.sc (.bool true)] else p
 |none=>if ok=true then .tup [Jo z,.sc (.bool false)] else Jo z
variable {kt et:Nat}{es:List (Value × PV)}
def Ys{o:Oper}{t id ver:Nat}{x i:Operand}{ok:Bool}{k:Value}{l:Option (Nat × PV)}(ho:o.op=.lookup t x i ok)(ht:P.underlying t=some (.map kt et))
  (hk:P.underlying kt=some d) (hd:VN d=true) (hx:ev F x=.mp id ver) (hi:ev F i=.sc k) (hs:S id=.map ver es) (hf:j5 d k es 0=some l) (hz:Program.zeroOf P et=some z)
  (hK:K (Y0 ok z l) S):PO P r n o F S K:=by
 intro G hG C w a N st next Q' f;have e1:=st.ev x;have e2:=st.ev i;rw[(hG x (by simp[ho,Op.operands])).trans hx]at e1;rw[(hG i (by simp[ho,Op.operands])).trans hi]at e2;generalize s:a.eval x=v1 at e1;generalize u:a.eval i=v2 at e2;cases e2;obtain⟨b,k0,ms,cl,g1,g2,g3,g4⟩:=st.sim.maps id ver es hs;cases e1 with
 |mp h1 h2 h3 =>
 obtain⟨b',rfl⟩:=h1;obtain⟨b2,k2,q1,q2⟩:=(h3 ver (by rw[hs];rfl)).2 rfl;rw[g1]at q1;cases q1;cases q2;have y:∀c,o.op≠.defer c:=by intro c hc;rw[ho]at hc;cases hc
 have h:(getObj b).run P w=.ok (.map ms cl) w:=by simp only[getObj,Sem.run,g2]
 have q:=cj (C:=C) (w:=w) es ms.toList 0 l D9 (λj e m he hm=>g4 j e m he EH) hf;obtain⟨rfl,hn⟩|⟨j,p,v,rfl,hn,a0⟩:=q;have g:(execOp a.eval o).run P w=.ok (.value (if ok then .tuple #[z,.bool false] else z)) w:=by unfold execOp;simp only[ho,s,u,Instr.lookup,Sem.run_bind,run_underlying ht,Aq,h,Sem.run_pure,Wo hk hd,Instr.findKey,run_underlying hk,hn,Xg hz]
 refine qx y g (f _ _ _ _ _ hK ?_ st.sim (.refl _ _ _));cases ok;exact bz z;exact .tup rfl (by
  intro i c v hc hv
  match i with
  |0=>grind[bz]
  |1=>have hc:some (PV.sc (.bool false))=some c:=hc;have hv:some (Value.bool false)=some v:=hv;cases hc;cases hv;exact .sc _
  |i+2=>simp at hc)
 have g:(execOp a.eval o).run P w=.ok (.value (if ok then .tuple #[v,.bool true] else v)) w:=by unfold execOp;simp only[ho,s,u,Instr.lookup,Sem.run_bind,run_underlying ht,Aq,h,Sem.run_pure,Wo hk hd,Instr.findKey,run_underlying hk,hn]
 refine qx y g (f _ _ _ _ _ hK ?_ st.sim (.refl _ _ _));cases ok;exact a0;exact .tup rfl (by
  intro i c v hc hv
  match i with
  |0=>simp at hc hv;subst hc;subst hv;omega
  |1=>simp at hc hv;subst hc;subst hv;exact .sc _
  |i+2=>simp at hc)
theorem ck{k:Value}:∀(es:List (Value × PV)) (i j:Nat) (p:PV),j5 d k es i=some (some (j,p))->i<=j/\j<i+es.length
 |[],_,_,_,h=>by cases h
 |e::es,i,j,p,h=>by simp only[j5]at h;split at h;cases h;simp;have:=ck es (i+1) j p h;grind;cases h
theorem mC{k:Value}:∀(es:List (Value × PV)) (i j:Nat) (p:PV),j5 d k es i=some (some (j,p))->∃e,es[j-i]?=some e/\Instr.sameNow d k e.1=some true
 |[],_,_,_,h=>by cases h
 |e::es,i,j,p,h=>by simp only[j5]at h;split at h;simp_all;obtain⟨a,h1,h2⟩:=mC es (i+1) j p h;have:=ck es (i+1) j p h;grind;cases h
theorem Hm(a b:ByteArray):(a==b)=true<->a=b:=by constructor;intro h;cases a;cases b;have h':(ByteArray.mk _).beq (ByteArray.mk _)=true:=h;grind[ByteArray.beq];rintro rfl;cases a;show (ByteArray.mk _).beq (ByteArray.mk _)=true;simp[ByteArray.beq]
def Hn{k:Value}(h:Instr.sameNow d k u=some true):Instr.sameBits 10000 u k=true/\u=k:=by unfold Instr.sameNow at h;grind[Instr.sameBits,Hm]
variable {cl:Nat}
def cn{ms:Array MapEntry}(h:w.heap[b]?=some (.map ms cl)):(getObj b).run P w=.ok (.map ms cl) w:=by simp_all[getObj,Sem.run]
def cq{ms:Array MapEntry}(o:Obj)(h:w.heap[b]?=some (.map ms cl)):(setObj b o).run P w=.ok () (w.putObj b o):=by simp only[setObj,Sem.run,h];rfl
def cr:w.grownBy (w.putObj b o) (some b)/\w.drawn<=(w.putObj b o).drawn :=
 ⟨⟨rfl,rfl,rfl,by simp,λj _ a=>BD (λe=>a (by rw[e]))⟩,Ag _⟩
def jO(k:Value)(p:PV)(es:List (Value × PV))(res:Option (Nat × PV)):List (Value × PV) :=
 match res with
 |some (j,_)=>es.set j (k,p)
 |none=>es++[(k,p)]
def QM{o:Oper}{t id ver:Nat}{x i y:Operand}{k:Value}{l:Option (Nat × PV)}(ho:o.op=.mapUpdate t x i y\/o.op=.insert t x i y)(ht:P.underlying t=some (.map kt et))
  (hk:P.underlying kt=some d) (hd:VN d=true) (hx:ev F x=.mp id ver) (hi:ev F i=.sc k) (hs:S id=.map ver es) (hf:j5 d k es 0=some l)
  (hK:K (.sc undef) (S.set id (.map ver (jO k (ev F y) es l)))):PO P r n o F S K:=by
 intro G hG C w a N st next Q' f;have ops:x∈o.op.operands/\i∈o.op.operands/\y∈o.op.operands:=by obtain ho|ho:=ho<;>simp[ho,Op.operands]
 have e1:=st.ev x;have e2:=st.ev i;have e3:=st.ev y;rw[(hG x ops.1).trans hx]at e1;rw[(hG i ops.2.1).trans hi]at e2;rw[hG y ops.2.2]at e3;generalize a5:a.eval x=v1 at e1;generalize a6:a.eval i=v2 at e2;cases e2;obtain⟨b,k0,ms,cl,g1,z,g3,g4⟩:=st.sim.maps id ver es hs;cases e1 with
 |mp h1 h2 h3 =>
 obtain⟨b',rfl⟩:=h1;obtain⟨b2,k2,q1,q2⟩:=(h3 ver (by rw[hs];rfl)).2 rfl;rw[g1]at q1;cases q1;cases q2;have a0:∀c,o.op≠.defer c:=by intro c hc;obtain ho|ho:=ho<;>(rw[ho]at hc;cases hc)
 have a1:b<w.heap.size:=jh z;have q:=cj (C:=C) (w:=w) es ms.toList 0 l D9 (λj e m h hm=>g4 j e m h EH) hf;have a2:∀(w':World),(Instr.mapUpdate t (.map (some b)) k (a.eval y)).run P w=.ok () w'->(execOp a.eval o).run P w=.ok .skip w':=by intro w' hw;unfold execOp;obtain ho|ho:=ho<;>(simp only[ho,a5,a6,Sem.run_bind,hw,Aq];rfl)
 obtain⟨rfl,hn⟩|⟨j,p,v,rfl,hn,a8⟩:=q;have g:=a2 (w.putObj b (.map (ms.push { key:=k,val:=a.eval y,born:=cl }) (cl+1))) (by simp only[Instr.mapUpdate,Sem.run_bind,run_underlying ht,Aq,cn z,Wo hk hd,Instr.findKey,run_underlying hk,hn,Sem.run_pure,cq _ z]);obtain⟨t1,t2⟩:=st.sim.turnMap (es':=es++[(k,ev F y)]) (ms:=ms.push { key:=k,val:=a.eval y,born:=cl }) (cl:=cl+1) hs g1 cr (B6 a1) (by simp[g3]) EH;exact qx a0 g (f _ _ _ _ _ hK (.sc _) t1 t2);obtain⟨e0,a3,s⟩:=mC es 0 j p hf;rw[D6]at a3;have a9:=ck es 0 j p hf;have u:ms[j]?=some (ms[j]' D9):=EA;have a4:=(g4 j e0 _ a3 u).1;obtain⟨a7,b7⟩:=Hn s;have g:=a2 (w.putObj b (.map (ms.modify j λe=>{ e with key:=k,val:=a.eval y }) cl)) (by simp only[Instr.mapUpdate,Sem.run_bind,run_underlying ht,Aq,cn z,Wo hk hd,Instr.findKey,run_underlying hk,hn,Sem.run_pure,u,AU,Option.getD_some,a4,Instr.keyThatStays,a7,if_true,cq _ z]);obtain⟨t1,t2⟩:=st.sim.turnMap (es':=es.set j (k,ev F y)) (ms:=ms.modify j λe=>{ e with key:=k,val:=a.eval y }) (cl:=cl) hs g1 cr (B6 a1) (by simp[g3]) (by intro jj e m h hm;rw[BL]at hm;rw[BG]at h;by_cases hj:j=jj;subst hj;rw[if_pos rfl]at hm h;rw[u]at hm;rw[if_pos D9]at h;cases h;cases hm;exact⟨rfl,e3⟩;rw[if_neg hj]at hm h;exact g4 jj e m h hm);exact qx a0 g (f _ _ _ _ _ hK (.sc _) t1 t2)
def VO(es:List (Value × PV))(res:Option (Nat × PV)):List (Value × PV) :=
 match res with
 |some (j,_)=>es.eraseIdx j
 |none=>es
def Ho{o:Oper}{t id ver:Nat}{x i:Operand}{k:Value}{h:Option (Nat × PV)}{ts:Array TypeId}(ho:o.op=.call { callee:=.builtin .delete,args:=#[x,i],argTypes:=ts })(s:ts[0]?=some t)(ht:P.underlying t=some (.map kt et))
  (hk:P.underlying kt=some d) (hd:VN d=true) (hx:ev F x=.mp id ver) (hi:ev F i=.sc k) (hs:S id=.map ver es) (hf:j5 d k es 0=some h)
  (hK:K (.tup []) (S.set id (.map ver (VO es h)))):PO P r n o F S K:=by
 intro G hG C w a N st next Q' f;have ops:x∈o.op.operands/\i∈o.op.operands:=by simp[ho,Op.operands,Call.operands]
 have e1:=st.ev x;have e2:=st.ev i;rw[(hG x ops.1).trans hx]at e1;rw[(hG i ops.2).trans hi]at e2;generalize a3:a.eval x=v1 at e1;generalize a4:a.eval i=v2 at e2;cases e2;obtain⟨b,k0,ms,cl,g1,u,g3,g4⟩:=st.sim.maps id ver es hs;cases e1 with
 |mp h1 h2 h3 =>
 obtain⟨b',rfl⟩:=h1;obtain⟨b2,k2,q1,q2⟩:=(h3 ver (by rw[hs];rfl)).2 rfl;rw[g1]at q1;cases q1;cases q2;have y:∀c,o.op≠.defer c:=by intro c hc;rw[ho]at hc;cases hc
 have z:b<w.heap.size:=jh u;have l:=cj (C:=C) (w:=w) es ms.toList 0 h D9 (λj e m q hm=>g4 j e m q EH) hf;have a0:∀(w':World),(Builtin.delete_ ts o.type #[.map (some b),k]).run P w=.ok (.tuple #[]) w'->(execOp a.eval o).run P w=.ok (.value (.tuple #[])) w':=by intro w' hw;unfold execOp;simp only[ho,a3,a4,resolve,invoke,builtin,Sem.run_bind,Sem.run_pure,Aq,DM,Aw,Bf,hw]
 obtain⟨rfl,hn⟩|⟨j,p,v,rfl,hn,a6⟩:=l;have g:=a0 (w.putObj b (.map ms cl)) (by simp only[Builtin.delete_,s,AH,Bi,Bj,Sem.run_bind,run_underlying ht,Aq,cn u,Wo hk hd,Instr.findKey,run_underlying hk,hn,Sem.run_pure,cq _ u]);obtain⟨t1,t2⟩:=st.sim.turnMap (es':=es) (ms:=ms) (cl:=cl) hs g1 cr (B6 z) g3 g4;exact qx y g (f _ _ _ _ _ hK (.tup rfl EA) t1 t2);have a7:=ck es 0 j p hf;have g:=a0 (w.putObj b (.map (ms.eraseIdxIfInBounds j) cl)) (by simp only[Builtin.delete_,s,AH,Bi,Bj,Sem.run_bind,run_underlying ht,Aq,cn u,Wo hk hd,Instr.findKey,run_underlying hk,hn,Sem.run_pure,cq _ u]);have a1:(ms.eraseIdxIfInBounds j).toList=ms.toList.eraseIdx j:=by unfold Array.eraseIdxIfInBounds;rw[dif_pos D9];simp
 have a2:(es.eraseIdx j).length=(ms.eraseIdxIfInBounds j).size:=by
  have a5:es.length=ms.toList.length:=by simpa using g3
  have:(es.eraseIdx j).length=(ms.eraseIdxIfInBounds j).toList.length:=by rw[a1,List.length_eraseIdx,List.length_eraseIdx,a5]
  exact this.trans Array.length_toList
 obtain⟨t1,t2⟩:=st.sim.turnMap (es':=es.eraseIdx j) (ms:=ms.eraseIdxIfInBounds j) (cl:=cl) hs g1 cr (B6 z) a2 (by intro jj e m q hm;rw[<-Array.getElem?_toList,a1,DR]at hm;rw[DR]at q;split at q;rename_i hj;rw[if_pos hj]at hm;exact g4 jj e m q (by rw[<-Array.getElem?_toList];exact hm);rename_i hj;rw[if_neg hj]at hm;exact g4 (jj+1) e m q (by rw[<-Array.getElem?_toList];exact hm));exact qx y g (f _ _ _ _ _ hK (.tup rfl EA) t1 t2)
def Hq{o:Oper}(ho:o.op=.makeMap t none)(d:∀C:Ctx,S C.next=.dead->∃id v,Fresh C S id v/\K (.mp id v) (S.set id (.map v []))):PO P r n o F S K:=by
 intro G _ C w a N st next Q' b;obtain⟨id,ver,e,d⟩:=d C st.sim.free;obtain⟨k1,f⟩:=st.sim.newMap' e;refine qx (x:=.value (.map (some w.heap.size))) (w':=w.alloc (.map #[] 0)) EI ?_ (b _ _ _ _ (.mp id ver) d ?_ k1 f)
 simp_all[execOp,Instr.makeMap];refine .mp ⟨_,rfl⟩ (by simp only[Ctx.put];omega) λv0 c=>?_;rw[q11]at c;cases c;simp[Ctx.put]
def Wp(P:Program)(t:TypeId)(name:String)(k:FuncId):Prop:=∀(v:Value) (w:World),(method (P.types.size+Made.depth) t v name).run P w=.ok (k,v) w
def Y1{o:Oper}{c:Call}{x:Operand}{e:String}{q:PV}{k:FuncId}{R:PV->Store->Prop}(ho:o.op=.call c)(hc:c.callee=.invoke x e)(hx:ev F x=.ifc t q)(hM:Wp P t e k)(hE:qU P k)
  (h:PCalls P k (q::c.args.toList.map (ev F)) S R) (hK:∀p S',R p S'->K p S'):PO P r n o F S K:=by
 intro G hG C w a N st next Q' z;have a0:x∈o.op.operands:=by simp[ho,Op.operands,Call.operands,hc]
 have a1:ev G x=.ifc t q:=(hG x a0).trans hx;have f:∀y∈c.args.toList,ev G y=ev F y:=λy hy=>hG y (by grind[Op.operands,Call.operands]);have g:c.args.toList.map (ev F)=c.args.toList.map (ev G):=AQ λy hy=>(f y hy).symm;rw[g]at h;have b:=st.ev x;rw[a1]at b;generalize hv:a.eval x=v at b;cases b with
 |ifc hq =>
 rename_i u;have j:(execOp a.eval o).run P w=.ok (.enter k (#[u]++c.args.map a.eval)) w:=by
  unfold execOp;have a2:(#[Value.iface t u]++c.args.map a.eval).extract 1 (#[Value.iface t u]++c.args.map a.eval).size=c.args.map a.eval:=by apply Array.ext;simp;simp
  have m:(#[Value.iface t u]++c.args.map a.eval)[0]?=some (.iface t u):=by rw[BC EA];rfl
  simp only[ho,resolve,hc,hv,Sem.run_bind,Sem.run_pure,Aq,invoke,Array.append_empty,m,a2,callMethod,run_program,hM u w];exact hE _ w
 refine qx (x:=.enter k (#[u]++c.args.map a.eval)) (w':=w) EH j ?_;rw[Oper.uponIn_enter];refine⟨λhd=>?_,?_⟩;cases hd;have d:=VG (l:=c.args.toList) st.ev;simp only[Array.toArray_toList]at d;have key:=h C w (#[u]++c.args.map a.eval) st.sim ED (by
  intro i p v s hv;cases i with
  |zero =>
  rw[BC EA]at hv;have s:some q=some p:=s;have hv:some u=some v:=hv;cases s;cases hv;exact hq
  |succ i =>
  rw[Bj]at s;rw[B1 EA]at hv;exact d.2 i p v s (by simpa using hv))
 refine(fe key).mono ?_;grind
end
section
variable {P:Program} {r:Rd} {n N:Nat} {Q:Exit->(Nat->PV)->Store->Prop} {F:Nat->PV} {S:Store}
def mD(C:Ctx)(S:Store)(w:World)(o ver sz e:Nat):Rel (C.put o ver none) (S.set o (.cells ver e [])) w (.sl o ver sz 0 0) (.slice none 0 0):=by refine .sl ⟨_,_,rfl,Ag _,by unfold xO;omega,by unfold maxLen;omega,λh=>absurd rfl h⟩ (by simp only[Ctx.put];omega) λv0 a=>?_;rw[q11]at a;cases a;simp[Ctx.put]
def qN {f : FuncId} {fn : Func} {c : Code} (hf : P.funcs[f]? = some fn) (hname : (fn.name == "runtime.NumGoroutine") = false) (hb : fn.body = some c) : qU P f := by
 intro args w;have h1 : fn.name ≠ "runtime.NumGoroutine" := by simpa using hname
 simp[callFunc,hf,h1,hb,mark]
def fq(x:PV)(t:TypeId)(z:Value):Option PV :=
 match x with
 |.ifc t' p=>if t'=t then some (.tup [p,.sc (.bool true)]) else some (.tup [Jo z,.sc (.bool false)])
 |_=>none
def Hr{o:Oper}{x:Operand}{l:TypeId}(ho:o.op=.typeAssert x l t true)(j:P.underlying t=some d)(m:∀ms,d≠.interface ms)(s:Program.zeroOf P t=some z)
  (e:fq (ev F x) t z=some p) (k:K p S):PO P r n o F S K:=by
 intro G y C w a N st next Q' b;have h:=st.ev x;rw[y x (by simp[ho,Op.operands])]at h;have g:∀c,o.op≠.defer c:=by intro c hc;rw[ho]at hc;cases hc
 unfold fq at e;split at e
 .rename_i t' q he;rw[he]at h;generalize hv:a.eval x=v at h;cases h with
  |ifc hq =>
  rename_i u;by_cases f:t'=t
  .rw[if_pos f]at e;cases e;refine qx (x:=.value (.tuple #[u,.bool true])) (w':=w) g ?_ (b _ _ _ _ _ k (.tup rfl ?_) st.sim (.refl _ _ _));unfold execOp;simp only[ho,hv,Instr.typeAssert,Sem.run_bind,run_underlying j,Aq];simp_all;intro i c v hc hv
   match i with
   |0=>grind
   |1=>have hc:some (PV.sc (.bool true))=some c:=hc;have hv:some (Value.bool true)=some v:=hv;cases hc;cases hv;exact .sc _
   |i+2=>simp at hc
  rw[if_neg f]at e;cases e;refine qx (x:=.value (.tuple #[z,.bool false])) (w':=w) g ?_ (b _ _ _ _ _ k (.tup rfl ?_) st.sim (.refl _ _ _));unfold execOp;simp only[ho,hv,Instr.typeAssert,Sem.run_bind,run_underlying j,Aq];cases d<;>first|exact absurd rfl (m _)|(simp only[f,if_false,if_true,Sem.run_bind,Xg s,Aq];rfl)
  intro i c v hc hv
  match i with
  |0=>grind[bz]
  |1=>have hc:some (PV.sc (.bool false))=some c:=hc;have hv:some (Value.bool false)=some v:=hv;cases hc;cases hv;exact .sc _
  |i+2=>simp at hc
 cases e
variable {by_:Nat}{ds:List PV}
def Hs{o:Oper}{s x:Operand}{u e:TypeId}{m:Nat}(ho:o.op=.call { callee:=.builtin .append,args:=#[s,x],argTypes:=#[t,u] })(hu:QL P t u=true)
  (g:ElemOk P t e z by_) (hs:ev F s=.sc (.slice none 0 0)) (hx:YY S (P.cellsOf e) (ev F x)=some (m,ds)) (hb:m*by_<=140737488355328) (hm:m<=140737488355328)
  (hK:∀C:Ctx,S C.next=.dead->∃id v,Fresh C S id v/\K (.sl id v (P.cellsOf e) 0 m) (S.set id (.cells v e ds))):PO P r n o F S K:=by
 intro G hG C w a N st next Q' f;have e1:ev G s=_:=(hG s (by grind[Op.operands,Call.operands])).trans hs;have e2:ev G x=ev F x:=hG x (by simp[ho,Op.operands,Call.operands]);rw[<-e2]at hx;have r1:=st.ev s;rw[e1]at r1;obtain⟨news,b,h,_⟩:=cg (P:=P) st.sim hx (st.ev x);have l:∀c,o.op≠.defer c:=by intro c hc;rw[ho]at hc;cases hc
 generalize hv:a.eval s=v at r1;cases r1;obtain⟨id,ver,q,hK⟩:=hK C st.sim.free;by_cases a0:m=0;subst a0;have y:news=[]:=As (by rw[b.size];simp);have a1:ds=[]:=As (by rw[h.1,y];rfl);subst y;subst a1;have d:=Wl (P:=P) (a:=a) (w:=w) ho g.ty hu (by rw[hv];exact fj (ty:=o.type) g.ty g.pos b (Bx 0));obtain⟨t1,t2⟩:=st.sim.nilObject' q e;exact qx l d (f _ _ _ _ _ hK (mD C S w _ _ _ e) t1 t2);have d:=Wl (P:=P) (a:=a) (w:=w) ho g.ty hu (by rw[hv];exact cd (ty:=o.type) (olds:=[]) g.ty g.pos g.zero g.bytes b (by simp[Builtin.firstCells]) D9 (by simpa using hb) g.bpos);have a2:m<=grownCap w m 0 e:=by have:=grownCap_ge w m 0 e;exact this
 have a3:grownCap w m 0 e<=maxLen:=grownCap_le_maxLen w m 0 e (by unfold maxLen;omega);simp only[AV]at d;have a4:(#[]++news.toArray++Builtin.zeroCells z.cells (grownCap w m 0 e-m):Array Value).size=grownCap w m 0 e*P.cellsOf e:=by simp only[Cr,BY,Aj,AV,size_zeroCells,g.zsize,b.size];rw[<-Nat.add_mul];congr 1;omega
 have k:=Wj (cs:=[]) (vs:=[]) (by simp[RelL]) h (Builtin.zeroCells z.cells (grownCap w m 0 e-m)).toList;simp only[AK]at k;have j:∀i:Nat,(#[]++news.toArray++Builtin.zeroCells z.cells (grownCap w m 0 e-m):Array Value)[i]?=(news++(Builtin.zeroCells z.cells (grownCap w m 0 e-m)).toList)[i]?:=by intro i;rw[<-Array.getElem?_toList];simp
 obtain⟨d1,d2⟩:=st.sim.drew;obtain⟨t1,t2⟩:=d1.object' q e (#[]++news.toArray++Builtin.zeroCells z.cells (grownCap w m 0 e-m)) ds EH (λi v hi hv=>k.2.1 i v hi (by rw[<-j];exact hv)) (λi p v hp hv=>(k.2.2 i p v hp (by rw[<-j];exact hv)).mono d2);exact qx l d (f _ _ _ _ _ hK (VM C S w _ _ _ _ _ _ _ _ rfl a2 (AF hm (by simp[xO])) a3 a4.symm) t1 (d2.trans t2))
theorem Sim.relabel(h:Sim C S w){o ver:Nat}{cs':List PV}(hs:S o=.cells ver e cs)(hl:cs'.length=cs.length)
  (g:∀(i:Nat) (a:PV),cs'[i]?=some a->cs[i]?=some a\/∃p,cs[i]?=some p/\∀v,Rel C S w p v->Rel C S w a v) :
  Sim C (S.set o (.cells ver e cs')) w/\Step C S w C (S.set o (.cells ver e cs')) w:=by
 have j:C.at o ver (C.loc o)=C:=by have d:=h.clk o ver (by rw[hs];rfl);cases C;simp only[Ctx.at,Ctx.mk.injEq,true_and]at d ⊢;refine⟨?_,by omega⟩;funext i;split;rename_i e;rw[e];rfl
 have:=h.turn (w':=w) (ver':=ver) (cs':=cs') (l:=C.loc o) hs (Ag _) (λ_=>rfl) ⟨⟨rfl,rfl,rfl,Ag _,λ_ _ _=>rfl⟩,Ag _⟩ (by obtain⟨h1,h2⟩|⟨b,k,c,g1,m,g3,g4,n,f⟩:=h.cells o ver e cs hs;exact .inl ⟨h1,As (by rw[hl,h2];rfl)⟩;refine .inr ⟨b,k,c,g1,.inr (by rw[g1];rfl),m,g3,by omega,λi v hi hv=>n i v D9 hv,λi p v r hv=>?_⟩;obtain q|⟨s,t,u⟩:=g i p r;exact f i p v q hv;exact u v (f i s v t hv));simp_all
def ft{c:Code}{o ver m:Nat}(i e sz:Nat)(hs:S o=.cells ver m cs)(hi:cs[i]?=some (.sc (.slice none 0 0)))
  (h:∀C:Ctx,S C.next=.dead->∃id v,Fresh C S id v/\PW P r n N c Q F ((S.set id (.cells v e [])).set o (.cells ver m (cs.set i (.sl id v sz 0 0))))):PW P r n N c Q F S:=by
 intro C w a st;obtain⟨id,p,d,h⟩:=h C st.sim.free;obtain⟨k1,f⟩:=st.sim.nilObject' d e;have g:o≠id:=by intro e;have:=d.dead;rw[<-e,hs]at this;cases this
 obtain⟨q,k⟩:=k1.relabel (o:=o) (cs':=cs.set i (.sl id p sz 0 0)) (by rw[q10 _ _ _ _ g];exact hs) EA (by intro j t b;rw[BG]at b;split at b;rename_i l;subst l;split at b;cases b;refine .inr ⟨_,hi,λv hv=>?_⟩;cases hv;simp[mD];cases b;exact .inl b);refine wpIn_mono (h _ w a ⟨q,st.size,λi=>((st.fr i).mono f).mono k,r.keep k (r.keep f st.v)⟩) ?_;rintro e a' w' ⟨F2,S2,C2,h1,h2,h3,s⟩;exact⟨F2,S2,C2,h1,h2,h3,(f.trans k).trans s⟩
end
def ext(S:Store)(nx:Nat)(obs:List Ob):Store:=λi=>if i<nx then S i else obs.getD (i-nx) .dead
def yh(nx:Nat)(S:Store):Prop:=∀i,nx<=i->S i=.dead
section
variable {S:Store} {nx:Nat} {obs:List Ob}
def zL{i:Nat}(h:i<nx):ext S nx obs i=S i:=by simp[ext,h]
@[simp] theorem zZ(k:Nat):ext S nx obs (nx+k)=obs.getD k .dead:=by simp only[ext];rw[if_neg D9,AJ]
@[simp] theorem ui:ext S nx obs nx=obs.getD 0 .dead:=by simp[ext]
def jt(h:yh nx S):ext S nx []=S:=by funext i;simp only[ext];split;rfl;rw[h i D9];rfl
theorem yu{id:Nat}(x:Ob)(h:nx<=id)(hl:id-nx<obs.length):(ext S nx obs).set id x=ext S nx (obs.set (id-nx) x):=by funext i;simp only[ext,Store.set];grind
theorem jP(x:Ob):(ext S nx obs).set (nx+obs.length) x=ext S nx (obs++[x]):=by funext i;simp only[ext,Store.set];grind
theorem qI{i:Nat}(x:Ob)(h:i<nx):(ext S nx obs).set i x=ext (S.set i x) nx obs:=by funext j;simp only[ext,Store.set];grind
def Z9:ext S nx obs (nx+obs.length)=.dead:=EA
def fu(more:List Ob)(o:Nat):ext S nx obs o=ext S nx (obs++more) o\/ext S nx obs o=.dead:=by simp only[ext];grind
theorem ye(h:yh nx S)(o:Nat):S o=ext S nx obs o\/S o=.dead:=by simp only[ext];by_cases h2:o<nx;simp_all;exact .inr (h o D9)
def xP:yh (nx+obs.length) (ext S nx obs):=by intro i hi;simp only[ext];grind
end
def Spec(P:Program)(f:FuncId)(args:List PV)(S:Store)(Q:PV->Store->Prop):Prop:=qU P f/\PCalls P f args S Q
def SpecV(P:Program)(V:Ctx->Store->World->Prop)(f:FuncId)(args:List PV)(S:Store)(Q:PV->Store->Prop):Prop:=qU P f/\PCallsV P V f args S Q
theorem Spec.v{f:FuncId}{args:List PV}(h:Spec P f args S Q):SpecV P V f args S Q:=⟨h.1,h.2.v⟩
theorem SpecV.mono{f:FuncId}{args:List PV}(h:SpecV P V f args S Q)(a:∀p S',Q p S'->Q' p S'):SpecV P V f args S Q':=⟨h.1,h.2.mono a⟩
theorem Spec.mono{f:FuncId}{args:List PV}(h:Spec P f args S Q)(a:∀p S',Q p S'->Q' p S'):Spec P f args S Q':=⟨h.1,h.2.mono a⟩
def Pure(P:Program)(f:FuncId)(args:List PV)(p:PV):Prop:=∀S,Spec P f args S (λq S'=>q=p/\S'=S)
section
variable (P:Program) (r:Rd) (n nx:Nat)
def VP(t:TypeId):Option (TypeId × Nat × Nat) :=
 match P.underlying t with
 |some (.slice e) =>
  match Program.zeroOf P e with
  |some z =>
   match Program.bytesOf' P e with
   |some b=>if P.cellsOf e≠0/\z.cells.size=P.cellsOf e/\b≠0 then some (e,P.cellsOf e,b) else none
   |none=>none
  |none=>none
 |_=>none
def Jt(S:Store)(obs:List Ob)(F:Nat->PV)(o:Oper):Option (Prop × PV × Store × List Ob) :=
 match o.op with
 |.load t x=>match Yq P t (ext S nx obs) (ev F x) with|some p=>some (True,p,S,obs)|none=>none
 |.store t x y =>
  match ev F x with
  |.ptr id ver off =>
   match ext S nx obs id with
   |.cells v e cs =>
   if v=ver/\(ev F y).cells.length=P.cellsOf t/\P.cellsOf t≠0/\(ev F y).fit=true then
    (if nx<=id then some (off+(ev F y).cells.length<=cs.length,.sc undef,S,obs.set (id-nx) (.cells v e (yr cs off (ev F y).cells)))
     else some (off+(ev F y).cells.length<=cs.length,.sc undef,S.set id (.cells v e (yr cs off (ev F y).cells)),obs))
   else none
   |_=>none
  |_=>none
 |.call c =>
  match c.callee with
  |.builtin .append =>
   match c.args.toList,c.argTypes.toList with
   |[s,x],[t,t'] =>
    match ev F s with
    |.sl id ver sz 0 k =>
     match ext S nx obs id with
     |.cells v e cs =>
      match VP P t with
      |some (e',sz',by_) =>
       match YY (ext S nx obs) sz (ev F x) with
       |some (m,ds) =>
       if v=ver/\e'=e/\sz'=sz/\QL P t t'=true then
        (if nx<=id then some (k*sz<=cs.length/\(k+m)*by_<=140737488355328,.sl id (ver+1) sz 0 (k+m),S,obs.set (id-nx) (.cells (ver+1) e (cs.take (k*sz)++ds)))
         else some (k*sz<=cs.length/\(k+m)*by_<=140737488355328,.sl id (ver+1) sz 0 (k+m),S.set id (.cells (ver+1) e (cs.take (k*sz)++ds)),obs))
       else none
       |none=>none
      |none=>none
     |_=>none
    |_=>none
   |_,_=>none
  |_=>none
 |_=>none
def Ju(S:Store)(obs:List Ob)(F:Nat->PV)(o:Oper):Option (Prop × (Nat->PV) × (Nat->Ob)) :=
 match o.op with
 |.alloc t =>
  match Program.zeroOf P t with
  |some z=>if z.cells.all (·.oneCell')=true then some (True,λv=>.ptr (nx+obs.length) v 0,λv=>.cells v t (xh z)) else none
  |none=>none
 |.box t x=>if (ev F x).fit=true then some (True,λv=>.ptr (nx+obs.length) v 0,λv=>.cells v t (ev F x).cells) else none
 |.makeSlice t l c =>
  match ev F l,ev F c with
  |.sc (.int _ a),.sc (.int _ b) =>
   match P.underlying t with
   |some (.slice e) =>
    match Program.zeroOf P e with
    |some z =>
     match Program.bytesOf' P e with
     |some by_=>if z.cells.all (·.oneCell')=true/\z.cells.size=P.cellsOf e/\P.cellsOf e≠0 then
       some (0<=a/\a<=b/\b<=140737488355328/\b.toNat * by_<=281474976710656,λv=>.sl (nx+obs.length) v (P.cellsOf e) 0 a.toNat,λv=>.cells v e (qr b.toNat z)) else none
     |none=>none
    |none=>none
   |_=>none
  |_,_=>none
 |.makeMap _ none=>some (True,λv=>.mp (nx+obs.length) v,λv=>.map v [])
 |.call c =>
  match c.callee with
  |.builtin .append =>
   match c.args.toList,c.argTypes.toList with
   |[s,x],[t,t'] =>
    match ev F s with
    |.sc (.slice none 0 0) =>
     match VP P t with
     |some (e,sz,by_) =>
      match YY (ext S nx obs) sz (ev F x) with
      |some (m,ds)=>if QL P t t'=true then some (m*by_<=140737488355328,λv=>.sl (nx+obs.length) v sz 0 m,λv=>.cells v e ds) else none
      |none=>none
     |none=>none
    |_=>none
   |_,_=>none
  |_=>none
 |_=>none
def QN(F:Nat->PV)(o:Oper):Option (FuncId × List PV) :=
 match o.op with
 |.call c =>
  match c.callee with
  |.value x=>match ev F x with|.fn (.func k) fs cs=>some (k,fs++c.args.toList.map (ev F)++cs)|_=>none
  |_=>none
 |_=>none
def XS(ops:Array Oper)(K:(Nat->PV)->Store->List Ob->Prop):List Oper->(Nat->PV)->Store->List Ob->Prop
 |[],F,S,obs=>K F S obs
 |o::os,F,S,obs =>
  match gd ops F o with
  |none=>False
  |some false=>XS ops K os (yo F o.dst (.sc undef)) S obs
  |some true=>PO P r n o F (ext S nx obs) (λp S'=>∃S1 obs1,S'=ext S1 nx obs1/\XS ops K os (yo F o.dst p) S1 obs1)
def gsl:List (Nat × Nat)->Nat->Option Nat
 |[],_=>none
 |(a,p)::l,i=>if i=a then some p else gsl l i
def gdD(D:List (Nat × Nat))(F:Nat->PV)(o:Oper):Option Bool :=
 match o.guard with
 |none=>some true
 |some (j,want) =>
 match gsl D j with
 |none=>some false
 |some d=>match F d with
  |.sc v=>match v with
   |.bool b=>some (b==want)
   |_=>some false
  |_=>none
def ZH(ops:Array Oper)(D:List (Nat × Nat)):Bool :=
 ops.toList.all λo=>match o.guard with
 |none=>true
 |some (j,_)=>decide ((ops[j]?).bind (·.dst)=gsl D j)
def Wq(D:List (Nat × Nat))(Gc:List Oper->(Nat->PV)->Store->List Ob->Option Nat->FuncId->List PV->Prop)(Gh:List Oper->(Nat->PV)->Store->List Ob->Oper->Prop)(X:(Nat->PV)->Store->List Ob->Prop)
  (o:Oper) (os:List Oper) (F:Nat->PV) (S:Store) (obs:List Ob):Prop :=
 match gdD D F o with
 |none=>False
 |some false=>X (yo F o.dst (.sc undef)) S obs
 |some true =>
 match uf P F o with
 |some p=>X (yo F o.dst p) S obs
 |none =>
 match Jt P nx S obs F o with
 |some (A,p,S',obs')=>A/\X (yo F o.dst p) S' obs'
 |none =>
 match Ju P nx S obs F o with
 |some (A,pf,of)=>A/\∀v,X (yo F o.dst (pf v)) S (obs++[of v])
 |none =>
 match QN F o with
 |some (f,args)=>Gc os F S obs o.dst f args
 |none=>Gh os F S obs o
def XR(D:List (Nat × Nat))(K:(Nat->PV)->Store->List Ob->Prop)(Gc:List Oper->(Nat->PV)->Store->List Ob->Option Nat->FuncId->List PV->Prop)(Gh:List Oper->(Nat->PV)->Store->List Ob->Oper->Prop):
  List Oper->(Nat->PV)->Store->List Ob->Prop
 |[],F,S,obs=>K F S obs
 |o::os,F,S,obs=>Wq P nx D Gc Gh (XR D K Gc Gh os) o os F S obs
end
section
variable {P:Program} {r:Rd} {n nx N:Nat} {Q:Exit->(Nat->PV)->Store->Prop} {F:Nat->PV} {S:Store} {obs:List Ob}
def fw{e:TypeId}{sz:Nat}(h:VP P t=some (e,sz,f)):∃z,ElemOk P t e z f/\sz=P.cellsOf e:=by unfold VP at h;split at h;rename_i d a;split at h;rename_i z c;split at h;rename_i b hb;split at h;rename_i hc;cases h;exact⟨z,⟨a,hc.1,c,hc.2.1,hb,hc.2.2⟩,rfl⟩;cases h;cases h;cases h;cases h
theorem Ht{o:Oper}{K':PV->Store->Prop}(h:PO P r n o F S K)(b:∀p S',K p S'->K' p S'):PO P r n o F S K' :=
 λG c C w a N st next Q' hn=>h G c C w a N st next Q' λv w' C' S' p d=>hn v w' C' S' p (b p S' d)
def fx{c:Call}{s x:Operand}{t':TypeId}(hc:c.callee=.builtin .append)(h1:c.args.toList=[s,x])(h2:c.argTypes.toList=[t,t']):c={ callee:=.builtin .append,args:=#[s,x],argTypes:=#[t,t'] }:=by
 have a:c.args=#[s,x]:=by apply BV.1;simpa using h1
 have e2:c.argTypes=#[t,t']:=by apply BV.1;simpa using h2
 cases c;simp_all
theorem mE{o:Oper}{A:Prop}{p:PV}{S':Store}{a:List Ob}{K:PV->Store->Prop}(h:Jt P nx S obs F o=some (A,p,S',a))(i:A)(g:K p (ext S' nx a)):PO P r n o F (ext S nx obs) K:=by
 unfold Jt at h;split at h;rename_i t x ho;split at h;rename_i q hq;cases h;exact Wh (p:=p) (S':=ext S nx obs) (by grind[jN]) g;cases h;rename_i t x y ho;split at h;rename_i id ver off hx;split at h;rename_i v e cs hs;split at h;rename_i hc;obtain⟨c1,c2,c3,c4⟩:=hc;have d:∀T,(off+(ev F y).cells.length<=cs.length)->(ext S nx obs).set id (.cells v e (yr cs off (ev F y).cells))=T->K (.sc undef) T->PO P r n o F (ext S nx obs) K:=by intro T w e1 g;refine Wh (p:=.sc undef) (S':=T) ?_ g;unfold jN;rw[ho];simp only[Wg,hx,hs];rw[if_pos ⟨c1,c2,c3,w,c4⟩,e1];rfl
 split at h;rename_i hid;cases h;refine d _ i (yu _ hid ?_) g;obtain q|q:=Bc (id-nx) obs.length;exact q;exfalso;simp only[ext]at hs;rw[if_neg D9,Aa,An q]at hs;cases hs;grind[qI];cases h;cases h;cases h;rename_i c ho;split at h;rename_i b;split at h;rename_i s x t t' h1 h2;split at h;rename_i id ver sz k a0;split at h;rename_i v e cs hs;split at h;rename_i e' a3 by_ f;split at h;rename_i m ds u;split at h;rename_i hc;obtain⟨rfl,rfl,rfl,hu⟩:=hc;split at h;rename_i hid;cases h;obtain⟨z,j,rfl⟩:=fw f;obtain⟨a1,l⟩:=i;have a4:id-nx<obs.length:=by obtain q|q:=Bc (id-nx) obs.length;exact q;exfalso;simp only[ext]at hs;rw[if_neg D9,Aa,An q]at hs;cases hs
 have ha:k+m<=140737488355328:=AF (CP _ (Cb j.bpos)) l;rw[fx b h1 h2]at ho;grind[fm,yu];rename_i hid;cases h;obtain⟨z,j,rfl⟩:=fw f;obtain⟨a1,l⟩:=i;have ha:k+m<=140737488355328:=AF (CP _ (Cb j.bpos)) l;rw[fx b h1 h2]at ho;grind[fm,qI];cases h;cases h;cases h;cases h;cases h;cases h;cases h;cases h
def mF{o:Oper}{A:Prop}{u:Nat->PV}{w:Nat->Ob}(h:Ju P nx S obs F o=some (A,u,w))(i:A)(hK:∀v,K (u v) (ext S nx (obs++[w v]))):PO P r n o F (ext S nx obs) K:=by unfold Ju at h;split at h;rename_i t ho;split at h;rename_i z j;split at h;rename_i h1;cases h;exact mA ho j h1 (YX (X:=λid v=>K (.ptr id v 0) ((ext S nx obs).set id (.cells v t (xh z)))) _ Z9 λv=>by simp_all[jP]);cases h;cases h;rename_i t x ho;split at h;rename_i h1;cases h;exact Hf ho h1 (YX (X:=λid v=>K (.ptr id v 0) ((ext S nx obs).set id (.cells v t (ev F x).cells))) _ Z9 λv=>by grind[jP]);cases h;rename_i t l c ho;split at h;rename_i k1 a k2 b hl hc;split at h;rename_i e ht;split at h;rename_i z j;split at h;rename_i by_ k;split at h;rename_i d;obtain⟨c1,c2,c3⟩:=d;cases h;obtain⟨y,a2,a3,a4⟩:=i;obtain⟨a',rfl⟩:=Az y;obtain⟨b',rfl⟩:=Az (Int.le_trans y a2);simp only[AN]at hK a4;exact Hg ho ht hl hc j c1 c2 c3 k D9 D9 a4 (YX (X:=λid v=>K (.sl id v (P.cellsOf e) 0 a') ((ext S nx obs).set id (.cells v e (qr b' z)))) _ Z9 λv=>by grind[jP]);cases h;cases h;cases h;cases h;cases h;rename_i t ho;cases h;exact Hq ho (YX (X:=λid v=>K (.mp id v) ((ext S nx obs).set id (.map v []))) _ Z9 λv=>by simp_all[jP]);rename_i c ho;split at h;rename_i f;split at h;rename_i s x t t' h1 h2;split at h;rename_i p;split at h;rename_i e sz by_ q;split at h;rename_i m ds g;split at h;rename_i hc;cases h;obtain⟨z,hE,rfl⟩:=fw q;have ha:m<=140737488355328:=AF (CP _ (Cb hE.bpos)) i;rw[fx f h1 h2]at ho;exact Hs ho hc hE p g i ha (YX (X:=λid v=>K (.sl id v (P.cellsOf e) 0 m) ((ext S nx obs).set id (.cells v e ds))) _ Z9 λv=>by grind[jP]);cases h;cases h;cases h;cases h;cases h;cases h;cases h
theorem fy{o:Oper}{f:FuncId}{args:List PV}(h:QN F o=some (f,args))(b:SpecV P r.V f args S K):PO P r n o F S K:=by unfold QN at h;split at h;rename_i c ho;split at h;rename_i x a;split at h;rename_i k fs cs hx;cases h;exact mr ho a hx b.1 b.2 λ_ _ h=>h;cases h;cases h;cases h
variable {ops:Array Oper}{D:List (Nat × Nat)}
def Hu(h:ZH ops D=true){o:Oper}(ho:o∈ops.toList)(F:Nat->PV):gd ops F o=gdD D F o:=by unfold ZH at h;rw[Av]at h;have:=h o ho;grind[gd,gdD]
theorem Wr(c:ZH ops D=true){K:(Nat->PV)->Store->List Ob->Prop}{Gc:List Oper->(Nat->PV)->Store->List Ob->Option Nat->FuncId->List PV->Prop}{Gh:List Oper->(Nat->PV)->Store->List Ob->Oper->Prop}
  (hc:∀os F S obs d f args,Gc os F S obs d f args->os <:+ ops.toList->SpecV P r.V f args (ext S nx obs) (λp S'=>∃S1 a,S'=ext S1 nx a/\XS P r n nx ops K os (yo F d p) S1 a))
  (e:∀os F S obs o,Gh os F S obs o->os <:+ ops.toList->PO P r n o F (ext S nx obs) (λp S'=>∃S1 a,S'=ext S1 nx a/\XS P r n nx ops K os (yo F o.dst p) S1 a)) :
  ∀(l:List Oper) (F:Nat->PV) (S:Store) (obs:List Ob),l <:+ ops.toList->XR P nx D K Gc Gh l F S obs->XS P r n nx ops K l F S obs
 |[],F,S,obs,_,h=>h
 |o::os,F,S,obs,hs,h=>by have b:os <:+ ops.toList:=(List.suffix_cons o os).trans hs;unfold XR Wq at h;rw[<-Hu c (hs.subset EA) F]at h;unfold XS;split at h;omega;exact Wr c hc e os _ _ _ b h;split at h;rename_i p i;exact bR i ⟨S,obs,rfl,Wr c hc e os _ _ _ b h⟩;split at h;rename_i A p S' g hm;exact mE hm h.1 ⟨S',g,rfl,Wr c hc e os _ _ _ b h.2⟩;split at h;rename_i A j k hm;exact mF hm h.1 λv=>⟨S,_,rfl,Wr c hc e os _ _ _ b (h.2 v)⟩;split at h;rename_i f args hf;exact fy hf (hc _ _ _ _ _ _ _ h b);exact e _ _ _ _ _ h b
def vr{K:(Nat->PV)->Store->List Ob->Prop}{l:List Oper}(hs:l <:+ ops.toList)(b:ZH ops D=true)
  (h:∀(Gc:List Oper->(Nat->PV)->Store->List Ob->Option Nat->FuncId->List PV->Prop) (Gh:List Oper->(Nat->PV)->Store->List Ob->Oper->Prop),
   (∀os F S obs d f args,(os <:+ ops.toList->SpecV P r.V f args (ext S nx obs) (λp S'=>∃S1 a,S'=ext S1 nx a/\XS P r n nx ops K os (yo F d p) S1 a))->Gc os F S obs d f args) ->
   (∀os F S obs o,(os <:+ ops.toList->PO P r n o F (ext S nx obs) (λp S'=>∃S1 a,S'=ext S1 nx a/\XS P r n nx ops K os (yo F o.dst p) S1 a))->Gh os F S obs o) ->
   ∀X:List Oper->(Nat->PV)->Store->List Ob->Prop,(∀F S obs,X [] F S obs=K F S obs)->(∀o os F S obs,X (o::os) F S obs=Wq P nx D Gc Gh (X os) o os F S obs)->X l F S obs):XS P r n nx ops K l F S obs :=
 Wr b (λ_ _ _ _ _ _ _ h=>h) (λ_ _ _ _ _ h=>h) l F S obs hs (h _ _ (λ_ _ _ _ _ _ _ h=>h) (λ_ _ _ _ _ h=>h) _ (λ_ _ _=>rfl) (λ_ _ _ _ _=>rfl))
def mG{Q':Exit->Act->World->Prop}(t:∀o∈ops,∀d,o.dst=some d->d<N){K:(Nat->PV)->Store->List Ob->Prop}{C0:Ctx}{S0:Store}{w0:World}{ds:List Deferred}
  (u:∀F' S' b C' w' a',K F' S' b->St r C' (ext S' nx b) w' N F' a'->a'.defers=ds->Step C0 S0 w0 C' (ext S' nx b) w'->Q' .normal a' w') :
  ∀(m k:Nat) (F:Nat->PV) (S:Store) (obs:List Ob) (C:Ctx) (w:World) (a:Act),ops.size-k=m->XS P r n nx ops K (ops.toList.drop k) F S obs->St r C (ext S nx obs) w N F a->a.defers=ds->Step C0 S0 w0 C (ext S nx obs) w ->
   wpOpsIn (Fe r) n P ops Q' ((range ops.size).drop k) a w:=by
 intro m;induction m with
 |zero =>
 intro k F S obs C w a hm h st j step;have y:(range ops.size).drop k=[]:=BU ED;have e2:ops.toList.drop k=[]:=BU ED;rw[y];rw[e2]at h;exact u F S obs C w a h st j step
 |succ m l =>
 intro k F S obs C w a hm h st j step;have q:k<ops.size:=D9;rw[eW k _ q];have e2:ops.toList.drop k=ops[k]::ops.toList.drop (k+1):=by rw[AG D9];simp
 rw[e2]at h;have f:ops[k]?=some ops[k]:=EA;have e:∀x,ops[k].dst=some x->x<N:=t _ (DD q);rw[wpOpsIn_cons];unfold wpOpIn;rw[f];dsimp only;unfold XS at h;split at h;exact h.elim;rename_i i;rw[Jp st i];simp only[AW,if_false];exact⟨λ_ _=>trivial,l (k+1) _ _ _ C w _ D9 h (st.put (.refl _ _ _) st.sim e (.sc _)) (by simp_all[VH]) step⟩;rename_i i;rw[Jp st i];simp only[if_true];refine h F (λ_ _=>rfl) C w a N st _ _ ?_;rintro v w' C' S' p ⟨S1,s,rfl,z⟩ g hs c;exact l (k+1) _ _ _ C' w' _ D9 z (st.put c hs e g) (by simp_all[VH]) (step.trans c)
def Hv{id:Nat}(f:ug N ops=true)(h:∀K:(Nat->PV)->Store->List Ob->Prop,(∀F' S' b,Q .normal F' (ext S' nx b)->K F' S' b)->XS P r n nx ops K ops.toList F S obs):PW P r n N (.region id ops false) Q F (ext S nx obs):=by
 intro C w a st;refine wpIn_region ?_;have:=mG (Q':=λe a' w'=>∃F' S' C',Q e F' S'/\St r C' S' w' N F' a'/\Defs w.heap.size a.defers C' S' w' a'.defers/\Step C (ext S nx obs) w C' S' w') (bT f)
  (λF' S' b C' w' a' g d i c=>⟨F',_,C',g,d,.of_eq i,c⟩) ops.size 0 F S obs C w a rfl (K:=λF' S' b=>Q .normal F' (ext S' nx b)) (by simpa using h _ λ_ _ _ h=>h) st rfl (.refl _ _ _)
 simpa using this
def x8{id:Nat}(D:List (Nat × Nat))(c:ug N ops=true)(e:ZH ops D=true)
  (h:∀(K:(Nat->PV)->Store->List Ob->Prop) (Gc:List Oper->(Nat->PV)->Store->List Ob->Option Nat->FuncId->List PV->Prop) (Gh:List Oper->(Nat->PV)->Store->List Ob->Oper->Prop),
   (∀F' S' b,Q .normal F' (ext S' nx b)->K F' S' b) ->
   (∀os F S obs d f args,(os <:+ ops.toList->SpecV P r.V f args (ext S nx obs) (λp S'=>∃S1 a,S'=ext S1 nx a/\XS P r n nx ops K os (yo F d p) S1 a))->Gc os F S obs d f args) ->
   (∀os F S obs o,(os <:+ ops.toList->PO P r n o F (ext S nx obs) (λp S'=>∃S1 a,S'=ext S1 nx a/\XS P r n nx ops K os (yo F o.dst p) S1 a))->Gh os F S obs o) ->
   ∀X:List Oper->(Nat->PV)->Store->List Ob->Prop,(∀F S obs,X [] F S obs=K F S obs)->(∀o os F S obs,X (o::os) F S obs=Wq P nx D Gc Gh (X os) o os F S obs)->X ops.toList F S obs):PW P r n N (.region id ops false) Q F (ext S nx obs) :=
 Hv c λK g=>vr (DN _) e λGc Gh hc i X h0 j=>h K Gc Gh g hc i X h0 j
end
section
variable (P:Program) (nx:Nat)
def Ws(ops:Array Oper)(ids:Option (List Nat))(S0:Store)(Gp:Row->(Nat->PV)->Store->List Ob->Option Nat->FuncId->List PV->Prop)(X:(Nat->PV)->Store->List Ob->Prop)(i:Nat)(is:Row)(F:Nat->PV)(S:Store)(obs:List Ob):Prop :=
 match ops[i]? with
 |none=>False
 |some o =>
 match gd ops F o with
 |none=>False
 |some false=>X (yo F o.dst (.sc undef)) S obs
 |some true =>
 match uf P F o with
 |some p=>X (yo F o.dst p) S obs
 |none =>
 match Xk P ids S0 F o with
 |some p=>X (yo F o.dst p) S obs
 |none =>
 match QN F o with
 |some (f,args)=>Gp is F S obs o.dst f args
 |none=>False
def Wt(ops:Array Oper)(ids:Option (List Nat))(S0:Store)(Gc:Row->(Nat->PV)->Store->List Ob->Option Nat->FuncId->List PV->Prop)(Gh:Row->(Nat->PV)->Store->List Ob->Oper->Prop)(X:(Nat->PV)->Store->List Ob->Prop)(i:Nat)(is:Row)(F:Nat->PV)(S:Store)(obs:List Ob):Prop :=
 match ops[i]? with
 |none=>False
 |some o =>
 match gd ops F o with
 |none=>False
 |some false=>X (yo F o.dst (.sc undef)) S obs
 |some true =>
 match Jt P nx S obs F o with
 |some (A,p,S',obs')=>A/\y8 ids S0 (ext S' nx obs')/\X (yo F o.dst p) S' obs'
 |none =>
 match Ju P nx S obs F o with
 |some (A,pf,of)=>A/\∀v,y8 ids S0 (ext S nx (obs++[of v]))/\X (yo F o.dst (pf v)) S (obs++[of v])
 |none =>
 match QN F o with
 |some (f,args)=>Gc is F S obs o.dst f args
 |none=>Gh is F S obs o
def XD(ops:Array Oper)(ids:Option (List Nat))(S0:Store)(K:(Nat->PV)->Store->List Ob->Prop)(Gp Gc:Row->(Nat->PV)->Store->List Ob->Option Nat->FuncId->List PV->Prop)(Gh:Row->(Nat->PV)->Store->List Ob->Oper->Prop):
  Row->(Nat->PV)->Store->List Ob->Prop
 |.done,F,S,obs=>K F S obs
 |.stop,_,_,_=>True
 |.pure i is,F,S,obs=>Ws P ops ids S0 Gp (XD ops ids S0 K Gp Gc Gh is) i is F S obs
 |.alt i is more,F,S,obs=>Wt P nx ops ids S0 Gc Gh (XD ops ids S0 K Gp Gc Gh is) i is F S obs/\XD ops ids S0 K Gp Gc Gh more F S obs
end
def KX(nx:Nat)(K:(Nat->PV)->Store->List Ob->Prop)(F:Nat->PV)(T:Store):Prop:=∃S obs,T=ext S nx obs/\K F S obs
section
variable {P:Program} {r:Rd} {n nx N:Nat} {Q:Exit->(Nat->PV)->Store->Prop} {F:Nat->PV} {S:Store} {obs:List Ob}
def Hw{o:Oper}{A:Prop}{a:List Ob}(h:Jt P nx S obs F o=some (A,p,S',a))(d:A):
  jN P F (ext S nx obs) o=some (p,ext S' nx a)\/jN P F (ext S nx obs) o=none:=by
 unfold Jt at h;split at h;rename_i t x ho;split at h;rename_i q f;cases h;left;unfold jN;rw[ho];simp only[f,AU];cases h;rename_i t x y ho;split at h;rename_i id ver off hx;split at h;rename_i v e cs hs;split at h;rename_i hc;obtain⟨c1,c2,c3,c4⟩:=hc;have b:∀T,(off+(ev F y).cells.length<=cs.length)->(ext S nx obs).set id (.cells v e (yr cs off (ev F y).cells))=T->jN P F (ext S nx obs) o=some (.sc undef,T):=by intro T g i;unfold jN;rw[ho];simp only[Wg,hx,hs];rw[if_pos ⟨c1,c2,c3,g,c4⟩,i];rfl
 left;split at h;rename_i hid;cases h;refine b _ d (yu _ hid ?_);obtain q|q:=Bc (id-nx) obs.length;exact q;exfalso;simp only[ext]at hs;rw[if_neg D9,Aa,An q]at hs;cases hs;rename_i hid;cases h;exact b _ d (qI _ D9);cases h;cases h;cases h;rename_i c ho;right;unfold jN;rw[ho];simp
def Hy{o:Oper}{x:Prop × (Nat->PV) × (Nat->Ob)}(h:Ju P nx S obs F o=some x)(T:Store):jN P F T o=none:=by grind[Ju,jN]
theorem Hz{o:Oper}{x:FuncId × List PV}(h:QN F o=some x)(T:Store):jN P F T o=none:=by grind[QN,jN]
variable {ops:Array Oper}{ids:Option (List Nat)}
theorem QO{S0:Store}{K:(Nat->PV)->Store->List Ob->Prop}{Gp Gc:Row->(Nat->PV)->Store->List Ob->Option Nat->FuncId->List PV->Prop}{Gh:Row->(Nat->PV)->Store->List Ob->Oper->Prop}
  (c:∀a F S obs d f args,Gp a F S obs d f args->∃p,Pure P f args p/\PX P r n ops ids S0 a (yo F d p) (ext S nx obs) (KX nx K))
  (hc:∀a F S obs d f args,Gc a F S obs d f args->SpecV P r.V f args (ext S nx obs) (λp S'=>y8 ids S0 S'/\PX P r n ops ids S0 a (yo F d p) S' (KX nx K)))
  (g:∀a F S obs o,Gh a F S obs o->jN P F (ext S nx obs) o=none/\PO P r n o F (ext S nx obs) (λp S'=>y8 ids S0 S'/\PX P r n ops ids S0 a (yo F o.dst p) S' (KX nx K))) :
  ∀(row:Row) (F:Nat->PV) (S:Store) (obs:List Ob),XD P nx ops ids S0 K Gp Gc Gh row F S obs->PX P r n ops ids S0 row F (ext S nx obs) (KX nx K)
 |.done,F,S,obs,h=>⟨S,obs,rfl,h⟩
 |.stop,_,_,_,_=>trivial
 |.pure i a,F,S,obs,h=>by
  unfold XD Ws at h;unfold PX;cases ho:ops[i]? with
  |none=>simp only[ho]at h
  |some o =>
  simp only[ho]at h ⊢;cases j:gd ops F o with
  |none=>simp only[j]at h
  |some b =>
  cases b with
  |false=>simp only[j]at h ⊢;exact QO c hc g a _ _ _ h
  |true =>
  simp only[j]at h ⊢;cases h1:uf P F o with
  |some p=>simp only[h1]at h ⊢;exact QO c hc g a _ _ _ h
  |none =>
  simp only[h1]at h ⊢;cases h2:Xk P ids S0 F o with
  |some p=>simp only[h2]at h ⊢;exact QO c hc g a _ _ _ h
  |none =>
  simp only[h2]at h ⊢;cases h3:QN F o with
  |none=>simp only[h3]at h
  |some q =>
  obtain⟨f,args⟩:=q;simp only[h3]at h;obtain⟨p,s,t⟩:=c _ _ _ _ _ _ _ h;exact⟨p,λS' _=>fy h3 (s S').v,t⟩
 |.alt i a more,F,S,obs,h=>by
  unfold XD Wt at h;unfold PX;obtain⟨h,k⟩:=h;refine⟨?_,QO c hc g more _ _ _ k⟩;cases ho:ops[i]? with
  |none=>simp only[ho]at h
  |some o =>
  simp only[ho]at h ⊢;cases j:gd ops F o with
  |none=>simp only[j]at h
  |some b =>
  cases b with
  |false=>simp only[j]at h ⊢;exact QO c hc g a _ _ _ h
  |true =>
  simp only[j]at h ⊢;cases hm:Jt P nx S obs F o with
  |some x =>
  obtain⟨A,p,S',m⟩:=x;simp only[hm]at h;obtain⟨u,w,h⟩:=h;have key:=QO c hc g a _ _ _ h;obtain e|e:=Hw hm u<;>grind[mE]
  |none =>
  simp only[hm]at h;cases l:Ju P nx S obs F o with
  |some x =>
  obtain⟨A,y,z⟩:=x;simp only[l]at h;simp only[Hy l];exact mF l h.1 λv=>⟨(h.2 v).1,QO c hc g a _ _ _ (h.2 v).2⟩
  |none =>
  grind[Hz,fy]
def mH{S0:Store}{K:(Nat->PV)->Store->List Ob->Prop}{row:Row}
  (h:∀(Gp Gc:Row->(Nat->PV)->Store->List Ob->Option Nat->FuncId->List PV->Prop) (Gh:Row->(Nat->PV)->Store->List Ob->Oper->Prop),
   (∀a F S obs d f args p,Pure P f args p->PX P r n ops ids S0 a (yo F d p) (ext S nx obs) (KX nx K)->Gp a F S obs d f args) ->
   (∀a F S obs d f args,SpecV P r.V f args (ext S nx obs) (λp S'=>y8 ids S0 S'/\PX P r n ops ids S0 a (yo F d p) S' (KX nx K))->Gc a F S obs d f args) ->
   (∀a F S obs o,jN P F (ext S nx obs) o=none->PO P r n o F (ext S nx obs) (λp S'=>y8 ids S0 S'/\PX P r n ops ids S0 a (yo F o.dst p) S' (KX nx K))->Gh a F S obs o) ->
   ∀X:Row->(Nat->PV)->Store->List Ob->Prop,(∀F S obs,X .done F S obs=K F S obs)->(∀F S obs,X .stop F S obs=True)->(∀i a F S obs,X (.pure i a) F S obs=Ws P ops ids S0 Gp (X a) i a F S obs) ->
   (∀i a more F S obs,X (.alt i a more) F S obs=(Wt P nx ops ids S0 Gc Gh (X a) i a F S obs/\X more F S obs))->X row F S obs):PX P r n ops ids S0 row F (ext S nx obs) (KX nx K) :=
 QO (Gp:=λa F S obs d f args=>∃p,Pure P f args p/\PX P r n ops ids S0 a (yo F d p) (ext S nx obs) (KX nx K)) (Gh:=λa F S obs o=>jN P F (ext S nx obs) o=none/\PO P r n o F (ext S nx obs) (λp S'=>y8 ids S0 S'/\PX P r n ops ids S0 a (yo F o.dst p) S' (KX nx K)))
  (λ_ _ _ _ _ _ _ h=>h) (λ_ _ _ _ _ _ _ h=>h) (λ_ _ _ _ _ h=>h) row F S obs
  (h _ _ _ (λ_ _ _ _ _ _ _ p h1 h2=>⟨p,h1,h2⟩) (λ_ _ _ _ _ _ _ h=>h) (λ_ _ _ _ _ h1 h2=>⟨h1,h2⟩) _ (λ_ _ _=>rfl) (λ_ _ _=>rfl) (λ_ _ _ _ _=>rfl) (λ_ _ _ _ _ _=>rfl))
def mI{S0:Store}:∀(row:Row) (F:Nat->PV) (T:Store),PX P r n ops ids S0 row F T (KX nx λF' S' a=>Q .normal F' (ext S' nx a))->PX P r n ops ids S0 row F T (Q .normal):=by
 have e:(KX nx λF' S' a=>Q .normal F' (ext S' nx a))=λF' T=>(∃S' a,T=ext S' nx a)/\Q .normal F' T:=by funext F' T;apply propext;constructor;rintro⟨S',a,rfl,h⟩;grind;rintro⟨⟨S',a,rfl⟩,h⟩;exact⟨S',a,rfl,h⟩
 intro row;induction row with
 |done=>simp_all
 |stop=>simp
 |pure i f j =>
  intro F T h;unfold PX at h ⊢;cases ho:ops[i]? with
  |none=>simp_all
  |some o =>
  simp only[ho]at h ⊢;cases c:gd ops F o with
  |none=>simp only[c]at h
  |some b =>
  cases b<;>grind
 |alt i f more g d =>
 intro F T h;unfold PX at h ⊢;refine⟨?_,d _ _ h.2⟩;have h:=h.1;cases ho:ops[i]? with
 |none=>simp_all
 |some o =>
 simp only[ho]at h ⊢;cases c:gd ops F o with
 |none=>simp only[c]at h
 |some b =>
 cases b with
 |false=>grind
 |true =>
 simp only[c]at h ⊢;grind[Ht]
def HA{id:Nat}(ids:Option (List Nat))(row:Row)(hm:P.follows .mixedOrders=true)(m:ug N ops=true)(q:Xi ops=true)(l:wY ops [] [] row=true)
  (h:∀(K:(Nat->PV)->Store->List Ob->Prop) (Gp Gc:Row->(Nat->PV)->Store->List Ob->Option Nat->FuncId->List PV->Prop) (Gh:Row->(Nat->PV)->Store->List Ob->Oper->Prop),
   (∀F' S' j,Q .normal F' (ext S' nx j)->K F' S' j) ->
   (∀k F' S' j d f args p,Pure P f args p->PX P r n ops ids (ext S nx obs) k (yo F' d p) (ext S' nx j) (KX nx K)->Gp k F' S' j d f args) ->
   (∀k F' S' j d f args,SpecV P r.V f args (ext S' nx j) (λp T=>y8 ids (ext S nx obs) T/\PX P r n ops ids (ext S nx obs) k (yo F' d p) T (KX nx K))->Gc k F' S' j d f args) ->
   (∀k F' S' j o,jN P F' (ext S' nx j) o=none->PO P r n o F' (ext S' nx j) (λp T=>y8 ids (ext S nx obs) T/\PX P r n ops ids (ext S nx obs) k (yo F' o.dst p) T (KX nx K))->Gh k F' S' j o) ->
   ∀X:Row->(Nat->PV)->Store->List Ob->Prop,(∀F S obs,X .done F S obs=K F S obs)->(∀F S obs,X .stop F S obs=True)->(∀i k F' S' j,X (.pure i k) F' S' j=Ws P ops ids (ext S nx obs) Gp (X k) i k F' S' j) ->
   (∀i k more F' S' j,X (.alt i k more) F' S' j=(Wt P nx ops ids (ext S nx obs) Gc Gh (X k) i k F' S' j/\X more F' S' j))->X row F S obs):PW P r n N (.region id ops true) Q F (ext S nx obs):=by
 refine bZ ids row hm m q l ?_;have:=mH (P:=P) (r:=r) (n:=n) (nx:=nx) (ops:=ops) (ids:=ids) (S0:=ext S nx obs) (K:=λF' S' j=>Q .normal F' (ext S' nx j)) (row:=row) (F:=F) (S:=S) (obs:=obs) (λGp Gc Gh a b c X d e f g=>h _ Gp Gc Gh (λ_ _ _ h=>h) a b c X d e f g);exact mI row F _ this
def fr:List (Nat × PV)->Nat->PV
 |[],_=>.junk
 |(a,p)::l,i=>if i=a then p else fr l i
def mJ{l:List (Nat × PV)}(h:∀x∈l,F x.1=x.2)(i:Nat):fr l i=F i\/fr l i=.junk:=by induction l<;>grind[fr]
def Wu{c:Code}{T T':Store}(d:∀o,T' o=T o\/T' o=.dead)(h:PW P r n N c Q F T'):PW P r n N c Q F T :=
 QK (λC w a st=>by obtain⟨k1,b⟩:=st.sim.kill d;exact⟨C,⟨k1,st.size,λi=>(st.fr i).mono b,r.keep b st.v⟩,b⟩) h
def Y2{c:Code}(L:List (Nat × PV)){more:List Ob}(a:∀x∈L,F x.1=x.2)(h:PW P r n N c Q (fr L) (ext S nx obs)):PW P r n N c Q F (ext S nx (obs++more)) :=
 Hd (F':=fr L) (mJ a) (Wu (fu more) h)
def At{σ:Type}(nx:Nat)(I:σ->Prop)(L:σ->List (Nat × PV))(B:σ->Store)(T:σ->List Ob)(F:Nat->PV)(S:Store):Prop :=
 ∃s more,I s/\(∀x∈L s,F x.1=x.2)/\S=ext (B s) nx (T s++more)
variable {σ:Type}
def zY{I:σ->Prop}{L:σ->List (Nat × PV)}{B:σ->Store}{T:σ->List Ob}(s:σ)(more:List Ob)(hI:I s)(a:∀x∈L s,F x.1=x.2)(b:B s=S)(c:T s++more=obs):At nx I L B T F (ext S nx obs) :=
 ⟨s,more,hI,a,by rw[b,c]⟩
def fA{σ:Type}(nx:Nat)(I:σ->Prop)(L:σ->List (Nat × PV))(B:σ->Store)(T:σ->List Ob)(μ:σ->Nat)(m:Nat)(F:Nat->PV)(S:Store):Prop :=
 ∃s more,I s/\μ s<m/\(∀x∈L s,F x.1=x.2)/\S=ext (B s) nx (T s++more)
def zv{I:σ->Prop}{L:σ->List (Nat × PV)}{B:σ->Store}{T:σ->List Ob}{μ:σ->Nat}{m:Nat}(s:σ)(more:List Ob)(hI:I s)(hm:μ s<m)(a:∀x∈L s,F x.1=x.2)(b:B s=S)(c:T s++more=obs):
  fA nx I L B T μ m F (ext S nx obs):=⟨s,more,hI,hm,a,by rw[b,c]⟩
def xC(I:σ->Prop)(L:σ->List (Nat × PV))(B:σ->Store)(T:σ->List Ob)(μ:σ->Nat){c:Code}{S0:Store}(h0:At nx I L B T F S0)
  (round:∀s,I s->PW P r n N c (QI (fA nx I L B T μ (μ s)) Q) (fr (L s)) (ext (B s) nx (T s))):PW P r n N (.loop c) Q F S0:=by
 obtain⟨s0,a,d,f,rfl⟩:=h0;refine eX (λF' S' m=>∃s more,I s/\m=μ s/\(∀x∈L s,F' x.1=x.2)/\S'=ext (B s) nx (T s++more)) (μ s0) ⟨s0,a,d,rfl,f,rfl⟩ ?_;rintro m F1 S1 ⟨s,more,hI,rfl,h,rfl⟩;refine Y2 (L s) h (VI (round s hI) ?_);intro e F' S' g;cases e with
 |normal =>
 obtain⟨s',b,h1,h2,h3,i⟩:=g;exact⟨μ s',⟨s',b,h1,rfl,h3,i⟩,h2⟩
 |_=>exact g
def zF(I:σ->Prop)(L:σ->List (Nat × PV))(T:σ->List Ob)(μ:σ->Nat)(s0:σ){c:Code}(more:List Ob)(hI:I s0)(a:∀x∈L s0,F x.1=x.2)(b:T s0++more=obs)
  (round:∀s,I s->PW P r n N c (QI (fA nx I L (λ_=>S) T μ (μ s)) Q) (fr (L s)) (ext S nx (T s))):PW P r n N (.loop c) Q F (ext S nx obs) :=
 xC I L (λ_=>S) T μ (zY s0 more hI a rfl b) round
def mK {f : FuncId} {fn : Func} {c : Code} {rs : List ResultVar} {args : List PV} {Q : PV → Store → Prop} (hf : P.funcs[f]? = some fn) (hname : (fn.name == "runtime.NumGoroutine") = false) (hb : fn.body = some c) (hN : fn.ntmps = N) (hrs : fn.results.toList = rs) (hargs : args.length ≤ N)
  (h:∀nx,yh nx S->PW P jM 0 N c (Yr P rs Q) (ZG args) (ext S nx [])):Spec P f args S Q:=by
 refine⟨qN hf hname hb,?_⟩;intro C w vs a;have b:yh C.next S:=λi hi=>by
  cases hs:S i with
  |dead=>rfl
  |cells v e cs=>have:=a.lt i (by rw[hs];simp);omega
  |map v es=>have:=a.lt i (by rw[hs];simp);omega
 have:=h C.next b;rw[jt b]at this;exact uG hf hb hN hrs hargs this C w vs a
def HB {f : FuncId} {fn : Func} {c : Code} {rs : List ResultVar} {args : List PV} {Q : PV → Store → Prop} (hd : yh nx S) (hf : P.funcs[f]? = some fn) (hname : (fn.name == "runtime.NumGoroutine") = false) (hb : fn.body = some c) (hN : fn.ntmps = N) (hrs : fn.results.toList = rs) (hargs : args.length ≤ N)
  (h:PW P jM 0 N c (Yr P rs Q) (ZG args) (ext S nx [])):Spec P f args S Q:=by
 refine⟨qN hf hname hb,?_⟩
 simp_all[jt,uG]
def HC {f : FuncId} {fn : Func} {c : Code} {rs : List ResultVar} {args : List PV} {v : PV} (hf : P.funcs[f]? = some fn) (hname : (fn.name == "runtime.NumGoroutine") = false) (hb : fn.body = some c) (hN : fn.ntmps = N) (hrs : fn.results.toList = rs) (hargs : args.length ≤ N)
  (h:∀S nx,yh nx S->PW P jM 0 N c (Yr P rs (λp S'=>p=v/\S'=S)) (ZG args) (ext S nx [])):Pure P f args v :=
 λS=>mK hf hname hb hN hrs hargs (h S)
def zm{rs:List ResultVar}{v:PV}(a:yh nx S)(h1:vI P F (ext S nx obs) rs=some cs)(h2:zr cs=v):
  ∃cs S',vI P F (ext S nx obs) rs=some cs/\(zr cs=v/\S'=S)/\∀o,S' o=ext S nx obs o\/S' o=.dead :=
 ⟨cs,S,h1,⟨h2,rfl⟩,ye a⟩
def EK{Q:Exit->(Nat->PV)->Store->Prop}{rs:List ResultVar}{v:PV}(a:yh nx S)(b:Q .ret F (ext S nx obs)=(∃cs S',vI P F (ext S nx obs) rs=some cs/\(zr cs=v/\S'=S)/\∀o,S' o=ext S nx obs o\/S' o=.dead):=by exact rfl)(h1:vI P F (ext S nx obs) rs=some cs:=by simp;rfl)(h2:zr cs=v:=by exact rfl):PW P r n N .ret Q F (ext S nx obs):=zj (b▸zm a h1 h2)
theorem Xo(a:yh nx S){j:Nat}{x:Ob}(b:obs[j]?=some x)(o:Nat):S.set (nx+j) x o=ext S nx obs o\/S.set (nx+j) x o=.dead:=by grind[q11,zZ,q10,ye]
def qa{c:Code}(d e sz:Nat)(a:F d=.sc (.slice none 0 0))(h:∀v,PW P r n N c Q (vH F d (.sl (nx+obs.length) v sz 0 0)) (ext S nx (obs++[.cells v e []]))):PW P r n N c Q F (ext S nx obs) :=
 Hl d e sz a (YX (X:=λid v=>PW P r n N c Q (vH F d (.sl id v sz 0 0)) ((ext S nx obs).set id (.cells v e []))) _ Z9 λv=>by rw[jP];exact h v)
def qj{c:Code}{ver a:Nat}(j i e sz:Nat)(d:obs[j]?=some (.cells ver a cs))(hi:cs[i]?=some (.sc (.slice none 0 0)))
  (h:∀v,PW P r n N c Q F (ext S nx (obs.set j (.cells ver a (cs.set i (.sl (nx+obs.length) v sz 0 0)))++[.cells v e []]))):PW P r n N c Q F (ext S nx obs):=by
 have b:j<obs.length:=(Af.1 d).1;refine ft (o:=nx+j) i e sz EI hi (YX (X:=λid v=>PW P r n N c Q F (((ext S nx obs).set id (.cells v e [])).set (nx+j) (.cells ver a (cs.set i (.sl id v sz 0 0))))) _ Z9 λv=>?_);rw[jP,yu _ D9 ED,AJ,Df _ _ b];exact h v
def Zh{c:Code}{T:Store}(d:Nat)(b:F d=.sc (.slice none 0 0))(h:PW P r n N c Q (vH F d (.lst 0 [])) T):PW P r n N c Q F T :=
 QK (λC w a st=>⟨C,⟨st.sim,st.size,λi=>by by_cases hi:i=d;subst hi;rw[lN];have:=st.fr i;rw[b]at this;generalize a.tmps.getD i undef=v at this;cases this;exact .lst0;rw[lO _ _ _ _ hi];exact st.fr i,st.v⟩,.refl _ _ _⟩) h
def qk(id ver:Nat)(cs:List PV)(p:PV):PV :=
 match p with
 |.sl o v sz 0 k=>if o=id/\v=ver/\k*sz=cs.length then .lst k cs else .sl o v sz 0 k
 |p=>p
def xD(id ver:Nat)(cs:List PV)(x:Ob):Ob :=
 match x with
 |.cells v e ds=>.cells v e (ds.map (qk id ver cs))
 |x=>x
theorem mL(id ver:Nat)(cs:List PV)(x:Ob):(xD id ver cs x).ver=x.ver:=by cases x<;>rfl
def ct{T:Store}{id ver:Nat}(l:Sim C S w)(hid:S id=.cells ver e cs)(z:T id=.dead)(a:∀o,T o≠.dead->S o≠.dead)(st:Step C S w C T w)
  (h:Rel C S w p u):Rel C T w (qk id ver cs p) u:=by
 unfold qk;split;rename_i o v sz k;split
 .rename_i hc;obtain⟨rfl,rfl,hk⟩:=hc;cases h with
  |sl h1 h2 h3 =>
  obtain⟨ad,cap,rfl,m,n,q3,q4⟩:=h1;have d:∀b k',C.loc o=some (b,k')->¬C.M T b:=by rintro b k' hl ⟨i,q,hi,f⟩;by_cases g:i=o;simp_all;exact g (l.J i o b q k' (a i hi) (by rw[hid];simp) f hl)
  rcases (h3 v (by rw[hid];rfl)).2 rfl with ⟨z1,z2,_,z4⟩|⟨b,k',ad',cap',z1,z2,z3,z4⟩
  subst z2;have:cs=[]:=As D9;subst this;cases z4;exact .lst0;cases z2;obtain⟨hn,_⟩|⟨b2,kk,c,g1,r,g3,g4,s,t⟩:=l.cells o v e cs hid;simp_all;rw[g1]at z1;cases z1;obtain⟨rfl,_⟩:=z3 rfl;exact .lst1 m n r (d _ _ g1) (λ_=>by omega) (λj v x hv=>s j v x (by simpa using hv)) (λj p v y hv=>(t j p v y (by simpa using hv)).mono st)
 exact h.mono st;exact h.mono st
def yc{c:Code}(j:Nat){ver:Nat}(hj:obs[j]?=some (.cells ver e cs))(h:PW P r n N c Q (λi=>qk (nx+j) ver cs (F i)) (ext S nx ((obs.map (xD (nx+j) ver cs)).set j .dead))):PW P r n N c Q F (ext S nx obs):=by
 have y:j<obs.length:=(Af.1 hj).1;refine QK (F':=λi=>qk (nx+j) ver cs (F i)) (S':=ext S nx ((obs.map (xD (nx+j) ver cs)).set j .dead)) (λC w a st=>?_) h;have hid:ext S nx obs (nx+j)=.cells ver e cs:=by rw[zZ,Aa,hj];rfl
 have hT:ext S nx ((obs.map (xD (nx+j) ver cs)).set j .dead) (nx+j)=.dead:=by rw[zZ,Aa,A4 (by simpa using y)];rfl
 have g:∀o,ext S nx ((obs.map (xD (nx+j) ver cs)).set j .dead) o=.dead\/(o<nx/\ext S nx ((obs.map (xD (nx+j) ver cs)).set j .dead) o=ext S nx obs o)\/(nx<=o/\ext S nx ((obs.map (xD (nx+j) ver cs)).set j .dead) o=xD (nx+j) ver cs (ext S nx obs o)):=by intro o;by_cases ho:o<nx;simp_all[zL];by_cases a0:o=nx+j;simp_all;refine .inr (.inr ⟨by omega,?_⟩);simp only[ext];rw[if_neg ho,if_neg ho,Aa,Aa,A6 D9,Ai];cases obs[o-nx]?<;>rfl
 generalize a1:ext S nx ((obs.map (xD (nx+j) ver cs)).set j .dead)=T at *;generalize a2:ext S nx obs=S1 at *;have l:∀o v,(T o).ver=some v->(S1 o).ver=some v:=by intro o v hv;obtain q|⟨_,q⟩|⟨_,q⟩:=g o;rw[q]at hv;cases hv;simp_all;simp_all[mL]
 have f:∀o,T o≠.dead->S1 o≠.dead:=by intro o ho hd;obtain q|⟨_,q⟩|⟨_,q⟩:=g o;exact ho q;simp_all;rw[hd]at q;exact ho q
 have hM:∀b,C.M T b->C.M S1 b:=λb ⟨o,k,ho,hl⟩=>⟨o,k,f o ho,hl⟩;have d:Step C S1 w C T w:=⟨rfl,⟨rfl,Ag _⟩,rfl,Ag _,Ag _,Ag _,λb _ hb=>⟨rfl,λh=>hb (hM b h)⟩,λo v1 hv=>.inr ⟨v1,l o v1 hv,Ag _,λ_=>rfl⟩⟩;have s:∀{p u},Rel C S1 w p u->Rel C T w (qk (nx+j) ver cs p) u:=λh=>ct st.sim hid hT f d h;refine⟨C,⟨⟨λo ho=>st.sim.lt o (f o ho),λo v hv=>st.sim.clk o v (l o v hv),λo o' b k k' ho z=>st.sim.J o o' b k k' (f o ho) (f o' z),?_,?_⟩,st.size,λi=>s (st.fr i),r.keep d st.v⟩,d⟩
 .intro o v e' ds ho;obtain q|⟨_,q⟩|⟨_,q⟩:=g o;simp_all;rw[q]at ho;obtain hn|⟨b,k,c,h1,h2,h3,t,h5,h6⟩:=st.sim.cells o v e' ds ho;exact .inl hn;exact .inr ⟨b,k,c,h1,h2,h3,t,h5,λi p u hp hu=>(h6 i p u hp hu).mono d⟩;rw[q]at ho;cases hs:S1 o with
  |dead=>simp_all
  |map v es=>rw[hs]at ho;cases ho
  |cells v2 e2 ds2 =>
  rw[hs]at ho;cases ho;obtain⟨h1,h2⟩|⟨b,k,c,h1,h2,h3,t,h5,h6⟩:=st.sim.cells o _ _ ds2 hs<;>grind
 intro o v es ho;have hs:S1 o=.map v es:=by
  obtain q|⟨_,q⟩|⟨_,q⟩:=g o;simp_all;simp_all;rw[q]at ho;cases hs:S1 o with
  |dead=>simp_all
  |map v es=>rw[hs]at ho;exact ho
  |cells v2 e2 ds2=>rw[hs]at ho;cases ho
 obtain⟨b,k,ms,cl,h1,h2,h3,t⟩:=st.sim.maps o v es hs;exact⟨b,k,ms,cl,h1,h2,h3,λi x m hx hm=>⟨(t i x m hx hm).1,(t i x m hx hm).2.mono d⟩⟩
end
attribute [simp] bQ YW gsl gdD Wq Ws Wt QL Jt Ju QN VP fr qk xD
abbrev I(x:Int):PV:=.sc (.int .i64 x)
abbrev B(b:Bool):PV:=.sc (.bool b)
def PV.nosl:PV->Bool
 |.sl _ _ _ _ _=>false
 |_=>true
class Enc (α:Type) where
 enc:α->List PV
 sz:Nat
 len:∀x,(enc x).length=sz
 nosl:∀x,(enc x).all PV.nosl=true
def HD(id v:Nat)(cs:List PV)(p:PV)(h:p.nosl=true):qk id v cs p=p:=by cases p<;>first|rfl|cases h
@[simp] theorem HE[Enc α](id v:Nat)(cs:List PV)(l:List α):(l.flatMap Enc.enc).map (qk id v cs)=l.flatMap Enc.enc:=by rw[AQ (g:=λp=>p),List.map_id'];intro p a;obtain⟨x,_,hx⟩:=Bz.1 a;exact HD _ _ _ _ (Av.1 (Enc.nosl x) p hx)
abbrev L{α:Type}[Enc α](l:List α):PV:=.lst l.length (l.flatMap Enc.enc)
def ju[Enc α](l:List α):(l.flatMap Enc.enc).length=l.length*Enc.sz α:=Wn Enc.enc _ Enc.len l
def Yt[Enc α](l:List α):(l.flatMap Enc.enc).take (l.length*Enc.sz α)=l.flatMap Enc.enc:=by simp[Js,Enc.len]
def fB[Enc α]{l:List α}(h:k<l.length):(l.flatMap Enc.enc).drop (k*Enc.sz α)=Enc.enc l[k]++(l.drop (k+1)).flatMap Enc.enc:=mB Enc.enc _ Enc.len l k h
instance:Enc Int:=⟨λx=>[I x],1,λ_=>rfl,λ_=>rfl⟩
@[simp] theorem HF(x:Int):Enc.enc x=[I x]:=rfl
@[simp high] theorem jV(l:List Int):(l.flatMap Enc.enc).length=l.length:=(ju l).trans (BK _)
@[simp high] theorem HG(l:List Int):(l.flatMap Enc.enc).take l.length=l.flatMap Enc.enc:=Ad (Cx (jV l))
def el[Enc α](n:Nat)(hn:Enc.sz α=n)(l:List α)(k:Nat)(h:k<l.length):
  ∃s tl,l[k]?=some s/\l.drop k=s::l.drop (k+1)/\l.take (k+1)=l.take k++[s]/\(∀j,j<=n->(l.flatMap Enc.enc).drop (k*n+j)=(Enc.enc s).drop j++tl)/\(l.flatMap Enc.enc).drop (k*n)=Enc.enc s++tl:=by
 subst hn;have h0:=fB h;refine⟨l[k],(l.drop (k+1)).flatMap Enc.enc,Ac h,AG h,by simp,λj a=>?_,h0⟩;rw[<-List.drop_drop,h0,BW (by simp_all[Enc.len])]
def zH[Enc α](hn:Enc.sz α=1)(l:List α)(k:Nat)(h:k<l.length):
  ∃s tl,l[k]?=some s/\l.drop k=s::l.drop (k+1)/\l.take (k+1)=l.take k++[s]/\(l.flatMap Enc.enc).drop k=Enc.enc s++tl:=by
 obtain⟨s,tl,a,b,a3,_,c⟩:=el 1 hn l k h;simp_all
def zo{Q:Exit->(Nat->PV)->Store->Prop}{c:Operand}{x y:Code}(hc:ev F c=.sc (.bool true))(h:PW P r n N x Q F S):PW P r n N (.cond c x y) Q F S :=
 zA hc (λ_=>h) (λe=>nomatch e)
def zp{Q:Exit->(Nat->PV)->Store->Prop}{c:Operand}{x y:Code}(hc:ev F c=.sc (.bool false))(h:PW P r n N y Q F S):PW P r n N (.cond c x y) Q F S :=
 zA hc (λe=>nomatch e) (λ_=>h)
def aC{Q:Exit->(Nat->PV)->Store->Prop}{c:Operand}{x:Code}(h:Q .normal F S)(hc:ev F c=.sc (.bool false):=by simp):PW P r n N (.cond c x .skip) Q F S:=zp hc (zk h)
def aD{Q:Exit->(Nat->PV)->Store->Prop}{c:Operand}{x y:Code}(h:PW P r n N x Q F S)(hc:ev F c=.sc (.bool true):=by simp):PW P r n N (.cond c x y) Q F S:=zo hc h
def aE{Q:Exit->(Nat->PV)->Store->Prop}{c:Operand}{x y:Code}(h:PW P r n N y Q F S)(hc:ev F c=.sc (.bool false):=by simp):PW P r n N (.cond c x y) Q F S:=zp hc h
theorem wr(x:Int)(h1:-9223372036854775808<=x)(h2:x<=9223372036854775807):i64.wrap x=x:=YZ x h1 h2
def zy(k:Nat)(h:k<9223372036854775807):i64.wrap ((k:Int)+1)=((k+1:Nat):Int):=by grind[YZ]
abbrev W(x:Int):Int:=i64.wrap x
@[simp] theorem ZzR:W 0=0:=rfl
theorem uk(a b:Int):W (W a+b)=W (a+b):=by grind[IntKind.wrap_i64]
def cw(a b:Int):W (a+W b)=W (a+b):=by grind[IntKind.wrap_i64]
def W_W(a:Int):W (W a)=W a:=by simp[AD]
def cx{f:FuncId}{args:List PV}{sz:Nat}(j:Nat)
  (h:∀S nx,yh nx S->Spec P f args S (λp S'=>∃v,p=.sl (nx+j) v sz 0 k/\S'=S.set (nx+j) (.cells v e cs))) (s:k*sz=cs.length):Pure P f args (.lst k cs):=by
 intro S;refine⟨(h (λ_=>.dead) 0 (λ_ _=>rfl)).1,?_⟩;intro C w vs l hl r;have m:yh C.next S:=λi hi=>by
  cases hs:S i with
  |dead=>rfl
  |cells v e cs=>have:=l.lt i (by rw[hs];simp);omega
  |map v es=>have:=l.lt i (by rw[hs];simp);omega
 refine((h S C.next m).2 C w vs l hl r).mono ?_;rintro t w' ⟨p,u,S',C',rfl,⟨v,rfl,rfl⟩,c,a,b⟩;have d:=m (C.next+j) D9;have g:∀o,S o=S.set (C.next+j) (.cells v e cs) o\/S o=.dead:=by intro o;by_cases ho:o=C.next+j;subst ho;exact .inr d;exact .inl (q10 _ _ _ _ ho).symm
 obtain⟨k1,n⟩:=a.kill g;refine⟨.lst k cs,u,S,C',rfl,⟨rfl,rfl⟩,?_,k1,b.trans n⟩;have:=ct a (q11 _ _ _) d (λo ho=>by obtain q|q:=g o;rw[<-q];exact ho;exact absurd q ho) n c;simp_all
def Wv{nx:Nat}{obs:List Ob}(x:Ob):(ext S nx obs).set (nx+obs.length+1) x=ext S nx (obs++[.dead,x]):=by
 have e:ext S nx obs=ext S nx (obs++[.dead]):=by funext i;simp only[ext];split;rfl;rw[Aa,Aa];by_cases h3:i-nx<obs.length;rw[Au h3];rw[An D9];by_cases a:i-nx=obs.length;rw[Ao D9,a];simp;rw[An ED]
 rw[e];have:=jP (S:=S) (nx:=nx) (obs:=obs++[.dead]) x;grind
variable {nx:Nat}{obs:List Ob}
def z8{Q:Exit->(Nat->PV)->Store->Prop}{c:Code}{ver d:Nat}(j i:Nat)(f:obs[j]?=some (.cells ver d cs))(hi:cs[i]?=some (.sc (.slice none 0 0)))
  (h:PW P r n N c Q F (ext S nx (obs.set j (.cells ver d (cs.set i (.lst 0 [])))))):PW P r n N c Q F (ext S nx obs):=by
 have g:j<obs.length:=(Af.1 f).1;refine QK (F':=F) (S':=ext S nx (obs.set j (.cells ver d (cs.set i (.lst 0 []))))) (λC w a st=>?_) h;have hs:ext S nx obs (nx+j)=.cells ver d cs:=by rw[zZ,Aa,f];rfl
 have:=st.sim.relabel (cs':=cs.set i (.lst 0 [])) hs EA (by intro k l b;rw[BG]at b;split at b;rename_i e;subst e;split at b;cases b;refine .inr ⟨_,hi,λv hv=>?_⟩;cases hv;exact .lst0;cases b;exact .inl b);rw[yu _ D9 D9,AJ]at this;exact⟨C,⟨this.1,st.size,λk=>(st.fr k).mono this.2,r.keep this.2 st.v⟩,this.2⟩
def qg{Q Q2:Exit->(Nat->PV)->Store->Prop}{σ:Type}(I:σ->Prop)(L:σ->List (Nat × PV))(B:σ->Store)(T:σ->List Ob){x y:Code}{S0:Store}
  (h1:PW P r n N x (QI (At nx I L B T) Q) F S0) (h2:∀s,I s->PW P r n N y Q2 (fr (L s)) (ext (B s) nx (T s))):PW P r n N x (QI (PW P r n N y Q2) Q) F S0:=by
 refine VI h1 ?_;intro e F' S' a;cases e with
 |normal =>
 obtain⟨s,more,hI,b,rfl⟩:=a;exact Y2 (L s) b (h2 s hI)
 |_=>exact a
def fC{Q:Exit->(Nat->PV)->Store->Prop}{c:Code}(a more:List Ob)(b:obs=a++more)(h:PW P r n N c Q F (ext S nx a)):PW P r n N c Q F (ext S nx obs):=by subst b;exact Wu (fu more) h
def Wk(p q:PV):Prop:=∀(C:Ctx) (S:Store) (w:World) (v:Value),Rel C S w p v->Rel C S w q v
theorem Wk.rfl:Wk p p:=λ_ _ _ _ h=>h
theorem Wk.nil:Wk (.sc (.slice none 0 0)) (.lst 0 []):=λ_ _ _ _ h=>by cases h;exact .lst0
inductive WkL:List PV->List PV->Prop where
 |nil:WkL [] []
 |cons {p q:PV} {l m:List PV} (h:Wk p q) (t:WkL l m):WkL (p::l) (q::m)
theorem WkL.len{l m:List PV}(h:WkL l m):l.length=m.length:=by induction h<;>simp_all
theorem WkL.at{l m:List PV}(h:WkL l m):∀(i:Nat) (q:PV),m[i]?=some q->∃p,l[i]?=some p/\Wk p q:=by induction h<;>grind
def HI{f:FuncId}{args a:List PV}(b:WkL args a)(h:Spec P f a S Q):Spec P f args S Q:=by refine⟨h.1,λC w vs c hl d=>h.2 C w vs c (b.len ▸ hl) λi q v e hv=>?_⟩;obtain⟨p,g,j⟩:=b.at i q e;exact j _ _ _ _ (d i p v g hv)
variable {D:Nat}
def mM{x y:Obj}(a:w.heap[D]?=some x)(b:Nat)(o:Obj)(hb:w.heap[b]?=some o)(ho:o≠x):(w.putObj D y).heap[b]?=some o:=by grind[World.putObj_heap_other]
def Obj.odd(x:Obj):Prop:=(∀c e f,x≠.cells c e f)/\(∀m k,x≠.map m k)
def cy(r:Loop):Obj.odd (.loop r):=⟨λ_ _ _ e=>(by cases e),λ_ _ e=>(by cases e)⟩
def fD{x y:Obj}(f:w.heap[D]?=some x)(hx:Obj.odd x){v:Value}(g:Rel C S w p v):Rel C S (w.putObj D y) p v:=by
 have c:=mM (y:=y) f;induction g with
 |junk v=>exact .junk v
 |sc v=>exact .sc v
 |agg hl h1 _ a=>exact .agg hl h1 a
 |tup hl _ a=>exact .tup hl a
 |lst0=>exact .lst0
 |lst1 hn hm hb b hs h1 _ a=>exact .lst1 hn hm (c _ _ hb (λe=>hx.1 _ _ _ e.symm)) b hs h1 a
 |ip hb b hs h1 _ a=>exact .ip (c _ _ hb (λe=>hx.1 _ _ _ e.symm)) b hs h1 a
 |nl0=>exact .nl0
 |nl hn hb b hl h1 _ a=>exact .nl hn (c _ _ hb (λe=>hx.1 _ _ _ e.symm)) b hl h1 a
 |ptr h1 ho h=>exact .ptr h1 ho h
 |sl h1 ho h=>exact .sl h1 ho h
 |fn hf hc _ _ a d=>exact .fn hf hc a d
 |ifc _ a=>exact .ifc a
 |mp h1 ho h=>exact .mp h1 ho h
theorem Sim.put(h:Sim C S w){x y:Obj}(f:w.heap[D]?=some x)(hx:Obj.odd x):Sim C S (w.putObj D y):=by have a:=mM (y:=y) f;refine⟨h.lt,h.clk,h.J,?_,?_⟩;intro o ver e cs hs;obtain hn|⟨b,k,c,h1,h2,h3,d,j,l⟩:=h.cells o ver e cs hs;exact .inl hn;exact .inr ⟨b,k,c,h1,a _ _ h2 (λe=>hx.1 _ _ _ e.symm),h3,d,j,λi p v n hv=>fD f hx (l i p v n hv)⟩;intro o ver es hs;obtain⟨b,k,ms,cl,h1,h2,h3,d⟩:=h.maps o ver es hs;exact⟨b,k,ms,cl,h1,a _ _ h2 (λe=>hx.2 _ _ e.symm),h3,λi e m g hm=>⟨(d i e m g hm).1,fD f hx (d i e m g hm).2⟩⟩
theorem Step.around{C3:Ctx}{S3:Store}{d f:World}{l:Nat}{g h:Obj}(s1:Step C S d C' S' w)(s2:Step C' S' (w.putObj l h) C3 S3 f)(hl:d.heap[l]?=some g)(hM:¬C.M S l):
  Step C S d C3 S3 (f.putObj l g):=by
 have i:=jh hl;have z1:=s1.size;have z2:=s2.size;simp only[World.putObj_size]at z2;refine⟨s2.os.trans s1.os,⟨s2.tape.1.trans s1.tape.1,AF s1.tape.2 s2.tape.2⟩,s2.output.trans s1.output,by simp;omega,AF s1.next s2.next,AF s1.clock s2.clock,λb hb e=>?_,?_⟩;obtain⟨k1,j⟩:=s1.blocks b hb e;obtain⟨k,m⟩:=s2.blocks b ED j;grind[World.putObj_heap_same,World.putObj_heap_other];intro o v1 hv;obtain q|⟨v0,a,b,c⟩:=s2.vers o v1 hv;have h1:=s1.next;have h2:=s1.clock;omega;obtain q|⟨u,a',b',n⟩:=s1.vers o v0 a<;>grind
theorem Step.beyond{l:Nat}(o:Obj)(h:Step C S w C' S' w')(hl:w.heap.size<=l):Step C S w C' S' (w'.putObj l o) :=
 ⟨h.os,h.tape,h.output,by simpa using h.size,h.next,h.clock,λb hb hM=>by obtain⟨k1,a⟩:=h.blocks b hb hM;grind[World.putObj_heap_other],h.vers⟩
def PYield(P:Program)(V:Ctx->Store->World->Prop)(l:Nat)(args:List PV)(S:Store)(Q:Store->Prop):Prop :=
 ∀(C:Ctx) (w:World) (vs:Array Value),Sim C S w->V C S w->args.length=vs.size->(∀(i:Nat) (c:PV) (v:Value),args[i]?=some c->vs[i]?=some v->Rel C S w c v) ->
  YieldAt (Fe jM) 0 P l vs w λe w'=>∃S' C',e=.returned (.bool true)/\Q S'/\Sim C' S' w'/\Step C S w C' S' w'
abbrev x9(l:Nat):PV:=.sc (.func (.yield l) #[] #[])
def Jv(P:Program)(k:FuncId)(caps:List PV)(xs:List (List PV)):Prop :=
 qU P k/\∀(l:Nat) (V:Ctx->Store->World->Prop) (_:∀{C C':Ctx} {S S':Store} {w w':World},Step C S w C' S' w'->V C S w->V C' S' w') (m:Nat) (J:Nat->Store->Prop),(∀i A,J i A->yh m A) ->
  (∀i A obs x,xs[i]?=some x->J i A->PYield P V l x (ext A m obs) (λT=>∃A',J (i+1) A'/\T=ext A' m obs)) ->
  ∀A,J 0 A->PCallsV P V k (x9 l::caps) A (λ_ T=>J xs.length T)
section
variable {P:Program} {n nx N:Nat} {Q:Exit->(Nat->PV)->Store->Prop} {F:Nat->PV} {S:Store} {obs:List Ob}
def Ww{keep:∀{C C':Ctx} {S S':Store} {w w':World},Step C S w C' S' w'->V C S w->V C' S' w'}{o:Oper}{c:Call}{x:Operand}{l:Nat}{R:Store->Prop}
  (ho:o.op=.call c) (hc:c.callee=.value x) (hx:ev F x=x9 l) (h:PYield P V l (c.args.toList.map (ev F)) S R) (q:∀S',R S'->K (.sc (.bool true)) S'):PO P ⟨none,V,keep⟩ 0 o F S K:=by
 intro G n C w a N st next Q' f;have j:x∈o.op.operands:=by simp[ho,Op.operands,Call.operands,hc]
 have k:ev G x=x9 l:=(n x j).trans hx;have g:c.args.toList.map (ev F)=c.args.toList.map (ev G):=AQ λy p=>(n y (by grind[Op.operands,Call.operands])).symm;rw[g]at h;have d:=st.ev x;rw[k]at d;generalize hv:a.eval x=v at d;cases d;have b:=VG (l:=c.args.toList) st.ev;simp only[Array.toArray_toList]at b;obtain⟨fn,tmps,assign,body,p,r⟩:=h C w (c.args.map a.eval) st.sim st.v b.1 b.2;have i:(execOp a.eval o).run P w=.ok (.round l fn tmps assign body) w:=by unfold execOp;simp only[ho,resolve,hc,hv,Deferred.ofValue,Sem.run_bind,Sem.run_pure,Aq,invoke];have:(#[]:Array Value)++c.args.map a.eval=c.args.map a.eval:=EA;rw[this];exact p
 refine qx (x:=.round l fn tmps assign body) (w':=w) EH i ?_;rw[Oper.uponIn_round];refine⟨λs=>(by cases s),r.mono ?_⟩;rintro e w' ⟨S',C',rfl,t,hs,m⟩;exact f _ w' C' S' _ (q _ t) (.sc _) hs m
def VQ {f : FuncId} {fn : Func} {c : Code} {rs : List ResultVar} {caps : List PV} {xs : List (List PV)} (hf : P.funcs[f]? = some fn) (hname : (fn.name == "runtime.NumGoroutine") = false) (hb : fn.body = some c) (hN : fn.ntmps = N) (hrs : fn.results.toList = rs) (hargs : caps.length + 1 ≤ N)
  (h:∀(l:Nat) (V:Ctx->Store->World->Prop) (keep:∀{C C':Ctx} {S S':Store} {w w':World},Step C S w C' S' w'->V C S w->V C' S' w') (nx:Nat) (J:Nat->Store->Prop),(∀i A,J i A->yh nx A) ->
   (∀i A obs x,xs[i]?=some x->J i A->PYield P V l x (ext A nx obs) (λT=>∃A',J (i+1) A'/\T=ext A' nx obs)) ->
   ∀A,J 0 A->PW P ⟨none,V,keep⟩ 0 N c (Yr P rs (λ_ T=>J xs.length T)) (ZG (x9 l::caps)) (ext A nx [])):Jv P f caps xs:=by
 refine⟨qN hf hname hb,λl V keep m J a d A b=>?_⟩;have:=h l V keep m J a d A b;rw[jt (a 0 A b)]at this;exact ff hf hb hN hrs D9 this
def Ya{rs:List ResultVar}{J:Store->Prop}{A:Store}(a:yh nx A)(h1:vI P F (ext A nx obs) rs=some cs)(b:J A):
  ∃cs S',vI P F (ext A nx obs) rs=some cs/\J S'/\∀o,S' o=ext A nx obs o\/S' o=.dead:=⟨cs,A,h1,b,ye a⟩
def VR(F:Nat->PV):List Nat->List PV->Nat->PV
 |p::ps,x::xs=>VR (vH F p x) ps xs
 |_,_=>F
theorem mN:∀(ps:List Nat) (vs:List Value) (xs:List PV) (F:Nat->PV) (t:Array Value),t.size=N->(∀p∈ps,p<N)->xs.length=vs.length->(∀i,Rel C S w (F i) (t.getD i undef)) ->
  (∀(i:Nat) (c:PV) (v:Value),xs[i]?=some c->vs[i]?=some v->Rel C S w c v) ->
  ((ps.zip vs).foldl (λt (p,v)=>t.setIfInBounds p v) t).size=N/\∀i,Rel C S w (VR F ps xs i) (((ps.zip vs).foldl (λt (p,v)=>t.setIfInBounds p v) t).getD i undef)
 |[],_,_,F,t,a,_,_,b,_=>⟨a,b⟩
 |p::ps,[],[],F,t,a,_,_,b,_=>⟨a,b⟩
 |p::ps,v::vs,x::xs,F,t,a,e,hl,b,hx=>by
  refine mN ps vs xs (vH F p x) (t.setIfInBounds p v) (by simp[a]) (λq f=>e q (by simp[f])) (by simpa using hl) (λi=>?_) λi c v hc hv=>hx (i+1) c v (by simpa using hc) (by simpa using hv);have d:p<t.size:=by rw[a];exact e p EA
  simp only[vH,Bb];rw[Di];by_cases h:i=p;subst h;simp[d];exact hx 0 x v rfl rfl;grind[Array.getD_eq_getD_getElem?]
def ird(l:Nat):Rd:=⟨some l,λ_ _ _=>True,λ_ _=>trivial⟩
def mO{σ:Type}(nx:Nat)(I:Nat->σ->Prop)(B:σ->Store)(T:σ->List Ob)(i:Nat)(more:List Ob):Exit->(Nat->PV)->Store->Prop
 |.normal,_,S=>∃s extra,I i s/\S=ext (B s) nx (T s++more++extra)
 |_,_,_=>False
def vJ{σ:Type}{I:Nat->σ->Prop}{B:σ->Store}{T:σ->List Ob}{i:Nat}{more:List Ob}(s:σ)(a:List Ob)(hI:I i s)(b:B s=S)(c:T s++more++a=obs):mO nx I B T i more .normal F (ext S nx obs):=⟨s,a,hI,by rw[b,c]⟩
def VS(obs more:List Ob)(a:k=nx+obs.length):ext (ext S nx obs) k more=ext S nx (obs++more):=by subst a;funext i;simp only[ext];grind
def Xp{keep:∀{C C':Ctx} {S S':Store} {w w':World},Step C S w C' S' w'->V C S w->V C' S' w'}{g:Operand}{ps:Array Tmp}{assign body:Code}{k:FuncId}{xs:List (List PV)}{σ:Type}
  (I:Nat->σ->Prop) (L:List (Nat × PV)) (B:σ->Store) (T:σ->List Ob) (s0:σ)
  (hit:Jv P k cs xs) (hg:ev F g=.fn (.func k) [] cs) (d9:∀x∈xs,x.length=ps.size) (e0:∀p∈ps.toList,p<N) (hL:∀x∈L,F x.1=x.2) (h0:I 0 s0) (hB:B s0=S) (hT:T s0=obs) (hl:∀i s,I i s->(T s).length=obs.length)
  (round:∀l i s more x,I i s->xs[i]?=some x->PW P (ird l) 0 N assign (QI (PW P (ird l) 0 N body (mO nx I B T (i+1) more)) (λ_ _ _=>False)) (VR (fr L) ps.toList x) (ext (B s) nx (T s++more)))
  (done:∀s,I xs.length s->Q .normal F (ext (B s) nx (T s))):PW P ⟨none,V,keep⟩ 0 N (.rangeFunc g ps assign body) Q F (ext S nx obs):=by
 intro C w a st;refine wpIn_rangeFunc ?_;intro fn f8;obtain⟨b,d⟩:∃b:LoopState->Option Code->Loop,b=λst pe=>{ state:=st,pending:=pe,fn,tmps:=a.tmps,params:=ps,assign,body,defers:=w.heap.size }:=⟨_,rfl⟩;obtain⟨k1,j1,m1⟩:=st.sim.alloc (.deferred (some []));obtain⟨k2,j2,m2⟩:=k1.alloc (.loop (b .ready none));rw[World.size_alloc]at m2;obtain⟨W1,a0⟩:∃W1,(w.alloc (.deferred (some []))).alloc (.loop (b .ready none))=W1:=⟨_,rfl⟩;rw[a0]at k2 j2;have e1:W1.heap[w.heap.size+1]?=some (.loop (b .ready none)):=by rw[<-a0];have:=QH (w.alloc (.deferred (some []))) (.loop (b .ready none));rwa[World.size_alloc]at this
 have e4:W1.heap[w.heap.size]?=some (.deferred (some [])):=by rw[<-a0,Z7 _ _ _ EA];exact QH w _
 have h:Step C (ext S nx obs) w C (ext S nx obs) W1:=j1.trans j2;obtain⟨V0,m⟩:∃V0:Ctx->Store->World->Prop,∀C' S' w',V0 C' S' w'<->w'.heap[w.heap.size+1]?=some (.loop (b .ready none))/\w'.heap[w.heap.size]?=some (.deferred (some []))/\¬C'.M S' (w.heap.size+1)/\¬C'.M S' w.heap.size/\Step C (ext S nx obs) w C' S' w':=⟨_,λ_ _ _=>Iff.rfl⟩;have n:∀{C1 C2:Ctx} {S1 S2:Store} {w1 w2:World},Step C1 S1 w1 C2 S2 w2->V0 C1 S1 w1->V0 C2 S2 w2:=by intro C1 C2 S1 S2 w1 w2 q hv;obtain⟨a1,a2,a3,a4,a5⟩:=(m _ _ _).1 hv;obtain⟨b1,b2⟩:=q.blocks _ (jh a1) a3;obtain⟨c1,c2⟩:=q.blocks _ (jh a2) a4;exact(m _ _ _).2 ⟨b1.trans a1,c1.trans a2,b2,c2,a5.trans q⟩
 have d0:V0 C (ext S nx obs) W1:=(m _ _ _).2 ⟨e1,e4,m2,m1,h⟩;have b7:=st.ev g;rw[hg]at b7;generalize e5:a.eval g=gv at b7;cases b7 with
 |fn e6 e7 f9 e8 =>
 rename_i fv lb;obtain rfl:fv=#[]:=Array.eq_empty_of_size_eq_zero e6.symm;have e9:∀i A,(∃s,I i s/\A=ext (B s) nx (T s))->yh (nx+obs.length) A:=by rintro i A ⟨s,hs,rfl⟩;rw[<-hl i s hs];exact xP
 have f0:∀i A more x,xs[i]?=some x->(∃s,I i s/\A=ext (B s) nx (T s))->PYield P V0 (w.heap.size+1) x (ext A (nx+obs.length) more) (λT'=>∃A',(∃s,I (i+1) s/\A'=ext (B s) nx (T s))/\T'=ext A' (nx+obs.length) more):=by
  rintro i A more x hx ⟨s,hs,rfl⟩;rw[VS _ _ (by rw[hl i s hs])];intro C1 w1 vs f1 f2 f7 d1;obtain⟨a1,a2,a3,a4,a5⟩:=(m _ _ _).1 f2;have g0:=d9 x (Ab hx);have hy:=run_yield (P:=P) (args:=vs) a1 (by rw[d];simp only;omega);rw[d]at hy;simp only at hy;have d2:=mN (N:=N) (S:=ext (B s) nx (T s++more)) (C:=C1) (w:=w1) ps.toList vs.toList x (fr L) a.tmps st.size e0 D9 (λi=>by obtain e|e:=mJ hL i;rw[e];exact(st.fr i).mono a5;rw[e];exact .junk _) (by simpa using d1);have b8:(ps.zip vs).foldl (λtmps (t,a)=>tmps.setIfInBounds t a) a.tmps=(ps.toList.zip vs.toList).foldl (λt (p,v)=>t.setIfInBounds p v) a.tmps:=by rw[<-Array.foldl_toList,Array.toList_zip]
  rw[b8]at hy;refine⟨fn,_,assign,body,hy,roundIn_of_wpIn n' ?_⟩;have d3:St (ird (w.heap.size+1)) C1 (ext (B s) nx (T s++more)) w1 N (VR (fr L) ps.toList x) { tmps:=(ps.toList.zip vs.toList).foldl (λt (p,v)=>t.setIfInBounds p v) a.tmps,defers:=[] }:=⟨f1,d2.1,d2.2,trivial⟩;refine wpIn_mono (round (w.heap.size+1) i s more x hs hx C1 w1 _ d3) ?_;rintro e g1 w2 ⟨F2,S2,C2,hq,c6,g2,u⟩;cases e with
  |normal =>
   have e2:=u.blocks _ (jh a1) a3;have a7:=e2.1.trans a1;refine⟨_,run_beginRound a7 (by rw[d]),?_⟩;have d4:=c6.sim.put (y:=.loop { b .ready none with state:=.busy }) a7 (cy _);refine wpIn_mono (hq C2 _ _ ⟨d4,c6.size,λj=>fD a7 (cy _) (c6.fr j),trivial⟩) ?_;rintro e g3 w3 ⟨F3,S3,C3,d5,f3,g4,z⟩;cases e with
   |normal =>
   obtain⟨s',c7,d6,rfl⟩:=d5;have a9:(w2.putObj (w.heap.size+1) (.loop { b .ready none with state:=.busy })).heap[w.heap.size+1]?=some (.loop { b .ready none with state:=.busy }):=B6 (jh a7);have e3:=z.blocks (w.heap.size+1) (jh a9) e2.2;have d7:=e3.1.trans a9;have f:=run_endRound (P:=P) none d7;have c8:=fu (S:=B s') (nx:=nx) (obs:=T s'++more) c7;obtain⟨q1,q2⟩:=f3.sim.kill c8;have f4:({ { b .ready none with state:=LoopState.busy } with state:=if (none:Option Code).isNone then .ready else .done,pending:=none }:Loop)=b .ready none:=by rw[d];rfl
   rw[f4]at f;refine⟨_,_,f,_,C3,rfl,⟨_,⟨s',d6,rfl⟩,by rw[VS _ _ (by rw[hl _ s' d6])]⟩,?_,?_⟩;exact q1.put d7 (cy _);have g5:=u.around (z.trans q2) a1 a3;omega
   |_=>exact d5.elim
  |_=>exact hq.elim
 have f5:=hit.2 (w.heap.size+1) V0 n (nx+obs.length) (λi A=>∃s,I i s/\A=ext (B s) nx (T s)) e9 f0 (ext S nx obs) ⟨s0,h0,by rw[hB,hT]⟩ C W1 (#[.func (.yield (w.heap.size+1)) #[] #[]]++lb) k2 d0 (by simp[e7];omega) (by
  intro i c v hc hv;cases i with
  |zero =>
  rw[BC EA]at hv;simp at hc hv;subst hc;subst hv;exact .sc _
  |succ i =>
  rw[B1 EA]at hv;exact(e8 i c v (by simpa using hc) (by simpa using hv)).mono h)
 refine⟨w.heap.size+1,[{ target:=.collected w.heap.size,args:=#[] }],W1,{ target:=.fn (.func k) lb,args:=#[.func (.yield (w.heap.size+1)) #[] #[]] },W1,k,
  #[.func (.yield (w.heap.size+1)) #[] #[]]++lb,W1,?_,?_,?_,?_,λhd=>(by cases hd),?_⟩
 rw[<-a0,d];exact run_enterLoop_outer _ _ _ _ _
 .simp only[resolve,e5];simp[go_sem]
 intro f' _;trivial;simp only[invoke];exact hit.1 _ _;refine(fe (r:=⟨none,V,keep⟩) f5).mono ?_;rintro e w' ⟨p,v,S',C',rfl,⟨s,hs,rfl⟩,_,d8,q⟩;obtain⟨a1,a2,a3,a4,a5⟩:=(m _ _ _).1 (n q d0);have f:=run_endLoop (P:=P) a1 (by rw[d];simp);have f6:(b .ready none).pending=none:=by rw[d]
 rw[f6]at f;have a6:=λo=>a5.beyond (l:=w.heap.size+1) o D9;refine⟨none,_,f,F,_,C',done s hs,⟨d8.put a1 (cy _),st.size,λi=>(st.fr i).mono (a6 _),keep (a6 _) st.v⟩,⟨[{ target:=.collected w.heap.size,args:=#[] }],rfl,⟨_,Ag _,rfl,?_,a4,by simp⟩,trivial⟩,a6 _⟩;rw[BD D9];exact a2
end
def Wx(id ver:Nat)(cs:List PV)(p:PV):PV :=
 match p with
 |.sl o v sz 0 k=>if o=id/\v=ver/\k*sz=cs.length then .lst k cs else .sl o v sz 0 k
 |.ptr o v off=>if o=id/\v=ver/\off<=cs.length then .ip (cs.drop off) else .ptr o v off
 |p=>p
def Xq(id ver:Nat)(cs:List PV)(p:PV):PV :=
 match p with
 |.fn f fs cap=>.fn f (fs.map (Wx id ver cs)) (cap.map (Wx id ver cs))
 |p=>Wx id ver cs p
def Y3(id ver:Nat)(cs:List PV)(x:Ob):Ob :=
 match x with
 |.cells v e ds=>.cells v e (ds.map (Xq id ver cs))
 |x=>x
def HJ(id ver:Nat)(cs:List PV)(x:Ob):(Y3 id ver cs x).ver=x.ver:=by cases x<;>rfl
theorem fE{T:Store}{id ver:Nat}(l:Sim C S w)(hid:S id=.cells ver e cs)(hT:T id=.dead)(g:∀o,T o≠.dead->S o≠.dead)(st:Step C S w C T w)
  (h:Rel C S w p u):Rel C T w (Wx id ver cs p) u:=by
 unfold Wx;split;rename_i o v sz k;split
 .rename_i hc;obtain⟨rfl,rfl,x⟩:=hc;cases h with
  |sl h1 h2 h3 =>
  obtain⟨ad,cap,rfl,y,z,q3,q4⟩:=h1;have a:∀b k',C.loc o=some (b,k')->¬C.M T b:=by rintro b k' hl ⟨i,n,hi,d⟩;by_cases f:i=o;simp_all;exact f (l.J i o b n k' (g i hi) (by rw[hid];simp) d hl)
  rcases (h3 v (by rw[hid];rfl)).2 rfl with ⟨z1,z2,_,z4⟩|⟨b,k',ad',cap',z1,z2,z3,z4⟩
  subst z2;have:cs=[]:=As D9;subst this;cases z4;exact .lst0;cases z2;obtain⟨hn,_⟩|⟨b2,kk,c,g1,q,g3,g4,r,s⟩:=l.cells o v e cs hid;simp_all;rw[g1]at z1;cases z1;obtain⟨rfl,_⟩:=z3 rfl;exact .lst1 y z q (a _ _ g1) (λ_=>by omega) (λj v t hv=>r j v t (by simpa using hv)) (λj p v m hv=>(s j p v m (by simpa using hv)).mono st)
 exact h.mono st;rename_i o v off;split
 .rename_i hc;obtain⟨rfl,rfl,x⟩:=hc;cases h with
  |ptr h1 h2 h3 =>
  obtain⟨b,k',z1,z2⟩:=(h3 v (by rw[hid];rfl)).2 rfl;have a:¬C.M T b:=by rintro⟨i,n,hi,d⟩;by_cases f:i=o;simp_all;exact f (l.J i o b n k' (g i hi) (by rw[hid];simp) d z1)
  obtain⟨hn,_⟩|⟨b2,kk,c,g1,q,g3,g4,r,s⟩:=l.cells o v e cs hid;simp_all;rw[g1]at z1;cases z1;subst z2;refine .ip q a (λ_=>by simp;omega) (λj v t hv=>r (off+j) v (by simp at t;omega) hv) (λj p v m hv=>?_);rw[AL]at m;exact(s (off+j) p v m hv).mono st
 exact h.mono st;exact h.mono st
def HK{T:Store}{id ver:Nat}(d:Sim C S w)(hid:S id=.cells ver e cs)(f:T id=.dead)(b:∀o,T o≠.dead->S o≠.dead)(st:Step C S w C T w)
  (h:Rel C S w p u):Rel C T w (Xq id ver cs p) u:=by
 unfold Xq;split
 .cases h with
  |fn hf hc h1 h2 =>
  refine .fn (by simpa using hf) (by simpa using hc) (λi c v hc hv=>?_) (λi c v hc hv=>?_);rw[Ai]at hc;obtain⟨c0,a,rfl⟩:=Al.1 hc;exact fE d hid f b st (h1 i c0 v a hv);rw[Ai]at hc;obtain⟨c0,a,rfl⟩:=Al.1 hc;exact fE d hid f b st (h2 i c0 v a hv)
 grind[fE]
section
variable {P:Program} {r:Rd} {n nx N:Nat} {Q:Exit->(Nat->PV)->Store->Prop} {F:Nat->PV} {S:Store} {obs:List Ob}
def vt{c:Code}(j:Nat){ver:Nat}(hj:obs[j]?=some (.cells ver e cs))(h:PW P r n N c Q (λi=>Xq (nx+j) ver cs (F i)) (ext S nx ((obs.map (Y3 (nx+j) ver cs)).set j .dead))):PW P r n N c Q F (ext S nx obs):=by
 have y:j<obs.length:=(Af.1 hj).1;refine QK (F':=λi=>Xq (nx+j) ver cs (F i)) (S':=ext S nx ((obs.map (Y3 (nx+j) ver cs)).set j .dead)) (λC w a st=>?_) h;have hid:ext S nx obs (nx+j)=.cells ver e cs:=by rw[zZ,Aa,hj];rfl
 have hT:ext S nx ((obs.map (Y3 (nx+j) ver cs)).set j .dead) (nx+j)=.dead:=by rw[zZ,Aa,A4 (by simpa using y)];rfl
 have g:∀o,ext S nx ((obs.map (Y3 (nx+j) ver cs)).set j .dead) o=.dead\/(o<nx/\ext S nx ((obs.map (Y3 (nx+j) ver cs)).set j .dead) o=ext S nx obs o)\/(nx<=o/\ext S nx ((obs.map (Y3 (nx+j) ver cs)).set j .dead) o=Y3 (nx+j) ver cs (ext S nx obs o)):=by intro o;by_cases ho:o<nx;simp_all[zL];by_cases a0:o=nx+j;simp_all;refine .inr (.inr ⟨by omega,?_⟩);simp only[ext];rw[if_neg ho,if_neg ho,Aa,Aa,A6 D9,Ai];cases obs[o-nx]?<;>rfl
 generalize a1:ext S nx ((obs.map (Y3 (nx+j) ver cs)).set j .dead)=T at *;generalize a2:ext S nx obs=S1 at *;have l:∀o v,(T o).ver=some v->(S1 o).ver=some v:=by intro o v hv;obtain q|⟨_,q⟩|⟨_,q⟩:=g o;rw[q]at hv;cases hv;simp_all;simp_all[HJ]
 have f:∀o,T o≠.dead->S1 o≠.dead:=by intro o ho hd;obtain q|⟨_,q⟩|⟨_,q⟩:=g o;exact ho q;simp_all;rw[hd]at q;exact ho q
 have hM:∀b,C.M T b->C.M S1 b:=λb ⟨o,k,ho,hl⟩=>⟨o,k,f o ho,hl⟩;have d:Step C S1 w C T w:=⟨rfl,⟨rfl,Ag _⟩,rfl,Ag _,Ag _,Ag _,λb _ hb=>⟨rfl,λh=>hb (hM b h)⟩,λo v1 hv=>.inr ⟨v1,l o v1 hv,Ag _,λ_=>rfl⟩⟩;have s:∀{p u},Rel C S1 w p u->Rel C T w (Xq (nx+j) ver cs p) u:=λh=>HK st.sim hid hT f d h;refine⟨C,⟨⟨λo ho=>st.sim.lt o (f o ho),λo v hv=>st.sim.clk o v (l o v hv),λo o' b k k' ho z=>st.sim.J o o' b k k' (f o ho) (f o' z),?_,?_⟩,st.size,λi=>s (st.fr i),r.keep d st.v⟩,d⟩
 .intro o v e' ds ho;obtain q|⟨_,q⟩|⟨_,q⟩:=g o;simp_all;rw[q]at ho;obtain hn|⟨b,k,c,h1,h2,h3,t,h5,h6⟩:=st.sim.cells o v e' ds ho;exact .inl hn;exact .inr ⟨b,k,c,h1,h2,h3,t,h5,λi p u hp hu=>(h6 i p u hp hu).mono d⟩;rw[q]at ho;cases hs:S1 o with
  |dead=>simp_all
  |map v es=>rw[hs]at ho;cases ho
  |cells v2 e2 ds2 =>
  rw[hs]at ho;cases ho;obtain⟨h1,h2⟩|⟨b,k,c,h1,h2,h3,t,h5,h6⟩:=st.sim.cells o _ _ ds2 hs<;>grind
 intro o v es ho;have hs:S1 o=.map v es:=by
  obtain q|⟨_,q⟩|⟨_,q⟩:=g o;simp_all;simp_all;rw[q]at ho;cases hs:S1 o with
  |dead=>simp_all
  |map v es=>rw[hs]at ho;exact ho
  |cells v2 e2 ds2=>rw[hs]at ho;cases ho
 obtain⟨b,k,ms,cl,h1,h2,h3,t⟩:=st.sim.maps o v es hs;exact⟨b,k,ms,cl,h1,h2,h3,λi x m hx hm=>⟨(t i x m hx hm).1,(t i x m hx hm).2.mono d⟩⟩
end
def mP{f:FuncId}{args:List PV}{sz:Nat}(j:Nat)
  (h:∀S nx,yh nx S->Spec P f args S (λp S'=>∃v,p=.agg [.sl (nx+j) v sz 0 k]/\S'=S.set (nx+j) (.cells v e cs))) (y:k*sz=cs.length):Pure P f args (.agg [.lst k cs]):=by
 intro S;refine⟨(h (λ_=>.dead) 0 (λ_ _=>rfl)).1,?_⟩;intro C w vs l hl s;have n:yh C.next S:=λi hi=>by
  cases hs:S i with
  |dead=>rfl
  |cells v e cs=>have:=l.lt i (by rw[hs];simp);omega
  |map v es=>have:=l.lt i (by rw[hs];simp);omega
 refine((h S C.next n).2 C w vs l hl s).mono ?_;rintro z w' ⟨p,u,S',C',rfl,⟨v,rfl,rfl⟩,d,a,b⟩;have m:=n (C.next+j) D9;have g:∀o,S o=S.set (C.next+j) (.cells v e cs) o\/S o=.dead:=by intro o;by_cases ho:o=C.next+j;simp_all;simp_all[q10]
 obtain⟨k1,r⟩:=a.kill g;refine⟨.agg [.lst k cs],u,S,C',rfl,⟨rfl,rfl⟩,?_,k1,b.trans r⟩;cases d with
 |agg t h1 h2 =>
 refine .agg D9 h1 λi c x hc hv=>?_;cases i with
 |succ i=>simp at hc
 |zero =>
 simp at hc;subst hc;have:=ct a (q11 _ _ _) m (λo ho=>by obtain q|q:=g o;rw[<-q];exact ho;exact absurd q ho) r (h2 0 _ x rfl hv);simp_all
def mQ(k:Nat):ext S nx obs=ext S nx (obs++replicate k .dead):=by funext i;simp only[ext];grind
def VT(k:Nat)(x:Ob):(ext S nx obs).set (nx+obs.length+k) x=ext S nx (obs++replicate k .dead++[x]):=by rw[mQ k];have:=jP (S:=S) (nx:=nx) (obs:=obs++replicate k .dead) x;grind
theorem Sim.few(h:Sim C S w){o ver:Nat}(hs:S o=.cells ver e cs)(m:Nat):Sim C (S.set o (.cells ver e (cs.take m))) w/\Step C S w C (S.set o (.cells ver e (cs.take m))) w:=by
 have a:∀i,S.set o (.cells ver e (cs.take m)) i≠.dead->S i≠.dead:=by intro i hi;by_cases q:i=o;simp_all;simp_all[q10]
 have r:∀i,(S.set o (.cells ver e (cs.take m)) i).ver=(S i).ver:=by intro i;by_cases q:i=o;subst q;rw[q11,hs];rfl;simp_all[q10]
 have st:Step C S w C (S.set o (.cells ver e (cs.take m))) w:=⟨rfl,⟨rfl,Ag _⟩,rfl,Ag _,Ag _,Ag _,λb _ hM=>⟨rfl,λ⟨i,k,hi,hl⟩=>hM ⟨i,k,a i hi,hl⟩⟩,
  λi v1 hv=>.inr ⟨v1,by simp_all,Ag _,λ_=>rfl⟩⟩
 refine⟨⟨λi hi=>h.lt i (a i hi),λi v hv=>h.clk i v EI,λi s b k k' hi g=>h.J i s b k k' (a i hi) (a s g),?_,?_⟩,st⟩;intro i u y ds hi;by_cases q:i=o;subst q;rw[q11]at hi;cases hi;obtain⟨h1,h2⟩|⟨b,k,c,h1,h2,h3,f,l,n⟩:=h.cells i _ _ _ hs;simp_all;refine .inr ⟨b,k,c,h1,h2,h3,by simp;omega,λj v t hv=>l j v (by simp at t;omega) hv,λj p v d hv=>?_⟩;rw[BT]at d;split at d;exact(n j p v d hv).mono st;cases d;rw[q10 _ _ _ _ q]at hi;obtain hn|⟨b,k,c,h1,h2,h3,f,l,n⟩:=h.cells i _ _ _ hi;exact .inl hn;exact .inr ⟨b,k,c,h1,h2,h3,f,l,λj p v d hv=>(n j p v d hv).mono st⟩;intro i v es hi;by_cases q:i=o;simp_all;rw[q10 _ _ _ _ q]at hi;obtain⟨b,k,ms,cl,h1,h2,h3,f⟩:=h.maps i v es hi;exact⟨b,k,ms,cl,h1,h2,h3,λj x m hx hm=>⟨(f j x m hx hm).1,(f j x m hx hm).2.mono st⟩⟩
def HL{Q:Exit->(Nat->PV)->Store->Prop}{c:Code}{ver:Nat}(j m:Nat)(b:obs[j]?=some (.cells ver e cs))
  (h:PW P r n N c Q F (ext S nx (obs.set j (.cells ver e (cs.take m))))):PW P r n N c Q F (ext S nx obs):=by
 have d:j<obs.length:=(Af.1 b).1;refine QK (F':=F) (S':=ext S nx (obs.set j (.cells ver e (cs.take m)))) (λC w a st=>?_) h;have hs:ext S nx obs (nx+j)=.cells ver e cs:=by rw[zZ,Aa,b];rfl
 have:=st.sim.few hs m;rw[yu _ D9 D9,AJ]at this;exact⟨C,⟨this.1,st.size,λk=>(st.fr k).mono this.2,r.keep this.2 st.v⟩,this.2⟩
@[simp] theorem HN(l m:List α)(k:Nat)(d:α):(l++m).getD (l.length+k) d=m.getD k d:=EH
@[simp] theorem ZzS(l m:List α)(d:α):(l++m).getD l.length d=m.getD 0 d:=HN l m 0 d
@[simp] theorem HO(l m:List α)(k:Nat)(x:α):(l++m).set (l.length+k) x=l++m.set k x:=EA
@[simp] theorem ZzT(l m:List α)(x:α):(l++m).set l.length x=l++m.set 0 x:=HO l m 0 x
@[simp low] theorem ZzU(a b:Int):(a != b)=!decide (a=b):=rfl
attribute [simp] Wx Xq Y3 VR
def zq{a b:Prop}(x:a)(y:b):a/\b:=⟨x,y⟩
def zD{a b c:Prop}(x:a)(y:b)(z:c):a/\b/\c:=⟨x,y,z⟩
def zM{a b c d:Prop}(x:a)(y:b)(z:c)(u:d):a/\b/\c/\d:=⟨x,y,z,u⟩
def yp{a b c d e:Prop}(x:a)(y:b)(z:c)(u:d)(v:e):a/\b/\c/\d/\e:=⟨x,y,z,u,v⟩
def zN{a b c d e f:Prop}(x:a)(y:b)(z:c)(u:d)(v:e)(w:f):a/\b/\c/\d/\e/\f:=⟨x,y,z,u,v,w⟩
abbrev KT:=(Nat->PV)->Store->List Ob->Prop
abbrev CT:=List Oper->(Nat->PV)->Store->List Ob->Option Nat->FuncId->List PV->Prop
abbrev HT:=List Oper->(Nat->PV)->Store->List Ob->Oper->Prop
section
variable {P:Program} {r:Rd} {n nx N:Nat} {Q:Exit->(Nat->PV)->Store->Prop} {F:Nat->PV} {S:Store} {obs:List Ob} {A:Prop} {R:KT->CT->HT->Prop}
abbrev XQ(P:Program)(nx:Nat)(D:List (Nat × Nat))(l:List Oper)(F:Nat->PV)(S:Store)(obs:List Ob)(R:KT->CT->HT->Prop):Prop :=
 ∀(K:KT) (Gc:CT) (Gh:HT) (X:List Oper->KT),(∀F S obs,X [] F S obs=K F S obs)->(∀o os F S obs,X (o::os) F S obs=Wq P nx D Gc Gh (X os) o os F S obs)->R K Gc Gh->X l F S obs
abbrev CQ(P:Program)(r:Rd)(n nx:Nat)(ops:Array Oper)(K:KT):CT:=λos F S obs d f args=>os <:+ ops.toList->SpecV P r.V f args (ext S nx obs) (λp S'=>∃S1 obs1,S'=ext S1 nx obs1/\XS P r n nx ops K os (yo F d p) S1 obs1)
abbrev HQ(P:Program)(r:Rd)(n nx:Nat)(ops:Array Oper)(K:KT):HT:=λos F S obs o=>os <:+ ops.toList->PO P r n o F (ext S nx obs) (λp S'=>∃S1 obs1,S'=ext S1 nx obs1/\XS P r n nx ops K os (yo F o.dst p) S1 obs1)
variable {ops:Array Oper}
def cA{id:Nat}(d:ug N ops=true)(h:XS P r n nx ops (λF' S' b=>Q .normal F' (ext S' nx b)) ops.toList F S obs):PW P r n N (.region id ops false) Q F (ext S nx obs):=by
 intro C w a st;refine wpIn_region ?_;have:=mG (Q':=λe a' w'=>∃F' S' C',Q e F' S'/\St r C' S' w' N F' a'/\Defs w.heap.size a.defers C' S' w' a'.defers/\Step C (ext S nx obs) w C' S' w') (bT d)
  (λF' S' b C' w' a' f st g c=>⟨F',_,C',f,st,.of_eq g,c⟩) ops.size 0 F S obs C w a rfl (K:=λF' S' b=>Q .normal F' (ext S' nx b)) (by simpa using h) st rfl (.refl _ _ _)
 simpa using this
def Xr{K:KT}{l:List Oper}{D:List (Nat × Nat)}(hs:l <:+ ops.toList)(a:ZH ops D=true)(b:XQ P nx D l F S obs R)(h:R K (CQ P r n nx ops K) (HQ P r n nx ops K)):XS P r n nx ops K l F S obs :=
 Wr a (Gc:=CQ P r n nx ops K) (Gh:=HQ P r n nx ops K) (λ_ _ _ _ _ _ _ h=>h) (λ_ _ _ _ _ h=>h) l F S obs hs (b K _ _ (XR P nx D K _ _) (λ_ _ _=>rfl) (λ_ _ _ _ _=>rfl) h)
def zi{id:Nat}(D:List (Nat × Nat))(a:A)
  (h:R (λF' S' b=>Q .normal F' (ext S' nx b)) (CQ P r n nx ops λF' S' b=>Q .normal F' (ext S' nx b)) (HQ P r n nx ops λF' S' b=>Q .normal F' (ext S' nx b)))
  (d:ug N ops=true:=by rfl) (e:ZH ops D=true:=by rfl)
  (f:A->XQ P nx D ops.toList F S obs R:=by intro a K Gc Gh X c g h;simp -implicitDefEqProofs [c,g,a];exact h):PW P r n N (.region id ops false) Q F (ext S nx obs) :=
 cA d (Xr (DN _) e (f a) h)
def aF{y:Code}{id:Nat}(D:List (Nat × Nat))(a:A)
  (h:R (λF' S' b=>QI (PW P r n N y Q) Q .normal F' (ext S' nx b)) (CQ P r n nx ops λF' S' b=>QI (PW P r n N y Q) Q .normal F' (ext S' nx b)) (HQ P r n nx ops λF' S' b=>QI (PW P r n N y Q) Q .normal F' (ext S' nx b)))
  (d:ug N ops=true:=by rfl) (e:ZH ops D=true:=by rfl)
  (f:A->XQ P nx D ops.toList F S obs R:=by intro a K Gc Gh X c g h;simp -implicitDefEqProofs [c,g,a];exact h):PW P r n N (.seq (.region id ops false) y) Q F (ext S nx obs) :=
 ze (zi D a h d e f)
def zg{id:Nat}
  (h:R (λF' S' a=>Q .normal F' (ext S' nx a)) (CQ P r n nx ops λF' S' a=>Q .normal F' (ext S' nx a)) (HQ P r n nx ops λF' S' a=>Q .normal F' (ext S' nx a)))
  (c:ug N ops=true:=by rfl) (d:ZH ops []=true:=by rfl)
  (e:XQ P nx [] ops.toList F S obs R:=by intro K Gc Gh X b f h;simp -implicitDefEqProofs [b,f];exact h):PW P r n N (.region id ops false) Q F (ext S nx obs) :=
 cA c (Xr (DN _) d e h)
def EJ{y:Code}{id:Nat}
  (h:R (λF' S' a=>(QI (PW P r n N y Q) Q) .normal F' (ext S' nx a)) (CQ P r n nx ops λF' S' a=>(QI (PW P r n N y Q) Q) .normal F' (ext S' nx a)) (HQ P r n nx ops λF' S' a=>(QI (PW P r n N y Q) Q) .normal F' (ext S' nx a)))
  (c:ug N ops=true:=by rfl) (d:ZH ops []=true:=by rfl)
  (e:XQ P nx [] ops.toList F S obs R:=by intro K Gc Gh X b f h;simp -implicitDefEqProofs [b,f];exact h):PW P r n N (.seq (.region id ops false) y) Q F (ext S nx obs):=ze (zg h c d e)
variable {os:List Oper}
def yK{K:KT}{d:Option Nat}{f:FuncId}{args:List PV}{v:PV}(D:List (Nat × Nat))(c:Pure P f args v)(a:A)
  (h:R K (CQ P r n nx ops K) (HQ P r n nx ops K)) (e:ZH ops D=true:=by rfl)
  (g:A->XQ P nx D os (yo F d v) S obs R:=by intro a K Gc Gh X b i h;simp -implicitDefEqProofs [b,i,a];exact h):CQ P r n nx ops K os F S obs d f args :=
 λhs=>((c _).mono (by rintro _ _ ⟨rfl,rfl⟩;exact⟨_,_,rfl,Xr hs e (g a) h⟩)).v
def zu{K:KT}{d:Option Nat}{f:FuncId}{args:List PV}{v:PV}(b:Pure P f args v)
  (h:R K (CQ P r n nx ops K) (HQ P r n nx ops K)) (c:ZH ops []=true:=by rfl)
  (e:XQ P nx [] os (yo F d v) S obs R:=by intro K Gc Gh X a g h;simp -implicitDefEqProofs [a,g];exact h):CQ P r n nx ops K os F S obs d f args :=
 λhs=>((b _).mono (by rintro _ _ ⟨rfl,rfl⟩;exact⟨_,_,rfl,Xr hs c e h⟩)).v
def xQ{K:KT}(D:List (Nat × Nat))(a:A)(hs:os <:+ ops.toList)
  (h:R K (CQ P r n nx ops K) (HQ P r n nx ops K)) (c:ZH ops D=true:=by rfl)
  (d:A->XQ P nx D os F S obs R:=by intro a K Gc Gh X b e h;simp -implicitDefEqProofs [b,e,a];exact h):XS P r n nx ops K os F S obs:=Xr hs c (d a) h
def zS{K:KT}(hs:os <:+ ops.toList)
  (h:R K (CQ P r n nx ops K) (HQ P r n nx ops K)) (b:ZH ops []=true:=by rfl)
  (c:XQ P nx [] os F S obs R:=by intro K Gc Gh X a d h;simp -implicitDefEqProofs [a,d];exact h):XS P r n nx ops K os F S obs:=Xr hs b c h
end
section
abbrev PT:=Row->(Nat->PV)->Store->List Ob->Option Nat->FuncId->List PV->Prop
abbrev HT':=Row->(Nat->PV)->Store->List Ob->Oper->Prop
variable {P:Program} {r:Rd} {n nx N:Nat} {Q:Exit->(Nat->PV)->Store->Prop} {F:Nat->PV} {S:Store} {obs:List Ob} {A:Prop} {R:KT->PT->PT->HT'->Prop}
abbrev YQ(P:Program)(nx:Nat)(ops:Array Oper)(ids:Option (List Nat))(S0:Store)(row:Row)(F:Nat->PV)(S:Store)(obs:List Ob)(R:KT->PT->PT->HT'->Prop):Prop :=
 ∀(K:KT) (Gp Gc:PT) (Gh:HT') (X:Row->KT),(∀F S obs,X .done F S obs=K F S obs)->(∀F S obs,X .stop F S obs=True)->(∀i is F S obs,X (.pure i is) F S obs=Ws P ops ids S0 Gp (X is) i is F S obs) ->
  (∀i is more F S obs,X (.alt i is more) F S obs=(Wt P nx ops ids S0 Gc Gh (X is) i is F S obs/\X more F S obs))->R K Gp Gc Gh->X row F S obs
abbrev GP(P:Program)(r:Rd)(n nx:Nat)(ops:Array Oper)(ids:Option (List Nat))(S0:Store)(K:KT):PT:=λis F S obs d f args=>∃p,Pure P f args p/\PX P r n ops ids S0 is (yo F d p) (ext S nx obs) (KX nx K)
abbrev GC(P:Program)(r:Rd)(n nx:Nat)(ops:Array Oper)(ids:Option (List Nat))(S0:Store)(K:KT):PT:=λis F S obs d f args=>SpecV P r.V f args (ext S nx obs) (λp S'=>y8 ids S0 S'/\PX P r n ops ids S0 is (yo F d p) S' (KX nx K))
abbrev GH(P:Program)(r:Rd)(n nx:Nat)(ops:Array Oper)(ids:Option (List Nat))(S0:Store)(K:KT):HT':=λis F S obs o=>jN P F (ext S nx obs) o=none/\PO P r n o F (ext S nx obs) (λp S'=>y8 ids S0 S'/\PX P r n ops ids S0 is (yo F o.dst p) S' (KX nx K))
variable {ops:Array Oper}{ids:Option (List Nat)}{row:Row}
def fF{S0:Store}{K:KT}(a:YQ P nx ops ids S0 row F S obs R)(h:R K (GP P r n nx ops ids S0 K) (GC P r n nx ops ids S0 K) (GH P r n nx ops ids S0 K)):PX P r n ops ids S0 row F (ext S nx obs) (KX nx K) :=
 QO (Gp:=GP P r n nx ops ids S0 K) (Gc:=GC P r n nx ops ids S0 K) (Gh:=GH P r n nx ops ids S0 K) (λ_ _ _ _ _ _ _ h=>h) (λ_ _ _ _ _ _ _ h=>h) (λ_ _ _ _ _ h=>h) row F S obs
  (a K _ _ _ (XD P nx ops ids S0 K _ _ _) (λ_ _ _=>rfl) (λ_ _ _=>rfl) (λ_ _ _ _ _=>rfl) (λ_ _ _ _ _ _=>rfl) h)
def zC{id:Nat}(ids:Option (List Nat))(row:Row)(a:A)
  (h:R (λF' S' b=>Q .normal F' (ext S' nx b)) (GP P r n nx ops ids (ext S nx obs) λF' S' b=>Q .normal F' (ext S' nx b)) (GC P r n nx ops ids (ext S nx obs) λF' S' b=>Q .normal F' (ext S' nx b)) (GH P r n nx ops ids (ext S nx obs) λF' S' b=>Q .normal F' (ext S' nx b)))
  (g:ug N ops=true:=by rfl) (i:Xi ops=true:=by rfl) (c:wY ops [] [] row=true:=by rfl)
  (j:A->YQ P nx ops ids (ext S nx obs) row F S obs R:=by intro a K Gp Gc Gh X d e f k h;simp -implicitDefEqProofs [d,e,f,k,a];exact h)(hm:P.follows .mixedOrders=true:=by kernel_rfl):PW P r n N (.region id ops true) Q F (ext S nx obs) :=
 bZ ids row hm g i c (mI row F _ (fF (j a) h))
def aG{y:Code}{id:Nat}(ids:Option (List Nat))(row:Row)(a:A)
  (h:R (λF' S' b=>QI (PW P r n N y Q) Q .normal F' (ext S' nx b)) (GP P r n nx ops ids (ext S nx obs) λF' S' b=>QI (PW P r n N y Q) Q .normal F' (ext S' nx b)) (GC P r n nx ops ids (ext S nx obs) λF' S' b=>QI (PW P r n N y Q) Q .normal F' (ext S' nx b)) (GH P r n nx ops ids (ext S nx obs) λF' S' b=>QI (PW P r n N y Q) Q .normal F' (ext S' nx b)))
  (g:ug N ops=true:=by rfl) (i:Xi ops=true:=by rfl) (c:wY ops [] [] row=true:=by rfl)
  (j:A->YQ P nx ops ids (ext S nx obs) row F S obs R:=by intro a K Gp Gc Gh X d e f k h;simp -implicitDefEqProofs [d,e,f,k,a];exact h)(hm:P.follows .mixedOrders=true:=by kernel_rfl):PW P r n N (.seq (.region id ops true) y) Q F (ext S nx obs) :=
 ze (zC ids row a h g i c j hm)
def zK{S0:Store}{K:KT}{g:Row}{d:Option Nat}{f:FuncId}{args:List PV}{v:PV}(i:Pure P f args v)(a:A)
  (h:R K (GP P r n nx ops ids S0 K) (GC P r n nx ops ids S0 K) (GH P r n nx ops ids S0 K))
  (j:A->YQ P nx ops ids S0 g (yo F d v) S obs R:=by intro a K Gp Gc Gh X b c e k h;simp -implicitDefEqProofs [b,c,e,k,a];exact h):GP P r n nx ops ids S0 K g F S obs d f args :=
 ⟨v,i,fF (j a) h⟩
def xE{S0:Store}{K:KT}{e:Row}(a:A)
  (h:R K (GP P r n nx ops ids S0 K) (GC P r n nx ops ids S0 K) (GH P r n nx ops ids S0 K))
  (f:A->YQ P nx ops ids S0 e F S obs R:=by intro a K Gp Gc Gh X b c d g h;simp -implicitDefEqProofs [b,c,d,g,a];exact h):PX P r n ops ids S0 e F (ext S nx obs) (KX nx K):=fF (f a) h
end
theorem zz:undef=Value.tuple #[]:=rfl
section
variable {P:Program} {nx N:Nat} {S:Store} {f:FuncId} {fn:Func} {c:Code} {rs:Array ResultVar} {args:List PV}
def zx{v:PV}(hf:P.funcs[f]?=some fn)(b:fn.ntmps=N)(a:fn.results=rs)(h:∀S nx,yh nx S->PW P jM 0 N c (Yr P rs.toList (λp S'=>p=v/\S'=S)) (ZG args) (ext S nx []))
  (hname : (fn.name == "runtime.NumGoroutine") = false := by rfl) (hb : fn.body = some c := by exact rfl) (hargs : args.length ≤ N := by simp) : Pure P f args v :=
 HC hf hname hb b (congrArg Array.toList a) hargs h
def yB(hf:P.funcs[f]?=some fn)(b:fn.ntmps=N)(a:fn.results=rs)(h:∀nx,yh nx S->PW P jM 0 N c (Yr P rs.toList Q) (ZG args) (ext S nx []))
  (hname : (fn.name == "runtime.NumGoroutine") = false := by rfl) (hb : fn.body = some c := by exact rfl) (hargs : args.length ≤ N := by simp) : Spec P f args S Q :=
 mK hf hname hb b (congrArg Array.toList a) hargs h
def ZI(b:yh nx S)(hf:P.funcs[f]?=some fn)(d:fn.ntmps=N)(a:fn.results=rs)(h:PW P jM 0 N c (Yr P rs.toList Q) (ZG args) (ext S nx []))
  (hname : (fn.name == "runtime.NumGoroutine") = false := by rfl) (hb : fn.body = some c := by exact rfl) (hargs : args.length ≤ N := by simp) : Spec P f args S Q :=
 HB b hf hname hb d (congrArg Array.toList a) hargs h
end
def c9{P:Program}{f:FuncId}{fn:Func}{id N:Nat}{ops:Array Oper}{y:Code}{rs:List ResultVar}{args:List PV}{v:PV}{R:Store->Nat->KT->CT->HT->Prop}(hf:P.funcs[f]?=some fn)
 (h:∀S nx,yh nx S->R S nx (λF T a=>QI (PW P jM 0 N y (Yr P rs λp T=>p=v/\T=S)) (Yr P rs λp T=>p=v/\T=S) .normal F (ext T nx a)) (CQ P jM 0 nx ops λF T a=>QI (PW P jM 0 N y (Yr P rs λp T=>p=v/\T=S)) (Yr P rs λp T=>p=v/\T=S) .normal F (ext T nx a)) (HQ P jM 0 nx ops λF T a=>QI (PW P jM 0 N y (Yr P rs λp T=>p=v/\T=S)) (Yr P rs λp T=>p=v/\T=S) .normal F (ext T nx a)))
 (b:fn.ntmps=N:=by conv=>lhs;whnf)(a:fn.results.toList=rs:=by conv=>lhs;whnf)(i:(fn.name == "runtime.NumGoroutine")=false:=by rfl)(j:fn.body=some (.seq (.region id ops false) y):=by exact rfl)(k:args.length<=N:=by simp)(c:ug N ops=true:=by rfl)(d:ZH ops []=true:=by rfl)(e:∀S nx,XQ P nx [] ops.toList (ZG args) S [] (R S nx):=by intro S nx K Gc Gh X b f h;simp -implicitDefEqProofs [b,f];exact h):Pure P f args v:=HC hf i j b a k λS nx q=>EJ (h S nx q) c d (e S nx)
def i'{P:Program}{f:FuncId}{fn:Func}{N:Nat}{c:Code}{rs:List ResultVar}{args:List PV}{S:Store}{Q:PV->Store->Prop}(hf:P.funcs[f]?=some fn)(h:∀nx,yh nx S->PW P jM 0 N c (Yr P rs Q) (ZG args) (ext S nx []))(b:fn.ntmps=N:=by conv=>lhs;whnf)(a:fn.results.toList=rs:=by conv=>lhs;whnf)(i:(fn.name == "runtime.NumGoroutine")=false:=by rfl)(j:fn.body=some c:=by exact rfl)(k:args.length<=N:=by simp):Spec P f args S Q:=mK hf i j b a k h
instance {α:Type} [Enc α]:Enc (List α):=⟨λl=>[L l],1,λ_=>rfl,λ_=>rfl⟩
@[simp] theorem HR[Enc α](l:List α):Enc.enc l=[L l]:=rfl
@[simp high] theorem qJ[Enc α](l:List (List α)):(l.flatMap Enc.enc).length=l.length:=(ju l).trans (BK _)
@[simp high] theorem HU[Enc α](l:List (List α)):(l.flatMap Enc.enc).take l.length=l.flatMap Enc.enc:=Ad (Cx (qJ l))
abbrev U(n:Nat):PV:=.sc (.int .u64 n)
instance:Enc Nat:=⟨λx=>[U x],1,λ_=>rfl,λ_=>rfl⟩
@[simp] theorem ZzV(x:Nat):Enc.enc x=[U x]:=rfl
@[simp high] theorem mR(l:List Nat):(l.flatMap Enc.enc).length=l.length:=(ju l).trans (BK _)
@[simp high] theorem ZzW(l:List Nat):(l.flatMap Enc.enc).take l.length=l.flatMap Enc.enc:=Ad (Cx (mR l))
instance:Enc Bool:=⟨λx=>[B x],1,λ_=>rfl,λ_=>rfl⟩
@[simp] theorem ZzX(x:Bool):Enc.enc x=[B x]:=rfl
@[simp high] theorem HV(l:List Bool):(l.flatMap Enc.enc).length=l.length:=(ju l).trans (BK _)
@[simp high] theorem ZzY(l:List Bool):(l.flatMap Enc.enc).take l.length=l.flatMap Enc.enc:=Ad (Cx (HV l))
structure Stop where
 c:Int
 q:Int
 deriving DecidableEq
instance:Inhabited Stop:=⟨⟨0,0⟩⟩
instance:Enc Stop:=⟨λs=>[I s.c,I s.q],2,λ_=>rfl,λ_=>rfl⟩
@[simp] theorem ZzZ(s:Stop):Enc.enc s=[I s.c,I s.q]:=rfl
@[simp high] theorem Y4(l:List Stop):(l.flatMap Enc.enc).length=l.length*2:=ju l
@[simp high] theorem Zz0(l:List Stop):(l.flatMap Enc.enc).take (l.length*2)=l.flatMap Enc.enc:=Yt l
structure Cust where
 kind:Int
 O:Int
 D:List Nat
 H:Int
 size:Int
 Q:Int
 X:Int
 Y:Int
 deriving DecidableEq
instance:Inhabited Cust:=⟨⟨0,0,[],0,0,0,0,0⟩⟩
abbrev yf(c:Cust):List PV:=[I c.kind,I c.O,L c.D,I c.H,I c.size,I c.Q,I c.X,I c.Y]
instance:Enc Cust:=⟨yf,8,λ_=>rfl,λ_=>rfl⟩
@[simp] theorem Zz1(c:Cust):Enc.enc c=[I c.kind,I c.O,L c.D,I c.H,I c.size,I c.Q,I c.X,I c.Y]:=rfl
@[simp high] theorem Zz2(l:List Cust):(l.flatMap Enc.enc).length=l.length*8:=ju l
@[simp high] theorem Zz3(l:List Cust):(l.flatMap Enc.enc).take (l.length*8)=l.flatMap Enc.enc:=Yt l
structure Inst where
 days:Int
 U:Int
 R:Int
 len:Int
 y:List Cust
 J:List (List Int)
 deriving DecidableEq
abbrev zE(x:Inst):List PV:=[I x.days,I x.U,I x.R,I x.len,L x.y,L x.J]
abbrev zT:=List Stop
abbrev zt:=List zT
abbrev zG:=List zt
end Go.Proofs.YtdjbbndbalhekaaGreatDoor.Pv
