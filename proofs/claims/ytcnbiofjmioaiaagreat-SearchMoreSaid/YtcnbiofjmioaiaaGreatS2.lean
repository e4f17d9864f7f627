/- Part of a proof, packed. -/
import Derived.Test.YtcnbiofjmioaiaaGreatS1
set_option maxRecDepth 100000
set_option maxHeartbeats 3200000
namespace Go.Proofs.YtcnbiofjmioaiaaGreat.Pv
open Go
def PCalls (P : Program) (f : FuncId) (args : List PV) (S : Store) (Q : PV → Store → Prop) : Prop :=
 ∀ (C : Ctx) (w : World) (vs : Array Value), Sim C S w → args.length = vs.size → (∀ (i : Nat) (c : PV) (v : Value), args[i]? = some c → vs[i]? = some v → Rel C S w c v) →
  Calls P f vs w fun e w' => ∃ p v S' C', e = .returned v ∧ Q p S' ∧ Rel C' S' w' p v ∧ Sim C' S' w' ∧ Step C S w C' S' w'
theorem PCalls.mono {P : Program} {f : FuncId} {args : List PV} {S : Store} {Q Q' : PV → Store → Prop} (h : PCalls P f args S Q) (hq : ∀ p S', Q p S' → Q' p S') : PCalls P f args S Q' := by
 intro C w vs h1 h2 h3
 refine (h C w vs h1 h2 h3).mono ?_
 rintro e w' ⟨p, v, S', C', a, b, c⟩
 exact ⟨p, v, S', C', a, hq _ _ b, c⟩
def PCallsV (P : Program) (V : Ctx → Store → World → Prop) (f : FuncId) (args : List PV) (S : Store) (Q : PV → Store → Prop) : Prop :=
 ∀ (C : Ctx) (w : World) (vs : Array Value), Sim C S w → V C S w → args.length = vs.size → (∀ (i : Nat) (c : PV) (v : Value), args[i]? = some c → vs[i]? = some v → Rel C S w c v) →
  Calls P f vs w fun e w' => ∃ p v S' C', e = .returned v ∧ Q p S' ∧ Rel C' S' w' p v ∧ Sim C' S' w' ∧ Step C S w C' S' w'
theorem PCalls.v {P : Program} {V : Ctx → Store → World → Prop} {f : FuncId} {args : List PV} {S : Store} {Q : PV → Store → Prop} (h : PCalls P f args S Q) : PCallsV P V f args S Q := fun C w vs hS _ => h C w vs hS
theorem PCallsV.mono {P : Program} {V : Ctx → Store → World → Prop} {f : FuncId} {args : List PV} {S : Store} {Q Q' : PV → Store → Prop} (h : PCallsV P V f args S Q) (hq : ∀ p S', Q p S' → Q' p S') : PCallsV P V f args S Q' := by
 intro C w vs h1 h2 h3 h4
 refine (h C w vs h1 h2 h3 h4).mono ?_
 rintro e w' ⟨p, v, S', C', a, b, c⟩
 exact ⟨p, v, S', C', a, hq _ _ b, c⟩
def qy (P : Program) (f : FuncId) : Prop := ∀ (args : Array Value) (w : World), (callFunc f args).run P w = .ok (.enter f args) w
section
variable {P : Program} {r : Rd} {n N : Nat} {Q : Exit → (Nat → PV) → Store → Prop} {F : Nat → PV} {S : Store}
theorem Wc {f : FuncId} {args : Array Value} {w : World} {R : Ending → World → Prop} (h : Calls P f args w R) : CallsIn (Fe r) n P f args w R := by
 exact (callsIn_wide (n := n)).2 h
theorem ZaV {o : Oper} {c : Call} {x : Operand} {k : FuncId} {fs cs : List PV} {K : PV → Store → Prop} {R : PV → Store → Prop} (ho : o.op = .call c) (hc : c.callee = .value x) (hx : ev F x = .fn (.func k) fs cs) (hE : qy P k)
  (h : PCallsV P r.V k (fs ++ c.args.toList.map (ev F) ++ cs) S R) (hK : ∀ p S', R p S' → K p S') : PO P r n o F S K := by
 intro G hG C w a N st next Q' hnext
 have hxo : x ∈ o.op.operands := by simp [ho, Op.operands, Call.operands, hc]
 have hxG : ev G x = .fn (.func k) fs cs := (hG x hxo).trans hx
 have harg : ∀ y ∈ c.args.toList, ev G y = ev F y := fun y hy => hG y (by simp only [ho, Op.operands, Call.operands, Array.mem_append]; exact .inr (Array.mem_toList_iff.1 hy))
 have hmap : c.args.toList.map (ev F) = c.args.toList.map (ev G) := List.map_congr_left fun y hy => (harg y hy).symm
 rw [hmap] at h
 have hrel := st.ev x
 rw [hxG] at hrel
 generalize hv : a.eval x = v at hrel
 cases hrel with
 | fn hf hc' h1 h2 =>
  rename_i fv cv
  have hrun : (execOp a.eval o).run P w = .ok (.enter k ((fv ++ c.args.map a.eval) ++ cv)) w := by
   unfold execOp
   simp only [ho, resolve, hc, hv, Deferred.ofValue, Sem.run_bind, Sem.run_pure, Result.andThen_ok, invoke]
   exact hE _ w
  refine qu (x := .enter k ((fv ++ c.args.map a.eval) ++ cv)) (w' := w) (by intro c' hc'; rw [ho] at hc'; cases hc') hrun ?_
  rw [Oper.uponIn_enter]
  refine ⟨fun hd => ?_, ?_⟩
  ·cases hd
  ·have hlist := Ql (l := c.args.toList) st.ev
   simp only [Array.toArray_toList] at hlist
   have key := h C w ((fv ++ c.args.map a.eval) ++ cv) st.sim st.v (by simp [hf, hc']) (by
    intro i p v hp hv
    by_cases q1 : i < fs.length
    ·rw [List.append_assoc, List.getElem?_append_left q1] at hp
     rw [Array.append_assoc, Array.getElem?_append_left (by omega)] at hv
     exact h1 i p v hp hv
    ·by_cases q2 : i < fs.length + (c.args.toList.map (ev G)).length
     ·rw [List.append_assoc, List.getElem?_append_right (by omega), List.getElem?_append_left (by omega)] at hp
      rw [Array.append_assoc, Array.getElem?_append_right (by omega), Array.getElem?_append_left (by simp at q2 ⊢; omega)] at hv
      rw [← hf] at hv
      exact hlist.2 _ p v hp hv
     ·rw [List.getElem?_append_right (by simp at q2 ⊢; omega), List.length_append] at hp
      rw [Array.getElem?_append_right (by simp at q2 ⊢; omega), Array.size_append] at hv
      have e : fs.length + (c.args.toList.map (ev G)).length = fv.size + (c.args.map a.eval).size := by simp [hf]
      rw [← e] at hv
      exact h2 _ p v hp hv)
   refine (Wc key).mono ?_
   rintro e w' ⟨p, v, S', C', rfl, hq, hr, hs, hst⟩
   exact hnext v w' C' S' p (hK _ _ hq) hr hs hst
theorem ZJ {o : Oper} {c : Call} {x : Operand} {k : FuncId} {fs cs : List PV} {K : PV → Store → Prop} {R : PV → Store → Prop} (ho : o.op = .call c) (hc : c.callee = .value x) (hx : ev F x = .fn (.func k) fs cs) (hE : qy P k)
  (h : PCalls P k (fs ++ c.args.toList.map (ev F) ++ cs) S R) (hK : ∀ p S', R p S' → K p S') : PO P r n o F S K :=
 ZaV ho hc hx hE h.v hK
def wN (args : List PV) : Nat → PV := fun i => args.getD i (.sc undef)
def xg (P : Program) (F : Nat → PV) (S : Store) : List ResultVar → Option (List PV)
 | [] => some []
 | .tmp t :: rs => (xg P F S rs).map (F t :: ·)
 | .cell a t :: rs =>
  match vA P t S (F a) with
  | some p => (xg P F S rs).map (p :: ·)
  | none => none
def zq : List PV → PV
 | [p] => p
 | ps => .tup ps
def vB (P : Program) (rs : List ResultVar) (Q : PV → Store → Prop) : Exit → (Nat → PV) → Store → Prop
 | .normal, F, S => ∃ ps S', xg P F S rs = some ps ∧ Q (zq ps) S' ∧ ∀ o, S' o = S o ∨ S' o = .dead
 | .ret, F, S => ∃ ps S', xg P F S rs = some ps ∧ Q (zq ps) S' ∧ ∀ o, S' o = S o ∨ S' o = .dead
 | _, _, _ => False
def Qr (a : Act) (x : ResultVar) : Sem Value :=
 match x with
 | .tmp t => pure (a.tmps.getD t undef)
 | .cell x t => do loadVar t (← asAddr (a.tmps.getD x undef))
theorem Zf5 {C : Ctx} {w : World} {a : Act} (st : St r C S w N F a) : ∀ (rs : List ResultVar) (ps : List PV), xg P F S rs = some ps →
  ∃ vs : List Value, (rs.mapM (Qr a)).run P w = .ok vs w ∧ ps.length = vs.length ∧
   ∀ (i : Nat) (p : PV) (v : Value), ps[i]? = some p → vs[i]? = some v → Rel C S w p v := by
 intro rs
 induction rs with
 | nil => intro ps h; cases h; exact ⟨[], by simp, rfl, by simp⟩
 | cons x rs ih =>
  intro ps h
  cases x with
  | tmp t =>
   simp only [xg] at h
   obtain ⟨qs, hq, rfl⟩ := Option.map_eq_some_iff.1 h
   obtain ⟨vs, h1, h2, h3⟩ := ih qs hq
   refine ⟨a.tmps.getD t undef :: vs, ?_, by simp [h2], ?_⟩
   ·simp only [List.mapM_cons, Qr, Sem.run_bind, Sem.run_pure, Result.andThen_ok, h1]
   ·intro i p v hp hv
    cases i with
    | zero => simp only [List.getElem?_cons_zero, Option.some.injEq] at hp hv; subst hp; subst hv; exact st.fr t
    | succ i => exact h3 i p v (by simpa using hp) (by simpa using hv)
  | cell y t =>
   simp only [xg] at h
   split at h
   ·rename_i p0 hp0
    obtain ⟨qs, hq, rfl⟩ := Option.map_eq_some_iff.1 h
    obtain ⟨vs, h1, h2, h3⟩ := ih qs hq
    obtain ⟨u, hu, hrel⟩ := ZaM hp0 st.sim (st.fr y)
    have haddr : ∃ ad, a.tmps.getD y undef = .pointer (some ad) := by
     have hy := st.fr y
     generalize a.tmps.getD y undef = u0 at hy
     unfold vA at hp0
     split at hp0
     ·rename_i e; rw [e] at hy; cases hy with | ptr hh => exact hh
     ·rename_i e; rw [e] at hy; cases hy with | ip => exact ⟨_, rfl⟩
     ·cases hp0
    obtain ⟨ad, had⟩ := haddr
    rw [had] at hu
    refine ⟨u :: vs, ?_, by simp [h2], ?_⟩
    ·simp only [Instr.loadAt, Instr.sureAddr, Sem.run_bind, Sem.run_pure, Result.andThen_ok] at hu
     simp only [List.mapM_cons, Qr, Sem.run_bind, had, asAddr, Sem.run_pure, Result.andThen_ok, hu, h1]
    ·intro i p v hp hv
     cases i with
     | zero => simp at hp hv; subst hp; subst hv; exact hrel
     | succ i => exact h3 i p v (by simpa using hp) (by simpa using hv)
   ·cases h
theorem Zf6 {C : Ctx} {w : World} {a : Act} (st : St r C S w N F a) {fn : Func} {rs : List ResultVar} (hrs : fn.results.toList = rs) {ps : List PV} (h : xg P F S rs = some ps) :
  ∃ v, (results fn a.tmps).run P w = .ok v w ∧ Rel C S w (zq ps) v := by
 obtain ⟨vs, h1, h2, h3⟩ := Zf5 (P := P) st rs ps h
 have hm : (fn.results.mapM (Qr a)).run P w = .ok vs.toArray w := by
  rw [← Array.toArray_toList (xs := fn.results), List.mapM_toArray, hrs]
  simp only [Sem.run_map, h1, Result.andThen_ok]
 have e : ∀ g : ResultVar → Sem Value, g = Qr a → (fn.results.mapM g).run P w = .ok vs.toArray w := by rintro g rfl; exact hm
 unfold results
 rw [Sem.run_bind, e _ (by funext x; cases x <;> rfl)]
 simp only [Result.andThen_ok, Sem.run_pure]
 refine ⟨_, rfl, ?_⟩
 match vs, ps, h2 with
 | [v], [p], _ => exact h3 0 p v rfl rfl
 | [], [], _ => exact .tup rfl (by simp)
 | v :: v' :: vs, p :: p' :: ps, h2 =>
  simp only [List.size_toArray, List.length_cons]
  rw [dif_neg (by omega)]
  exact .tup (by simpa using h2) (fun i c v hc hv => h3 i c v hc (by simpa using hv))
theorem ZaW {w : World} {D : Nat} (hD : w.heap[D]? = some (.deferred (some []))) (b : Nat) (o : Obj) (hb : w.heap[b]? = some o) (ho : ∀ x, o ≠ .deferred x) : (w.putObj D (.deferred none)).heap[b]? = some o := by
 rw [World.putObj_heap_other (by rintro rfl; rw [hD] at hb; cases hb; exact ho _ rfl)]; exact hb
theorem ZaX {C : Ctx} {w : World} {D : Nat} (hD : w.heap[D]? = some (.deferred (some []))) {p : PV} {v : Value} (hr : Rel C S w p v) : Rel C S (w.putObj D (.deferred none)) p v := by
 have hne := ZaW hD
 induction hr with
 | junk v => exact .junk v
 | sc v => exact .sc v
 | agg hl h1 _ ih => exact .agg hl h1 ih
 | tup hl _ ih => exact .tup hl ih
 | lst0 => exact .lst0
 | lst1 hn hm hb hM' hs h1 _ ih => exact .lst1 hn hm (hne _ _ hb (by intro x e; cases e)) hM' hs h1 ih
 | ip hb hM' hs h1 _ ih => exact .ip (hne _ _ hb (by intro x e; cases e)) hM' hs h1 ih
 | nl0 => exact .nl0
 | nl hn hb hM' hl h1 _ ih => exact .nl hn (hne _ _ hb (by intro x e; cases e)) hM' hl h1 ih
 | ptr h1 ho h => exact .ptr h1 ho h
 | sl h1 ho h => exact .sl h1 ho h
 | fn hf hc _ _ ih ih' => exact .fn hf hc ih ih'
 | ifc _ ih => exact .ifc ih
 | mp h1 ho h => exact .mp h1 ho h
theorem Sim.take {C : Ctx} {S : Store} {w : World} (h : Sim C S w) {D : Nat} (hD : w.heap[D]? = some (.deferred (some []))) (hM : ¬ C.M S D) : Sim C S (w.putObj D (.deferred none)) := by
 have hne := ZaW hD
 have hrel : ∀ {p v}, Rel C S w p v → Rel C S (w.putObj D (.deferred none)) p v := fun hr => ZaX hD hr
 refine ⟨h.lt, h.clk, h.dist, ?_, ?_⟩
 ·intro o ver e cs hs
  rcases h.cells o ver e cs hs with hn | ⟨b, k, c, h1, h2, h3, h4, h5, h6⟩
  ·exact .inl hn
  ·exact .inr ⟨b, k, c, h1, hne _ _ h2 (by intro x e; cases e), h3, h4, h5, fun i p v hp hv => hrel (h6 i p v hp hv)⟩
 ·intro o ver es hs
  obtain ⟨b, k, ms, cl, h1, h2, h3, h4⟩ := h.maps o ver es hs
  exact ⟨b, k, ms, cl, h1, hne _ _ h2 (by intro x e; cases e), h3, fun i e m he hm => ⟨(h4 i e m he hm).1, hrel (h4 i e m he hm).2⟩⟩
theorem Marks.take {n0 : Nat} {C : Ctx} {S : Store} {w : World} {D : Nat} : ∀ {ds : List Deferred}, (∀ d ∈ ds, d ≠ { target := .collected D, args := #[] }) → Marks n0 C S w ds → Marks n0 C S (w.putObj D (.deferred none)) ds
 | [], _, _ => trivial
 | d :: ds, hne, ⟨⟨D', h1, h2, h3, h4, h5⟩, h⟩ => by
  refine ⟨⟨D', h1, h2, ?_, h4, h5⟩, Marks.take (fun d' hd' => hne d' (by simp [hd'])) h⟩
  rw [World.putObj_heap_other (by rintro rfl; exact hne d (by simp) h2)]; exact h3
theorem Zf7 {C0 : Ctx} {S0 : Store} {w0 : World} {fn : Func} {tmps : Array Value} {rs : List ResultVar} {Q : PV → Store → Prop} {S1 : Store} {ps : List PV} (hrs : fn.results.toList = rs) (h1 : xg P F S rs = some ps) (hQ : Q (zq ps) S1) (hk : ∀ o, S1 o = S o ∨ S1 o = .dead) :
  ∀ (ds : List Deferred) (C : Ctx) (w : World), Marks w0.heap.size C S w ds → St w9 C S w N F { tmps := tmps, defers := [] } → Step C0 S0 w0 C S w →
   LeavesInM (Fe w9) 0 P fn tmps (fun e w' => ∃ p v S' C', e = .returned v ∧ Q p S' ∧ Rel C' S' w' p v ∧ Sim C' S' w' ∧ Step C0 S0 w0 C' S' w') ds .returning w := by
 intro ds
 induction ds with
 | nil =>
  intro C w _ st step
  obtain ⟨v, hv, hrel⟩ := Zf6 (a := { tmps := tmps, defers := [] }) st hrs h1
  obtain ⟨k1, k2⟩ := st.sim.kill hk
  exact ⟨v, hv, _, v, S1, C, rfl, hQ, hrel.mono k2, k1, step.trans k2⟩
 | cons d ds ih =>
  intro C w ⟨⟨D, q1, q2, q3, q4, q5⟩, hm⟩ st step
  refine ⟨by simp, .inl ⟨D, w.putObj D (.deferred none), by rw [q2], run_takeDeferred q3, ?_⟩⟩
  have hDlt := qj q3
  have sim' := st.sim.take q3 q4
  refine ih C _ (Marks.take (fun d' hd' => q2 ▸ q5 d' hd') hm) ⟨sim', st.size, fun i => ?_, trivial⟩ ?_
  ·have hr := st.fr i
   generalize (({ tmps := tmps, defers := [] } : Act).tmps.getD i undef) = v at hr ⊢
   generalize F i = p at hr ⊢
   exact ZaX q3 hr
  ·refine ⟨step.os, step.tape, step.output, by simpa using step.size, step.next, step.clock, fun b hb hM => ?_, step.vers⟩
   obtain ⟨k1, k2⟩ := step.blocks b hb hM
   exact ⟨by rw [World.putObj_heap_other (by omega)]; exact k1, k2⟩
theorem Wd {V : Ctx → Store → World → Prop} {keep : ∀ {C C' : Ctx} {S S' : Store} {w w' : World}, Step C S w C' S' w' → V C S w → V C' S' w'} {f : FuncId} {fn : Func} {c : Code} {rs : List ResultVar} {args : List PV} {Q : PV → Store → Prop} (hf : P.funcs[f]? = some fn) (hb : fn.body = some c) (hN : fn.ntmps = N) (hrs : fn.results.toList = rs) (hargs : args.length ≤ N)
  (h : PW P ⟨none, V, keep⟩ 0 N c (vB P rs Q) (wN args) S) : PCallsV P V f args S Q := by
 intro C w vs hS hV hl hr
 refine (callsIn_wide (n := 0)).1 (callsIn_of_wp_marks hf hb trivial ?_ rfl)
 have st : St ⟨none, V, keep⟩ C S w N (wN args) { tmps := vs ++ Array.replicate (fn.ntmps - vs.size) undef, defers := [] } := by
  refine ⟨hS, by simp [hN]; omega, fun i => ?_, hV⟩
  unfold wN
  simp only [Array.getD_eq_getD_getElem?, List.getD_eq_getElem?_getD]
  by_cases hi : i < args.length
  ·rw [List.getElem?_eq_getElem hi, Array.getElem?_append_left (by omega), Array.getElem?_eq_getElem (by omega)]
   simp only [Option.getD_some]
   exact hr i _ _ (List.getElem?_eq_getElem hi) (Array.getElem?_eq_getElem (by omega))
  ·rw [List.getElem?_eq_none (by omega), Array.getElem?_append_right (by omega), Array.getElem?_replicate]
   split <;> exact .sc _
 refine wpIn_mono (h C w _ st) ?_
 rintro e a' w' ⟨F', S', C', hq, hst, ⟨ms, hd, hm⟩, hstep⟩
 have main : (∃ ps S'', xg P F' S' rs = some ps ∧ Q (zq ps) S'' ∧ ∀ o, S'' o = S' o ∨ S'' o = .dead) →
   LeavesInM (Fe w9) 0 P fn a'.tmps (fun e w' => ∃ p v S' C', e = .returned v ∧ Q p S' ∧ Rel C' S' w' p v ∧ Sim C' S' w' ∧ Step C S w C' S' w') a'.defers .returning w' := by
  rintro ⟨ps, S'', h1, h2, h3⟩
  rw [hd, List.append_nil]
  exact Zf7 hrs h1 h2 h3 ms C' w' hm ⟨hst.sim, hst.size, hst.fr, trivial⟩ hstep
 cases e with
 | normal => exact main hq
 | ret => exact main hq
 | _ => exact hq.elim
theorem xU {f : FuncId} {fn : Func} {c : Code} {rs : List ResultVar} {args : List PV} {Q : PV → Store → Prop} (hf : P.funcs[f]? = some fn) (hb : fn.body = some c) (hN : fn.ntmps = N) (hrs : fn.results.toList = rs) (hargs : args.length ≤ N)
  (h : PW P w9 0 N c (vB P rs Q) (wN args) S) : PCalls P f args S Q :=
 fun C w vs hS hl hr => Wd hf hb hN hrs hargs h C w vs hS trivial hl hr
theorem uL {c : Code} {F' : Nat → PV} {S' : Store} (hg : ∀ C w a, St r C S w N F a → ∃ C', St r C' S' w N F' a ∧ Step C S w C' S' w) (h : PW P r n N c Q F' S') : PW P r n N c Q F S := by
 intro C w a st
 obtain ⟨C', st', hstep⟩ := hg C w a st
 refine wpIn_mono (h C' w a st') ?_
 rintro e a' w' ⟨F2, S2, C2, h1, h2, h3, h4⟩
 exact ⟨F2, S2, C2, h1, h2, h3, hstep.trans h4⟩
theorem Zf8 {c : Code} {F' : Nat → PV} (hF : ∀ i, F' i = F i ∨ F' i = .junk) (h : PW P r n N c Q F' S) : PW P r n N c Q F S :=
 uL (fun C w a st => ⟨C, ⟨st.sim, st.size, fun i => by rcases hF i with e | e <;> rw [e]; exact st.fr i; exact .junk _, st.v⟩, .refl _ _ _⟩) h
def Yq (P : Program) (ops : Array Oper) : List Oper → (Nat → PV) → Option (Nat → PV)
 | [], F => some F
 | o :: os, F =>
  match gd ops F o with
  | none => none
  | some false => Yq P ops os (zQ F o.dst (.sc undef))
  | some true =>
   match xB P F o with
   | some p => Yq P ops os (zQ F o.dst p)
   | none => none
theorem We {ops : Array Oper} {K : (Nat → PV) → Store → Prop} : ∀ (l : List Oper) (F F' : Nat → PV), Yq P ops l F = some F' → K F' S → wL P r n [] ops l F S K
 | [], F, F', h, hK => by cases h; exact hK
 | o :: os, F, F', h, hK => by
  have hb : JC [] o = false := by unfold JC; split <;> rfl
  simp only [Yq] at h
  simp only [wL]
  split at h
  ·cases h
  ·rename_i hg; simp only [hg]; exact We os _ _ h hK
  ·rename_i hg
   simp only [hg, hb, Bool.false_eq_true, if_false]
   split at h
   ·rename_i p hp; simp only [hp]; exact We os _ _ h hK
   ·cases h
theorem qg {id : Nat} {ops : Array Oper} {F' : Nat → PV} (hN : xC N ops = true) (h : Yq P ops ops.toList F = some F') (hQ : Q .normal F' S) : PW P r n N (.region id ops false) Q F S :=
 ZaN [] hN (We _ _ _ h hQ)
theorem yK {id : Nat} {ops : Array Oper} (H : List Nat) (hN : xC N ops = true) (h : ∀ K : (Nat → PV) → Store → Prop, (∀ F' S', Q .normal F' S' → K F' S') → wL P r n H ops ops.toList F S K) : PW P r n N (.region id ops false) Q F S :=
 ZaN H hN (h _ fun _ _ h => h)
def ZK (P : Program) (ops : Array Oper) (S : Store) : List Oper → (Nat → PV) → Option (Nat → PV)
 | [], F => some F
 | o :: os, F =>
  match gd ops F o with
  | none => none
  | some false => ZK P ops S os (zQ F o.dst (.sc undef))
  | some true =>
   match xB P F o with
   | some p => ZK P ops S os (zQ F o.dst p)
   | none =>
    match u9 P none S F o with
    | some p => ZK P ops S os (zQ F o.dst p)
    | none => none
theorem Zf9 {id : Nat} {ops : Array Oper} {F' : Nat → PV} (hm : P.follows .mixedOrders = true) (hN : xC N ops = true) (hR : ZH ops = true) (hrow : jN ops [] [] (Row.pures (List.range ops.size) .done) = true)
  (h : ZK P ops S ops.toList F = some F') (hQ : Q .normal F' S) : PW P r n N (.region id ops true) Q F S := by
 refine JK none (Row.pures (List.range ops.size) .done) hm hN hR hrow ?_
 have key : ∀ (m k : Nat) (G : Nat → PV), ops.size - k = m → ZK P ops S (ops.toList.drop k) G = some F' → PX P r n ops none S (Row.pures ((List.range ops.size).drop k) .done) G S (Q .normal) := by
  intro m
  induction m with
  | zero =>
   intro k G hk hrun
   rw [List.drop_eq_nil_of_le (by simp; omega)] at hrun ⊢
   cases hrun; exact hQ
  | succ m ih =>
   intro k G hk hrun
   have hlt : k < ops.size := by omega
   rw [X8 k _ hlt]
   have e2 : ops.toList.drop k = ops[k] :: ops.toList.drop (k + 1) := by
    rw [List.drop_eq_getElem_cons (by simpa using hlt)]; simp
   rw [e2] at hrun
   have hget : ops[k]? = some ops[k] := by simp
   simp only [ZK] at hrun
   simp only [Row.pures, PX, hget]
   split at hrun
   ·cases hrun
   ·rename_i hg; simp only [hg]; exact ih (k + 1) _ (by omega) hrun
   ·rename_i hg
    simp only [hg]
    split at hrun
    ·rename_i p hp; simp only [hp]; exact ih (k + 1) _ (by omega) hrun
    ·rename_i hp
     simp only [hp]
     split at hrun
     ·rename_i p hl; simp only [hl]; exact ih (k + 1) _ (by omega) hrun
     ·cases hrun
 exact key ops.size 0 F rfl (by simpa using h)
theorem ZL {id : Nat} {ops : Array Oper} (ids : Option (List Nat)) (row : Row) (hm : P.follows .mixedOrders = true) (hN : xC N ops = true) (hR : ZH ops = true) (hrow : jN ops [] [] row = true)
  (h : ∀ K : (Nat → PV) → Store → Prop, (∀ F' S', Q .normal F' S' → K F' S') → PX P r n ops ids S row F S K) : PW P r n N (.region id ops true) Q F S :=
 JK ids row hm hN hR hrow (h _ fun _ _ h => h)
end
open Go
section
variable {P : Program} {r : Rd} {n N : Nat} {Q : Exit → (Nat → PV) → Store → Prop} {F : Nat → PV} {S : Store}
theorem Wf {C : Ctx} {w : World} {cs : List PV} {vs : Array Value} (h : RelL C S w cs vs) : cs.length ≤ vs.size ∧ (∀ (i : Nat) (v : Value), i < cs.length → vs[i]? = some v → v.oneCell' = true) ∧
  ∀ (i : Nat) (p : PV) (v : Value), cs[i]? = some p → vs[i]? = some v → Rel C S w p v :=
 ⟨by rw [h.1]; exact Nat.le_refl _, fun i v _ hv => h.2.1 i v hv, h.2.2⟩
theorem ZaY (C : Ctx) (S : Store) (w w' : World) (o ver k : Nat) (x : Ob) (hx : x.ver = some ver) : Rel (C.put o ver (some (w.heap.size, k))) (S.set o x) w' (.ptr o ver 0) (.pointer (some ⟨w.heap.size, 0, none⟩)) := by
 refine .ptr ⟨_, rfl⟩ (by simp only [Ctx.put]; omega) fun v0 hv0 => ?_
 rw [Store.set_same, hx] at hv0
 cases hv0
 exact ⟨Nat.le_refl _, fun _ => ⟨w.heap.size, k, by simp [Ctx.put], rfl⟩⟩
theorem Fresh.clock (C : Ctx) {S : Store} {j : Nat} (h : S j = .dead) : Fresh C S j C.clock := ⟨h, .inr (Nat.le_refl _)⟩
theorem ZaZ {o : Oper} {t : TypeId} {z : Value} {K : PV → Store → Prop} (ho : o.op = .alloc t) (hz : Program.zeroOf P t = some z) (h1 : z.cells.all (·.oneCell') = true)
  (hK : ∀ C : Ctx, S C.next = .dead → ∃ id v, Fresh C S id v ∧ K (.ptr id v 0) (S.set id (.cells v t (qD z)))) : PO P r n o F S K := by
 intro G _ C w a N st next Q' hnext
 have hr := Wf (ZaE (C := C) (S := S) (w := w) h1)
 obtain ⟨id, ver, hfr, hK⟩ := hK C st.sim.free
 obtain ⟨k1, k2⟩ := st.sim.object' hfr t z.cells (qD z) hr.1 hr.2.1 hr.2.2
 refine qu (x := .value (.pointer (some ⟨w.heap.size, 0, none⟩))) (w' := w.alloc (.cells z.cells t)) (by intro c hc; rw [ho] at hc; cases hc) ?_ (hnext _ _ _ _ _ hK (ZaY C S w _ _ _ _ _ rfl) k1 k2)
 unfold execOp
 simp only [ho, Instr.alloc, Sem.run_bind, ZF hz, Result.andThen_ok, newVar, newRow, Sem.run_pure, run_newObj, World.alloc_eq]
theorem Zga {o : Oper} {t : TypeId} {x : Operand} {K : PV → Store → Prop} (ho : o.op = .box t x) (hf : (ev F x).fit = true)
  (hK : ∀ C : Ctx, S C.next = .dead → ∃ id v, Fresh C S id v ∧ K (.ptr id v 0) (S.set id (.cells v t (ev F x).cells))) : PO P r n o F S K := by
 intro G hG C w a N st next Q' hnext
 have e : ev G x = ev F x := hG x (by simp [ho, Op.operands])
 rw [← e] at hf
 simp only [← e] at hK
 have hr := Wf ((st.ev x).cells' hf)
 obtain ⟨id, ver, hfr, hK⟩ := hK C st.sim.free
 obtain ⟨k1, k2⟩ := st.sim.object' hfr t (a.eval x).cells (ev G x).cells hr.1 hr.2.1 hr.2.2
 refine qu (x := .value (.pointer (some ⟨w.heap.size, 0, none⟩))) (w' := w.alloc (.cells (a.eval x).cells t)) (by intro c hc; rw [ho] at hc; cases hc) ?_ (hnext _ _ _ _ _ hK (ZaY C S w _ _ _ _ _ rfl) k1 k2)
 unfold execOp
 simp only [ho, Instr.box, newVar, newRow, Sem.run_bind, run_newObj, Result.andThen_ok, Sem.run_pure, World.alloc_eq]
theorem Qt (C : Ctx) (S : Store) (w w' : World) (o ver k sz m cap : Nat) (x : Ob) (hx : x.ver = some ver) (hm : m ≤ cap) (hM : m ≤ jn) (hc : cap ≤ maxLen) (hk : cap * sz = k) :
  Rel (C.put o ver (some (w.heap.size, k))) (S.set o x) w' (.sl o ver sz 0 m) (.slice (some ⟨w.heap.size, 0, none⟩) m cap) := by
 refine .sl ⟨_, _, rfl, hm, hM, hc, fun _ => ⟨_, _, rfl⟩⟩ (by simp only [Ctx.put]; omega) fun v0 hv0 => ?_
 rw [Store.set_same, hx] at hv0
 cases hv0
 exact ⟨Nat.le_refl _, fun _ => .inr ⟨w.heap.size, k, _, _, by simp [Ctx.put], rfl, fun _ => ⟨rfl, hk⟩, fun _ => rfl⟩⟩
def Program.bytesOf' (P : Program) (t : TypeId) : Option Nat := (P.info? t).map (·.bytes)
theorem Wg {t : TypeId} {b : Nat} (h : Program.bytesOf' P t = some b) (w : World) : ∃ i, (typeInfo t).run P w = .ok i w ∧ i.bytes = b := by
 unfold Program.bytesOf' at h
 obtain ⟨i, hi, rfl⟩ := Option.map_eq_some_iff.1 h
 exact ⟨i, by simp [typeInfo, hi], rfl⟩
theorem Zgb {o : Oper} {t e : TypeId} {l c : Operand} {z : Value} {kl kc : IntKind} {a b by_ : Nat} {K : PV → Store → Prop} (ho : o.op = .makeSlice t l c) (ht : P.underlying t = some (.slice e)) (hl : ev F l = .sc (.int kl (a : Int))) (hc : ev F c = .sc (.int kc (b : Int)))
  (hz : Program.zeroOf P e = some z) (h1 : z.cells.all (·.oneCell') = true) (hsz : z.cells.size = P.cellsOf e) (h0 : P.cellsOf e ≠ 0) (hby : Program.bytesOf' P e = some by_) (hab : a ≤ b) (hb : b ≤ 140737488355328) (hbb : b * by_ ≤ 281474976710656)
  (hK : ∀ C : Ctx, S C.next = .dead → ∃ id v, Fresh C S id v ∧ K (.sl id v (P.cellsOf e) 0 a) (S.set id (.cells v e (ji b z)))) : PO P r n o F S K := by
 intro G hG C w act N st next Q' hnext
 have e1 : ev G l = _ := (hG l (by simp [ho, Op.operands])).trans hl
 have e2 : ev G c = _ := (hG c (by simp [ho, Op.operands])).trans hc
 have r1 := st.ev l
 have r2 := st.ev c
 rw [e1] at r1; rw [e2] at r2
 generalize hv1 : act.eval l = v1 at r1
 generalize hv2 : act.eval c = v2 at r2
 cases r1; cases r2
 have hr := Wf (ZaG (C := C) (S := S) (w := w) h1 b)
 obtain ⟨id, ver, hfr, hK⟩ := hK C st.sim.free
 obtain ⟨k1, k2⟩ := st.sim.object' hfr e ((Array.range (b * z.cells.size)).map (z.cells[· % z.cells.size]!)) (ji b z) hr.1 hr.2.1 hr.2.2
 obtain ⟨i, hi, hib⟩ := Wg hby w
 have wrapb : IntKind.i64.wrap (b : Int) = b := IntWalk.i64_in _ ⟨by omega, by omega⟩
 have wrapa : IntKind.i64.wrap (a : Int) = a := IntWalk.i64_in _ ⟨by omega, by omega⟩
 refine qu (x := .value (.slice (some ⟨w.heap.size, 0, none⟩) a b)) (w' := w.alloc (.cells ((Array.range (b * z.cells.size)).map (z.cells[· % z.cells.size]!)) e)) (by intro c hc; rw [ho] at hc; cases hc) ?_
  (hnext _ _ _ _ _ hK (Qt C S w _ _ _ _ _ _ _ _ rfl hab (by unfold jn; omega) (by unfold maxLen; omega) (by rw [Array.size_map, Array.size_range, hsz])) k1 k2)
 unfold execOp
 simp only [ho, hv1, hv2, Instr.makeSlice, Sem.run_bind, run_underlying ht, Result.andThen_ok, asInt, asIntOf, Sem.run_pure, hi, hib, wrapa, wrapb]
 have hcast : (by_ : Int) * (b : Int) ≤ 281474976710656 := by
  obtain ⟨q, hq⟩ : ∃ q, b * by_ = q := ⟨_, rfl⟩
  have e : (by_ : Int) * (b : Int) = (q : Int) := by rw [← hq, Int.natCast_mul, Int.mul_comm]
  rw [e]; rw [hq] at hbb; omega
 have p48 : (2 : Int) ^ 48 = 281474976710656 := rfl
 have q1 : decide ((b : Int) < 0) = false := decide_eq_false (by omega)
 have q2 : decide ((by_ : Int) * (b : Int) > 2 ^ 48) = false := decide_eq_false (by rw [p48]; omega)
 have q3 : decide ((a : Int) < 0) = false := decide_eq_false (by omega)
 have q4 : decide ((a : Int) > (b : Int)) = false := decide_eq_false (by omega)
 rw [if_neg (by rw [q1, q2, q3, q4]; decide)]
 simp only [Sem.run_bind, run_askRoom, Result.andThen_ok, Int.toNat_natCast, xS h0]
 by_cases hb0 : b = 0
 ·subst hb0
  simp only [Nat.zero_mul, if_true, Sem.run_pure, Result.andThen_ok, Sem.run_bind, newRow, run_newObj, Array.range_zero', Array.map_empty, World.alloc_eq]
 ·have hne : b * P.cellsOf e ≠ 0 := Nat.mul_ne_zero hb0 h0
  rw [if_neg hne]
  simp only [Sem.run_bind, ZF hz, Result.andThen_ok, Sem.run_pure, newRow, run_newObj, World.alloc_eq, hsz]
theorem Zgc {S : Store} {X : Nat → Nat → Prop} (h : ∀ id, S id = .dead → X id 0) : ∀ C : Ctx, S C.next = .dead → ∃ id v, Fresh C S id v ∧ X id v := fun C hd => ⟨C.next, 0, ⟨hd, .inl (Nat.le_refl _)⟩, h _ hd⟩
theorem uc {S : Store} {X : Nat → Nat → Prop} (j : Nat) (hj : S j = .dead) (h : ∀ v, X j v) : ∀ C : Ctx, S C.next = .dead → ∃ id v, Fresh C S id v ∧ X id v := fun C _ => ⟨j, C.clock, .clock C hj, h _⟩
theorem ZM {o : Oper} {t : TypeId} {z : Value} {K : PV → Store → Prop} (ho : o.op = .alloc t) (hz : Program.zeroOf P t = some z) (h1 : z.cells.all (·.oneCell') = true)
  (hK : ∀ id, S id = .dead → K (.ptr id 0 0) (S.set id (.cells 0 t (qD z)))) : PO P r n o F S K :=
 ZaZ ho hz h1 (Zgc (X := fun id v => K (.ptr id v 0) (S.set id (.cells v t (qD z)))) hK)
structure SrcOk (P : Program) (w : World) (sz : Nat) (x : Value) (m : Nat) (news : List Value) : Prop where
 len : (Builtin.lenOf x).run P w = .ok m w
 cells : (Builtin.firstCells sz m x).run P w = .ok news.toArray w
 cells' : (Builtin.firstCells sz m x).run P w.drew = .ok news.toArray w.drew
 size : news.length = m * sz
 one : ∀ v ∈ news, v.oneCell' = true
theorem Wh {t ty e : TypeId} {x : Value} {b : Option Addr} {k cap : Nat} (ht : P.underlying t = some (.slice e)) (h0 : P.cellsOf e ≠ 0) {w : World} (hs : SrcOk P w (P.cellsOf e) x 0 []) (hk : k ≤ cap) :
  (Builtin.append_ #[t, t] ty #[.slice b k cap, x]).run P w = .ok (.slice b k cap) w := by
 have hsz := xS h0 w
 unfold Builtin.append_
 simp only [List.getElem?_toArray, List.getElem?_cons_zero, List.getElem?_cons_succ, Sem.run_bind, run_underlying ht, Result.andThen_ok, hsz, Sem.run_pure, Bool.false_eq_true, if_false, hs.len, Nat.add_zero]
 rw [if_pos hk]
 simp only [Bool.not_false, if_true, Sem.run_bind, hs.cells, Result.andThen_ok]
 cases b with
 | none => rfl
 | some a => simp [storeCells]
theorem Zgd {t ty e : TypeId} {x : Value} {g k cap m : Nat} {news : List Value} {cur : Array Value} (ht : P.underlying t = some (.slice e)) (h0 : P.cellsOf e ≠ 0) {w : World} (hs : SrcOk P w (P.cellsOf e) x m news)
  (hg : w.heap[g]? = some (.cells cur e (0, 0))) (hk : k + m ≤ cap) (hc : cur.size = cap * P.cellsOf e) :
  (Builtin.append_ #[t, t] ty #[.slice (some ⟨g, 0, none⟩) k cap, x]).run P w =
   .ok (.slice (some ⟨g, 0, none⟩) (k + m) cap) (w.setRow g (cur.toList.take (k * P.cellsOf e) ++ news ++ cur.toList.drop (k * P.cellsOf e + news.length)).toArray) := by
 have hsz := xS h0 w
 have hfit : k * P.cellsOf e + 0 + news.length ≤ cur.size := by
  rw [hs.size, hc, Nat.add_zero, ← Nat.add_mul]; exact Nat.mul_le_mul_right _ hk
 have hst := run_storeCells_at P g (k * P.cellsOf e) e news 0 cur w hg hfit hs.one
 simp only [Nat.add_zero] at hst
 unfold Builtin.append_
 simp only [List.getElem?_toArray, List.getElem?_cons_zero, List.getElem?_cons_succ, Sem.run_bind, run_underlying ht, Result.andThen_ok, hsz, Sem.run_pure, Bool.false_eq_true, if_false, hs.len]
 rw [if_pos hk]
 simp only [Bool.not_false, if_true, Sem.run_bind, hs.cells, Result.andThen_ok, Addr.add_plain, Nat.zero_add, hst, Sem.run_pure]
theorem JL {t ty e : TypeId} {x : Value} {b : Option Addr} {k cap m by_ : Nat} {z : Value} {olds news : List Value} (ht : P.underlying t = some (.slice e)) (h0 : P.cellsOf e ≠ 0) (hz : Program.zeroOf P e = some z) (hby : Program.bytesOf' P e = some by_)
  {w : World} (hs : SrcOk P w (P.cellsOf e) x m news) (hold : (Builtin.firstCells (P.cellsOf e) k (.slice b k cap)).run P w.drew = .ok olds.toArray w.drew) (hk : cap < k + m) (hbytes : (k + m) * by_ ≤ 140737488355328) (hbp : by_ ≠ 0) :
  (Builtin.append_ #[t, t] ty #[.slice b k cap, x]).run P w =
   .ok (.slice (some ⟨w.heap.size, 0, none⟩) (k + m) (grownCap w (k + m) cap e)) (w.drew.alloc (.cells (olds.toArray ++ news.toArray ++ Builtin.zeroCells z.cells (grownCap w (k + m) cap e - (k + m))) e)) := by
 have hsz := xS h0 w
 obtain ⟨i, hi, hib⟩ := Wg hby w
 obtain ⟨i2, hi2, hib2⟩ := Wg hby w.drew
 have hfit : Builtin.nextslicecap (k + m) cap * by_ ≤ 281474976710656 := growslice_fits hk hbytes
 unfold Builtin.append_
 simp only [List.getElem?_toArray, List.getElem?_cons_zero, List.getElem?_cons_succ, Sem.run_bind, run_underlying ht, Result.andThen_ok, hsz, Sem.run_pure, Bool.false_eq_true, if_false, hs.len]
 rw [if_neg (by omega)]
 simp only [Sem.run_bind, hi, Result.andThen_ok, hib]
 rw [if_neg (by
  rintro ⟨_, h | h⟩
  ·cases h
  ·exact hbp h)]
 simp only [Sem.run_bind, hi, Result.andThen_ok, hib]
 rw [if_neg (by
  have : (2 : Nat) ^ 48 = 281474976710656 := by decide
  rw [this]; omega)]
 simp only [Sem.run_bind, run_choose, Question.forced, Bool.false_eq_true, if_false, Result.andThen_ok, World.drew_eq]
 rw [show (Question.appendCap (k + m) cap e).cut (w.tape w.drawn (.appendCap (k + m) cap e)) = grownCap w (k + m) cap e from rfl]
 simp only [hi2, Result.andThen_ok, run_askRoom, hold, Bool.not_false, if_true, hs.cells', ZF hz, newRow, Sem.run_bind, run_newObj, Sem.run_pure, World.alloc_eq, World.size_drew]
theorem Wi {w : World} {b k cap sz : Nat} {c : Array Value} {e : TypeId} {fz : Nat × Nat} (hb : w.heap[b]? = some (.cells c e fz)) (o : Nat) (hl : o + k * sz ≤ c.size) :
  (Builtin.firstCells sz k (.slice (some ⟨b, o, none⟩) k cap)).run P w = .ok (c.extract o (o + k * sz)) w := by
 unfold Builtin.firstCells loadCells
 have := ZaB (P := P) (o := o) hb (k * sz) 0 #[] (by omega)
 simpa using this
def uM (S : Store) (sz : Nat) (x : PV) : Option (Nat × List PV) :=
 match x with
 | .lst m ds => if ds.length = m * sz then some (m, ds) else none
 | .sl o ver sz' off m =>
  match S o with
  | .cells v _ cs => if v = ver ∧ sz' = sz ∧ off + m * sz ≤ cs.length then some (m, (cs.drop off).take (m * sz)) else none
  | _ => none
 | .sc (.slice none 0 0) => some (0, [])
 | _ => none
theorem JM {C : Ctx} {w : World} {sz m : Nat} {x : PV} {ds : List PV} {u : Value} (hS : Sim C S w) (h : uM S sz x = some (m, ds)) (hu : Rel C S w x u) :
  ∃ news : List Value, SrcOk P w sz u m news ∧ RelL C S w ds news.toArray ∧ m ≤ jn := by
 have fromBlock : ∀ (b o cap : Nat) (c : Array Value) (e : TypeId) (fz : Nat × Nat) (ds : List PV), w.heap[b]? = some (.cells c e fz) → ds.length = m * sz → (ds ≠ [] → o + ds.length ≤ c.size) →
   (∀ (i : Nat) (v : Value), i < ds.length → c[o + i]? = some v → v.oneCell' = true) → (∀ (i : Nat) (p : PV) (v : Value), ds[i]? = some p → c[o + i]? = some v → Rel C S w p v) →
   ∃ news : List Value, SrcOk P w sz (.slice (some ⟨b, o, none⟩) m cap) m news ∧ RelL C S w ds news.toArray := by
  intro b o cap c e fz ds hb hl hs h1 hr
  by_cases hd : ds = []
  ·subst hd
   have hz : m * sz = 0 := by simpa using hl.symm
   refine ⟨[], ⟨rfl, ?_, ?_, by simp [hz], by simp⟩, by simp [RelL]⟩
   ·simp [Builtin.firstCells, loadCells, hz, loadCellsFrom]
   ·simp [Builtin.firstCells, loadCells, hz, loadCellsFrom]
  ·have hle := hs hd
   rw [hl] at hle
   have hb' : w.drew.heap[b]? = some (.cells c e fz) := hb
   refine ⟨(c.extract o (o + m * sz)).toList, ⟨rfl, by rw [Array.toArray_toList]; exact Wi hb o hle, by rw [Array.toArray_toList]; exact Wi hb' o hle, by simp; omega, ?_⟩, ?_⟩
   ·intro v hv
    obtain ⟨i, hi⟩ := List.getElem?_of_mem hv
    rw [Array.getElem?_toList, Array.getElem?_extract] at hi
    split at hi
    ·exact h1 i v (by omega) hi
    ·cases hi
   ·rw [Array.toArray_toList]
    refine ⟨by simp; omega, fun i v hv => ?_, fun i p v hp hv => ?_⟩
    ·rw [Array.getElem?_extract] at hv
     split at hv
     ·exact h1 i v (by omega) hv
     ·cases hv
    ·rw [Array.getElem?_extract] at hv
     split at hv
     ·exact hr i p v hp hv
     ·cases hv
 unfold uM at h
 split at h
 ·rename_i m' ds'
  split at h
  ·rename_i hl
   cases h
   cases hu with
   | lst0 =>
    rename_i cap a
    refine ⟨[], ⟨rfl, ?_, ?_, by simp, by simp⟩, by simp [RelL], by unfold jn; omega⟩
    ·cases a <;> simp [Builtin.firstCells, loadCells, loadCellsFrom]
    ·cases a <;> simp [Builtin.firstCells, loadCells, loadCellsFrom]
   | lst1 hn hm hb hM hs h1 hr =>
    obtain ⟨news, k1, k2⟩ := fromBlock _ _ _ _ _ _ ds hb hl hs h1 hr
    exact ⟨news, k1, k2, hm⟩
  ·cases h
 ·rename_i o ver sz' off m'
  split at h
  ·rename_i v e cs hs
   split at h
   ·rename_i hc
    obtain ⟨rfl, rfl, hle⟩ := hc
    cases h
    cases hu with
    | sl h1 h2 h3 =>
     obtain ⟨a, cap, rfl, q1, q2, q3, q4⟩ := h1
     rcases hS.cells o v e cs hs with ⟨hn, hnil⟩ | ⟨b, k, c, g1, g2, g3, g4, g5, g6⟩
     ·have hm0 : (cs.drop off).take (m * sz') = [] := by rw [hnil]; simp
      rw [hm0]
      have hz : m * sz' = 0 := by rw [hnil] at hle; simp at hle; omega
      refine ⟨[], ⟨rfl, ?_, ?_, by simp [hz], by simp⟩, by simp [RelL], q2⟩
      ·cases a <;> simp [Builtin.firstCells, loadCells, hz, loadCellsFrom]
      ·cases a <;> simp [Builtin.firstCells, loadCells, hz, loadCellsFrom]
     ·by_cases hm0 : m = 0
      ·subst hm0
       refine ⟨[], ⟨rfl, ?_, ?_, by simp, by simp⟩, by simp [RelL], q2⟩
       ·cases a <;> simp [Builtin.firstCells, loadCells, loadCellsFrom]
       ·cases a <;> simp [Builtin.firstCells, loadCells, loadCellsFrom]
      ·have hloc : a = some ⟨b, off, none⟩ := by
        rcases (h3 v (by rw [hs]; rfl)).2 rfl with ⟨z1, z2, _⟩ | ⟨b', k', a', cap', z1, z2, z3, z4⟩
        ·exact absurd z2 hm0
        ·rw [g1] at z1; cases z1; cases z2; exact z4 hm0
       subst hloc
       have hsub : ∀ (i : Nat) (p : PV), ((cs.drop off).take (m * sz'))[i]? = some p → cs[off + i]? = some p := by
        intro i p hp
        by_cases hi : i < m * sz'
        ·rw [List.getElem?_take_of_lt hi, List.getElem?_drop] at hp; exact hp
        ·rw [List.getElem?_eq_none (by simp; omega)] at hp; cases hp
       obtain ⟨news, k1, k2⟩ := fromBlock b off cap c e (0, 0) ((cs.drop off).take (m * sz')) g2 (by simp; omega) (fun _ => by simp; omega) (fun i v hi hv => g5 (off + i) v (by simp at hi; omega) hv) (fun i p v hp hv => g6 (off + i) p v (hsub i p hp) hv)
       exact ⟨news, k1, k2, q2⟩
   ·cases h
  ·cases h
 ·cases h
  cases hu
  exact ⟨[], ⟨rfl, by simp [Builtin.firstCells], by simp [Builtin.firstCells], by simp, by simp⟩, by simp [RelL], by unfold jn; omega⟩
 ·cases h
theorem Yr {C : Ctx} {w : World} {cs ds : List PV} {vs us : List Value} (h : RelL C S w cs vs.toArray) (k : RelL C S w ds us.toArray) (rest : List Value) :
  (cs ++ ds).length ≤ (vs ++ us ++ rest).length ∧ (∀ (i : Nat) (v : Value), i < (cs ++ ds).length → (vs ++ us ++ rest)[i]? = some v → v.oneCell' = true) ∧
  ∀ (i : Nat) (p : PV) (v : Value), (cs ++ ds)[i]? = some p → (vs ++ us ++ rest)[i]? = some v → Rel C S w p v := by
 obtain ⟨h1, h2, h3⟩ := h
 obtain ⟨k1, k2, k3⟩ := k
 simp only [List.size_toArray, List.getElem?_toArray] at h1 h2 h3 k1 k2 k3
 refine ⟨by simp; omega, fun i v hi hv => ?_, fun i p v hp hv => ?_⟩
 ·rw [List.length_append] at hi
  by_cases q : i < cs.length
  ·rw [List.append_assoc, List.getElem?_append_left (by omega)] at hv; exact h2 i v hv
  ·rw [List.append_assoc, List.getElem?_append_right (by omega), List.getElem?_append_left (by omega)] at hv
   exact k2 _ v hv
 ·by_cases q : i < cs.length
  ·rw [List.getElem?_append_left q] at hp
   rw [List.append_assoc, List.getElem?_append_left (by omega)] at hv; exact h3 i p v hp hv
  ·rw [List.getElem?_append_right (by omega)] at hp
   have := (List.getElem?_eq_some_iff.1 hp).1
   rw [List.append_assoc, List.getElem?_append_right (by omega), List.getElem?_append_left (by omega), ← h1] at hv
   exact k3 _ p v hp hv
end
open Go
theorem Sim.nilObject' {C : Ctx} {S : Store} {w : World} (h : Sim C S w) {o ver : Nat} (hf : Fresh C S o ver) (e : TypeId) :
  Sim (C.put o ver none) (S.set o (.cells ver e [])) w ∧ Step C S w (C.put o ver none) (S.set o (.cells ver e [])) w := by
 have hloc : ∀ i, i ≠ o → (C.put o ver none).loc i = C.loc i := fun i hi => by simp [Ctx.put, hi]
 have hlocn : (C.put o ver none).loc o = none := by simp [Ctx.put]
 have st : Step C S w (C.put o ver none) (S.set o (.cells ver e [])) w :=
  Sim.step_new hf rfl _ rfl ⟨rfl, Nat.le_refl _⟩ rfl (Nat.le_refl _) (fun _ _ => rfl) (fun b k hq => nomatch hq)
 refine ⟨⟨?_, ?_, ?_, ?_, ?_⟩, st⟩
 ·intro i ho
  by_cases hc : i = o
  ·subst hc; simp only [Ctx.put]; omega
  ·rw [Store.set_other _ _ _ _ hc] at ho
   have := h.lt i ho
   simp only [Ctx.put]; omega
 ·intro i v hv
  by_cases hc : i = o
  ·subst hc; rw [Store.set_same] at hv; cases hv; simp only [Ctx.put]; omega
  ·rw [Store.set_other _ _ _ _ hc] at hv
   have := h.clk i v hv
   simp only [Ctx.put]; omega
 ·intro i o' b k k' ho ho' hl hl'
  by_cases hc : i = o
  ·subst hc; rw [hlocn] at hl; cases hl
  ·by_cases hc' : o' = o
   ·subst hc'; rw [hlocn] at hl'; cases hl'
   ·rw [hloc i hc] at hl; rw [hloc o' hc'] at hl'; rw [Store.set_other _ _ _ _ hc] at ho; rw [Store.set_other _ _ _ _ hc'] at ho'
    exact h.dist i o' b k k' ho ho' hl hl'
 ·intro i ver e' cs' hs
  by_cases hc : i = o
  ·subst hc
   rw [Store.set_same] at hs
   cases hs
   exact .inl ⟨hlocn, rfl⟩
  ·rw [Store.set_other _ _ _ _ hc] at hs
   rcases h.cells i ver e' cs' hs with hn | ⟨b, k, c', g1, g2, g3, g4, g5, g6⟩
   ·exact .inl ⟨(hloc i hc).trans hn.1, hn.2⟩
   ·exact .inr ⟨b, k, c', (hloc i hc).trans g1, g2, g3, g4, g5, fun i p v hp hv => (g6 i p v hp hv).mono st⟩
 ·intro i ver es hs
  by_cases hc : i = o
  ·subst hc; rw [Store.set_same] at hs; cases hs
  ·rw [Store.set_other _ _ _ _ hc] at hs
   obtain ⟨b, k, ms, cl, g1, g2, g3, g4⟩ := h.maps i ver es hs
   exact ⟨b, k, ms, cl, (hloc i hc).trans g1, g2, g3, fun i x m he hm => ⟨(g4 i x m he hm).1, (g4 i x m he hm).2.mono st⟩⟩
section
variable {P : Program} {r : Rd} {n N : Nat} {Q : Exit → (Nat → PV) → Store → Prop} {F : Nat → PV} {S : Store}
structure ElemOk (P : Program) (t e : TypeId) (z : Value) (by_ : Nat) : Prop where
 ty : P.underlying t = some (.slice e)
 pos : P.cellsOf e ≠ 0
 zero : Program.zeroOf P e = some z
 zsize : z.cells.size = P.cellsOf e
 bytes : Program.bytesOf' P e = some by_
 bpos : by_ ≠ 0
theorem Ys {o : Oper} {s x : Operand} {t : TypeId} {a : Act} {w w' : World} {v : Value} (ho : o.op = .call { callee := .builtin .append, args := #[s, x], argTypes := #[t, t] })
  (h : (Builtin.append_ #[t, t] o.type #[a.eval s, a.eval x]).run P w = .ok v w') : (execOp a.eval o).run P w = .ok (.value v) w' := by
 unfold execOp
 simp only [ho, resolve, invoke, builtin, Sem.run_bind, Sem.run_pure, Result.andThen_ok, List.map_toArray, List.map_cons, List.map_nil, h]
theorem Wj {o : Oper} {s x : Operand} {t e : TypeId} {z : Value} {by_ id ver k m : Nat} {cs ds : List PV} {K : PV → Store → Prop} (ho : o.op = .call { callee := .builtin .append, args := #[s, x], argTypes := #[t, t] })
  (hE : ElemOk P t e z by_) (hs : ev F s = .sl id ver (P.cellsOf e) 0 k) (hid : S id = .cells ver e cs) (hk : k * P.cellsOf e ≤ cs.length) (hx : uM S (P.cellsOf e) (ev F x) = some (m, ds)) (hb : (k + m) * by_ ≤ 140737488355328) (hm : k + m ≤ 140737488355328)
  (hK : K (.sl id (ver + 1) (P.cellsOf e) 0 (k + m)) (S.set id (.cells (ver + 1) e (cs.take (k * P.cellsOf e) ++ ds)))) : PO P r n o F S K := by
 intro G hG C w a N st next Q' hnext
 have e1 : ev G s = _ := (hG s (by simp [ho, Op.operands, Call.operands])).trans hs
 have e2 : ev G x = ev F x := hG x (by simp [ho, Op.operands, Call.operands])
 rw [← e2] at hx
 have r1 := st.ev s
 rw [e1] at r1
 obtain ⟨news, hsrc, hrel, _⟩ := JM (P := P) st.sim hx (st.ev x)
 have hnd : ∀ c, o.op ≠ .defer c := by intro c hc; rw [ho] at hc; cases hc
 have hmN : k + m ≤ jn := Nat.le_trans hm (by unfold jn; omega)
 generalize hv : a.eval s = v at r1
 cases r1 with
 | sl h1 h2 h3 =>
  obtain ⟨ad, cap, rfl, q1, q2, q3, q4⟩ := h1
  have hloc := (h3 ver (by rw [hid]; rfl)).2 rfl
  have hcontent := st.sim.cells id ver e cs hid
  have newsl : ∀ (C' : Ctx) (w' : World) (ad' : Option Addr) (cap' b' : Nat), (C.next ≤ C'.next ∧ ver + 1 < C'.clock) → C'.loc id = some (b', cap' * P.cellsOf e) → ad' = some ⟨b', 0, none⟩ → k + m ≤ cap' → cap' ≤ maxLen →
    Rel C' (S.set id (.cells (ver + 1) e (cs.take (k * P.cellsOf e) ++ ds))) w' (.sl id (ver + 1) (P.cellsOf e) 0 (k + m)) (.slice ad' (k + m) cap') := by
   intro C' w' ad' cap' b' hn hl had hkm hcl
   refine .sl ⟨_, _, rfl, hkm, hmN, hcl, fun _ => ⟨_, _, had⟩⟩ ⟨Nat.lt_of_lt_of_le h2.1 hn.1, hn.2⟩ fun v0 hv0 => ?_
   rw [Store.set_same] at hv0; cases hv0
   exact ⟨Nat.le_refl _, fun _ => .inr ⟨b', _, _, _, hl, rfl, fun _ => ⟨had, rfl⟩, fun _ => had⟩⟩
  rcases hcontent with ⟨hn, hnil⟩ | ⟨b, kk, c, g1, g2, g3, g4, g5, g6⟩
  ·-- nothing yet
   have hz : k * P.cellsOf e = 0 := by rw [hnil] at hk; simpa using hk
   have hk0 : k = 0 := by
    rcases Nat.mul_eq_zero.1 hz with h | h
    ·exact h
    ·exact absurd h hE.pos
   rcases hloc with ⟨_, _, _, hsl⟩ | ⟨b', k', _, _, z1, _⟩
   ·cases hsl
    subst hnil
    simp only [Nat.zero_mul, List.take_nil, List.nil_append, Nat.zero_add] at hK hb hm hmN newsl
    by_cases hm0 : m = 0
    ·subst hm0
     have hne : news = [] := List.eq_nil_of_length_eq_zero (by rw [hsrc.size]; simp)
     have hde : ds = [] := List.eq_nil_of_length_eq_zero (by rw [hrel.1, hne]; rfl)
     subst hne; subst hde
     have hrun := Ys (P := P) (a := a) (w := w) ho (by rw [hv]; exact Wh (ty := o.type) hE.ty hE.pos hsrc (Nat.zero_le 0))
     obtain ⟨t1, t2⟩ := st.sim.turn (l := C.loc id) (ver' := ver + 1) (cs' := []) hid (by omega) (fun h => absurd h (by omega)) (w' := w) ⟨⟨rfl, rfl, rfl, Nat.le_refl _, fun _ _ _ => rfl⟩, Nat.le_refl _⟩ (.inl ⟨hn, rfl⟩)
     refine qu hnd hrun (hnext _ _ _ _ _ hK ?_ t1 t2)
     refine .sl ⟨_, _, rfl, Nat.le_refl _, by omega, by omega, fun h => absurd rfl h⟩ ⟨h2.1, by simp only [Ctx.at]; omega⟩ fun v0 hv0 => ?_
     rw [Store.set_same] at hv0; cases hv0
     exact ⟨Nat.le_refl _, fun _ => .inl ⟨by simp [Ctx.at, hn], rfl, rfl, rfl⟩⟩
    ·have hrun := Ys (P := P) (a := a) (w := w) ho (by
      rw [hv]
      exact JL (ty := o.type) (olds := []) hE.ty hE.pos hE.zero hE.bytes hsrc (by simp [Builtin.firstCells]) (by omega) (by simpa using hb) hE.bpos)
     have hgc : m ≤ grownCap w m 0 e := by have := grownCap_ge w m 0 e; exact this
     have hgm : grownCap w m 0 e ≤ maxLen := grownCap_le_maxLen w m 0 e (by unfold maxLen; omega)
     simp only [Nat.zero_add] at hrun
     have hsz : (#[] ++ news.toArray ++ Builtin.zeroCells z.cells (grownCap w m 0 e - m) : Array Value).size = grownCap w m 0 e * P.cellsOf e := by
      simp only [Array.size_append, List.size_toArray, List.length_nil, Nat.zero_add, size_zeroCells, hE.zsize, hsrc.size]
      rw [← Nat.add_mul]; congr 1; omega
     have hra := Yr (cs := []) (vs := []) (by simp [RelL]) hrel (Builtin.zeroCells z.cells (grownCap w m 0 e - m)).toList
     simp only [List.nil_append] at hra
     have hget : ∀ i : Nat, (#[] ++ news.toArray ++ Builtin.zeroCells z.cells (grownCap w m 0 e - m) : Array Value)[i]? = (news ++ (Builtin.zeroCells z.cells (grownCap w m 0 e - m)).toList)[i]? := by
      intro i; rw [← Array.getElem?_toList]; simp
     obtain ⟨t1, t2⟩ := st.sim.turn (l := some (w.heap.size, grownCap w m 0 e * P.cellsOf e)) (ver' := ver + 1) (cs' := ds) hid (by omega) (fun h => absurd h (by omega))
      (w' := w.drew.alloc (.cells (#[] ++ news.toArray ++ Builtin.zeroCells z.cells (grownCap w m 0 e - m)) e)) ⟨⟨rfl, rfl, rfl, by simp, fun j hj _ => vw w.drew _ j hj⟩, Nat.le_succ _⟩
      (.inr ⟨w.heap.size, _, _, rfl, .inl (Nat.le_refl _), u6 w.drew _, hsz, by rw [← hsz]; have := hra.1; simp at this ⊢; omega, fun i v hi hv => hra.2.1 i v hi (by rw [← hget]; exact hv), fun i p v hp hv => hra.2.2 i p v hp (by rw [← hget]; exact hv)⟩)
     refine qu hnd hrun (hnext _ _ _ _ _ hK ?_ t1 t2)
     have := newsl (C.at id (ver + 1) (some (w.heap.size, grownCap w m 0 e * P.cellsOf e))) (w.drew.alloc (.cells (#[] ++ news.toArray ++ Builtin.zeroCells z.cells (grownCap w m 0 e - m)) e)) (some ⟨w.heap.size, 0, none⟩) (grownCap w m 0 e) w.heap.size ⟨Nat.le_refl _, by simp only [Ctx.at]; omega⟩ (by simp [Ctx.at]) rfl hgc hgm
     exact this
   ·rw [hn] at z1; cases z1
  ·-- it lies in block b
   rcases hloc with ⟨z1, _⟩ | ⟨b', k', ad', cap', z1, z2, z3, z4⟩
   ·rw [g1] at z1; cases z1
   ·rw [g1] at z1; cases z1; cases z2
    obtain ⟨rfl, hcap⟩ := z3 rfl
    have hcsz : c.size = cap * P.cellsOf e := g3.trans hcap.symm
    by_cases hroom : k + m ≤ cap
    ·have hrun := Ys (P := P) (a := a) (w := w) ho (by rw [hv]; exact Zgd (ty := o.type) hE.ty hE.pos hsrc g2 hroom hcsz)
     have hkc : k * P.cellsOf e ≤ c.size := by rw [hcsz]; exact Nat.mul_le_mul_right _ q1
     have hfit : k * P.cellsOf e + news.length ≤ c.size := by rw [hsrc.size, hcsz, ← Nat.add_mul]; exact Nat.mul_le_mul_right _ hroom
     have hold : RelL C S w (cs.take (k * P.cellsOf e)) (c.toList.take (k * P.cellsOf e)).toArray := by
      refine ⟨by simp; omega, fun i v hv => ?_, fun i p v hp hv => ?_⟩
      ·rw [List.getElem?_toArray] at hv
       have hi := (List.getElem?_eq_some_iff.1 hv).1
       simp only [List.length_take] at hi
       rw [List.getElem?_take_of_lt (by omega), Array.getElem?_toList] at hv
       exact g5 i v (by omega) hv
      ·have hi := (List.getElem?_eq_some_iff.1 hp).1
       simp only [List.length_take] at hi
       rw [List.getElem?_take_of_lt (by omega)] at hp
       rw [List.getElem?_toArray, List.getElem?_take_of_lt (by omega), Array.getElem?_toList] at hv
       exact g6 i p v hp hv
     have hra := Yr hold hrel (c.toList.drop (k * P.cellsOf e + news.length))
     obtain ⟨t1, t2⟩ := st.sim.turn (l := C.loc id) (ver' := ver + 1) (cs' := cs.take (k * P.cellsOf e) ++ ds) hid (by omega) (fun h => absurd h (by omega))
      (w' := w.setRow b (c.toList.take (k * P.cellsOf e) ++ news ++ c.toList.drop (k * P.cellsOf e + news.length)).toArray)
      (by rw [g1]; exact ⟨⟨rfl, rfl, rfl, by simp [World.setRow], fun j hj hne => setRow_other w b j _ (fun e => hne (by rw [e]; rfl))⟩, Nat.le_refl _⟩)
      (.inr ⟨b, cap * P.cellsOf e, _, by rw [g1, hcap], .inr (by rw [g1]; rfl), setRow_heap w b c _ e _ g2, by simp; omega, by have := hra.1; simp at this ⊢; omega, fun i v hi hv => hra.2.1 i v hi (by rw [List.getElem?_toArray] at hv; exact hv), fun i p v hp hv => hra.2.2 i p v hp (by rw [List.getElem?_toArray] at hv; exact hv)⟩)
     refine qu hnd hrun (hnext _ _ _ _ _ hK ?_ t1 t2)
     exact newsl _ _ _ cap b ⟨Nat.le_refl _, by simp only [Ctx.at]; omega⟩ (by simp [Ctx.at, g1, hcap]) rfl hroom q3
    ·have hfirst := Wi (P := P) (w := w.drew) (b := b) (k := k) (cap := cap) (sz := P.cellsOf e) (c := c) (e := e) (fz := (0, 0)) g2 0 (by rw [Nat.zero_add, hcsz]; exact Nat.mul_le_mul_right _ q1)
     rw [Nat.zero_add] at hfirst
     have hrun := Ys (P := P) (a := a) (w := w) ho (by
      rw [hv]
      exact JL (ty := o.type) (olds := (c.extract 0 (k * P.cellsOf e)).toList) hE.ty hE.pos hE.zero hE.bytes hsrc (by rw [Array.toArray_toList]; exact hfirst) (by omega) hb hE.bpos)
     have hgc := grownCap_ge w (k + m) cap e
     have hgm : grownCap w (k + m) cap e ≤ maxLen := grownCap_le_maxLen w (k + m) cap e (by unfold maxLen; omega)
     have hkc : k * P.cellsOf e ≤ c.size := by rw [hcsz]; exact Nat.mul_le_mul_right _ q1
     rw [Array.toArray_toList] at hrun
     have hsz : (c.extract 0 (k * P.cellsOf e) ++ news.toArray ++ Builtin.zeroCells z.cells (grownCap w (k + m) cap e - (k + m)) : Array Value).size = grownCap w (k + m) cap e * P.cellsOf e := by
      simp only [Array.size_append, List.size_toArray, size_zeroCells, hE.zsize, hsrc.size, Array.size_extract, Nat.sub_zero, Nat.min_eq_left hkc, ← Nat.add_mul]
      congr 1; omega
     have hold : RelL C S w (cs.take (k * P.cellsOf e)) (c.extract 0 (k * P.cellsOf e)).toList.toArray := by
      rw [Array.toArray_toList]
      refine ⟨by simp; omega, fun i v hv => ?_, fun i p v hp hv => ?_⟩
      ·rw [Array.getElem?_extract] at hv
       split at hv
       ·rw [Nat.zero_add] at hv; exact g5 i v (by omega) hv
       ·cases hv
      ·have hi := (List.getElem?_eq_some_iff.1 hp).1
       simp only [List.length_take] at hi
       rw [List.getElem?_take_of_lt (by omega)] at hp
       rw [Array.getElem?_extract] at hv
       split at hv
       ·rw [Nat.zero_add] at hv; exact g6 i p v hp hv
       ·cases hv
     have hra := Yr hold hrel (Builtin.zeroCells z.cells (grownCap w (k + m) cap e - (k + m))).toList
     have hget : ∀ i : Nat, (c.extract 0 (k * P.cellsOf e) ++ news.toArray ++ Builtin.zeroCells z.cells (grownCap w (k + m) cap e - (k + m)) : Array Value)[i]? =
       ((c.extract 0 (k * P.cellsOf e)).toList ++ news ++ (Builtin.zeroCells z.cells (grownCap w (k + m) cap e - (k + m))).toList)[i]? := by
      intro i; rw [← Array.getElem?_toList]; simp
     obtain ⟨t1, t2⟩ := st.sim.turn (l := some (w.heap.size, grownCap w (k + m) cap e * P.cellsOf e)) (ver' := ver + 1) (cs' := cs.take (k * P.cellsOf e) ++ ds) hid (by omega) (fun h => absurd h (by omega))
      (w' := w.drew.alloc (.cells (c.extract 0 (k * P.cellsOf e) ++ news.toArray ++ Builtin.zeroCells z.cells (grownCap w (k + m) cap e - (k + m))) e)) ⟨⟨rfl, rfl, rfl, by simp, fun j hj _ => vw w.drew _ j hj⟩, Nat.le_succ _⟩
      (.inr ⟨w.heap.size, _, _, rfl, .inl (Nat.le_refl _), u6 w.drew _, hsz, by rw [← hsz]; have := hra.1; simp at this ⊢; omega, fun i v hi hv => hra.2.1 i v hi (by rw [← hget]; exact hv), fun i p v hp hv => hra.2.2 i p v hp (by rw [← hget]; exact hv)⟩)
     refine qu hnd hrun (hnext _ _ _ _ _ hK ?_ t1 t2)
     exact newsl _ _ _ (grownCap w (k + m) cap e) w.heap.size ⟨Nat.le_refl _, by simp only [Ctx.at]; omega⟩ (by simp [Ctx.at]) rfl hgc hgm
theorem Zge {c : Code} (d e sz : Nat) (hF : F d = .sc (.slice none 0 0)) (h : ∀ C : Ctx, S C.next = .dead → ∃ id v, Fresh C S id v ∧ PW P r n N c Q (xe F d (.sl id v sz 0 0)) (S.set id (.cells v e []))) : PW P r n N c Q F S := by
 intro C w a st
 obtain ⟨id, ver, hfr, h⟩ := h C st.sim.free
 obtain ⟨k1, k2⟩ := st.sim.nilObject' hfr e
 have st' : St r (C.put id ver none) (S.set id (.cells ver e [])) w N (xe F d (.sl id ver sz 0 0)) a := by
  refine ⟨k1, st.size, fun i => ?_, r.keep k2 st.v⟩
  by_cases hi : i = d
  ·subst hi
   rw [Zax]
   have := st.fr i
   rw [hF] at this
   generalize a.tmps.getD i undef = v at this
   cases this
   refine .sl ⟨_, _, rfl, Nat.le_refl _, by unfold jn; omega, by unfold maxLen; omega, fun h => absurd rfl h⟩ (by simp only [Ctx.put]; omega) fun v0 hv0 => ?_
   rw [Store.set_same] at hv0; cases hv0
   exact ⟨Nat.le_refl _, fun _ => .inl ⟨by simp [Ctx.put], rfl, rfl, rfl⟩⟩
  ·rw [Zay _ _ _ _ hi]; exact (st.fr i).mono k2
 refine wpIn_mono (h _ w a st') ?_
 rintro e a' w' ⟨F2, S2, C2, h1, h2, h3, h4⟩
 exact ⟨F2, S2, C2, h1, h2, h3, k2.trans h4⟩
end
open Go
attribute [simp] Yq ZK wL PX Row.pures u9 yF gd xB qt Jz Ju ev uG zQ xe Jm Jk Jv X5 Jn Jo vA w8 Ym Jy Jx Jw Yn uJ qX PV.cells PV.one PV.fit Value.oneCell' zq xg JC jY Js Value.cells qD Jr uI X3 X2 uH Yp uM wN
@[simp] theorem ZoY (a b : Int) : (a == b) = decide (a = b) := rfl
theorem Za (n : Nat) (z : Value) : ji (n + 1) z = qD z ++ ji n z := by
 unfold ji qD
 generalize z.cells = c
 rw [Nat.succ_mul, Nat.add_comm, List.range_add, List.map_append, List.map_map]
 congr 1
 ·apply List.ext_getElem?
  intro i
  by_cases h : i < c.size
  ·simp [h, Nat.mod_eq_of_lt h]
  ·simp [h]
 ·apply List.map_congr_left
  intro i _
  simp
@[simp] theorem ZoZ (z : Value) : ji 0 z = [] := by simp [ji]
@[simp] theorem Zo0 (z : Value) : ji 1 z = qD z := by rw [Za 0 z]; simp
@[simp] theorem Zo1 (z : Value) : ji 2 z = qD z ++ qD z := by rw [Za 1 z]; simp
@[simp] theorem Zo2 (z : Value) : ji 3 z = qD z ++ (qD z ++ qD z) := by rw [Za 2 z]; simp
@[simp] theorem Zo3 (z : Value) : ji 4 z = qD z ++ (qD z ++ (qD z ++ qD z)) := by rw [Za 3 z]; simp
@[simp] theorem Zo4 (cs : List PV) (off : Nat) : ye cs off [] = cs := by simp [ye]
@[simp] theorem Zo5 (c d : PV) (cs ds : List PV) : ye (c :: cs) 0 (d :: ds) = d :: ye cs 0 ds := by simp [ye]
@[simp] theorem Zo6 (c d : PV) (cs ds : List PV) (k : Nat) : ye (c :: cs) (k + 1) (d :: ds) = c :: ye cs k (d :: ds) := by simp [ye, Nat.add_right_comm k 1]
@[simp] theorem Zo7 (cs ds : List PV) (off : Nat) (h : off + ds.length ≤ cs.length) : (ye cs off ds).length = cs.length := by simp [ye]; omega
@[simp] theorem Wl (S : Store) (o : Nat) (x : Ob) : S.set o x o = x := Store.set_same S o x
theorem qK (S : Store) (o i : Nat) (x : Ob) (h : i ≠ o) : S.set o x i = S i := Store.set_other S o i x h
@[simp] theorem Zo8 (S : Store) (o : Nat) (x y : Ob) : (S.set o x).set o y = S.set o y := Store.set_set S o x y
theorem ud (x : Int) (h1 : -9223372036854775808 ≤ x) (h2 : x ≤ 9223372036854775807) : IntKind.i64.wrap x = x := IntWalk.i64_in x ⟨h1, h2⟩
def zU (x : Int) : Prop := -9223372036854775808 ≤ x ∧ x ≤ 9223372036854775807
def zN (x : Int) : PV := .sc (.int .i64 x)
def xD (b : Bool) : PV := .sc (.bool b)
theorem Yt {α : Type} (enc : α → List PV) (k : Nat) (hk : ∀ x, (enc x).length = k) : ∀ (l : List α) (i : Nat), (l.flatMap enc).drop (i * k) = (l.drop i).flatMap enc
 | l, 0 => by simp
 | [], i + 1 => by simp
 | x :: xs, i + 1 => by
  rw [List.flatMap_cons, List.drop_succ_cons, ← Yt enc k hk xs i, List.drop_append, hk, Nat.add_mul, Nat.one_mul]
  rw [List.drop_eq_nil_of_le (by rw [hk]; omega)]
  simp
theorem Za0 {α : Type} (enc : α → List PV) (k : Nat) (hk : ∀ x, (enc x).length = k) (l : List α) (i : Nat) (hi : i < l.length) : (l.flatMap enc).drop (i * k) = enc l[i] ++ (l.drop (i + 1)).flatMap enc := by
 rw [Yt enc k hk, List.drop_eq_getElem_cons hi, List.flatMap_cons]
theorem Yu {α : Type} (enc : α → List PV) (k : Nat) (hk : ∀ x, (enc x).length = k) : ∀ (l : List α), (l.flatMap enc).length = l.length * k
 | [] => by simp
 | x :: xs => by rw [List.flatMap_cons, List.length_append, hk, Yu enc k hk xs, List.length_cons, Nat.add_mul]; omega
theorem Zb {α : Type} (enc : α → List PV) (k : Nat) (hk : ∀ x, (enc x).length = k) : ∀ (l : List α) (i : Nat), (l.flatMap enc).take (i * k) = (l.take i).flatMap enc
 | l, 0 => by simp
 | [], i + 1 => by simp
 | x :: xs, i + 1 => by
  rw [List.flatMap_cons, List.take_succ_cons, List.flatMap_cons, ← Zb enc k hk xs i, List.take_append, hk, Nat.add_mul, Nat.one_mul]
  rw [List.take_of_length_le (by rw [hk]; omega)]
  simp
open Go
theorem Sim.turnMap {C : Ctx} {S : Store} {w w' : World} (h : Sim C S w) {o ver b k : Nat} {es es' : List (Value × PV)} (hs : S o = .map ver es) (hl : C.loc o = some (b, k)) (hg : w.grownBy w' (some b) ∧ w.drawn ≤ w'.drawn) {ms : Array MapEntry} {cl : Nat}
  (hb : w'.heap[b]? = some (.map ms cl)) (hlen : es'.length = ms.size) (hr : ∀ (i : Nat) (e : Value × PV) (m : MapEntry), es'[i]? = some e → ms[i]? = some m → m.key = e.1 ∧ Rel C S w e.2 m.val) :
  Sim C (S.set o (.map ver es')) w' ∧ Step C S w C (S.set o (.map ver es')) w' := by
 have hne : S o ≠ .dead := by rw [hs]; simp
 have hfar : ∀ i b' k', i ≠ o → S i ≠ .dead → C.loc i = some (b', k') → some b' ≠ some b := by
  intro i b' k' hi hd hb' he
  cases he
  exact hi (h.dist i o b k' k hd hne hb' hl)
 have hdead : ∀ i, S.set o (.map ver es') i ≠ .dead → S i ≠ .dead := by
  intro i hi
  by_cases hc : i = o
  ·subst hc; exact hne
  ·rw [Store.set_other _ _ _ _ hc] at hi; exact hi
 have st : Step C S w C (S.set o (.map ver es')) w' := by
  refine ⟨hg.1.os, ⟨hg.1.tape, hg.2⟩, hg.1.output, hg.1.size, Nat.le_refl _, Nat.le_refl _, fun c hc hM => ⟨hg.1.block c hc ?_, ?_⟩, ?_⟩
  ·intro he; cases he; exact hM ⟨o, k, hne, hl⟩
  ·rintro ⟨i, k', hd, hb'⟩; exact hM ⟨i, k', hdead i hd, hb'⟩
  ·intro i v1 hv
   by_cases hc : i = o
   ·subst hc; rw [Store.set_same] at hv; cases hv; exact .inr ⟨ver, by rw [hs]; rfl, Nat.le_refl _, fun _ => rfl⟩
   ·rw [Store.set_other _ _ _ _ hc] at hv; exact .inr ⟨v1, hv, Nat.le_refl _, fun _ => rfl⟩
 refine ⟨⟨fun i hi => h.lt i (hdead i hi), fun i v hv => (by
  by_cases hc : i = o
  ·subst hc; rw [Store.set_same] at hv; cases hv; exact h.clk i ver (by rw [hs]; rfl)
  ·rw [Store.set_other _ _ _ _ hc] at hv; exact h.clk i v hv), fun i j b1 k1 k2 hi hj => h.dist i j b1 k1 k2 (hdead i hi) (hdead j hj), ?_, ?_⟩, st⟩
 ·intro i v' e' ds hi
  by_cases hc : i = o
  ·subst hc; rw [Store.set_same] at hi; cases hi
  ·rw [Store.set_other _ _ _ _ hc] at hi
   rcases h.cells i v' e' ds hi with hn | ⟨b1, k1, c', g1, g2, g3, g4, g5, g6⟩
   ·exact .inl hn
   ·exact .inr ⟨b1, k1, c', g1, (hg.1.block b1 (qj g2) (hfar i b1 k1 hc (by rw [hi]; simp) g1)).trans g2, g3, g4, g5, fun j p v hp hv => (g6 j p v hp hv).mono st⟩
 ·intro i ver2 fs hi
  by_cases hc : i = o
  ·subst hc
   rw [Store.set_same] at hi; cases hi
   exact ⟨b, k, ms, cl, hl, hb, hlen, fun j e m he hm => ⟨(hr j e m he hm).1, (hr j e m he hm).2.mono st⟩⟩
  ·rw [Store.set_other _ _ _ _ hc] at hi
   obtain ⟨b1, k1, ms1, cl1, g1, g2, g3, g4⟩ := h.maps i ver2 fs hi
   exact ⟨b1, k1, ms1, cl1, g1, (hg.1.block b1 (qj g2) (hfar i b1 k1 hc (by rw [hi]; simp) g1)).trans g2, g3, fun j x m he hm => ⟨(g4 j x m he hm).1, (g4 j x m he hm).2.mono st⟩⟩
theorem Sim.newMap' {C : Ctx} {S : Store} {w : World} (h : Sim C S w) {o ver : Nat} (hf : Fresh C S o ver) :
  Sim (C.put o ver (some (w.heap.size, 0))) (S.set o (.map ver [])) (w.alloc (.map #[] 0)) ∧ Step C S w (C.put o ver (some (w.heap.size, 0))) (S.set o (.map ver [])) (w.alloc (.map #[] 0)) := by
 have hloc : ∀ i, i ≠ o → (C.put o ver (some (w.heap.size, 0))).loc i = C.loc i := fun i hi => by simp [Ctx.put, hi]
 have hlocn : (C.put o ver (some (w.heap.size, 0))).loc o = some (w.heap.size, 0) := by simp [Ctx.put]
 have st : Step C S w (C.put o ver (some (w.heap.size, 0))) (S.set o (.map ver [])) (w.alloc (.map #[] 0)) :=
  Sim.step_new hf rfl _ rfl ⟨rfl, Nat.le_refl _⟩ rfl (by simp) (fun b hb => vw w _ b hb) (fun b k hq => by cases hq; exact Nat.le_refl _)
 refine ⟨⟨?_, ?_, ?_, ?_, ?_⟩, st⟩
 ·intro i ho
  by_cases hc : i = o
  ·subst hc; simp only [Ctx.put]; omega
  ·rw [Store.set_other _ _ _ _ hc] at ho
   have := h.lt i ho
   simp only [Ctx.put]; omega
 ·intro i v hv
  by_cases hc : i = o
  ·subst hc; rw [Store.set_same] at hv; cases hv; simp only [Ctx.put]; omega
  ·rw [Store.set_other _ _ _ _ hc] at hv
   have := h.clk i v hv
   simp only [Ctx.put]; omega
 ·intro i i' b k k' ho ho' hl hl'
  by_cases hc : i = o <;> by_cases hc' : i' = o
  ·omega
  ·subst hc
   rw [hlocn] at hl; rw [hloc i' hc'] at hl'; rw [Store.set_other _ _ _ _ hc'] at ho'
   have := h.M_lt ⟨i', k', ho', hl'⟩
   simp only [Option.some.injEq, Prod.mk.injEq] at hl; omega
  ·subst hc'
   rw [hlocn] at hl'; rw [hloc i hc] at hl; rw [Store.set_other _ _ _ _ hc] at ho
   have := h.M_lt ⟨i, k, ho, hl⟩
   simp only [Option.some.injEq, Prod.mk.injEq] at hl'; omega
  ·rw [hloc i hc] at hl; rw [hloc i' hc'] at hl'; rw [Store.set_other _ _ _ _ hc] at ho; rw [Store.set_other _ _ _ _ hc'] at ho'
   exact h.dist i i' b k k' ho ho' hl hl'
 ·intro i ver' e' cs' hs
  by_cases hc : i = o
  ·subst hc; rw [Store.set_same] at hs; cases hs
  ·rw [Store.set_other _ _ _ _ hc] at hs
   rcases h.cells i ver' e' cs' hs with hn | ⟨b, k, c', g1, g2, g3, g4, g5, g6⟩
   ·exact .inl ⟨(hloc i hc).trans hn.1, hn.2⟩
   ·exact .inr ⟨b, k, c', (hloc i hc).trans g1, (vw w _ b (qj g2)).trans g2, g3, g4, g5, fun i p v hp hv => (g6 i p v hp hv).mono st⟩
 ·intro i ver' es hs
  by_cases hc : i = o
  ·subst hc; rw [Store.set_same] at hs; cases hs
   exact ⟨w.heap.size, 0, #[], 0, hlocn, u6 w _, rfl, by simp⟩
  ·rw [Store.set_other _ _ _ _ hc] at hs
   obtain ⟨b, k, ms, cl, g1, g2, g3, g4⟩ := h.maps i ver' es hs
   exact ⟨b, k, ms, cl, (hloc i hc).trans g1, (vw w _ b (qj g2)).trans g2, g3, fun i e m he hm => ⟨(g4 i e m he hm).1, (g4 i e m he hm).2.mono st⟩⟩
def xh (d : TypeDesc) (k : Value) : List (Value × PV) → Nat → Option (Option (Nat × PV))
 | [], _ => some none
 | e :: es, i =>
  match Instr.sameNow d k e.1 with
  | some true => some (some (i, e.2))
  | some false => xh d k es (i + 1)
  | none => none
def Qu (d : TypeDesc) : Bool :=
 match d with
 | .int _ => true
 | .string => true
 | .bool => true
 | _ => false
section
variable {P : Program} {r : Rd} {n N : Nat} {Q : Exit → (Nat → PV) → Store → Prop} {F : Nat → PV} {S : Store}
theorem JN {C : Ctx} {w : World} {d : TypeDesc} {k : Value} : ∀ (es : List (Value × PV)) (ms : List MapEntry) (i : Nat) (res : Option (Nat × PV)), es.length = ms.length →
  (∀ (j : Nat) (e : Value × PV) (m : MapEntry), es[j]? = some e → ms[j]? = some m → m.key = e.1 ∧ Rel C S w e.2 m.val) → xh d k es i = some res →
  (res = none ∧ Instr.findNow d k ms i = some none) ∨ ∃ j p v, res = some (j, p) ∧ Instr.findNow d k ms i = some (some (j, v)) ∧ Rel C S w p v
 | [], [], i, res, _, _, h => by cases h; exact .inl ⟨rfl, rfl⟩
 | e :: es, m :: ms, i, res, hl, hr, h => by
  obtain ⟨hk, hv⟩ := hr 0 e m rfl rfl
  simp only [xh] at h
  simp only [Instr.findNow, hk]
  split at h
  ·rename_i hs; cases h; simp only [hs]; exact .inr ⟨_, _, _, rfl, rfl, hv⟩
  ·rename_i hs; simp only [hs]
   exact JN es ms (i + 1) res (by simpa using hl) (fun j e m he hm => hr (j + 1) e m (by simpa using he) (by simpa using hm)) h
  ·cases h
theorem Yv {t : TypeId} {d : TypeDesc} (ht : P.underlying t = some d) (hp : Qu d = true) (b : Bool) (k : Value) (w : World) : (Instr.checkKey b 10000 t k).run P w = .ok () w := by
 show (Instr.checkKey b (9999 + 1) t k).run P w = _
 unfold Instr.checkKey
 simp only [Sem.run_bind, run_underlying ht, Result.andThen_ok]
 cases d <;> simp [Qu] at hp <;> rfl
def Qv (ok : Bool) (z : Value) (res : Option (Nat × PV)) : PV :=
 match res with
 | some (_, p) => if ok = true then .tup [p, .sc (.bool true)] else p
 | none => if ok = true then .tup [uG z, .sc (.bool false)] else uG z
theorem Yw {o : Oper} {t kt et id ver : Nat} {x i : Operand} {ok : Bool} {k : Value} {d : TypeDesc} {es : List (Value × PV)} {res : Option (Nat × PV)} {z : Value} {K : PV → Store → Prop} (ho : o.op = .lookup t x i ok) (ht : P.underlying t = some (.map kt et))
  (hk : P.underlying kt = some d) (hd : Qu d = true) (hx : ev F x = .mp id ver) (hi : ev F i = .sc k) (hs : S id = .map ver es) (hf : xh d k es 0 = some res) (hz : Program.zeroOf P et = some z)
  (hK : K (Qv ok z res) S) : PO P r n o F S K := by
 intro G hG C w a N st next Q' hnext
 have e1 := st.ev x
 have e2 := st.ev i
 rw [(hG x (by simp [ho, Op.operands])).trans hx] at e1
 rw [(hG i (by simp [ho, Op.operands])).trans hi] at e2
 generalize hv1 : a.eval x = v1 at e1
 generalize hv2 : a.eval i = v2 at e2
 cases e2
 obtain ⟨b, k0, ms, cl, g1, g2, g3, g4⟩ := st.sim.maps id ver es hs
 cases e1 with
 | mp h1 h2 h3 =>
  obtain ⟨b', rfl⟩ := h1
  obtain ⟨b2, k2, q1, q2⟩ := (h3 ver (by rw [hs]; rfl)).2 rfl
  rw [g1] at q1; cases q1; cases q2
  have hnd : ∀ c, o.op ≠ .defer c := by intro c hc; rw [ho] at hc; cases hc
  have hget : (getObj b).run P w = .ok (.map ms cl) w := by
   simp only [getObj, Sem.run, g2]
  have hfind := JN (C := C) (w := w) es ms.toList 0 res (by simpa using g3) (fun j e m he hm => g4 j e m he (by rw [← Array.getElem?_toList]; exact hm)) hf
  rcases hfind with ⟨rfl, hn⟩ | ⟨j, p, v, rfl, hn, hrel⟩
  ·have hrun : (execOp a.eval o).run P w = .ok (.value (if ok then .tuple #[z, .bool false] else z)) w := by
    unfold execOp
    simp only [ho, hv1, hv2, Instr.lookup, Sem.run_bind, run_underlying ht, Result.andThen_ok, hget, Sem.run_pure, Yv hk hd, Instr.findKey, run_underlying hk, hn, ZF hz]
   refine qu hnd hrun (hnext _ _ _ _ _ hK ?_ st.sim (.refl _ _ _))
   cases ok
   ·exact Jj z
   ·exact .tup rfl (by
     intro i c v hc hv
     match i with
     | 0 => have hc : some (uG z) = some c := hc; have hv : some z = some v := hv; cases hc; cases hv; exact Jj z
     | 1 => have hc : some (PV.sc (.bool false)) = some c := hc; have hv : some (Value.bool false) = some v := hv; cases hc; cases hv; exact .sc _
     | i + 2 => simp at hc)
  ·have hrun : (execOp a.eval o).run P w = .ok (.value (if ok then .tuple #[v, .bool true] else v)) w := by
    unfold execOp
    simp only [ho, hv1, hv2, Instr.lookup, Sem.run_bind, run_underlying ht, Result.andThen_ok, hget, Sem.run_pure, Yv hk hd, Instr.findKey, run_underlying hk, hn]
   refine qu hnd hrun (hnext _ _ _ _ _ hK ?_ st.sim (.refl _ _ _))
   cases ok
   ·exact hrel
   ·exact .tup rfl (by
     intro i c v hc hv
     match i with
     | 0 => simp at hc hv; subst hc; subst hv; exact hrel
     | 1 => simp at hc hv; subst hc; subst hv; exact .sc _
     | i + 2 => simp at hc)
theorem JO {d : TypeDesc} {k : Value} : ∀ (es : List (Value × PV)) (i j : Nat) (p : PV), xh d k es i = some (some (j, p)) → i ≤ j ∧ j < i + es.length
 | [], _, _, _, h => by cases h
 | e :: es, i, j, p, h => by
  simp only [xh] at h
  split at h
  ·cases h; simp
  ·have := JO es (i + 1) j p h; simp only [List.length_cons]; omega
  ·cases h
theorem Za1 {d : TypeDesc} {k : Value} : ∀ (es : List (Value × PV)) (i j : Nat) (p : PV), xh d k es i = some (some (j, p)) → ∃ e, es[j - i]? = some e ∧ Instr.sameNow d k e.1 = some true
 | [], _, _, _, h => by cases h
 | e :: es, i, j, p, h => by
  simp only [xh] at h
  split at h
  ·rename_i hs; cases h; exact ⟨e, by simp, hs⟩
  ·obtain ⟨e', h1, h2⟩ := Za1 es (i + 1) j p h
   have := JO es (i + 1) j p h
   exact ⟨e', by rw [show j - i = (j - (i + 1)) + 1 from by omega, List.getElem?_cons_succ]; exact h1, h2⟩
  ·cases h
theorem Za2 (a b : ByteArray) : (a == b) = true ↔ a = b := by
 constructor
 ·intro h
  cases a; cases b
  have h' : (ByteArray.mk _).beq (ByteArray.mk _) = true := h
  simp only [ByteArray.beq] at h'
  rw [eq_of_beq h']
 ·rintro rfl
  cases a
  show (ByteArray.mk _).beq (ByteArray.mk _) = true
  simp [ByteArray.beq]
theorem Zgf {d : TypeDesc} {k k' : Value} (h : Instr.sameNow d k k' = some true) : Instr.sameBits 10000 k' k = true ∧ k' = k := by
 unfold Instr.sameNow at h
 split at h
 ·split at h
  ·rename_i hk
   subst hk
   simp at h; subst h
   exact ⟨by simp [Instr.sameBits], rfl⟩
  ·cases h
 ·simp only [Option.some.injEq] at h; rw [Za2] at h; subst h; exact ⟨by simp only [Instr.sameBits]; rw [Za2], rfl⟩
 ·simp at h; subst h; exact ⟨by simp [Instr.sameBits], rfl⟩
 ·cases h
theorem JP {w : World} {b : Nat} {ms : Array MapEntry} {cl : Nat} (h : w.heap[b]? = some (.map ms cl)) : (getObj b).run P w = .ok (.map ms cl) w := by
 simp only [getObj, Sem.run, h]
theorem JQ {w : World} {b : Nat} {ms : Array MapEntry} {cl : Nat} (o : Obj) (h : w.heap[b]? = some (.map ms cl)) : (setObj b o).run P w = .ok () (w.putObj b o) := by
 simp only [setObj, Sem.run, h]; rfl
theorem JR {w : World} {b : Nat} {o' : Obj} : w.grownBy (w.putObj b o') (some b) ∧ w.drawn ≤ (w.putObj b o').drawn :=
 ⟨⟨rfl, rfl, rfl, by simp [World.putObj], fun j _ hne => World.putObj_heap_other (fun e => hne (by rw [e]))⟩, Nat.le_refl _⟩
def qY (k : Value) (p : PV) (es : List (Value × PV)) (res : Option (Nat × PV)) : List (Value × PV) :=
 match res with
 | some (j, _) => es.set j (k, p)
 | none => es ++ [(k, p)]
theorem Qw {o : Oper} {t kt et id ver : Nat} {x i y : Operand} {k : Value} {d : TypeDesc} {es : List (Value × PV)} {res : Option (Nat × PV)} {K : PV → Store → Prop} (ho : o.op = .mapUpdate t x i y ∨ o.op = .insert t x i y) (ht : P.underlying t = some (.map kt et))
  (hk : P.underlying kt = some d) (hd : Qu d = true) (hx : ev F x = .mp id ver) (hi : ev F i = .sc k) (hs : S id = .map ver es) (hf : xh d k es 0 = some res)
  (hK : K (.sc undef) (S.set id (.map ver (qY k (ev F y) es res)))) : PO P r n o F S K := by
 intro G hG C w a N st next Q' hnext
 have ops : x ∈ o.op.operands ∧ i ∈ o.op.operands ∧ y ∈ o.op.operands := by rcases ho with ho | ho <;> simp [ho, Op.operands]
 have e1 := st.ev x
 have e2 := st.ev i
 have e3 := st.ev y
 rw [(hG x ops.1).trans hx] at e1
 rw [(hG i ops.2.1).trans hi] at e2
 rw [hG y ops.2.2] at e3
 generalize hv1 : a.eval x = v1 at e1
 generalize hv2 : a.eval i = v2 at e2
 cases e2
 obtain ⟨b, k0, ms, cl, g1, g2, g3, g4⟩ := st.sim.maps id ver es hs
 cases e1 with
 | mp h1 h2 h3 =>
  obtain ⟨b', rfl⟩ := h1
  obtain ⟨b2, k2, q1, q2⟩ := (h3 ver (by rw [hs]; rfl)).2 rfl
  rw [g1] at q1; cases q1; cases q2
  have hnd : ∀ c, o.op ≠ .defer c := by intro c hc; rcases ho with ho | ho <;> (rw [ho] at hc; cases hc)
  have hlt : b < w.heap.size := qj g2
  have hfind := JN (C := C) (w := w) es ms.toList 0 res (by simpa using g3) (fun j e m he hm => g4 j e m he (by rw [← Array.getElem?_toList]; exact hm)) hf
  have fin : ∀ (w' : World), (Instr.mapUpdate t (.map (some b)) k (a.eval y)).run P w = .ok () w' → (execOp a.eval o).run P w = .ok .skip w' := by
   intro w' hw
   unfold execOp
   rcases ho with ho | ho <;> (simp only [ho, hv1, hv2, Sem.run_bind, hw, Result.andThen_ok]; rfl)
  rcases hfind with ⟨rfl, hn⟩ | ⟨j, p, v, rfl, hn, hrel⟩
  ·have hrun := fin (w.putObj b (.map (ms.push { key := k, val := a.eval y, born := cl }) (cl + 1))) (by
    simp only [Instr.mapUpdate, Sem.run_bind, run_underlying ht, Result.andThen_ok, JP g2, Yv hk hd, Instr.findKey, run_underlying hk, hn, Sem.run_pure, JQ _ g2])
   obtain ⟨t1, t2⟩ := st.sim.turnMap (es' := es ++ [(k, ev F y)]) (ms := ms.push { key := k, val := a.eval y, born := cl }) (cl := cl + 1) hs g1 JR (World.putObj_heap_same hlt) (by simp [g3]) (by
    intro jj e m he hm
    by_cases hj : jj < es.length
    ·rw [List.getElem?_append_left hj] at he
     rw [Array.getElem?_push, if_neg (by omega)] at hm
     exact g4 jj e m he hm
    ·have hje : jj = es.length := by
      rcases Nat.lt_or_ge jj (es.length + 1) with q | q
      ·omega
      ·rw [List.getElem?_eq_none (by simpa using q)] at he; cases he
     subst hje
     rw [List.getElem?_append_right (Nat.le_refl _)] at he
     simp only [Nat.sub_self, List.getElem?_cons_zero, Option.some.injEq] at he
     subst he
     rw [g3, Array.getElem?_push, if_pos rfl] at hm
     cases hm
     exact ⟨rfl, e3⟩)
   exact qu hnd hrun (hnext _ _ _ _ _ hK (.sc _) t1 t2)
  ·obtain ⟨e0, he0, hsame⟩ := Za1 es 0 j p hf
   rw [Nat.sub_zero] at he0
   have hjl := JO es 0 j p hf
   have hmj : ms[j]? = some (ms[j]'(by omega)) := by simp
   have hkey := (g4 j e0 _ he0 hmj).1
   obtain ⟨sb1, sb2⟩ := Zgf hsame
   have hrun := fin (w.putObj b (.map (ms.modify j fun e => { e with key := k, val := a.eval y }) cl)) (by
    simp only [Instr.mapUpdate, Sem.run_bind, run_underlying ht, Result.andThen_ok, JP g2, Yv hk hd, Instr.findKey, run_underlying hk, hn, Sem.run_pure, hmj, Option.map_some, Option.getD_some, hkey, Instr.keyThatStays, sb1, if_true, JQ _ g2])
   obtain ⟨t1, t2⟩ := st.sim.turnMap (es' := es.set j (k, ev F y)) (ms := ms.modify j fun e => { e with key := k, val := a.eval y }) (cl := cl) hs g1 JR (World.putObj_heap_same hlt) (by simp [g3]) (by
    intro jj e m he hm
    rw [Array.getElem?_modify] at hm
    rw [List.getElem?_set] at he
    by_cases hj : j = jj
    ·subst hj
     rw [if_pos rfl] at hm he
     rw [hmj] at hm
     rw [if_pos (by omega)] at he
     cases he; cases hm
     exact ⟨rfl, e3⟩
    ·rw [if_neg hj] at hm he
     exact g4 jj e m he hm)
   exact qu hnd hrun (hnext _ _ _ _ _ hK (.sc _) t1 t2)
def Qx (es : List (Value × PV)) (res : Option (Nat × PV)) : List (Value × PV) :=
 match res with
 | some (j, _) => es.eraseIdx j
 | none => es
theorem Zgg {o : Oper} {t kt et id ver : Nat} {x i : Operand} {k : Value} {d : TypeDesc} {es : List (Value × PV)} {res : Option (Nat × PV)} {ts : Array TypeId} {K : PV → Store → Prop} (ho : o.op = .call { callee := .builtin .delete, args := #[x, i], argTypes := ts }) (hts : ts[0]? = some t) (ht : P.underlying t = some (.map kt et))
  (hk : P.underlying kt = some d) (hd : Qu d = true) (hx : ev F x = .mp id ver) (hi : ev F i = .sc k) (hs : S id = .map ver es) (hf : xh d k es 0 = some res)
  (hK : K (.tup []) (S.set id (.map ver (Qx es res)))) : PO P r n o F S K := by
 intro G hG C w a N st next Q' hnext
 have ops : x ∈ o.op.operands ∧ i ∈ o.op.operands := by simp [ho, Op.operands, Call.operands]
 have e1 := st.ev x
 have e2 := st.ev i
 rw [(hG x ops.1).trans hx] at e1
 rw [(hG i ops.2).trans hi] at e2
 generalize hv1 : a.eval x = v1 at e1
 generalize hv2 : a.eval i = v2 at e2
 cases e2
 obtain ⟨b, k0, ms, cl, g1, g2, g3, g4⟩ := st.sim.maps id ver es hs
 cases e1 with
 | mp h1 h2 h3 =>
  obtain ⟨b', rfl⟩ := h1
  obtain ⟨b2, k2, q1, q2⟩ := (h3 ver (by rw [hs]; rfl)).2 rfl
  rw [g1] at q1; cases q1; cases q2
  have hnd : ∀ c, o.op ≠ .defer c := by intro c hc; rw [ho] at hc; cases hc
  have hlt : b < w.heap.size := qj g2
  have hfind := JN (C := C) (w := w) es ms.toList 0 res (by simpa using g3) (fun j e m he hm => g4 j e m he (by rw [← Array.getElem?_toList]; exact hm)) hf
  have fin : ∀ (w' : World), (Builtin.delete_ ts o.type #[.map (some b), k]).run P w = .ok (.tuple #[]) w' → (execOp a.eval o).run P w = .ok (.value (.tuple #[])) w' := by
   intro w' hw
   unfold execOp
   simp only [ho, hv1, hv2, resolve, invoke, builtin, Sem.run_bind, Sem.run_pure, Result.andThen_ok, List.map_toArray, List.map_cons, List.map_nil, hw]
  rcases hfind with ⟨rfl, hn⟩ | ⟨j, p, v, rfl, hn, hrel⟩
  ·have hrun := fin (w.putObj b (.map ms cl)) (by
    simp only [Builtin.delete_, hts, List.getElem?_toArray, List.getElem?_cons_zero, List.getElem?_cons_succ, Sem.run_bind, run_underlying ht, Result.andThen_ok, JP g2, Yv hk hd, Instr.findKey, run_underlying hk, hn, Sem.run_pure, JQ _ g2])
   obtain ⟨t1, t2⟩ := st.sim.turnMap (es' := es) (ms := ms) (cl := cl) hs g1 JR (World.putObj_heap_same hlt) g3 g4
   exact qu hnd hrun (hnext _ _ _ _ _ hK (.tup rfl (by simp)) t1 t2)
  ·have hjl := JO es 0 j p hf
   have hrun := fin (w.putObj b (.map (ms.eraseIdxIfInBounds j) cl)) (by
    simp only [Builtin.delete_, hts, List.getElem?_toArray, List.getElem?_cons_zero, List.getElem?_cons_succ, Sem.run_bind, run_underlying ht, Result.andThen_ok, JP g2, Yv hk hd, Instr.findKey, run_underlying hk, hn, Sem.run_pure, JQ _ g2])
   have hms : (ms.eraseIdxIfInBounds j).toList = ms.toList.eraseIdx j := by
    unfold Array.eraseIdxIfInBounds
    rw [dif_pos (by omega)]
    simp
   have hlen : (es.eraseIdx j).length = (ms.eraseIdxIfInBounds j).size := by
    have g3' : es.length = ms.toList.length := by simpa using g3
    have : (es.eraseIdx j).length = (ms.eraseIdxIfInBounds j).toList.length := by rw [hms, List.length_eraseIdx, List.length_eraseIdx, g3']
    exact this.trans Array.length_toList
   obtain ⟨t1, t2⟩ := st.sim.turnMap (es' := es.eraseIdx j) (ms := ms.eraseIdxIfInBounds j) (cl := cl) hs g1 JR (World.putObj_heap_same hlt) hlen (by
    intro jj e m he hm
    rw [← Array.getElem?_toList, hms, List.getElem?_eraseIdx] at hm
    rw [List.getElem?_eraseIdx] at he
    split at he
    ·rename_i hj; rw [if_pos hj] at hm; exact g4 jj e m he (by rw [← Array.getElem?_toList]; exact hm)
    ·rename_i hj; rw [if_neg hj] at hm; exact g4 (jj + 1) e m he (by rw [← Array.getElem?_toList]; exact hm))
   exact qu hnd hrun (hnext _ _ _ _ _ hK (.tup rfl (by simp)) t1 t2)
theorem Zgh {o : Oper} {t : TypeId} {K : PV → Store → Prop} (ho : o.op = .makeMap t none) (hK : ∀ C : Ctx, S C.next = .dead → ∃ id v, Fresh C S id v ∧ K (.mp id v) (S.set id (.map v []))) : PO P r n o F S K := by
 intro G _ C w a N st next Q' hnext
 obtain ⟨id, ver, hfr, hK⟩ := hK C st.sim.free
 obtain ⟨k1, k2⟩ := st.sim.newMap' hfr
 refine qu (x := .value (.map (some w.heap.size))) (w' := w.alloc (.map #[] 0)) (by intro c hc; rw [ho] at hc; cases hc) ?_ (hnext _ _ _ _ (.mp id ver) hK ?_ k1 k2)
 ·unfold execOp
  simp only [ho, Option.map_none, Instr.makeMap, Sem.run_bind, run_newObj, Result.andThen_ok, Sem.run_pure, World.alloc_eq]
 ·refine .mp ⟨_, rfl⟩ (by simp only [Ctx.put]; omega) fun v0 hv0 => ?_
  rw [Store.set_same] at hv0; cases hv0
  exact ⟨Nat.le_refl _, fun _ => ⟨w.heap.size, 0, by simp [Ctx.put], rfl⟩⟩
def Yx (P : Program) (t : TypeId) (name : String) (k : FuncId) : Prop := ∀ (v : Value) (w : World), (method (P.types.size + Made.depth) t v name).run P w = .ok (k, v) w
theorem ue {o : Oper} {c : Call} {x : Operand} {name : String} {t : TypeId} {q : PV} {k : FuncId} {K : PV → Store → Prop} {R : PV → Store → Prop} (ho : o.op = .call c) (hc : c.callee = .invoke x name) (hx : ev F x = .ifc t q) (hM : Yx P t name k) (hE : qy P k)
  (h : PCalls P k (q :: c.args.toList.map (ev F)) S R) (hK : ∀ p S', R p S' → K p S') : PO P r n o F S K := by
 intro G hG C w a N st next Q' hnext
 have hxo : x ∈ o.op.operands := by simp [ho, Op.operands, Call.operands, hc]
 have hxG : ev G x = .ifc t q := (hG x hxo).trans hx
 have harg : ∀ y ∈ c.args.toList, ev G y = ev F y := fun y hy => hG y (by simp only [ho, Op.operands, Call.operands, Array.mem_append]; exact .inr (Array.mem_toList_iff.1 hy))
 have hmap : c.args.toList.map (ev F) = c.args.toList.map (ev G) := List.map_congr_left fun y hy => (harg y hy).symm
 rw [hmap] at h
 have hrel := st.ev x
 rw [hxG] at hrel
 generalize hv : a.eval x = v at hrel
 cases hrel with
 | ifc hq =>
  rename_i u
  have hrun : (execOp a.eval o).run P w = .ok (.enter k (#[u] ++ c.args.map a.eval)) w := by
   unfold execOp
   have hex : (#[Value.iface t u] ++ c.args.map a.eval).extract 1 (#[Value.iface t u] ++ c.args.map a.eval).size = c.args.map a.eval := by
    apply Array.ext
    ·simp
    ·intro i h1 h2
     simp [Array.getElem_append]
   have hget : (#[Value.iface t u] ++ c.args.map a.eval)[0]? = some (.iface t u) := by rw [Array.getElem?_append_left (by simp)]; rfl
   simp only [ho, resolve, hc, hv, Sem.run_bind, Sem.run_pure, Result.andThen_ok, invoke, Array.append_empty, hget, hex, callMethod, run_program, hM u w]
   exact hE _ w
  refine qu (x := .enter k (#[u] ++ c.args.map a.eval)) (w' := w) (by intro c' hc'; rw [ho] at hc'; cases hc') hrun ?_
  rw [Oper.uponIn_enter]
  refine ⟨fun hd => ?_, ?_⟩
  ·cases hd
  ·have hlist := Ql (l := c.args.toList) st.ev
   simp only [Array.toArray_toList] at hlist
   have key := h C w (#[u] ++ c.args.map a.eval) st.sim (by simp; omega) (by
    intro i p v hp hv
    cases i with
    | zero =>
     rw [Array.getElem?_append_left (by simp)] at hv
     have hp : some q = some p := hp
     have hv : some u = some v := hv
     cases hp; cases hv; exact hq
    | succ i =>
     rw [List.getElem?_cons_succ] at hp
     rw [Array.getElem?_append_right (by simp)] at hv
     exact hlist.2 i p v hp (by simpa using hv))
   refine (Wc key).mono ?_
   rintro e w' ⟨p, v, S', C', rfl, hq, hr, hs, hst⟩
   exact hnext v w' C' S' p (hK _ _ hq) hr hs hst
end
open Go
section
variable {P : Program} {r : Rd} {n N : Nat} {Q : Exit → (Nat → PV) → Store → Prop} {F : Nat → PV} {S : Store}
theorem Za3 (C : Ctx) (S : Store) (w : World) (o ver sz e : Nat) : Rel (C.put o ver none) (S.set o (.cells ver e [])) w (.sl o ver sz 0 0) (.slice none 0 0) := by
 refine .sl ⟨_, _, rfl, Nat.le_refl _, by unfold jn; omega, by unfold maxLen; omega, fun h => absurd rfl h⟩ (by simp only [Ctx.put]; omega) fun v0 hv0 => ?_
 rw [Store.set_same] at hv0; cases hv0
 exact ⟨Nat.le_refl _, fun _ => .inl ⟨by simp [Ctx.put], rfl, rfl, rfl⟩⟩
theorem qE {f : FuncId} {fn : Func} {c : Code} (hf : P.funcs[f]? = some fn) (hname : (fn.name == "runtime.NumGoroutine") = false) (hb : fn.body = some c) : qy P f := by
 intro args w
 have h1 : fn.name ≠ "runtime.NumGoroutine" := by simpa using hname
 simp [callFunc, hf, h1, hb, mark]
def Wm (x : PV) (t : TypeId) (z : Value) : Option PV :=
 match x with
 | .ifc t' p => if t' = t then some (.tup [p, .sc (.bool true)]) else some (.tup [uG z, .sc (.bool false)])
 | _ => none
theorem Zgi {o : Oper} {x : Operand} {xt t : TypeId} {d : TypeDesc} {z : Value} {p : PV} {K : PV → Store → Prop} (ho : o.op = .typeAssert x xt t true) (ht : P.underlying t = some d) (hd : ∀ ms, d ≠ .interface ms) (hz : Program.zeroOf P t = some z)
  (hp : Wm (ev F x) t z = some p) (hK : K p S) : PO P r n o F S K := by
 intro G hG C w a N st next Q' hnext
 have hr := st.ev x
 rw [hG x (by simp [ho, Op.operands])] at hr
 have hnd : ∀ c, o.op ≠ .defer c := by intro c hc; rw [ho] at hc; cases hc
 unfold Wm at hp
 split at hp
 ·rename_i t' q he
  rw [he] at hr
  generalize hv : a.eval x = v at hr
  cases hr with
  | ifc hq =>
   rename_i u
   by_cases ht' : t' = t
   ·rw [if_pos ht'] at hp; cases hp
    refine qu (x := .value (.tuple #[u, .bool true])) (w' := w) hnd ?_ (hnext _ _ _ _ _ hK (.tup rfl ?_) st.sim (.refl _ _ _))
    ·unfold execOp
     simp only [ho, hv, Instr.typeAssert, Sem.run_bind, run_underlying ht, Result.andThen_ok]
     cases d <;> first | exact absurd rfl (hd _) | (simp only [ht', if_true]; rfl)
    ·intro i c v hc hv
     match i with
     | 0 => have hc : some q = some c := hc; have hv : some u = some v := hv; cases hc; cases hv; exact hq
     | 1 => have hc : some (PV.sc (.bool true)) = some c := hc; have hv : some (Value.bool true) = some v := hv; cases hc; cases hv; exact .sc _
     | i + 2 => simp at hc
   ·rw [if_neg ht'] at hp; cases hp
    refine qu (x := .value (.tuple #[z, .bool false])) (w' := w) hnd ?_ (hnext _ _ _ _ _ hK (.tup rfl ?_) st.sim (.refl _ _ _))
    ·unfold execOp
     simp only [ho, hv, Instr.typeAssert, Sem.run_bind, run_underlying ht, Result.andThen_ok]
     cases d <;> first | exact absurd rfl (hd _) | (simp only [ht', if_false, if_true, Sem.run_bind, ZF hz, Result.andThen_ok]; rfl)
    ·intro i c v hc hv
     match i with
     | 0 => have hc : some (uG z) = some c := hc; have hv : some z = some v := hv; cases hc; cases hv; exact Jj z
     | 1 => have hc : some (PV.sc (.bool false)) = some c := hc; have hv : some (Value.bool false) = some v := hv; cases hc; cases hv; exact .sc _
     | i + 2 => simp at hc
 ·cases hp
theorem Zgj {o : Oper} {s x : Operand} {t e : TypeId} {z : Value} {by_ m : Nat} {ds : List PV} {K : PV → Store → Prop} (ho : o.op = .call { callee := .builtin .append, args := #[s, x], argTypes := #[t, t] })
  (hE : ElemOk P t e z by_) (hs : ev F s = .sc (.slice none 0 0)) (hx : uM S (P.cellsOf e) (ev F x) = some (m, ds)) (hb : m * by_ ≤ 140737488355328) (hm : m ≤ 140737488355328)
  (hK : ∀ C : Ctx, S C.next = .dead → ∃ id v, Fresh C S id v ∧ K (.sl id v (P.cellsOf e) 0 m) (S.set id (.cells v e ds))) : PO P r n o F S K := by
 intro G hG C w a N st next Q' hnext
 have e1 : ev G s = _ := (hG s (by simp [ho, Op.operands, Call.operands])).trans hs
 have e2 : ev G x = ev F x := hG x (by simp [ho, Op.operands, Call.operands])
 rw [← e2] at hx
 have r1 := st.ev s
 rw [e1] at r1
 obtain ⟨news, hsrc, hrel, _⟩ := JM (P := P) st.sim hx (st.ev x)
 have hnd : ∀ c, o.op ≠ .defer c := by intro c hc; rw [ho] at hc; cases hc
 generalize hv : a.eval s = v at r1
 cases r1
 obtain ⟨id, ver, hfr, hK⟩ := hK C st.sim.free
 by_cases hm0 : m = 0
 ·subst hm0
  have hne : news = [] := List.eq_nil_of_length_eq_zero (by rw [hsrc.size]; simp)
  have hde : ds = [] := List.eq_nil_of_length_eq_zero (by rw [hrel.1, hne]; rfl)
  subst hne; subst hde
  have hrun := Ys (P := P) (a := a) (w := w) ho (by rw [hv]; exact Wh (ty := o.type) hE.ty hE.pos hsrc (Nat.zero_le 0))
  obtain ⟨t1, t2⟩ := st.sim.nilObject' hfr e
  exact qu hnd hrun (hnext _ _ _ _ _ hK (Za3 C S w _ _ _ e) t1 t2)
 ·have hrun := Ys (P := P) (a := a) (w := w) ho (by
   rw [hv]
   exact JL (ty := o.type) (olds := []) hE.ty hE.pos hE.zero hE.bytes hsrc (by simp [Builtin.firstCells]) (by omega) (by simpa using hb) hE.bpos)
  have hgc : m ≤ grownCap w m 0 e := by have := grownCap_ge w m 0 e; exact this
  have hgm : grownCap w m 0 e ≤ maxLen := grownCap_le_maxLen w m 0 e (by unfold maxLen; omega)
  simp only [Nat.zero_add] at hrun
  have hsz : (#[] ++ news.toArray ++ Builtin.zeroCells z.cells (grownCap w m 0 e - m) : Array Value).size = grownCap w m 0 e * P.cellsOf e := by
   simp only [Array.size_append, List.size_toArray, List.length_nil, Nat.zero_add, size_zeroCells, hE.zsize, hsrc.size]
   rw [← Nat.add_mul]; congr 1; omega
  have hra := Yr (cs := []) (vs := []) (by simp [RelL]) hrel (Builtin.zeroCells z.cells (grownCap w m 0 e - m)).toList
  simp only [List.nil_append] at hra
  have hget : ∀ i : Nat, (#[] ++ news.toArray ++ Builtin.zeroCells z.cells (grownCap w m 0 e - m) : Array Value)[i]? = (news ++ (Builtin.zeroCells z.cells (grownCap w m 0 e - m)).toList)[i]? := by
   intro i; rw [← Array.getElem?_toList]; simp
  obtain ⟨d1, d2⟩ := st.sim.drew
  obtain ⟨t1, t2⟩ := d1.object' hfr e (#[] ++ news.toArray ++ Builtin.zeroCells z.cells (grownCap w m 0 e - m)) ds (by have := hra.1; simp at this ⊢; omega) (fun i v hi hv => hra.2.1 i v hi (by rw [← hget]; exact hv)) (fun i p v hp hv => (hra.2.2 i p v hp (by rw [← hget]; exact hv)).mono d2)
  exact qu hnd hrun (hnext _ _ _ _ _ hK (Qt C S w _ _ _ _ _ _ _ _ rfl hgc (Nat.le_trans hm (by unfold jn; omega)) hgm hsz.symm) t1 (d2.trans t2))
theorem Sim.relabel {C : Ctx} {S : Store} {w : World} (h : Sim C S w) {o ver e : Nat} {cs cs' : List PV} (hs : S o = .cells ver e cs) (hl : cs'.length = cs.length)
  (hr : ∀ (i : Nat) (p' : PV), cs'[i]? = some p' → cs[i]? = some p' ∨ ∃ p, cs[i]? = some p ∧ ∀ v, Rel C S w p v → Rel C S w p' v) :
  Sim C (S.set o (.cells ver e cs')) w ∧ Step C S w C (S.set o (.cells ver e cs')) w := by
 have hl0 : C.at o ver (C.loc o) = C := by
  have hck := h.clk o ver (by rw [hs]; rfl)
  cases C
  simp only [Ctx.at, Ctx.mk.injEq, true_and] at hck ⊢
  refine ⟨?_, by omega⟩
  funext i
  split
  ·rename_i e; rw [e]
  ·rfl
 have := h.turn (w' := w) (ver' := ver) (cs' := cs') (l := C.loc o) hs (Nat.le_refl _) (fun _ => rfl) ⟨⟨rfl, rfl, rfl, Nat.le_refl _, fun _ _ _ => rfl⟩, Nat.le_refl _⟩ (by
  rcases h.cells o ver e cs hs with ⟨h1, h2⟩ | ⟨b, k, c, g1, g2, g3, g4, g5, g6⟩
  ·exact .inl ⟨h1, List.eq_nil_of_length_eq_zero (by rw [hl, h2]; rfl)⟩
  ·refine .inr ⟨b, k, c, g1, .inr (by rw [g1]; rfl), g2, g3, by omega, fun i v hi hv => g5 i v (by omega) hv, fun i p v hp hv => ?_⟩
   rcases hr i p hp with q | ⟨p0, q1, q2⟩
   ·exact g6 i p v q hv
   ·exact q2 v (g6 i p0 v q1 hv))
 rw [hl0] at this
 exact this
theorem Wn {c : Code} {o ver e0 : Nat} {cs : List PV} (i e sz : Nat) (hs : S o = .cells ver e0 cs) (hi : cs[i]? = some (.sc (.slice none 0 0)))
  (h : ∀ C : Ctx, S C.next = .dead → ∃ id v, Fresh C S id v ∧ PW P r n N c Q F ((S.set id (.cells v e [])).set o (.cells ver e0 (cs.set i (.sl id v sz 0 0))))) : PW P r n N c Q F S := by
 intro C w a st
 obtain ⟨id, vv, hfr, h⟩ := h C st.sim.free
 obtain ⟨k1, k2⟩ := st.sim.nilObject' hfr e
 have hne : o ≠ id := by
  intro e; have := hfr.dead; rw [← e, hs] at this; cases this
 obtain ⟨j1, j2⟩ := k1.relabel (o := o) (cs' := cs.set i (.sl id vv sz 0 0)) (by rw [Store.set_other _ _ _ _ hne]; exact hs) (by simp) (by
  intro j p' hp'
  rw [List.getElem?_set] at hp'
  split at hp'
  ·rename_i hij
   subst hij
   split at hp'
   ·cases hp'
    refine .inr ⟨_, hi, fun v hv => ?_⟩
    cases hv
    exact Za3 C S w _ _ sz e
   ·cases hp'
  ·exact .inl hp')
 refine wpIn_mono (h _ w a ⟨j1, st.size, fun i => ((st.fr i).mono k2).mono j2, r.keep j2 (r.keep k2 st.v)⟩) ?_
 rintro e a' w' ⟨F2, S2, C2, h1, h2, h3, h4⟩
 exact ⟨F2, S2, C2, h1, h2, h3, (k2.trans j2).trans h4⟩
end
open Go
def ext (S : Store) (nx : Nat) (obs : List Ob) : Store := fun i => if i < nx then S i else obs.getD (i - nx) .dead
def zW (nx : Nat) (S : Store) : Prop := ∀ i, nx ≤ i → S i = .dead
section
variable {S : Store} {nx : Nat} {obs : List Ob}
theorem zH {i : Nat} (h : i < nx) : ext S nx obs i = S i := by simp [ext, h]
@[simp] theorem yQ (k : Nat) : ext S nx obs (nx + k) = obs.getD k .dead := by
 simp only [ext]; rw [if_neg (by omega), Nat.add_sub_cancel_left]
@[simp] theorem Zo9 : ext S nx obs nx = obs.getD 0 .dead := by simp [ext]
theorem qk (h : zW nx S) : ext S nx [] = S := by
 funext i; simp only [ext]; split
 ·rfl
 ·rw [h i (by omega)]; rfl
theorem y9 {id : Nat} (x : Ob) (h : nx ≤ id) (hl : id - nx < obs.length) : (ext S nx obs).set id x = ext S nx (obs.set (id - nx) x) := by
 funext i
 simp only [ext, Store.set]
 by_cases h1 : i = id
 ·subst h1; rw [if_pos rfl, if_neg (by omega), List.getD_eq_getElem?_getD, List.getElem?_set_self hl]; rfl
 ·rw [if_neg h1]
  by_cases h2 : i < nx
  ·rw [if_pos h2, if_pos h2]
  ·rw [if_neg h2, if_neg h2, List.getD_eq_getElem?_getD, List.getD_eq_getElem?_getD, List.getElem?_set_ne (by omega)]
theorem jk (x : Ob) : (ext S nx obs).set (nx + obs.length) x = ext S nx (obs ++ [x]) := by
 funext i
 simp only [ext, Store.set]
 by_cases h1 : i = nx + obs.length
 ·subst h1; rw [if_pos rfl, if_neg (by omega), List.getD_eq_getElem?_getD, List.getElem?_append_right (by omega)]; simp
 ·rw [if_neg h1]
  by_cases h2 : i < nx
  ·rw [if_pos h2, if_pos h2]
  ·rw [if_neg h2, if_neg h2, List.getD_eq_getElem?_getD, List.getD_eq_getElem?_getD]
   by_cases h3 : i - nx < obs.length
   ·rw [List.getElem?_append_left h3]
   ·rw [List.getElem?_eq_none (by omega), List.getElem?_eq_none (by simp; omega)]
theorem jZ {i : Nat} (x : Ob) (h : i < nx) : (ext S nx obs).set i x = ext (S.set i x) nx obs := by
 funext j
 simp only [ext, Store.set]
 by_cases h1 : j = i
 ·subst h1; rw [if_pos rfl, if_pos h, if_pos rfl]
 ·rw [if_neg h1]
  by_cases h2 : j < nx
  ·rw [if_pos h2, if_pos h2, if_neg h1]
  ·rw [if_neg h2, if_neg h2]
theorem uf : ext S nx obs (nx + obs.length) = .dead := by simp
theorem Za4 (more : List Ob) (o : Nat) : ext S nx obs o = ext S nx (obs ++ more) o ∨ ext S nx obs o = .dead := by
 simp only [ext]
 by_cases h2 : o < nx
 ·rw [if_pos h2, if_pos h2]; exact .inl rfl
 ·rw [if_neg h2, if_neg h2, List.getD_eq_getElem?_getD, List.getD_eq_getElem?_getD]
  by_cases h3 : o - nx < obs.length
  ·rw [List.getElem?_append_left h3]; exact .inl rfl
  ·rw [List.getElem?_eq_none (by omega)]; exact .inr rfl
theorem yb (h : zW nx S) (o : Nat) : S o = ext S nx obs o ∨ S o = .dead := by
 simp only [ext]
 by_cases h2 : o < nx
 ·rw [if_pos h2]; exact .inl rfl
 ·exact .inr (h o (by omega))
theorem jO : zW (nx + obs.length) (ext S nx obs) := by
 intro i hi
 simp only [ext]
 rw [if_neg (by omega), List.getD_eq_getElem?_getD, List.getElem?_eq_none (by omega)]; rfl
end
def Spec (P : Program) (f : FuncId) (args : List PV) (S : Store) (Q : PV → Store → Prop) : Prop := qy P f ∧ PCalls P f args S Q
def SpecV (P : Program) (V : Ctx → Store → World → Prop) (f : FuncId) (args : List PV) (S : Store) (Q : PV → Store → Prop) : Prop := qy P f ∧ PCallsV P V f args S Q
theorem Spec.v {P : Program} {V : Ctx → Store → World → Prop} {f : FuncId} {args : List PV} {S : Store} {Q : PV → Store → Prop} (h : Spec P f args S Q) : SpecV P V f args S Q := ⟨h.1, h.2.v⟩
theorem SpecV.mono {P : Program} {V : Ctx → Store → World → Prop} {f : FuncId} {args : List PV} {S : Store} {Q Q' : PV → Store → Prop} (h : SpecV P V f args S Q) (hq : ∀ p S', Q p S' → Q' p S') : SpecV P V f args S Q' := ⟨h.1, h.2.mono hq⟩
theorem Spec.mono {P : Program} {f : FuncId} {args : List PV} {S : Store} {Q Q' : PV → Store → Prop} (h : Spec P f args S Q) (hq : ∀ p S', Q p S' → Q' p S') : Spec P f args S Q' := ⟨h.1, h.2.mono hq⟩
def Pure (P : Program) (f : FuncId) (args : List PV) (p : PV) : Prop := ∀ S, Spec P f args S (fun q S' => q = p ∧ S' = S)
section
variable (P : Program) (r : Rd) (n nx : Nat)
def Qy (t : TypeId) : Option (TypeId × Nat × Nat) :=
 match P.underlying t with
 | some (.slice e) =>
  match Program.zeroOf P e with
  | some z =>
   match Program.bytesOf' P e with
   | some b => if P.cellsOf e ≠ 0 ∧ z.cells.size = P.cellsOf e ∧ b ≠ 0 then some (e, P.cellsOf e, b) else none
   | none => none
  | none => none
 | _ => none
def Zc (S : Store) (obs : List Ob) (F : Nat → PV) (o : Oper) : Option (Prop × PV × Store × List Ob) :=
 match o.op with
 | .load t x => match vA P t (ext S nx obs) (ev F x) with | some p => some (True, p, S, obs) | none => none
 | .store t x y =>
  match ev F x with
  | .ptr id ver off =>
   match ext S nx obs id with
   | .cells v e cs =>
    if v = ver ∧ (ev F y).cells.length = P.cellsOf t ∧ P.cellsOf t ≠ 0 ∧ (ev F y).fit = true then
     (if nx ≤ id then some (off + (ev F y).cells.length ≤ cs.length, .sc undef, S, obs.set (id - nx) (.cells v e (ye cs off (ev F y).cells)))
      else some (off + (ev F y).cells.length ≤ cs.length, .sc undef, S.set id (.cells v e (ye cs off (ev F y).cells)), obs))
    else none
   | _ => none
  | _ => none
 | .call c =>
  match c.callee with
  | .builtin .append =>
   match c.args.toList, c.argTypes.toList with
   | [s, x], [t, t'] =>
    match ev F s with
    | .sl id ver sz 0 k =>
     match ext S nx obs id with
     | .cells v e cs =>
      match Qy P t with
      | some (e', sz', by_) =>
       match uM (ext S nx obs) sz (ev F x) with
       | some (m, ds) =>
        if v = ver ∧ e' = e ∧ sz' = sz ∧ t' = t then
         (if nx ≤ id then some (k * sz ≤ cs.length ∧ (k + m) * by_ ≤ 140737488355328, .sl id (ver + 1) sz 0 (k + m), S, obs.set (id - nx) (.cells (ver + 1) e (cs.take (k * sz) ++ ds)))
          else some (k * sz ≤ cs.length ∧ (k + m) * by_ ≤ 140737488355328, .sl id (ver + 1) sz 0 (k + m), S.set id (.cells (ver + 1) e (cs.take (k * sz) ++ ds)), obs))
        else none
       | none => none
      | none => none
     | _ => none
    | _ => none
   | _, _ => none
  | _ => none
 | _ => none
def Zd (S : Store) (obs : List Ob) (F : Nat → PV) (o : Oper) : Option (Prop × (Nat → PV) × (Nat → Ob)) :=
 match o.op with
 | .alloc t =>
  match Program.zeroOf P t with
  | some z => if z.cells.all (·.oneCell') = true then some (True, fun v => .ptr (nx + obs.length) v 0, fun v => .cells v t (qD z)) else none
  | none => none
 | .box t x => if (ev F x).fit = true then some (True, fun v => .ptr (nx + obs.length) v 0, fun v => .cells v t (ev F x).cells) else none
 | .makeSlice t l c =>
  match ev F l, ev F c with
  | .sc (.int _ a), .sc (.int _ b) =>
   match P.underlying t with
   | some (.slice e) =>
    match Program.zeroOf P e with
    | some z =>
     match Program.bytesOf' P e with
     | some by_ => if z.cells.all (·.oneCell') = true ∧ z.cells.size = P.cellsOf e ∧ P.cellsOf e ≠ 0 then
       some (0 ≤ a ∧ a ≤ b ∧ b ≤ 140737488355328 ∧ b.toNat * by_ ≤ 281474976710656, fun v => .sl (nx + obs.length) v (P.cellsOf e) 0 a.toNat, fun v => .cells v e (ji b.toNat z)) else none
     | none => none
    | none => none
   | _ => none
  | _, _ => none
 | .makeMap _ none => some (True, fun v => .mp (nx + obs.length) v, fun v => .map v [])
 | .call c =>
  match c.callee with
  | .builtin .append =>
   match c.args.toList, c.argTypes.toList with
   | [s, x], [t, t'] =>
    match ev F s with
    | .sc (.slice none 0 0) =>
     match Qy P t with
     | some (e, sz, by_) =>
      match uM (ext S nx obs) sz (ev F x) with
      | some (m, ds) => if t' = t then some (m * by_ ≤ 140737488355328, fun v => .sl (nx + obs.length) v sz 0 m, fun v => .cells v e ds) else none
      | none => none
     | none => none
    | _ => none
   | _, _ => none
  | _ => none
 | _ => none
def ug (F : Nat → PV) (o : Oper) : Option (FuncId × List PV) :=
 match o.op with
 | .call c =>
  match c.callee with
  | .value x => match ev F x with | .fn (.func k) fs cs => some (k, fs ++ c.args.toList.map (ev F) ++ cs) | _ => none
  | _ => none
 | _ => none
def XS (ops : Array Oper) (K : (Nat → PV) → Store → List Ob → Prop) : List Oper → (Nat → PV) → Store → List Ob → Prop
 | [], F, S, obs => K F S obs
 | o :: os, F, S, obs =>
  match gd ops F o with
  | none => False
  | some false => XS ops K os (zQ F o.dst (.sc undef)) S obs
  | some true => PO P r n o F (ext S nx obs) (fun p S' => ∃ S1 obs1, S' = ext S1 nx obs1 ∧ XS ops K os (zQ F o.dst p) S1 obs1)
def Qz : List (Nat × Nat) → Nat → Option Nat
 | [], _ => none
 | (a, p) :: l, i => if i = a then some p else Qz l i
def JS (D : List (Nat × Nat)) (F : Nat → PV) (o : Oper) : Option Bool :=
 match o.guard with
 | none => some true
 | some (j, want) =>
  match Qz D j with
  | none => some false
  | some d => match F d with
   | .sc v => match v with
    | .bool b => some (b == want)
    | _ => some false
   | _ => none
def vC (ops : Array Oper) (D : List (Nat × Nat)) : Bool :=
 ops.toList.all fun o => match o.guard with
 | none => true
 | some (j, _) => decide ((ops[j]?).bind (·.dst) = Qz D j)
def Yy (D : List (Nat × Nat)) (Gc : List Oper → (Nat → PV) → Store → List Ob → Option Nat → FuncId → List PV → Prop) (Gh : List Oper → (Nat → PV) → Store → List Ob → Oper → Prop) (X : (Nat → PV) → Store → List Ob → Prop)
  (o : Oper) (os : List Oper) (F : Nat → PV) (S : Store) (obs : List Ob) : Prop :=
 match JS D F o with
 | none => False
 | some false => X (zQ F o.dst (.sc undef)) S obs
 | some true =>
  match xB P F o with
  | some p => X (zQ F o.dst p) S obs
  | none =>
   match Zc P nx S obs F o with
   | some (A, p, S', obs') => A ∧ X (zQ F o.dst p) S' obs'
   | none =>
    match Zd P nx S obs F o with
    | some (A, pf, of) => A ∧ ∀ v, X (zQ F o.dst (pf v)) S (obs ++ [of v])
    | none =>
     match ug F o with
     | some (f, args) => Gc os F S obs o.dst f args
     | none => Gh os F S obs o
def XR (D : List (Nat × Nat)) (K : (Nat → PV) → Store → List Ob → Prop) (Gc : List Oper → (Nat → PV) → Store → List Ob → Option Nat → FuncId → List PV → Prop) (Gh : List Oper → (Nat → PV) → Store → List Ob → Oper → Prop) :
  List Oper → (Nat → PV) → Store → List Ob → Prop
 | [], F, S, obs => K F S obs
 | o :: os, F, S, obs => Yy P nx D Gc Gh (XR D K Gc Gh os) o os F S obs
end
section
variable {P : Program} {r : Rd} {n nx N : Nat} {Q : Exit → (Nat → PV) → Store → Prop} {F : Nat → PV} {S : Store} {obs : List Ob}
theorem Wo {t e : TypeId} {sz by_ : Nat} (h : Qy P t = some (e, sz, by_)) : ∃ z, ElemOk P t e z by_ ∧ sz = P.cellsOf e := by
 unfold Qy at h
 split at h
 ·rename_i e0 ht
  split at h
  ·rename_i z hz
   split at h
   ·rename_i b hb
    split at h
    ·rename_i hc; cases h; exact ⟨z, ⟨ht, hc.1, hz, hc.2.1, hb, hc.2.2⟩, rfl⟩
    ·cases h
   ·cases h
  ·cases h
 ·cases h
theorem Zgk {o : Oper} {K K' : PV → Store → Prop} (h : PO P r n o F S K) (hk : ∀ p S', K p S' → K' p S') : PO P r n o F S K' :=
 fun G hG C w a N st next Q' hn => h G hG C w a N st next Q' fun v w' C' S' p hp => hn v w' C' S' p (hk p S' hp)
theorem Wp {c : Call} {s x : Operand} {t t' : TypeId} (hc : c.callee = .builtin .append) (h1 : c.args.toList = [s, x]) (h2 : c.argTypes.toList = [t, t']) (ht : t' = t) : c = { callee := .builtin .append, args := #[s, x], argTypes := #[t, t] } := by
 subst ht
 have e1 : c.args = #[s, x] := by apply Array.toList_inj.1; simpa using h1
 have e2 : c.argTypes = #[t', t'] := by apply Array.toList_inj.1; simpa using h2
 cases c; simp_all
theorem Za5 {o : Oper} {A : Prop} {p : PV} {S' : Store} {obs' : List Ob} {K : PV → Store → Prop} (h : Zc P nx S obs F o = some (A, p, S', obs')) (hA : A) (hK : K p (ext S' nx obs')) : PO P r n o F (ext S nx obs) K := by
 unfold Zc at h
 split at h
 ·rename_i t x ho
  split at h
  ·rename_i q hq; cases h
   exact Qm (p := p) (S' := ext S nx obs) (by unfold qt; rw [ho]; simp only [hq, Option.map_some]) hK
  ·cases h
 ·rename_i t x y ho
  split at h
  ·rename_i id ver off hx
   split at h
   ·rename_i v e cs hs
    split at h
    ·rename_i hc
     obtain ⟨c1, c2, c3, c4⟩ := hc
     have main : ∀ T, (off + (ev F y).cells.length ≤ cs.length) → (ext S nx obs).set id (.cells v e (ye cs off (ev F y).cells)) = T → K (.sc undef) T → PO P r n o F (ext S nx obs) K := by
      intro T hT e1 hK
      refine Qm (p := .sc undef) (S' := T) ?_ hK
      unfold qt; rw [ho]
      simp only [Yp, hx, hs]
      rw [if_pos ⟨c1, c2, c3, hT, c4⟩, e1]; rfl
     split at h
     ·rename_i hid
      cases h
      refine main _ hA (y9 _ hid ?_) hK
      rcases Nat.lt_or_ge (id - nx) obs.length with q | q
      ·exact q
      ·exfalso
       simp only [ext] at hs
       rw [if_neg (by omega), List.getD_eq_getElem?_getD, List.getElem?_eq_none q] at hs
       cases hs
     ·rename_i hid
      cases h
      exact main _ hA (jZ _ (by omega)) hK
    ·cases h
   ·cases h
  ·cases h
 ·rename_i c ho
  split at h
  ·rename_i hcal
   split at h
   ·rename_i s x t t' h1 h2
    split at h
    ·rename_i id ver sz k hsl
     split at h
     ·rename_i v e cs hs
      split at h
      ·rename_i e' sz' by_ hel
       split at h
       ·rename_i m ds hsrc
        split at h
        ·rename_i hc
         obtain ⟨rfl, rfl, rfl, rfl⟩ := hc
         split at h
         ·rename_i hid
          cases h
          obtain ⟨z, hE, rfl⟩ := Wo hel
          obtain ⟨a1, a2⟩ := hA
          have hlt : id - nx < obs.length := by
           rcases Nat.lt_or_ge (id - nx) obs.length with q | q
           ·exact q
           ·exfalso
            simp only [ext] at hs
            rw [if_neg (by omega), List.getD_eq_getElem?_getD, List.getElem?_eq_none q] at hs
            cases hs
          have ha : k + m ≤ 140737488355328 := Nat.le_trans (Nat.le_mul_of_pos_right _ (Nat.pos_of_ne_zero hE.bpos)) a2
          rw [Wp hcal h1 h2 rfl] at ho
          exact Wj ho hE hsl hs a1 hsrc a2 ha (by rw [y9 _ hid hlt]; exact hK)
         ·rename_i hid
          cases h
          obtain ⟨z, hE, rfl⟩ := Wo hel
          obtain ⟨a1, a2⟩ := hA
          have ha : k + m ≤ 140737488355328 := Nat.le_trans (Nat.le_mul_of_pos_right _ (Nat.pos_of_ne_zero hE.bpos)) a2
          rw [Wp hcal h1 h2 rfl] at ho
          exact Wj ho hE hsl hs a1 hsrc a2 ha (by rw [jZ _ (by omega)]; exact hK)
        ·cases h
       ·cases h
      ·cases h
     ·cases h
    ·cases h
   ·cases h
  ·cases h
 ·cases h
theorem Za6 {o : Oper} {A : Prop} {pf : Nat → PV} {of : Nat → Ob} {K : PV → Store → Prop} (h : Zd P nx S obs F o = some (A, pf, of)) (hA : A) (hK : ∀ v, K (pf v) (ext S nx (obs ++ [of v]))) : PO P r n o F (ext S nx obs) K := by
 unfold Zd at h
 split at h
 ·rename_i t ho
  split at h
  ·rename_i z hz
   split at h
   ·rename_i h1; cases h
    exact ZaZ ho hz h1 (uc (X := fun id v => K (.ptr id v 0) ((ext S nx obs).set id (.cells v t (qD z)))) _ uf fun v => by rw [jk]; exact hK v)
   ·cases h
  ·cases h
 ·rename_i t x ho
  split at h
  ·rename_i h1; cases h
   exact Zga ho h1 (uc (X := fun id v => K (.ptr id v 0) ((ext S nx obs).set id (.cells v t (ev F x).cells))) _ uf fun v => by rw [jk]; exact hK v)
  ·cases h
 ·rename_i t l c ho
  split at h
  ·rename_i k1 a k2 b hl hc
   split at h
   ·rename_i e ht
    split at h
    ·rename_i z hz
     split at h
     ·rename_i by_ hby
      split at h
      ·rename_i hcond
       obtain ⟨c1, c2, c3⟩ := hcond
       cases h
       obtain ⟨a1, a2, a3, a4⟩ := hA
       obtain ⟨a', rfl⟩ := Int.eq_ofNat_of_zero_le a1
       obtain ⟨b', rfl⟩ := Int.eq_ofNat_of_zero_le (Int.le_trans a1 a2)
       simp only [Int.toNat_natCast] at hK a4
       exact Zgb ho ht hl hc hz c1 c2 c3 hby (by omega) (by omega) a4 (uc (X := fun id v => K (.sl id v (P.cellsOf e) 0 a') ((ext S nx obs).set id (.cells v e (ji b' z)))) _ uf fun v => by rw [jk]; exact hK v)
      ·cases h
     ·cases h
    ·cases h
   ·cases h
  ·cases h
 ·rename_i t ho
  cases h
  exact Zgh ho (uc (X := fun id v => K (.mp id v) ((ext S nx obs).set id (.map v []))) _ uf fun v => by rw [jk]; exact hK v)
 ·rename_i c ho
  split at h
  ·rename_i hcal
   split at h
   ·rename_i s x t t' h1 h2
    split at h
    ·rename_i hsl
     split at h
     ·rename_i e sz by_ hel
      split at h
      ·rename_i m ds hsrc
       split at h
       ·rename_i hc
        cases h
        obtain ⟨z, hE, rfl⟩ := Wo hel
        have ha : m ≤ 140737488355328 := Nat.le_trans (Nat.le_mul_of_pos_right _ (Nat.pos_of_ne_zero hE.bpos)) hA
        rw [Wp hcal h1 h2 hc] at ho
        exact Zgj ho hE hsl hsrc hA ha (uc (X := fun id v => K (.sl id v (P.cellsOf e) 0 m) ((ext S nx obs).set id (.cells v e ds))) _ uf fun v => by rw [jk]; exact hK v)
       ·cases h
      ·cases h
     ·cases h
    ·cases h
   ·cases h
  ·cases h
 ·cases h
theorem Wq {o : Oper} {f : FuncId} {args : List PV} {K : PV → Store → Prop} (h : ug F o = some (f, args)) (hp : SpecV P r.V f args S K) : PO P r n o F S K := by
 unfold ug at h
 split at h
 ·rename_i c ho
  split at h
  ·rename_i x hcal
   split at h
   ·rename_i k fs cs hx
    cases h
    exact ZaV ho hcal hx hp.1 hp.2 fun _ _ h => h
   ·cases h
  ·cases h
 ·cases h
theorem Zgl {ops : Array Oper} {D : List (Nat × Nat)} (h : vC ops D = true) {o : Oper} (ho : o ∈ ops.toList) (F : Nat → PV) : gd ops F o = JS D F o := by
 unfold vC at h
 rw [List.all_eq_true] at h
 have := h o ho
 unfold gd JS
 cases hg : o.guard with
 | none => rfl
 | some jw =>
  obtain ⟨j, want⟩ := jw
  rw [hg] at this
  simp only [decide_eq_true_eq] at this
  simp only [this]
  cases Qz D j with
  | none => rfl
  | some d =>
   simp only
   cases F d with
   | sc v => cases v <;> rfl
   | _ => rfl
theorem Yz {D : List (Nat × Nat)} {ops : Array Oper} (hD : vC ops D = true) {K : (Nat → PV) → Store → List Ob → Prop} {Gc : List Oper → (Nat → PV) → Store → List Ob → Option Nat → FuncId → List PV → Prop} {Gh : List Oper → (Nat → PV) → Store → List Ob → Oper → Prop}
  (hc : ∀ os F S obs d f args, Gc os F S obs d f args → os <:+ ops.toList → SpecV P r.V f args (ext S nx obs) (fun p S' => ∃ S1 obs1, S' = ext S1 nx obs1 ∧ XS P r n nx ops K os (zQ F d p) S1 obs1))
  (hh : ∀ os F S obs o, Gh os F S obs o → os <:+ ops.toList → PO P r n o F (ext S nx obs) (fun p S' => ∃ S1 obs1, S' = ext S1 nx obs1 ∧ XS P r n nx ops K os (zQ F o.dst p) S1 obs1)) :
  ∀ (l : List Oper) (F : Nat → PV) (S : Store) (obs : List Ob), l <:+ ops.toList → XR P nx D K Gc Gh l F S obs → XS P r n nx ops K l F S obs
 | [], F, S, obs, _, h => h
 | o :: os, F, S, obs, hs, h => by
  have hs' : os <:+ ops.toList := (List.suffix_cons o os).trans hs
  unfold XR Yy at h
  rw [← Zgl hD (hs.subset (by simp)) F] at h
  unfold XS
  split at h
  ·exact h.elim
  ·exact Yz hD hc hh os _ _ _ hs' h
  ·split at h
   ·rename_i p hp
    exact X7 hp ⟨S, obs, rfl, Yz hD hc hh os _ _ _ hs' h⟩
   ·split at h
    ·rename_i A p S' obs' hm
     exact Za5 hm h.1 ⟨S', obs', rfl, Yz hD hc hh os _ _ _ hs' h.2⟩
    ·split at h
     ·rename_i A pf of hm
      exact Za6 hm h.1 fun v => ⟨S, _, rfl, Yz hD hc hh os _ _ _ hs' (h.2 v)⟩
     ·split at h
      ·rename_i f args hf
       exact Wq hf (hc _ _ _ _ _ _ _ h hs')
      ·exact hh _ _ _ _ _ h hs'
theorem zR {ops : Array Oper} {K : (Nat → PV) → Store → List Ob → Prop} {l : List Oper} {D : List (Nat × Nat)} (hs : l <:+ ops.toList) (hD : vC ops D = true)
  (h : ∀ (Gc : List Oper → (Nat → PV) → Store → List Ob → Option Nat → FuncId → List PV → Prop) (Gh : List Oper → (Nat → PV) → Store → List Ob → Oper → Prop),
   (∀ os F S obs d f args, (os <:+ ops.toList → SpecV P r.V f args (ext S nx obs) (fun p S' => ∃ S1 obs1, S' = ext S1 nx obs1 ∧ XS P r n nx ops K os (zQ F d p) S1 obs1)) → Gc os F S obs d f args) →
   (∀ os F S obs o, (os <:+ ops.toList → PO P r n o F (ext S nx obs) (fun p S' => ∃ S1 obs1, S' = ext S1 nx obs1 ∧ XS P r n nx ops K os (zQ F o.dst p) S1 obs1)) → Gh os F S obs o) →
   ∀ X : List Oper → (Nat → PV) → Store → List Ob → Prop, (∀ F S obs, X [] F S obs = K F S obs) → (∀ o os F S obs, X (o :: os) F S obs = Yy P nx D Gc Gh (X os) o os F S obs) → X l F S obs) : XS P r n nx ops K l F S obs :=
 Yz hD (fun _ _ _ _ _ _ _ h => h) (fun _ _ _ _ _ h => h) l F S obs hs (h _ _ (fun _ _ _ _ _ _ _ h => h) (fun _ _ _ _ _ h => h) _ (fun _ _ _ => rfl) (fun _ _ _ _ _ => rfl))
theorem Za7 {ops : Array Oper} {Q' : Exit → Act → World → Prop} (hN : ∀ o ∈ ops, ∀ d, o.dst = some d → d < N) {K : (Nat → PV) → Store → List Ob → Prop} {C0 : Ctx} {S0 : Store} {w0 : World} {ds : List Deferred}
  (hQ : ∀ F' S' obs' C' w' a', K F' S' obs' → St r C' (ext S' nx obs') w' N F' a' → a'.defers = ds → Step C0 S0 w0 C' (ext S' nx obs') w' → Q' .normal a' w') :
  ∀ (m k : Nat) (F : Nat → PV) (S : Store) (obs : List Ob) (C : Ctx) (w : World) (a : Act), ops.size - k = m → XS P r n nx ops K (ops.toList.drop k) F S obs → St r C (ext S nx obs) w N F a → a.defers = ds → Step C0 S0 w0 C (ext S nx obs) w →
   wpOpsIn (Fe r) n P ops Q' ((List.range ops.size).drop k) a w := by
 intro m
 induction m with
 | zero =>
  intro k F S obs C w a hm h st hd step
  have e1 : (List.range ops.size).drop k = [] := List.drop_eq_nil_of_le (by simp; omega)
  have e2 : ops.toList.drop k = [] := List.drop_eq_nil_of_le (by simp; omega)
  rw [e1]; rw [e2] at h
  exact hQ F S obs C w a h st hd step
 | succ m ih =>
  intro k F S obs C w a hm h st hd step
  have hk : k < ops.size := by omega
  rw [X8 k _ hk]
  have e2 : ops.toList.drop k = ops[k] :: ops.toList.drop (k + 1) := by
   rw [List.drop_eq_getElem_cons (by simpa using hk)]; simp
  rw [e2] at h
  have hget : ops[k]? = some ops[k] := by simp
  have hdst : ∀ x, ops[k].dst = some x → x < N := hN _ (Array.getElem_mem hk)
  rw [wpOpsIn_cons]
  unfold wpOpIn
  rw [hget]
  dsimp only
  unfold XS at h
  split at h
  ·exact h.elim
  ·rename_i hg
   rw [u7 st hg]
   simp only [Bool.false_eq_true, if_false]
   exact ⟨fun _ _ => trivial, ih (k + 1) _ _ _ C w _ (by omega) h (st.put (.refl _ _ _) st.sim hdst (.sc _)) (by rw [Qn]; exact hd) step⟩
  ·rename_i hg
   rw [u7 st hg]
   simp only [if_true]
   refine h F (fun _ _ => rfl) C w a N st _ _ ?_
   rintro v w' C' S' p ⟨S1, obs1, rfl, hp⟩ hrel hs hstep
   exact ih (k + 1) _ _ _ C' w' _ (by omega) hp (st.put hstep hs hdst hrel) (by rw [Qn]; exact hd) (step.trans hstep)
theorem Zgm {id : Nat} {ops : Array Oper} (hN : xC N ops = true) (h : ∀ K : (Nat → PV) → Store → List Ob → Prop, (∀ F' S' obs', Q .normal F' (ext S' nx obs') → K F' S' obs') → XS P r n nx ops K ops.toList F S obs) : PW P r n N (.region id ops false) Q F (ext S nx obs) := by
 intro C w a st
 refine wpIn_region ?_
 have := Za7 (Q' := fun e a' w' => ∃ F' S' C', Q e F' S' ∧ St r C' S' w' N F' a' ∧ Defs w.heap.size a.defers C' S' w' a'.defers ∧ Step C (ext S nx obs) w C' S' w') (JD hN)
  (fun F' S' obs' C' w' a' hk hst hd hstep => ⟨F', _, C', hk, hst, .of_eq hd, hstep⟩) ops.size 0 F S obs C w a rfl (K := fun F' S' obs' => Q .normal F' (ext S' nx obs')) (by simpa using h _ fun _ _ _ h => h) st rfl (.refl _ _ _)
 simpa using this
theorem zV {id : Nat} {ops : Array Oper} (D : List (Nat × Nat)) (hN : xC N ops = true) (hD : vC ops D = true)
  (h : ∀ (K : (Nat → PV) → Store → List Ob → Prop) (Gc : List Oper → (Nat → PV) → Store → List Ob → Option Nat → FuncId → List PV → Prop) (Gh : List Oper → (Nat → PV) → Store → List Ob → Oper → Prop),
   (∀ F' S' obs', Q .normal F' (ext S' nx obs') → K F' S' obs') →
   (∀ os F S obs d f args, (os <:+ ops.toList → SpecV P r.V f args (ext S nx obs) (fun p S' => ∃ S1 obs1, S' = ext S1 nx obs1 ∧ XS P r n nx ops K os (zQ F d p) S1 obs1)) → Gc os F S obs d f args) →
   (∀ os F S obs o, (os <:+ ops.toList → PO P r n o F (ext S nx obs) (fun p S' => ∃ S1 obs1, S' = ext S1 nx obs1 ∧ XS P r n nx ops K os (zQ F o.dst p) S1 obs1)) → Gh os F S obs o) →
   ∀ X : List Oper → (Nat → PV) → Store → List Ob → Prop, (∀ F S obs, X [] F S obs = K F S obs) → (∀ o os F S obs, X (o :: os) F S obs = Yy P nx D Gc Gh (X os) o os F S obs) → X ops.toList F S obs) : PW P r n N (.region id ops false) Q F (ext S nx obs) :=
 Zgm hN fun K hK => zR (List.suffix_refl _) hD fun Gc Gh hc hh X h0 hX => h K Gc Gh hK hc hh X h0 hX
end
open Go
section
variable (P : Program) (nx : Nat)
def YA (ops : Array Oper) (ids : Option (List Nat)) (S0 : Store) (Gp : Row → (Nat → PV) → Store → List Ob → Option Nat → FuncId → List PV → Prop) (X : (Nat → PV) → Store → List Ob → Prop) (i : Nat) (is : Row) (F : Nat → PV) (S : Store) (obs : List Ob) : Prop :=
 match ops[i]? with
 | none => False
 | some o =>
  match gd ops F o with
  | none => False
  | some false => X (zQ F o.dst (.sc undef)) S obs
  | some true =>
   match xB P F o with
   | some p => X (zQ F o.dst p) S obs
   | none =>
    match u9 P ids S0 F o with
    | some p => X (zQ F o.dst p) S obs
    | none =>
     match ug F o with
     | some (f, args) => Gp is F S obs o.dst f args
     | none => False
def YB (ops : Array Oper) (ids : Option (List Nat)) (S0 : Store) (Gc : Row → (Nat → PV) → Store → List Ob → Option Nat → FuncId → List PV → Prop) (Gh : Row → (Nat → PV) → Store → List Ob → Oper → Prop) (X : (Nat → PV) → Store → List Ob → Prop) (i : Nat) (is : Row) (F : Nat → PV) (S : Store) (obs : List Ob) : Prop :=
 match ops[i]? with
 | none => False
 | some o =>
  match gd ops F o with
  | none => False
  | some false => X (zQ F o.dst (.sc undef)) S obs
  | some true =>
   match Zc P nx S obs F o with
   | some (A, p, S', obs') => A ∧ yF ids S0 (ext S' nx obs') ∧ X (zQ F o.dst p) S' obs'
   | none =>
    match Zd P nx S obs F o with
    | some (A, pf, of) => A ∧ ∀ v, yF ids S0 (ext S nx (obs ++ [of v])) ∧ X (zQ F o.dst (pf v)) S (obs ++ [of v])
    | none =>
     match ug F o with
     | some (f, args) => Gc is F S obs o.dst f args
     | none => Gh is F S obs o
def XD (ops : Array Oper) (ids : Option (List Nat)) (S0 : Store) (K : (Nat → PV) → Store → List Ob → Prop) (Gp Gc : Row → (Nat → PV) → Store → List Ob → Option Nat → FuncId → List PV → Prop) (Gh : Row → (Nat → PV) → Store → List Ob → Oper → Prop) :
  Row → (Nat → PV) → Store → List Ob → Prop
 | .done, F, S, obs => K F S obs
 | .stop, _, _, _ => True
 | .pure i is, F, S, obs => YA P ops ids S0 Gp (XD ops ids S0 K Gp Gc Gh is) i is F S obs
 | .alt i is more, F, S, obs => YB P nx ops ids S0 Gc Gh (XD ops ids S0 K Gp Gc Gh is) i is F S obs ∧ XD ops ids S0 K Gp Gc Gh more F S obs
end
def KX (nx : Nat) (K : (Nat → PV) → Store → List Ob → Prop) (F : Nat → PV) (T : Store) : Prop := ∃ S obs, T = ext S nx obs ∧ K F S obs
section
variable {P : Program} {r : Rd} {n nx N : Nat} {Q : Exit → (Nat → PV) → Store → Prop} {F : Nat → PV} {S : Store} {obs : List Ob}
theorem Zgn {o : Oper} {A : Prop} {p : PV} {S' : Store} {obs' : List Ob} (h : Zc P nx S obs F o = some (A, p, S', obs')) (hA : A) :
  qt P F (ext S nx obs) o = some (p, ext S' nx obs') ∨ qt P F (ext S nx obs) o = none := by
 unfold Zc at h
 split at h
 ·rename_i t x ho
  split at h
  ·rename_i q hq; cases h
   left; unfold qt; rw [ho]; simp only [hq, Option.map_some]
  ·cases h
 ·rename_i t x y ho
  split at h
  ·rename_i id ver off hx
   split at h
   ·rename_i v e cs hs
    split at h
    ·rename_i hc
     obtain ⟨c1, c2, c3, c4⟩ := hc
     have main : ∀ T, (off + (ev F y).cells.length ≤ cs.length) → (ext S nx obs).set id (.cells v e (ye cs off (ev F y).cells)) = T → qt P F (ext S nx obs) o = some (.sc undef, T) := by
      intro T hT e1
      unfold qt; rw [ho]
      simp only [Yp, hx, hs]
      rw [if_pos ⟨c1, c2, c3, hT, c4⟩, e1]; rfl
     left
     split at h
     ·rename_i hid
      cases h
      refine main _ hA (y9 _ hid ?_)
      rcases Nat.lt_or_ge (id - nx) obs.length with q | q
      ·exact q
      ·exfalso
       simp only [ext] at hs
       rw [if_neg (by omega), List.getD_eq_getElem?_getD, List.getElem?_eq_none q] at hs
       cases hs
     ·rename_i hid
      cases h
      exact main _ hA (jZ _ (by omega))
    ·cases h
   ·cases h
  ·cases h
 ·rename_i c ho
  right; unfold qt; rw [ho]
 ·cases h
theorem Zgo {o : Oper} {x : Prop × (Nat → PV) × (Nat → Ob)} (h : Zd P nx S obs F o = some x) (T : Store) : qt P F T o = none := by
 unfold Zd at h
 unfold qt
 cases ho : o.op <;> simp only [ho] at h ⊢ <;> first | rfl | cases h
theorem Zgp {o : Oper} {x : FuncId × List PV} (h : ug F o = some x) (T : Store) : qt P F T o = none := by
 unfold ug at h
 unfold qt
 cases ho : o.op <;> simp only [ho] at h ⊢ <;> first | rfl | cases h
theorem uN {ops : Array Oper} {ids : Option (List Nat)} {S0 : Store} {K : (Nat → PV) → Store → List Ob → Prop} {Gp Gc : Row → (Nat → PV) → Store → List Ob → Option Nat → FuncId → List PV → Prop} {Gh : Row → (Nat → PV) → Store → List Ob → Oper → Prop}
  (hp : ∀ is F S obs d f args, Gp is F S obs d f args → ∃ p, Pure P f args p ∧ PX P r n ops ids S0 is (zQ F d p) (ext S nx obs) (KX nx K))
  (hc : ∀ is F S obs d f args, Gc is F S obs d f args → SpecV P r.V f args (ext S nx obs) (fun p S' => yF ids S0 S' ∧ PX P r n ops ids S0 is (zQ F d p) S' (KX nx K)))
  (hh : ∀ is F S obs o, Gh is F S obs o → qt P F (ext S nx obs) o = none ∧ PO P r n o F (ext S nx obs) (fun p S' => yF ids S0 S' ∧ PX P r n ops ids S0 is (zQ F o.dst p) S' (KX nx K))) :
  ∀ (row : Row) (F : Nat → PV) (S : Store) (obs : List Ob), XD P nx ops ids S0 K Gp Gc Gh row F S obs → PX P r n ops ids S0 row F (ext S nx obs) (KX nx K)
 | .done, F, S, obs, h => ⟨S, obs, rfl, h⟩
 | .stop, _, _, _, _ => trivial
 | .pure i is, F, S, obs, h => by
  unfold XD YA at h
  unfold PX
  cases ho : ops[i]? with
  | none => simp only [ho] at h
  | some o =>
   simp only [ho] at h ⊢
   cases hg : gd ops F o with
   | none => simp only [hg] at h
   | some b =>
    cases b with
    | false => simp only [hg] at h ⊢; exact uN hp hc hh is _ _ _ h
    | true =>
     simp only [hg] at h ⊢
     cases h1 : xB P F o with
     | some p => simp only [h1] at h ⊢; exact uN hp hc hh is _ _ _ h
     | none =>
      simp only [h1] at h ⊢
      cases h2 : u9 P ids S0 F o with
      | some p => simp only [h2] at h ⊢; exact uN hp hc hh is _ _ _ h
      | none =>
       simp only [h2] at h ⊢
       cases h3 : ug F o with
       | none => simp only [h3] at h
       | some fa =>
        obtain ⟨f, args⟩ := fa
        simp only [h3] at h
        obtain ⟨p, q1, q2⟩ := hp _ _ _ _ _ _ _ h
        exact ⟨p, fun S' _ => Wq h3 (q1 S').v, q2⟩
 | .alt i is more, F, S, obs, h => by
  unfold XD YB at h
  unfold PX
  obtain ⟨h, hmore⟩ := h
  refine ⟨?_, uN hp hc hh more _ _ _ hmore⟩
  cases ho : ops[i]? with
  | none => simp only [ho] at h
  | some o =>
   simp only [ho] at h ⊢
   cases hg : gd ops F o with
   | none => simp only [hg] at h
   | some b =>
    cases b with
    | false => simp only [hg] at h ⊢; exact uN hp hc hh is _ _ _ h
    | true =>
     simp only [hg] at h ⊢
     cases hm : Zc P nx S obs F o with
     | some x =>
      obtain ⟨A, p, S', obs'⟩ := x
      simp only [hm] at h
      obtain ⟨hA, hag, h⟩ := h
      have key := uN hp hc hh is _ _ _ h
      rcases Zgn hm hA with e | e
      ·simp only [e]; exact ⟨hag, key⟩
      ·simp only [e]; exact Za5 hm hA ⟨hag, key⟩
     | none =>
      simp only [hm] at h
      cases hw : Zd P nx S obs F o with
      | some x =>
       obtain ⟨A, pf, of⟩ := x
       simp only [hw] at h
       simp only [Zgo hw]
       exact Za6 hw h.1 fun v => ⟨(h.2 v).1, uN hp hc hh is _ _ _ (h.2 v).2⟩
      | none =>
       simp only [hw] at h
       cases hf : ug F o with
       | some fa =>
        obtain ⟨f, args⟩ := fa
        simp only [hf] at h
        simp only [Zgp hf]
        exact Wq hf (hc _ _ _ _ _ _ _ h)
       | none =>
        simp only [hf] at h
        obtain ⟨e, h⟩ := hh _ _ _ _ _ h
        simp only [e]; exact h
theorem j3 {ops : Array Oper} {ids : Option (List Nat)} {S0 : Store} {K : (Nat → PV) → Store → List Ob → Prop} {row : Row}
  (h : ∀ (Gp Gc : Row → (Nat → PV) → Store → List Ob → Option Nat → FuncId → List PV → Prop) (Gh : Row → (Nat → PV) → Store → List Ob → Oper → Prop),
   (∀ is F S obs d f args p, Pure P f args p → PX P r n ops ids S0 is (zQ F d p) (ext S nx obs) (KX nx K) → Gp is F S obs d f args) →
   (∀ is F S obs d f args, SpecV P r.V f args (ext S nx obs) (fun p S' => yF ids S0 S' ∧ PX P r n ops ids S0 is (zQ F d p) S' (KX nx K)) → Gc is F S obs d f args) →
   (∀ is F S obs o, qt P F (ext S nx obs) o = none → PO P r n o F (ext S nx obs) (fun p S' => yF ids S0 S' ∧ PX P r n ops ids S0 is (zQ F o.dst p) S' (KX nx K)) → Gh is F S obs o) →
   ∀ X : Row → (Nat → PV) → Store → List Ob → Prop, (∀ F S obs, X .done F S obs = K F S obs) → (∀ F S obs, X .stop F S obs = True) → (∀ i is F S obs, X (.pure i is) F S obs = YA P ops ids S0 Gp (X is) i is F S obs) →
   (∀ i is more F S obs, X (.alt i is more) F S obs = (YB P nx ops ids S0 Gc Gh (X is) i is F S obs ∧ X more F S obs)) → X row F S obs) : PX P r n ops ids S0 row F (ext S nx obs) (KX nx K) :=
 uN (Gp := fun is F S obs d f args => ∃ p, Pure P f args p ∧ PX P r n ops ids S0 is (zQ F d p) (ext S nx obs) (KX nx K)) (Gh := fun is F S obs o => qt P F (ext S nx obs) o = none ∧ PO P r n o F (ext S nx obs) (fun p S' => yF ids S0 S' ∧ PX P r n ops ids S0 is (zQ F o.dst p) S' (KX nx K)))
  (fun _ _ _ _ _ _ _ h => h) (fun _ _ _ _ _ _ _ h => h) (fun _ _ _ _ _ h => h) row F S obs
  (h _ _ _ (fun _ _ _ _ _ _ _ p h1 h2 => ⟨p, h1, h2⟩) (fun _ _ _ _ _ _ _ h => h) (fun _ _ _ _ _ h1 h2 => ⟨h1, h2⟩) _ (fun _ _ _ => rfl) (fun _ _ _ => rfl) (fun _ _ _ _ _ => rfl) (fun _ _ _ _ _ _ => rfl))
theorem Za8 {ops : Array Oper} {ids : Option (List Nat)} {S0 : Store} : ∀ (row : Row) (F : Nat → PV) (T : Store), PX P r n ops ids S0 row F T (KX nx fun F' S' obs' => Q .normal F' (ext S' nx obs')) → PX P r n ops ids S0 row F T (Q .normal) := by
 have e : (KX nx fun F' S' obs' => Q .normal F' (ext S' nx obs')) = fun F' T => (∃ S' obs', T = ext S' nx obs') ∧ Q .normal F' T := by
  funext F' T
  apply propext
  constructor
  ·rintro ⟨S', obs', rfl, h⟩; exact ⟨⟨S', obs', rfl⟩, h⟩
  ·rintro ⟨⟨S', obs', rfl⟩, h⟩; exact ⟨S', obs', rfl, h⟩
 intro row
 induction row with
 | done => intro F T h; rw [e] at h; exact h.2
 | stop => intro F T _; trivial
 | pure i is ih =>
  intro F T h
  unfold PX at h ⊢
  cases ho : ops[i]? with
  | none => simp only [ho] at h
  | some o =>
   simp only [ho] at h ⊢
   cases hg : gd ops F o with
   | none => simp only [hg] at h
   | some b =>
    cases b with
    | false => simp only [hg] at h ⊢; exact ih _ _ h
    | true =>
     simp only [hg] at h ⊢
     cases h1 : xB P F o with
     | some p => simp only [h1] at h ⊢; exact ih _ _ h
     | none =>
      simp only [h1] at h ⊢
      cases h2 : u9 P ids S0 F o with
      | some p => simp only [h2] at h ⊢; exact ih _ _ h
      | none => simp only [h2] at h ⊢; obtain ⟨p, q1, q2⟩ := h; exact ⟨p, q1, ih _ _ q2⟩
 | alt i is more ih1 ih2 =>
  intro F T h
  unfold PX at h ⊢
  refine ⟨?_, ih2 _ _ h.2⟩
  have h := h.1
  cases ho : ops[i]? with
  | none => simp only [ho] at h
  | some o =>
   simp only [ho] at h ⊢
   cases hg : gd ops F o with
   | none => simp only [hg] at h
   | some b =>
    cases b with
    | false => simp only [hg] at h ⊢; exact ih1 _ _ h
    | true =>
     simp only [hg] at h ⊢
     cases h1 : qt P F T o with
     | some p => simp only [h1] at h ⊢; exact ⟨h.1, ih1 _ _ h.2⟩
     | none => simp only [h1] at h ⊢; exact Zgk h fun p S' hq => ⟨hq.1, ih1 _ _ hq.2⟩
theorem vE {id : Nat} {ops : Array Oper} (ids : Option (List Nat)) (row : Row) (hm : P.follows .mixedOrders = true) (hN : xC N ops = true) (hR : ZH ops = true) (hrow : jN ops [] [] row = true)
  (h : ∀ (K : (Nat → PV) → Store → List Ob → Prop) (Gp Gc : Row → (Nat → PV) → Store → List Ob → Option Nat → FuncId → List PV → Prop) (Gh : Row → (Nat → PV) → Store → List Ob → Oper → Prop),
   (∀ F' S' obs', Q .normal F' (ext S' nx obs') → K F' S' obs') →
   (∀ is F' S' obs' d f args p, Pure P f args p → PX P r n ops ids (ext S nx obs) is (zQ F' d p) (ext S' nx obs') (KX nx K) → Gp is F' S' obs' d f args) →
   (∀ is F' S' obs' d f args, SpecV P r.V f args (ext S' nx obs') (fun p T => yF ids (ext S nx obs) T ∧ PX P r n ops ids (ext S nx obs) is (zQ F' d p) T (KX nx K)) → Gc is F' S' obs' d f args) →
   (∀ is F' S' obs' o, qt P F' (ext S' nx obs') o = none → PO P r n o F' (ext S' nx obs') (fun p T => yF ids (ext S nx obs) T ∧ PX P r n ops ids (ext S nx obs) is (zQ F' o.dst p) T (KX nx K)) → Gh is F' S' obs' o) →
   ∀ X : Row → (Nat → PV) → Store → List Ob → Prop, (∀ F S obs, X .done F S obs = K F S obs) → (∀ F S obs, X .stop F S obs = True) → (∀ i is F' S' obs', X (.pure i is) F' S' obs' = YA P ops ids (ext S nx obs) Gp (X is) i is F' S' obs') →
   (∀ i is more F' S' obs', X (.alt i is more) F' S' obs' = (YB P nx ops ids (ext S nx obs) Gc Gh (X is) i is F' S' obs' ∧ X more F' S' obs')) → X row F S obs) : PW P r n N (.region id ops true) Q F (ext S nx obs) := by
 refine JK ids row hm hN hR hrow ?_
 have := j3 (P := P) (r := r) (n := n) (nx := nx) (ops := ops) (ids := ids) (S0 := ext S nx obs) (K := fun F' S' obs' => Q .normal F' (ext S' nx obs')) (row := row) (F := F) (S := S) (obs := obs) (fun Gp Gc Gh a b c X d e f g => h _ Gp Gc Gh (fun _ _ _ h => h) a b c X d e f g)
 exact Za8 row F _ this
def fr : List (Nat × PV) → Nat → PV
 | [], _ => .junk
 | (a, p) :: l, i => if i = a then p else fr l i
theorem Za9 {l : List (Nat × PV)} (h : ∀ x ∈ l, F x.1 = x.2) (i : Nat) : fr l i = F i ∨ fr l i = .junk := by
 induction l with
 | nil => exact .inr rfl
 | cons x l ih =>
  obtain ⟨a, p⟩ := x
  unfold fr
  split
  ·rename_i e; subst e; exact .inl (h (i, p) (by simp)).symm
  ·exact ih fun x hx => h x (by simp [hx])
theorem Zba {c : Code} {T T' : Store} (hk : ∀ o, T' o = T o ∨ T' o = .dead) (h : PW P r n N c Q F T') : PW P r n N c Q F T :=
 uL (fun C w a st => by
  obtain ⟨k1, k2⟩ := st.sim.kill hk
  exact ⟨C, ⟨k1, st.size, fun i => (st.fr i).mono k2, r.keep k2 st.v⟩, k2⟩) h
theorem Zbb {c : Code} (L : List (Nat × PV)) {more : List Ob} (hL : ∀ x ∈ L, F x.1 = x.2) (h : PW P r n N c Q (fr L) (ext S nx obs)) : PW P r n N c Q F (ext S nx (obs ++ more)) :=
 Zf8 (F' := fr L) (Za9 hL) (Zba (Za4 more) h)
def At {σ : Type} (nx : Nat) (I : σ → Prop) (L : σ → List (Nat × PV)) (B : σ → Store) (T : σ → List Ob) (F : Nat → PV) (S : Store) : Prop :=
 ∃ s more, I s ∧ (∀ x ∈ L s, F x.1 = x.2) ∧ S = ext (B s) nx (T s ++ more)
theorem zP {σ : Type} {I : σ → Prop} {L : σ → List (Nat × PV)} {B : σ → Store} {T : σ → List Ob} (s : σ) (more : List Ob) (hI : I s) (hL : ∀ x ∈ L s, F x.1 = x.2) (hB : B s = S) (hT : T s ++ more = obs) : At nx I L B T F (ext S nx obs) :=
 ⟨s, more, hI, hL, by rw [hB, hT]⟩
def Wr {σ : Type} (nx : Nat) (I : σ → Prop) (L : σ → List (Nat × PV)) (B : σ → Store) (T : σ → List Ob) (μ : σ → Nat) (m : Nat) (F : Nat → PV) (S : Store) : Prop :=
 ∃ s more, I s ∧ μ s < m ∧ (∀ x ∈ L s, F x.1 = x.2) ∧ S = ext (B s) nx (T s ++ more)
theorem zp {σ : Type} {I : σ → Prop} {L : σ → List (Nat × PV)} {B : σ → Store} {T : σ → List Ob} {μ : σ → Nat} {m : Nat} (s : σ) (more : List Ob) (hI : I s) (hm : μ s < m) (hL : ∀ x ∈ L s, F x.1 = x.2) (hB : B s = S) (hT : T s ++ more = obs) :
  Wr nx I L B T μ m F (ext S nx obs) := ⟨s, more, hI, hm, hL, by rw [hB, hT]⟩
theorem jo {σ : Type} (I : σ → Prop) (L : σ → List (Nat × PV)) (B : σ → Store) (T : σ → List Ob) (μ : σ → Nat) {c : Code} {S0 : Store} (h0 : At nx I L B T F S0)
  (round : ∀ s, I s → PW P r n N c (uJ (Wr nx I L B T μ (μ s)) Q) (fr (L s)) (ext (B s) nx (T s))) : PW P r n N (.loop c) Q F S0 := by
 obtain ⟨s0, more0, hI0, hL0, rfl⟩ := h0
 refine X9 (fun F' S' m => ∃ s more, I s ∧ m = μ s ∧ (∀ x ∈ L s, F' x.1 = x.2) ∧ S' = ext (B s) nx (T s ++ more)) (μ s0) ⟨s0, more0, hI0, rfl, hL0, rfl⟩ ?_
 rintro m F1 S1 ⟨s, more, hI, rfl, hL, rfl⟩
 refine Zbb (L s) hL (Qo (round s hI) ?_)
 intro e F' S' hq
 cases e with
 | normal =>
  obtain ⟨s', more', h1, h2, h3, h4⟩ := hq
  exact ⟨μ s', ⟨s', more', h1, rfl, h3, h4⟩, h2⟩
 | _ => exact hq
theorem zG {σ : Type} (I : σ → Prop) (L : σ → List (Nat × PV)) (T : σ → List Ob) (μ : σ → Nat) (s0 : σ) {c : Code} (more : List Ob) (hI : I s0) (hL : ∀ x ∈ L s0, F x.1 = x.2) (hT : T s0 ++ more = obs)
  (round : ∀ s, I s → PW P r n N c (uJ (Wr nx I L (fun _ => S) T μ (μ s)) Q) (fr (L s)) (ext S nx (T s))) : PW P r n N (.loop c) Q F (ext S nx obs) :=
 jo I L (fun _ => S) T μ (zP s0 more hI hL rfl hT) round
theorem Zbc {f : FuncId} {fn : Func} {c : Code} {rs : List ResultVar} {args : List PV} {Q : PV → Store → Prop} (hf : P.funcs[f]? = some fn) (hname : (fn.name == "runtime.NumGoroutine") = false) (hb : fn.body = some c) (hN : fn.ntmps = N) (hrs : fn.results.toList = rs) (hargs : args.length ≤ N)
  (h : ∀ nx, zW nx S → PW P w9 0 N c (vB P rs Q) (wN args) (ext S nx [])) : Spec P f args S Q := by
 refine ⟨qE hf hname hb, ?_⟩
 intro C w vs hS
 have hd : zW C.next S := fun i hi => by
  cases hs : S i with
  | dead => rfl
  | cells v e cs => have := hS.lt i (by rw [hs]; simp); omega
  | map v es => have := hS.lt i (by rw [hs]; simp); omega
 have := h C.next hd
 rw [qk hd] at this
 exact xU hf hb hN hrs hargs this C w vs hS
theorem Zgq {f : FuncId} {fn : Func} {c : Code} {rs : List ResultVar} {args : List PV} {Q : PV → Store → Prop} (hd : zW nx S) (hf : P.funcs[f]? = some fn) (hname : (fn.name == "runtime.NumGoroutine") = false) (hb : fn.body = some c) (hN : fn.ntmps = N) (hrs : fn.results.toList = rs) (hargs : args.length ≤ N)
  (h : PW P w9 0 N c (vB P rs Q) (wN args) (ext S nx [])) : Spec P f args S Q := by
 refine ⟨qE hf hname hb, ?_⟩
 rw [qk hd] at h
 exact xU hf hb hN hrs hargs h
theorem Zgr {f : FuncId} {fn : Func} {c : Code} {rs : List ResultVar} {args : List PV} {v : PV} (hf : P.funcs[f]? = some fn) (hname : (fn.name == "runtime.NumGoroutine") = false) (hb : fn.body = some c) (hN : fn.ntmps = N) (hrs : fn.results.toList = rs) (hargs : args.length ≤ N)
  (h : ∀ S nx, zW nx S → PW P w9 0 N c (vB P rs (fun p S' => p = v ∧ S' = S)) (wN args) (ext S nx [])) : Pure P f args v :=
 fun S => Zbc hf hname hb hN hrs hargs (h S)
theorem zk {rs : List ResultVar} {v : PV} {ps : List PV} (hd : zW nx S) (h1 : xg P F (ext S nx obs) rs = some ps) (h2 : zq ps = v) :
  ∃ ps S', xg P F (ext S nx obs) rs = some ps ∧ (zq ps = v ∧ S' = S) ∧ ∀ o, S' o = ext S nx obs o ∨ S' o = .dead :=
 ⟨ps, S, h1, ⟨h2, rfl⟩, yb hd⟩
theorem YC (hd : zW nx S) {j : Nat} {x : Ob} (hj : obs[j]? = some x) (o : Nat) : S.set (nx + j) x o = ext S nx obs o ∨ S.set (nx + j) x o = .dead := by
 by_cases ho : o = nx + j
 ·subst ho; rw [Store.set_same, yQ, List.getD_eq_getElem?_getD, hj]; exact .inl rfl
 ·rw [Store.set_other _ _ _ _ ho]; exact yb hd o
theorem qZ {c : Code} (d e sz : Nat) (hF : F d = .sc (.slice none 0 0)) (h : ∀ v, PW P r n N c Q (xe F d (.sl (nx + obs.length) v sz 0 0)) (ext S nx (obs ++ [.cells v e []]))) : PW P r n N c Q F (ext S nx obs) :=
 Zge d e sz hF (uc (X := fun id v => PW P r n N c Q (xe F d (.sl id v sz 0 0)) ((ext S nx obs).set id (.cells v e []))) _ uf fun v => by rw [jk]; exact h v)
theorem qQ {c : Code} {ver e0 : Nat} {cs : List PV} (j i e sz : Nat) (hj : obs[j]? = some (.cells ver e0 cs)) (hi : cs[i]? = some (.sc (.slice none 0 0)))
  (h : ∀ v, PW P r n N c Q F (ext S nx (obs.set j (.cells ver e0 (cs.set i (.sl (nx + obs.length) v sz 0 0))) ++ [.cells v e []]))) : PW P r n N c Q F (ext S nx obs) := by
 have hjl : j < obs.length := (List.getElem?_eq_some_iff.1 hj).1
 refine Wn (o := nx + j) i e sz (by rw [yQ, List.getD_eq_getElem?_getD, hj]; rfl) hi (uc (X := fun id v => PW P r n N c Q F (((ext S nx obs).set id (.cells v e [])).set (nx + j) (.cells ver e0 (cs.set i (.sl id v sz 0 0))))) _ uf fun v => ?_)
 rw [jk, y9 _ (by omega) (by simp; omega), Nat.add_sub_cancel_left, List.set_append_left _ _ hjl]
 exact h v
theorem ve {c : Code} {T : Store} (d : Nat) (hF : F d = .sc (.slice none 0 0)) (h : PW P r n N c Q (xe F d (.lst 0 [])) T) : PW P r n N c Q F T :=
 uL (fun C w a st => ⟨C, ⟨st.sim, st.size, fun i => by
  by_cases hi : i = d
  ·subst hi
   rw [Zax]
   have := st.fr i
   rw [hF] at this
   generalize a.tmps.getD i undef = v at this
   cases this
   exact .lst0
  ·rw [Zay _ _ _ _ hi]; exact st.fr i, st.v⟩, .refl _ _ _⟩) h
def yZ (id ver : Nat) (cs : List PV) (p : PV) : PV :=
 match p with
 | .sl o v sz 0 k => if o = id ∧ v = ver ∧ k * sz = cs.length then .lst k cs else .sl o v sz 0 k
 | p => p
def jP (id ver : Nat) (cs : List PV) (x : Ob) : Ob :=
 match x with
 | .cells v e ds => .cells v e (ds.map (yZ id ver cs))
 | x => x
theorem Zbd (id ver : Nat) (cs : List PV) (x : Ob) : (jP id ver cs x).ver = x.ver := by cases x <;> rfl
theorem JT {C : Ctx} {S T : Store} {w : World} {id ver e : Nat} {cs : List PV} (hS : Sim C S w) (hid : S id = .cells ver e cs) (hT : T id = .dead) (hTS : ∀ o, T o ≠ .dead → S o ≠ .dead) (st : Step C S w C T w) {p : PV} {u : Value}
  (h : Rel C S w p u) : Rel C T w (yZ id ver cs p) u := by
 unfold yZ
 split
 ·rename_i o v sz k
  split
  ·rename_i hc
   obtain ⟨rfl, rfl, hk⟩ := hc
   cases h with
   | sl h1 h2 h3 =>
    obtain ⟨ad, cap, rfl, q1, q2, q3, q4⟩ := h1
    have hnM : ∀ b k', C.loc o = some (b, k') → ¬ C.M T b := by
     rintro b k' hl ⟨i, k2, hi, hl2⟩
     by_cases hoi : i = o
     ·subst hoi; exact hi hT
     ·exact hoi (hS.dist i o b k2 k' (hTS i hi) (by rw [hid]; simp) hl2 hl)
    rcases (h3 v (by rw [hid]; rfl)).2 rfl with ⟨z1, z2, _, z4⟩ | ⟨b, k', ad', cap', z1, z2, z3, z4⟩
    ·subst z2
     have : cs = [] := List.eq_nil_of_length_eq_zero (by omega)
     subst this
     cases z4
     exact .lst0
    ·cases z2
     rcases hS.cells o v e cs hid with ⟨hn, _⟩ | ⟨b2, kk, c, g1, g2, g3, g4, g5, g6⟩
     ·rw [hn] at z1; cases z1
     ·rw [g1] at z1; cases z1
      obtain ⟨rfl, _⟩ := z3 rfl
      exact .lst1 q1 q2 g2 (hnM _ _ g1) (fun _ => by omega) (fun j v hj hv => g5 j v hj (by simpa using hv)) (fun j p v hp hv => (g6 j p v hp (by simpa using hv)).mono st)
  ·exact h.mono st
 ·exact h.mono st
theorem yc {c : Code} (j : Nat) {ver e : Nat} {cs : List PV} (hj : obs[j]? = some (.cells ver e cs)) (h : PW P r n N c Q (fun i => yZ (nx + j) ver cs (F i)) (ext S nx ((obs.map (jP (nx + j) ver cs)).set j .dead))) : PW P r n N c Q F (ext S nx obs) := by
 have hjl : j < obs.length := (List.getElem?_eq_some_iff.1 hj).1
 refine uL (F' := fun i => yZ (nx + j) ver cs (F i)) (S' := ext S nx ((obs.map (jP (nx + j) ver cs)).set j .dead)) (fun C w a st => ?_) h
 have hid : ext S nx obs (nx + j) = .cells ver e cs := by rw [yQ, List.getD_eq_getElem?_getD, hj]; rfl
 have hT : ext S nx ((obs.map (jP (nx + j) ver cs)).set j .dead) (nx + j) = .dead := by rw [yQ, List.getD_eq_getElem?_getD, List.getElem?_set_self (by simpa using hjl)]; rfl
 -- what stands under each number
 have hat : ∀ o, ext S nx ((obs.map (jP (nx + j) ver cs)).set j .dead) o = .dead ∨ (o < nx ∧ ext S nx ((obs.map (jP (nx + j) ver cs)).set j .dead) o = ext S nx obs o) ∨ (nx ≤ o ∧ ext S nx ((obs.map (jP (nx + j) ver cs)).set j .dead) o = jP (nx + j) ver cs (ext S nx obs o)) := by
  intro o
  by_cases ho : o < nx
  ·exact .inr (.inl ⟨ho, by rw [zH ho, zH ho]⟩)
  ·by_cases hoj : o = nx + j
   ·subst hoj; exact .inl hT
   ·refine .inr (.inr ⟨by omega, ?_⟩)
    simp only [ext]
    rw [if_neg ho, if_neg ho, List.getD_eq_getElem?_getD, List.getD_eq_getElem?_getD, List.getElem?_set_ne (by omega), List.getElem?_map]
    cases obs[o - nx]? <;> rfl
 generalize hTT : ext S nx ((obs.map (jP (nx + j) ver cs)).set j .dead) = T at *
 generalize hSS : ext S nx obs = S1 at *
 have hver : ∀ o v, (T o).ver = some v → (S1 o).ver = some v := by
  intro o v hv
  rcases hat o with q | ⟨_, q⟩ | ⟨_, q⟩
  ·rw [q] at hv; cases hv
  ·rw [q] at hv; exact hv
  ·rw [q, Zbd] at hv; exact hv
 have hne : ∀ o, T o ≠ .dead → S1 o ≠ .dead := by
  intro o ho hd
  rcases hat o with q | ⟨_, q⟩ | ⟨_, q⟩
  ·exact ho q
  ·exact ho (q.trans hd)
  ·rw [hd] at q; exact ho q
 have hM : ∀ b, C.M T b → C.M S1 b := fun b ⟨o, k, ho, hl⟩ => ⟨o, k, hne o ho, hl⟩
 have hstep : Step C S1 w C T w := ⟨rfl, ⟨rfl, Nat.le_refl _⟩, rfl, Nat.le_refl _, Nat.le_refl _, Nat.le_refl _, fun b _ hb => ⟨rfl, fun h => hb (hM b h)⟩, fun o v1 hv => .inr ⟨v1, hver o v1 hv, Nat.le_refl _, fun _ => rfl⟩⟩
 have hrel : ∀ {p u}, Rel C S1 w p u → Rel C T w (yZ (nx + j) ver cs p) u := fun h => JT st.sim hid hT hne hstep h
 refine ⟨C, ⟨⟨fun o ho => st.sim.lt o (hne o ho), fun o v hv => st.sim.clk o v (hver o v hv), fun o o' b k k' ho ho' => st.sim.dist o o' b k k' (hne o ho) (hne o' ho'), ?_, ?_⟩, st.size, fun i => hrel (st.fr i), r.keep hstep st.v⟩, hstep⟩
 ·intro o v e' ds ho
  rcases hat o with q | ⟨_, q⟩ | ⟨_, q⟩
  ·rw [q] at ho; cases ho
  ·rw [q] at ho
   rcases st.sim.cells o v e' ds ho with hn | ⟨b, k, c, h1, h2, h3, h4, h5, h6⟩
   ·exact .inl hn
   ·exact .inr ⟨b, k, c, h1, h2, h3, h4, h5, fun i p u hp hu => (h6 i p u hp hu).mono hstep⟩
  ·rw [q] at ho
   cases hs : S1 o with
   | dead => rw [hs] at ho; cases ho
   | map v es => rw [hs] at ho; cases ho
   | cells v2 e2 ds2 =>
    rw [hs] at ho
    cases ho
    rcases st.sim.cells o _ _ ds2 hs with ⟨h1, h2⟩ | ⟨b, k, c, h1, h2, h3, h4, h5, h6⟩
    ·exact .inl ⟨h1, by rw [h2]; rfl⟩
    ·refine .inr ⟨b, k, c, h1, h2, h3, by simpa using h4, fun i v hi hv => h5 i v (by simpa using hi) hv, fun i p u hp hu => ?_⟩
     rw [List.getElem?_map] at hp
     obtain ⟨p0, hp0, rfl⟩ := Option.map_eq_some_iff.1 hp
     exact hrel (h6 i p0 u hp0 hu)
 ·intro o v es ho
  have hs : S1 o = .map v es := by
   rcases hat o with q | ⟨_, q⟩ | ⟨_, q⟩
   ·rw [q] at ho; cases ho
   ·rw [q] at ho; exact ho
   ·rw [q] at ho
    cases hs : S1 o with
    | dead => rw [hs] at ho; cases ho
    | map v es => rw [hs] at ho; exact ho
    | cells v2 e2 ds2 => rw [hs] at ho; cases ho
  obtain ⟨b, k, ms, cl, h1, h2, h3, h4⟩ := st.sim.maps o v es hs
  exact ⟨b, k, ms, cl, h1, h2, h3, fun i x m hx hm => ⟨(h4 i x m hx hm).1, (h4 i x m hx hm).2.mono hstep⟩⟩
end
open Go
attribute [simp] JB vz Qz JS Yy YA YB Zc Zd ug Qy fr yZ jP
abbrev I (x : Int) : PV := .sc (.int .i64 x)
abbrev B (b : Bool) : PV := .sc (.bool b)
def PV.nosl : PV → Bool
 | .sl _ _ _ _ _ => false
 | _ => true
class Enc (α : Type) where
 enc : α → List PV
 sz : Nat
 len : ∀ x, (enc x).length = sz
 nosl : ∀ x, (enc x).all PV.nosl = true
theorem Zgs (id v : Nat) (cs : List PV) (p : PV) (h : p.nosl = true) : yZ id v cs p = p := by
 cases p <;> first | rfl | cases h
@[simp] theorem Zpa {α : Type} [Enc α] (id v : Nat) (cs : List PV) (l : List α) : (l.flatMap Enc.enc).map (yZ id v cs) = l.flatMap Enc.enc := by
 rw [List.map_congr_left (g := fun p => p), List.map_id']
 intro p hp
 obtain ⟨x, _, hx⟩ := List.mem_flatMap.1 hp
 exact Zgs _ _ _ _ (List.all_eq_true.1 (Enc.nosl x) p hx)
abbrev L {α : Type} [Enc α] (l : List α) : PV := .lst l.length (l.flatMap Enc.enc)
theorem jQ {α : Type} [Enc α] (l : List α) : (l.flatMap Enc.enc).length = l.length * Enc.sz α := Yu Enc.enc _ Enc.len l
theorem uO {α : Type} [Enc α] (l : List α) : (l.flatMap Enc.enc).take (l.length * Enc.sz α) = l.flatMap Enc.enc := by
 rw [Zb Enc.enc _ Enc.len, List.take_length]
theorem Ws {α : Type} [Enc α] {l : List α} {k : Nat} (h : k < l.length) : (l.flatMap Enc.enc).drop (k * Enc.sz α) = Enc.enc l[k] ++ (l.drop (k + 1)).flatMap Enc.enc := Za0 Enc.enc _ Enc.len l k h
instance : Enc Int := ⟨fun x => [I x], 1, fun _ => rfl, fun _ => rfl⟩
@[simp] theorem Zgt (x : Int) : Enc.enc x = [I x] := rfl
@[simp high] theorem q8 (l : List Int) : (l.flatMap Enc.enc).length = l.length := (jQ l).trans (Nat.mul_one _)
@[simp high] theorem Zgu (l : List Int) : (l.flatMap Enc.enc).take l.length = l.flatMap Enc.enc := List.take_of_length_le (Nat.le_of_eq (q8 l))
theorem el {α : Type} [Enc α] (n : Nat) (hn : Enc.sz α = n) (l : List α) (k : Nat) (h : k < l.length) :
  ∃ s tl, l[k]? = some s ∧ l.drop k = s :: l.drop (k + 1) ∧ l.take (k + 1) = l.take k ++ [s] ∧ (∀ j, j ≤ n → (l.flatMap Enc.enc).drop (k * n + j) = (Enc.enc s).drop j ++ tl) ∧ (l.flatMap Enc.enc).drop (k * n) = Enc.enc s ++ tl := by
 subst hn
 have h0 := Ws h
 refine ⟨l[k], (l.drop (k + 1)).flatMap Enc.enc, List.getElem?_eq_getElem h, List.drop_eq_getElem_cons h, by rw [List.take_succ_eq_append_getElem h], fun j hj => ?_, h0⟩
 rw [← List.drop_drop, h0, List.drop_append_of_le_length (by rw [Enc.len]; exact hj)]
theorem zE {α : Type} [Enc α] (hn : Enc.sz α = 1) (l : List α) (k : Nat) (h : k < l.length) :
  ∃ s tl, l[k]? = some s ∧ l.drop k = s :: l.drop (k + 1) ∧ l.take (k + 1) = l.take k ++ [s] ∧ (l.flatMap Enc.enc).drop k = Enc.enc s ++ tl := by
 obtain ⟨s, tl, a1, a2, a3, _, e0⟩ := el 1 hn l k h
 exact ⟨s, tl, a1, a2, a3, by rw [← e0, Nat.mul_one]⟩
theorem zo {P : Program} {r : Rd} {n N : Nat} {Q : Exit → (Nat → PV) → Store → Prop} {F : Nat → PV} {S : Store} {c : Operand} {x y : Code} (hc : ev F c = .sc (.bool true)) (h : PW P r n N x Q F S) : PW P r n N (.cond c x y) Q F S :=
 zr hc (fun _ => h) (fun e => nomatch e)
theorem zn {P : Program} {r : Rd} {n N : Nat} {Q : Exit → (Nat → PV) → Store → Prop} {F : Nat → PV} {S : Store} {c : Operand} {x y : Code} (hc : ev F c = .sc (.bool false)) (h : PW P r n N y Q F S) : PW P r n N (.cond c x y) Q F S :=
 zr hc (fun e => nomatch e) (fun _ => h)
theorem wr (x : Int) (h1 : -9223372036854775808 ≤ x) (h2 : x ≤ 9223372036854775807) : IntKind.i64.wrap x = x := ud x h1 h2
theorem zt (k : Nat) (h : k < 9223372036854775807) : IntKind.i64.wrap ((k : Int) + 1) = ((k + 1 : Nat) : Int) := by rw [ud _ (by omega) (by omega)]; omega
abbrev W (x : Int) : Int := IntKind.i64.wrap x
@[simp] theorem Zpb : W 0 = 0 := rfl
theorem xE (a b : Int) : W (W a + b) = W (a + b) := by simp only [W, IntKind.wrap_i64]; omega
theorem QA (a b : Int) : W (a + W b) = W (a + b) := by simp only [W, IntKind.wrap_i64]; omega
theorem W_W (a : Int) : W (W a) = W a := by simp only [W, IntKind.wrap_i64]; omega
theorem JU {P : Program} {f : FuncId} {args : List PV} {sz k e : Nat} {cs : List PV} (j : Nat)
  (h : ∀ S nx, zW nx S → Spec P f args S (fun p S' => ∃ v, p = .sl (nx + j) v sz 0 k ∧ S' = S.set (nx + j) (.cells v e cs))) (hk : k * sz = cs.length) : Pure P f args (.lst k cs) := by
 intro S
 refine ⟨(h (fun _ => .dead) 0 (fun _ _ => rfl)).1, ?_⟩
 intro C w vs hS hl hr
 have hd : zW C.next S := fun i hi => by
  cases hs : S i with
  | dead => rfl
  | cells v e cs => have := hS.lt i (by rw [hs]; simp); omega
  | map v es => have := hS.lt i (by rw [hs]; simp); omega
 refine ((h S C.next hd).2 C w vs hS hl hr).mono ?_
 rintro e' w' ⟨p, u, S', C', rfl, ⟨v, rfl, rfl⟩, hrel, hsim, hstep⟩
 have hdj := hd (C.next + j) (by omega)
 have hkk : ∀ o, S o = S.set (C.next + j) (.cells v e cs) o ∨ S o = .dead := by
  intro o
  by_cases ho : o = C.next + j
  ·subst ho; exact .inr hdj
  ·exact .inl (Store.set_other _ _ _ _ ho).symm
 obtain ⟨k1, k2⟩ := hsim.kill hkk
 refine ⟨.lst k cs, u, S, C', rfl, ⟨rfl, rfl⟩, ?_, k1, hstep.trans k2⟩
 have := JT hsim (Store.set_same _ _ _) hdj (fun o ho => by
  rcases hkk o with q | q
  ·rw [← q]; exact ho
  ·exact absurd q ho) k2 hrel
 simpa [yZ, hk] using this
theorem YD {S : Store} {nx : Nat} {obs : List Ob} (x : Ob) : (ext S nx obs).set (nx + obs.length + 1) x = ext S nx (obs ++ [.dead, x]) := by
 have e : ext S nx obs = ext S nx (obs ++ [.dead]) := by
  funext i
  simp only [ext]
  split
  ·rfl
  ·rw [List.getD_eq_getElem?_getD, List.getD_eq_getElem?_getD]
   by_cases h3 : i - nx < obs.length
   ·rw [List.getElem?_append_left h3]
   ·rw [List.getElem?_eq_none (by omega)]
    by_cases h4 : i - nx = obs.length
    ·rw [List.getElem?_append_right (by omega), h4]; simp
    ·rw [List.getElem?_eq_none (by simp; omega)]
 rw [e]
 have := jk (S := S) (nx := nx) (obs := obs ++ [.dead]) x
 simpa [Nat.add_assoc] using this
theorem uP {P : Program} {r : Rd} {n nx N : Nat} {Q : Exit → (Nat → PV) → Store → Prop} {F : Nat → PV} {S : Store} {obs : List Ob} {c : Code} {ver e0 : Nat} {cs : List PV} (j i : Nat) (hj : obs[j]? = some (.cells ver e0 cs)) (hi : cs[i]? = some (.sc (.slice none 0 0)))
  (h : PW P r n N c Q F (ext S nx (obs.set j (.cells ver e0 (cs.set i (.lst 0 [])))))) : PW P r n N c Q F (ext S nx obs) := by
 have hjl : j < obs.length := (List.getElem?_eq_some_iff.1 hj).1
 refine uL (F' := F) (S' := ext S nx (obs.set j (.cells ver e0 (cs.set i (.lst 0 []))))) (fun C w a st => ?_) h
 have hs : ext S nx obs (nx + j) = .cells ver e0 cs := by rw [yQ, List.getD_eq_getElem?_getD, hj]; rfl
 have := st.sim.relabel (cs' := cs.set i (.lst 0 [])) hs (by simp) (by
  intro k p' hp'
  rw [List.getElem?_set] at hp'
  split at hp'
  ·rename_i hij
   subst hij
   split at hp'
   ·cases hp'
    refine .inr ⟨_, hi, fun v hv => ?_⟩
    cases hv
    exact .lst0
   ·cases hp'
  ·exact .inl hp')
 rw [y9 _ (by omega) (by omega), Nat.add_sub_cancel_left] at this
 exact ⟨C, ⟨this.1, st.size, fun k => (st.fr k).mono this.2, r.keep this.2 st.v⟩, this.2⟩
theorem qh {P : Program} {r : Rd} {n nx N : Nat} {Q Q2 : Exit → (Nat → PV) → Store → Prop} {F : Nat → PV} {σ : Type} (I : σ → Prop) (L : σ → List (Nat × PV)) (B : σ → Store) (T : σ → List Ob) {x y : Code} {S0 : Store}
  (h1 : PW P r n N x (uJ (At nx I L B T) Q) F S0) (h2 : ∀ s, I s → PW P r n N y Q2 (fr (L s)) (ext (B s) nx (T s))) : PW P r n N x (uJ (PW P r n N y Q2) Q) F S0 := by
 refine Qo h1 ?_
 intro e F' S' hq
 cases e with
 | normal =>
  obtain ⟨s, more, hI, hL, rfl⟩ := hq
  exact Zbb (L s) hL (h2 s hI)
 | _ => exact hq
def Wk (p q : PV) : Prop := ∀ (C : Ctx) (S : Store) (w : World) (v : Value), Rel C S w p v → Rel C S w q v
theorem Wk.rfl {p : PV} : Wk p p := fun _ _ _ _ h => h
theorem Wk.nil : Wk (.sc (.slice none 0 0)) (.lst 0 []) := fun _ _ _ _ h => by cases h; exact .lst0
inductive WkL : List PV → List PV → Prop where
 | nil : WkL [] []
 | cons {p q : PV} {l m : List PV} (h : Wk p q) (t : WkL l m) : WkL (p :: l) (q :: m)
theorem WkL.rfl : ∀ {l : List PV}, WkL l l
 | [] => .nil
 | _ :: _ => .cons Wk.rfl WkL.rfl
theorem WkL.len {l m : List PV} (h : WkL l m) : l.length = m.length := by induction h <;> simp_all
theorem WkL.at {l m : List PV} (h : WkL l m) : ∀ (i : Nat) (q : PV), m[i]? = some q → ∃ p, l[i]? = some p ∧ Wk p q := by
 induction h with
 | nil => intro i q hq; cases hq
 | cons h t ih =>
  intro i q hq
  cases i with
  | zero => simp at hq; subst hq; exact ⟨_, by simp, h⟩
  | succ i => simpa using ih i q (by simpa using hq)
theorem Wk.agg {cs ds : List PV} (h : WkL cs ds) : Wk (.agg cs) (.agg ds) := by
 intro C S w v hr
 cases hr with
 | agg hl h1 h2 =>
  refine .agg (h.len ▸ hl) h1 fun i q v hq hv => ?_
  obtain ⟨p, hp, hw⟩ := h.at i q hq
  exact hw _ _ _ _ (h2 i p v hp hv)
theorem Wk.lst {n : Nat} {cs ds : List PV} (h : WkL cs ds) : Wk (.lst n cs) (.lst n ds) := by
 intro C S w v hr
 cases hr with
 | lst0 => cases h; exact .lst0
 | lst1 hn hm hb hM hs h1 h2 =>
  refine .lst1 hn hm hb hM (fun hne => ?_) (fun i v hi hv => h1 i v (by rw [h.len]; exact hi) hv) fun i q v hq hv => ?_
  ·rw [← h.len]; exact hs (by intro e; subst e; cases h; exact hne _root_.rfl)
  ·obtain ⟨p, hp, hw⟩ := h.at i q hq
   exact hw _ _ _ _ (h2 i p v hp hv)
open Go
theorem Zbe {w : World} {D : Nat} {x y : Obj} (hD : w.heap[D]? = some x) (b : Nat) (o : Obj) (hb : w.heap[b]? = some o) (ho : o ≠ x) : (w.putObj D y).heap[b]? = some o := by
 rw [World.putObj_heap_other (by rintro rfl; rw [hD] at hb; cases hb; exact ho rfl)]; exact hb
def Obj.odd (x : Obj) : Prop := (∀ c e f, x ≠ .cells c e f) ∧ (∀ m k, x ≠ .map m k)
theorem JV (r : Loop) : Obj.odd (.loop r) := ⟨fun _ _ _ e => (by cases e), fun _ _ e => (by cases e)⟩
theorem Wt {C : Ctx} {S : Store} {w : World} {D : Nat} {x y : Obj} (hD : w.heap[D]? = some x) (hx : Obj.odd x) {p : PV} {v : Value} (hr : Rel C S w p v) : Rel C S (w.putObj D y) p v := by
 have hne := Zbe (y := y) hD
 induction hr with
 | junk v => exact .junk v
 | sc v => exact .sc v
 | agg hl h1 _ ih => exact .agg hl h1 ih
 | tup hl _ ih => exact .tup hl ih
 | lst0 => exact .lst0
 | lst1 hn hm hb hM' hs h1 _ ih => exact .lst1 hn hm (hne _ _ hb (fun e => hx.1 _ _ _ e.symm)) hM' hs h1 ih
 | ip hb hM' hs h1 _ ih => exact .ip (hne _ _ hb (fun e => hx.1 _ _ _ e.symm)) hM' hs h1 ih
 | nl0 => exact .nl0
 | nl hn hb hM' hl h1 _ ih => exact .nl hn (hne _ _ hb (fun e => hx.1 _ _ _ e.symm)) hM' hl h1 ih
 | ptr h1 ho h => exact .ptr h1 ho h
 | sl h1 ho h => exact .sl h1 ho h
 | fn hf hc _ _ ih ih' => exact .fn hf hc ih ih'
 | ifc _ ih => exact .ifc ih
 | mp h1 ho h => exact .mp h1 ho h
theorem Sim.put {C : Ctx} {S : Store} {w : World} (h : Sim C S w) {D : Nat} {x y : Obj} (hD : w.heap[D]? = some x) (hx : Obj.odd x) : Sim C S (w.putObj D y) := by
 have hne := Zbe (y := y) hD
 refine ⟨h.lt, h.clk, h.dist, ?_, ?_⟩
 ·intro o ver e cs hs
  rcases h.cells o ver e cs hs with hn | ⟨b, k, c, h1, h2, h3, h4, h5, h6⟩
  ·exact .inl hn
  ·exact .inr ⟨b, k, c, h1, hne _ _ h2 (fun e => hx.1 _ _ _ e.symm), h3, h4, h5, fun i p v hp hv => Wt hD hx (h6 i p v hp hv)⟩
 ·intro o ver es hs
  obtain ⟨b, k, ms, cl, h1, h2, h3, h4⟩ := h.maps o ver es hs
  exact ⟨b, k, ms, cl, h1, hne _ _ h2 (fun e => hx.2 _ _ e.symm), h3, fun i e m he hm => ⟨(h4 i e m he hm).1, Wt hD hx (h4 i e m he hm).2⟩⟩
theorem Step.around {C1 C2 C3 : Ctx} {S1 S2 S3 : Store} {w1 w2 w3 : World} {l : Nat} {o0 o1 : Obj} (s1 : Step C1 S1 w1 C2 S2 w2) (s2 : Step C2 S2 (w2.putObj l o1) C3 S3 w3) (hl : w1.heap[l]? = some o0) (hM : ¬ C1.M S1 l) :
  Step C1 S1 w1 C3 S3 (w3.putObj l o0) := by
 have hlt := qj hl
 have z1 := s1.size
 have z2 := s2.size
 simp only [World.putObj_size] at z2
 refine ⟨s2.os.trans s1.os, ⟨s2.tape.1.trans s1.tape.1, Nat.le_trans s1.tape.2 s2.tape.2⟩, s2.output.trans s1.output, by simp; omega, Nat.le_trans s1.next s2.next, Nat.le_trans s1.clock s2.clock, fun b hb hbM => ?_, ?_⟩
 ·obtain ⟨k1, k2⟩ := s1.blocks b hb hbM
  obtain ⟨j1, j2⟩ := s2.blocks b (by simp; omega) k2
  refine ⟨?_, j2⟩
  by_cases e : b = l
  ·subst e; rw [World.putObj_heap_same (by omega), hl]
  ·rw [World.putObj_heap_other e, j1, World.putObj_heap_other e, k1]
 ·intro o v1 hv
  rcases s2.vers o v1 hv with q | ⟨v0, a, b, c⟩
  ·have h1 := s1.next
   have h2 := s1.clock
   exact .inl (q.imp (Nat.le_trans h1) (Nat.le_trans h2))
  ·rcases s1.vers o v0 a with q | ⟨u, a', b', c'⟩
   ·exact .inl (q.imp id (fun x => Nat.le_trans x b))
   ·exact .inr ⟨u, a', Nat.le_trans b' b, fun e => (c (by omega)).trans (c' (by omega))⟩
theorem Step.beyond {C C' : Ctx} {S S' : Store} {w w' : World} {l : Nat} (o : Obj) (h : Step C S w C' S' w') (hl : w.heap.size ≤ l) : Step C S w C' S' (w'.putObj l o) :=
 ⟨h.os, h.tape, h.output, by simpa using h.size, h.next, h.clock, fun b hb hM => by
  obtain ⟨k1, k2⟩ := h.blocks b hb hM
  exact ⟨by rw [World.putObj_heap_other (by omega)]; exact k1, k2⟩, h.vers⟩
def PYield (P : Program) (V : Ctx → Store → World → Prop) (l : Nat) (args : List PV) (S : Store) (Q : Store → Prop) : Prop :=
 ∀ (C : Ctx) (w : World) (vs : Array Value), Sim C S w → V C S w → args.length = vs.size → (∀ (i : Nat) (c : PV) (v : Value), args[i]? = some c → vs[i]? = some v → Rel C S w c v) →
  YieldAt (Fe w9) 0 P l vs w fun e w' => ∃ S' C', e = .returned (.bool true) ∧ Q S' ∧ Sim C' S' w' ∧ Step C S w C' S' w'
abbrev jl (l : Nat) : PV := .sc (.func (.yield l) #[] #[])
def Ze (P : Program) (k : FuncId) (caps : List PV) (xs : List (List PV)) : Prop :=
 qy P k ∧ ∀ (l : Nat) (V : Ctx → Store → World → Prop) (_ : ∀ {C C' : Ctx} {S S' : Store} {w w' : World}, Step C S w C' S' w' → V C S w → V C' S' w') (m : Nat) (J : Nat → Store → Prop), (∀ i A, J i A → zW m A) →
  (∀ i A obs x, xs[i]? = some x → J i A → PYield P V l x (ext A m obs) (fun T => ∃ A', J (i + 1) A' ∧ T = ext A' m obs)) →
  ∀ A, J 0 A → PCallsV P V k (jl l :: caps) A (fun _ T => J xs.length T)
section
variable {P : Program} {n nx N : Nat} {Q : Exit → (Nat → PV) → Store → Prop} {F : Nat → PV} {S : Store} {obs : List Ob}
theorem YE {V : Ctx → Store → World → Prop} {keep : ∀ {C C' : Ctx} {S S' : Store} {w w' : World}, Step C S w C' S' w' → V C S w → V C' S' w'} {o : Oper} {c : Call} {x : Operand} {l : Nat} {K : PV → Store → Prop} {R : Store → Prop}
  (ho : o.op = .call c) (hc : c.callee = .value x) (hx : ev F x = jl l) (h : PYield P V l (c.args.toList.map (ev F)) S R) (hK : ∀ S', R S' → K (.sc (.bool true)) S') : PO P ⟨none, V, keep⟩ 0 o F S K := by
 intro G hG C w a N st next Q' hnext
 have hxo : x ∈ o.op.operands := by simp [ho, Op.operands, Call.operands, hc]
 have hxG : ev G x = jl l := (hG x hxo).trans hx
 have hmap : c.args.toList.map (ev F) = c.args.toList.map (ev G) := List.map_congr_left fun y hy => (hG y (by simp only [ho, Op.operands, Call.operands, Array.mem_append]; exact .inr (Array.mem_toList_iff.1 hy))).symm
 rw [hmap] at h
 have hrel := st.ev x
 rw [hxG] at hrel
 generalize hv : a.eval x = v at hrel
 cases hrel
 have hlist := Ql (l := c.args.toList) st.ev
 simp only [Array.toArray_toList] at hlist
 obtain ⟨fn, tmps, assign, body, hy, hR⟩ := h C w (c.args.map a.eval) st.sim st.v hlist.1 hlist.2
 have hrun : (execOp a.eval o).run P w = .ok (.round l fn tmps assign body) w := by
  unfold execOp
  simp only [ho, resolve, hc, hv, Deferred.ofValue, Sem.run_bind, Sem.run_pure, Result.andThen_ok, invoke]
  have : (#[] : Array Value) ++ c.args.map a.eval = c.args.map a.eval := by simp
  rw [this]
  exact hy
 refine qu (x := .round l fn tmps assign body) (w' := w) (by intro c' hc'; rw [ho] at hc'; cases hc') hrun ?_
 rw [Oper.uponIn_round]
 refine ⟨fun hd => (by cases hd), hR.mono ?_⟩
 rintro e w' ⟨S', C', rfl, hq, hs, hst⟩
 exact hnext _ w' C' S' _ (hK _ hq) (.sc _) hs hst
theorem QB {f : FuncId} {fn : Func} {c : Code} {rs : List ResultVar} {caps : List PV} {xs : List (List PV)} (hf : P.funcs[f]? = some fn) (hname : (fn.name == "runtime.NumGoroutine") = false) (hb : fn.body = some c) (hN : fn.ntmps = N) (hrs : fn.results.toList = rs) (hargs : caps.length + 1 ≤ N)
  (h : ∀ (l : Nat) (V : Ctx → Store → World → Prop) (keep : ∀ {C C' : Ctx} {S S' : Store} {w w' : World}, Step C S w C' S' w' → V C S w → V C' S' w') (nx : Nat) (J : Nat → Store → Prop), (∀ i A, J i A → zW nx A) →
   (∀ i A obs x, xs[i]? = some x → J i A → PYield P V l x (ext A nx obs) (fun T => ∃ A', J (i + 1) A' ∧ T = ext A' nx obs)) →
   ∀ A, J 0 A → PW P ⟨none, V, keep⟩ 0 N c (vB P rs (fun _ T => J xs.length T)) (wN (jl l :: caps)) (ext A nx [])) : Ze P f caps xs := by
 refine ⟨qE hf hname hb, fun l V keep m J hJ hY A hA => ?_⟩
 have := h l V keep m J hJ hY A hA
 rw [qk (hJ 0 A hA)] at this
 exact Wd hf hb hN hrs (by simpa using hargs) this
theorem vf {rs : List ResultVar} {ps : List PV} {J : Store → Prop} {A : Store} (hd : zW nx A) (h1 : xg P F (ext A nx obs) rs = some ps) (hJ : J A) :
  ∃ ps S', xg P F (ext A nx obs) rs = some ps ∧ J S' ∧ ∀ o, S' o = ext A nx obs o ∨ S' o = .dead := ⟨ps, A, h1, hJ, yb hd⟩
def QC (F : Nat → PV) : List Nat → List PV → Nat → PV
 | p :: ps, x :: xs => QC (xe F p x) ps xs
 | _, _ => F
theorem Zbf {C : Ctx} {w : World} : ∀ (ps : List Nat) (vs : List Value) (xs : List PV) (F : Nat → PV) (t : Array Value), t.size = N → (∀ p ∈ ps, p < N) → xs.length = vs.length → (∀ i, Rel C S w (F i) (t.getD i undef)) →
  (∀ (i : Nat) (c : PV) (v : Value), xs[i]? = some c → vs[i]? = some v → Rel C S w c v) →
  ((ps.zip vs).foldl (fun t (p, v) => t.setIfInBounds p v) t).size = N ∧ ∀ i, Rel C S w (QC F ps xs i) (((ps.zip vs).foldl (fun t (p, v) => t.setIfInBounds p v) t).getD i undef)
 | [], _, _, F, t, hz, _, _, hF, _ => ⟨hz, hF⟩
 | p :: ps, [], [], F, t, hz, _, _, hF, _ => ⟨hz, hF⟩
 | p :: ps, v :: vs, x :: xs, F, t, hz, hp, hl, hF, hx => by
  refine Zbf ps vs xs (xe F p x) (t.setIfInBounds p v) (by simp [hz]) (fun q hq => hp q (by simp [hq])) (by simpa using hl) (fun i => ?_) fun i c v hc hv => hx (i + 1) c v (by simpa using hc) (by simpa using hv)
  have hpl : p < t.size := by rw [hz]; exact hp p (by simp)
  simp only [xe, Array.getD_eq_getD_getElem?]
  rw [Array.getElem?_setIfInBounds]
  by_cases h : i = p
  ·subst h; simp [hpl]; exact hx 0 x v rfl rfl
  ·rw [if_neg h, if_neg (fun e => h e.symm), ← Array.getD_eq_getD_getElem?]; exact hF i
def Wu (l : Nat) : Rd := ⟨some l, fun _ _ _ => True, fun _ _ => trivial⟩
def Zbg {σ : Type} (nx : Nat) (I : Nat → σ → Prop) (B : σ → Store) (T : σ → List Ob) (i : Nat) (more : List Ob) : Exit → (Nat → PV) → Store → Prop
 | .normal, _, S => ∃ s extra, I i s ∧ S = ext (B s) nx (T s ++ more ++ extra)
 | _, _, _ => False
theorem xF {σ : Type} {I : Nat → σ → Prop} {B : σ → Store} {T : σ → List Ob} {i : Nat} {more : List Ob} (s : σ) (extra : List Ob) (hI : I i s) (hB : B s = S) (hT : T s ++ more ++ extra = obs) : Zbg nx I B T i more .normal F (ext S nx obs) := ⟨s, extra, hI, by rw [hB, hT]⟩
theorem JW {k : Nat} (obs more : List Ob) (hk : k = nx + obs.length) : ext (ext S nx obs) k more = ext S nx (obs ++ more) := by
 subst hk
 funext i
 simp only [ext]
 by_cases h1 : i < nx
 ·rw [if_pos (by omega), if_pos h1, if_pos h1]
 ·rw [if_neg h1, if_neg h1, List.getD_eq_getElem?_getD, List.getD_eq_getElem?_getD, List.getD_eq_getElem?_getD]
  by_cases h2 : i < nx + obs.length
  ·rw [if_pos h2, List.getElem?_append_left (by omega)]
  ·rw [if_neg h2, List.getElem?_append_right (by omega), Nat.sub_sub]
theorem YF {V : Ctx → Store → World → Prop} {keep : ∀ {C C' : Ctx} {S S' : Store} {w w' : World}, Step C S w C' S' w' → V C S w → V C' S' w'} {g : Operand} {ps : Array Tmp} {assign body : Code} {k : FuncId} {caps : List PV} {xs : List (List PV)} {σ : Type}
  (I : Nat → σ → Prop) (L : List (Nat × PV)) (B : σ → Store) (T : σ → List Ob) (s0 : σ)
  (hit : Ze P k caps xs) (hg : ev F g = .fn (.func k) [] caps) (hps : ∀ x ∈ xs, x.length = ps.size) (hpN : ∀ p ∈ ps.toList, p < N) (hL : ∀ x ∈ L, F x.1 = x.2) (h0 : I 0 s0) (hB : B s0 = S) (hT : T s0 = obs) (hl : ∀ i s, I i s → (T s).length = obs.length)
  (round : ∀ l i s more x, I i s → xs[i]? = some x → PW P (Wu l) 0 N assign (uJ (PW P (Wu l) 0 N body (Zbg nx I B T (i + 1) more)) (fun _ _ _ => False)) (QC (fr L) ps.toList x) (ext (B s) nx (T s ++ more)))
  (done : ∀ s, I xs.length s → Q .normal F (ext (B s) nx (T s))) : PW P ⟨none, V, keep⟩ 0 N (.rangeFunc g ps assign body) Q F (ext S nx obs) := by
 intro C w a st
 refine wpIn_rangeFunc ?_
 intro fn hfn
 obtain ⟨rec, hrec⟩ : ∃ rec : LoopState → Option Code → Loop, rec = fun st pe => { state := st, pending := pe, fn, tmps := a.tmps, params := ps, assign, body, defers := w.heap.size } := ⟨_, rfl⟩
 obtain ⟨k1, j1, m1⟩ := st.sim.alloc (.deferred (some []))
 obtain ⟨k2, j2, m2⟩ := k1.alloc (.loop (rec .ready none))
 rw [World.size_alloc] at m2
 obtain ⟨W1, hW1⟩ : ∃ W1, (w.alloc (.deferred (some []))).alloc (.loop (rec .ready none)) = W1 := ⟨_, rfl⟩
 rw [hW1] at k2 j2
 have hL1 : W1.heap[w.heap.size + 1]? = some (.loop (rec .ready none)) := by
  rw [← hW1]; have := u6 (w.alloc (.deferred (some []))) (.loop (rec .ready none)); rwa [World.size_alloc] at this
 have hK1 : W1.heap[w.heap.size]? = some (.deferred (some [])) := by
  rw [← hW1, vw _ _ _ (by simp)]; exact u6 w _
 have step1 : Step C (ext S nx obs) w C (ext S nx obs) W1 := j1.trans j2
 -- what is known all the while
 obtain ⟨V0, hV0⟩ : ∃ V0 : Ctx → Store → World → Prop, ∀ C' S' w', V0 C' S' w' ↔ w'.heap[w.heap.size + 1]? = some (.loop (rec .ready none)) ∧ w'.heap[w.heap.size]? = some (.deferred (some [])) ∧ ¬ C'.M S' (w.heap.size + 1) ∧ ¬ C'.M S' w.heap.size ∧ Step C (ext S nx obs) w C' S' w' := ⟨_, fun _ _ _ => Iff.rfl⟩
 have keep0 : ∀ {C1 C2 : Ctx} {S1 S2 : Store} {w1 w2 : World}, Step C1 S1 w1 C2 S2 w2 → V0 C1 S1 w1 → V0 C2 S2 w2 := by
  intro C1 C2 S1 S2 w1 w2 hst hv
  obtain ⟨a1, a2, a3, a4, a5⟩ := (hV0 _ _ _).1 hv
  obtain ⟨b1, b2⟩ := hst.blocks _ (qj a1) a3
  obtain ⟨c1, c2⟩ := hst.blocks _ (qj a2) a4
  exact (hV0 _ _ _).2 ⟨b1.trans a1, c1.trans a2, b2, c2, a5.trans hst⟩
 have hV1 : V0 C (ext S nx obs) W1 := (hV0 _ _ _).2 ⟨hL1, hK1, m2, m1, step1⟩
 have hge := st.ev g
 rw [hg] at hge
 generalize hgv : a.eval g = gv at hge
 cases hge with
 | fn hfl hcl hrf hrc =>
 rename_i fv lb
 obtain rfl : fv = #[] := Array.eq_empty_of_size_eq_zero hfl.symm
 have hJd : ∀ i A, (∃ s, I i s ∧ A = ext (B s) nx (T s)) → zW (nx + obs.length) A := by
  rintro i A ⟨s, hs, rfl⟩
  rw [← hl i s hs]; exact jO
 have hYY : ∀ i A more x, xs[i]? = some x → (∃ s, I i s ∧ A = ext (B s) nx (T s)) → PYield P V0 (w.heap.size + 1) x (ext A (nx + obs.length) more) (fun T' => ∃ A', (∃ s, I (i + 1) s ∧ A' = ext (B s) nx (T s)) ∧ T' = ext A' (nx + obs.length) more) := by
  rintro i A more x hx ⟨s, hs, rfl⟩
  rw [JW _ _ (by rw [hl i s hs])]
  intro C1 w1 vs hS1 hv1 hlen hrel
  obtain ⟨a1, a2, a3, a4, a5⟩ := (hV0 _ _ _).1 hv1
  have hxp := hps x (List.mem_of_getElem? hx)
  have hy := run_yield (P := P) (args := vs) a1 (by rw [hrec]; simp only; omega)
  rw [hrec] at hy
  simp only at hy
  have hsz := Zbf (N := N) (S := ext (B s) nx (T s ++ more)) (C := C1) (w := w1) ps.toList vs.toList x (fr L) a.tmps st.size hpN (by simpa using hlen) (fun i => by
   rcases Za9 hL i with e | e
   ·rw [e]; exact (st.fr i).mono a5
   ·rw [e]; exact .junk _) (by simpa using hrel)
  have hfold : (ps.zip vs).foldl (fun tmps (t, a) => tmps.setIfInBounds t a) a.tmps = (ps.toList.zip vs.toList).foldl (fun t (p, v) => t.setIfInBounds p v) a.tmps := by
   rw [← Array.foldl_toList, Array.toList_zip]
  rw [hfold] at hy
  refine ⟨fn, _, assign, body, hy, roundIn_of_wpIn trivial ?_⟩
  have hst1 : St (Wu (w.heap.size + 1)) C1 (ext (B s) nx (T s ++ more)) w1 N (QC (fr L) ps.toList x) { tmps := (ps.toList.zip vs.toList).foldl (fun t (p, v) => t.setIfInBounds p v) a.tmps, defers := [] } := ⟨hS1, hsz.1, hsz.2, trivial⟩
  refine wpIn_mono (round (w.heap.size + 1) i s more x hs hx C1 w1 _ hst1) ?_
  rintro e a3' w2 ⟨F2, S2, C2, hq, st2, hd2, step2⟩
  cases e with
  | normal =>
   have e2 := step2.blocks _ (qj a1) a3
   have hl2 := e2.1.trans a1
   refine ⟨_, run_beginRound hl2 (by rw [hrec]), ?_⟩
   have sim2 := st2.sim.put (y := .loop { rec .ready none with state := .busy }) hl2 (JV _)
   refine wpIn_mono (hq C2 _ _ ⟨sim2, st2.size, fun j => Wt hl2 (JV _) (st2.fr j), trivial⟩) ?_
   rintro e a4' w3 ⟨F3, S3, C3, hq3, st3, hd3, step3⟩
   cases e with
   | normal =>
    obtain ⟨s', extra, hs', rfl⟩ := hq3
    have hl2b : (w2.putObj (w.heap.size + 1) (.loop { rec .ready none with state := .busy })).heap[w.heap.size + 1]? = some (.loop { rec .ready none with state := .busy }) := World.putObj_heap_same (qj hl2)
    have e3 := step3.blocks (w.heap.size + 1) (qj hl2b) e2.2
    have hl3 := e3.1.trans hl2b
    have hend := run_endRound (P := P) none hl3
    have hkill := Za4 (S := B s') (nx := nx) (obs := T s' ++ more) extra
    obtain ⟨q1, q2⟩ := st3.sim.kill hkill
    have hrr : ({ { rec .ready none with state := LoopState.busy } with state := if (none : Option Code).isNone then .ready else .done, pending := none } : Loop) = rec .ready none := by rw [hrec]; rfl
    rw [hrr] at hend
    refine ⟨_, _, hend, _, C3, rfl, ⟨_, ⟨s', hs', rfl⟩, by rw [JW _ _ (by rw [hl _ s' hs'])]⟩, ?_, ?_⟩
    ·exact q1.put hl3 (JV _)
    ·have st4 := step2.around (step3.trans q2) a1 a3
     exact st4
   | _ => exact hq3.elim
  | _ => exact hq.elim
 have hC2 := hit.2 (w.heap.size + 1) V0 keep0 (nx + obs.length) (fun i A => ∃ s, I i s ∧ A = ext (B s) nx (T s)) hJd hYY (ext S nx obs) ⟨s0, h0, by rw [hB, hT]⟩ C W1 (#[.func (.yield (w.heap.size + 1)) #[] #[]] ++ lb) k2 hV1 (by simp [hcl]; omega) (by
  intro i c v hc hv
  cases i with
  | zero =>
   rw [Array.getElem?_append_left (by simp)] at hv
   simp at hc hv; subst hc; subst hv; exact .sc _
  | succ i =>
   rw [Array.getElem?_append_right (by simp)] at hv
   exact (hrc i c v (by simpa using hc) (by simpa using hv)).mono step1)
 refine ⟨w.heap.size + 1, [{ target := .collected w.heap.size, args := #[] }], W1, { target := .fn (.func k) lb, args := #[.func (.yield (w.heap.size + 1)) #[] #[]] }, W1, k,
  #[.func (.yield (w.heap.size + 1)) #[] #[]] ++ lb, W1, ?_, ?_, ?_, ?_, fun hd => (by cases hd), ?_⟩
 ·rw [← hW1, hrec]; exact run_enterLoop_outer _ _ _ _ _
 ·simp only [resolve, hgv]
  simp [go_sem]
 ·intro f' _; trivial
 ·simp only [invoke]; exact hit.1 _ _
 refine (Wc (r := ⟨none, V, keep⟩) hC2).mono ?_
 rintro e w' ⟨p, v, S', C', rfl, ⟨s, hs, rfl⟩, _, hsim, hst⟩
 obtain ⟨a1, a2, a3, a4, a5⟩ := (hV0 _ _ _).1 (keep0 hst hV1)
 have hend := run_endLoop (P := P) a1 (by rw [hrec]; simp)
 have hpn : (rec .ready none).pending = none := by rw [hrec]
 rw [hpn] at hend
 have a6 := fun o => a5.beyond (l := w.heap.size + 1) o (by omega)
 refine ⟨none, _, hend, F, _, C', done s hs, ⟨hsim.put a1 (JV _), st.size, fun i => (st.fr i).mono (a6 _), keep (a6 _) st.v⟩, ⟨[{ target := .collected w.heap.size, args := #[] }], rfl, ⟨_, Nat.le_refl _, rfl, ?_, a4, by simp⟩, trivial⟩, a6 _⟩
 rw [World.putObj_heap_other (by omega)]; exact a2
end
def YG (id ver : Nat) (cs : List PV) (p : PV) : PV :=
 match p with
 | .sl o v sz 0 k => if o = id ∧ v = ver ∧ k * sz = cs.length then .lst k cs else .sl o v sz 0 k
 | .ptr o v off => if o = id ∧ v = ver ∧ off ≤ cs.length then .ip (cs.drop off) else .ptr o v off
 | p => p
def ZN (id ver : Nat) (cs : List PV) (p : PV) : PV :=
 match p with
 | .fn f fs cap => .fn f (fs.map (YG id ver cs)) (cap.map (YG id ver cs))
 | p => YG id ver cs p
def uh (id ver : Nat) (cs : List PV) (x : Ob) : Ob :=
 match x with
 | .cells v e ds => .cells v e (ds.map (ZN id ver cs))
 | x => x
theorem Zgw (id ver : Nat) (cs : List PV) (x : Ob) : (uh id ver cs x).ver = x.ver := by cases x <;> rfl
theorem Wv {C : Ctx} {S T : Store} {w : World} {id ver e : Nat} {cs : List PV} (hS : Sim C S w) (hid : S id = .cells ver e cs) (hT : T id = .dead) (hTS : ∀ o, T o ≠ .dead → S o ≠ .dead) (st : Step C S w C T w) {p : PV} {u : Value}
  (h : Rel C S w p u) : Rel C T w (YG id ver cs p) u := by
 unfold YG
 split
 ·rename_i o v sz k
  split
  ·rename_i hc
   obtain ⟨rfl, rfl, hk⟩ := hc
   cases h with
   | sl h1 h2 h3 =>
    obtain ⟨ad, cap, rfl, q1, q2, q3, q4⟩ := h1
    have hnM : ∀ b k', C.loc o = some (b, k') → ¬ C.M T b := by
     rintro b k' hl ⟨i, k2, hi, hl2⟩
     by_cases hoi : i = o
     ·subst hoi; exact hi hT
     ·exact hoi (hS.dist i o b k2 k' (hTS i hi) (by rw [hid]; simp) hl2 hl)
    rcases (h3 v (by rw [hid]; rfl)).2 rfl with ⟨z1, z2, _, z4⟩ | ⟨b, k', ad', cap', z1, z2, z3, z4⟩
    ·subst z2
     have : cs = [] := List.eq_nil_of_length_eq_zero (by omega)
     subst this
     cases z4
     exact .lst0
    ·cases z2
     rcases hS.cells o v e cs hid with ⟨hn, _⟩ | ⟨b2, kk, c, g1, g2, g3, g4, g5, g6⟩
     ·rw [hn] at z1; cases z1
     ·rw [g1] at z1; cases z1
      obtain ⟨rfl, _⟩ := z3 rfl
      exact .lst1 q1 q2 g2 (hnM _ _ g1) (fun _ => by omega) (fun j v hj hv => g5 j v hj (by simpa using hv)) (fun j p v hp hv => (g6 j p v hp (by simpa using hv)).mono st)
  ·exact h.mono st
 ·rename_i o v off
  split
  ·rename_i hc
   obtain ⟨rfl, rfl, hk⟩ := hc
   cases h with
   | ptr h1 h2 h3 =>
    obtain ⟨b, k', z1, z2⟩ := (h3 v (by rw [hid]; rfl)).2 rfl
    have hnM : ¬ C.M T b := by
     rintro ⟨i, k2, hi, hl2⟩
     by_cases hoi : i = o
     ·subst hoi; exact hi hT
     ·exact hoi (hS.dist i o b k2 k' (hTS i hi) (by rw [hid]; simp) hl2 z1)
    rcases hS.cells o v e cs hid with ⟨hn, _⟩ | ⟨b2, kk, c, g1, g2, g3, g4, g5, g6⟩
    ·rw [hn] at z1; cases z1
    ·rw [g1] at z1; cases z1
     subst z2
     refine .ip g2 hnM (fun _ => by simp; omega) (fun j v hj hv => g5 (off + j) v (by simp at hj; omega) hv) (fun j p v hp hv => ?_)
     rw [List.getElem?_drop] at hp
     exact (g6 (off + j) p v hp hv).mono st
  ·exact h.mono st
 ·exact h.mono st
theorem Zgx {C : Ctx} {S T : Store} {w : World} {id ver e : Nat} {cs : List PV} (hS : Sim C S w) (hid : S id = .cells ver e cs) (hT : T id = .dead) (hTS : ∀ o, T o ≠ .dead → S o ≠ .dead) (st : Step C S w C T w) {p : PV} {u : Value}
  (h : Rel C S w p u) : Rel C T w (ZN id ver cs p) u := by
 unfold ZN
 split
 ·cases h with
  | fn hf hc h1 h2 =>
   refine .fn (by simpa using hf) (by simpa using hc) (fun i c v hc hv => ?_) (fun i c v hc hv => ?_)
   ·rw [List.getElem?_map] at hc
    obtain ⟨c0, hc0, rfl⟩ := Option.map_eq_some_iff.1 hc
    exact Wv hS hid hT hTS st (h1 i c0 v hc0 hv)
   ·rw [List.getElem?_map] at hc
    obtain ⟨c0, hc0, rfl⟩ := Option.map_eq_some_iff.1 hc
    exact Wv hS hid hT hTS st (h2 i c0 v hc0 hv)
 ·exact Wv hS hid hT hTS st h
section
variable {P : Program} {r : Rd} {n nx N : Nat} {Q : Exit → (Nat → PV) → Store → Prop} {F : Nat → PV} {S : Store} {obs : List Ob}
theorem j4 {c : Code} (j : Nat) {ver e : Nat} {cs : List PV} (hj : obs[j]? = some (.cells ver e cs)) (h : PW P r n N c Q (fun i => ZN (nx + j) ver cs (F i)) (ext S nx ((obs.map (uh (nx + j) ver cs)).set j .dead))) : PW P r n N c Q F (ext S nx obs) := by
 have hjl : j < obs.length := (List.getElem?_eq_some_iff.1 hj).1
 refine uL (F' := fun i => ZN (nx + j) ver cs (F i)) (S' := ext S nx ((obs.map (uh (nx + j) ver cs)).set j .dead)) (fun C w a st => ?_) h
 have hid : ext S nx obs (nx + j) = .cells ver e cs := by rw [yQ, List.getD_eq_getElem?_getD, hj]; rfl
 have hT : ext S nx ((obs.map (uh (nx + j) ver cs)).set j .dead) (nx + j) = .dead := by rw [yQ, List.getD_eq_getElem?_getD, List.getElem?_set_self (by simpa using hjl)]; rfl
 -- what stands under each number
 have hat : ∀ o, ext S nx ((obs.map (uh (nx + j) ver cs)).set j .dead) o = .dead ∨ (o < nx ∧ ext S nx ((obs.map (uh (nx + j) ver cs)).set j .dead) o = ext S nx obs o) ∨ (nx ≤ o ∧ ext S nx ((obs.map (uh (nx + j) ver cs)).set j .dead) o = uh (nx + j) ver cs (ext S nx obs o)) := by
  intro o
  by_cases ho : o < nx
  ·exact .inr (.inl ⟨ho, by rw [zH ho, zH ho]⟩)
  ·by_cases hoj : o = nx + j
   ·subst hoj; exact .inl hT
   ·refine .inr (.inr ⟨by omega, ?_⟩)
    simp only [ext]
    rw [if_neg ho, if_neg ho, List.getD_eq_getElem?_getD, List.getD_eq_getElem?_getD, List.getElem?_set_ne (by omega), List.getElem?_map]
    cases obs[o - nx]? <;> rfl
 generalize hTT : ext S nx ((obs.map (uh (nx + j) ver cs)).set j .dead) = T at *
 generalize hSS : ext S nx obs = S1 at *
 have hver : ∀ o v, (T o).ver = some v → (S1 o).ver = some v := by
  intro o v hv
  rcases hat o with q | ⟨_, q⟩ | ⟨_, q⟩
  ·rw [q] at hv; cases hv
  ·rw [q] at hv; exact hv
  ·rw [q, Zgw] at hv; exact hv
 have hne : ∀ o, T o ≠ .dead → S1 o ≠ .dead := by
  intro o ho hd
  rcases hat o with q | ⟨_, q⟩ | ⟨_, q⟩
  ·exact ho q
  ·exact ho (q.trans hd)
  ·rw [hd] at q; exact ho q
 have hM : ∀ b, C.M T b → C.M S1 b := fun b ⟨o, k, ho, hl⟩ => ⟨o, k, hne o ho, hl⟩
 have hstep : Step C S1 w C T w := ⟨rfl, ⟨rfl, Nat.le_refl _⟩, rfl, Nat.le_refl _, Nat.le_refl _, Nat.le_refl _, fun b _ hb => ⟨rfl, fun h => hb (hM b h)⟩, fun o v1 hv => .inr ⟨v1, hver o v1 hv, Nat.le_refl _, fun _ => rfl⟩⟩
 have hrel : ∀ {p u}, Rel C S1 w p u → Rel C T w (ZN (nx + j) ver cs p) u := fun h => Zgx st.sim hid hT hne hstep h
 refine ⟨C, ⟨⟨fun o ho => st.sim.lt o (hne o ho), fun o v hv => st.sim.clk o v (hver o v hv), fun o o' b k k' ho ho' => st.sim.dist o o' b k k' (hne o ho) (hne o' ho'), ?_, ?_⟩, st.size, fun i => hrel (st.fr i), r.keep hstep st.v⟩, hstep⟩
 ·intro o v e' ds ho
  rcases hat o with q | ⟨_, q⟩ | ⟨_, q⟩
  ·rw [q] at ho; cases ho
  ·rw [q] at ho
   rcases st.sim.cells o v e' ds ho with hn | ⟨b, k, c, h1, h2, h3, h4, h5, h6⟩
   ·exact .inl hn
   ·exact .inr ⟨b, k, c, h1, h2, h3, h4, h5, fun i p u hp hu => (h6 i p u hp hu).mono hstep⟩
  ·rw [q] at ho
   cases hs : S1 o with
   | dead => rw [hs] at ho; cases ho
   | map v es => rw [hs] at ho; cases ho
   | cells v2 e2 ds2 =>
    rw [hs] at ho
    cases ho
    rcases st.sim.cells o _ _ ds2 hs with ⟨h1, h2⟩ | ⟨b, k, c, h1, h2, h3, h4, h5, h6⟩
    ·exact .inl ⟨h1, by rw [h2]; rfl⟩
    ·refine .inr ⟨b, k, c, h1, h2, h3, by simpa using h4, fun i v hi hv => h5 i v (by simpa using hi) hv, fun i p u hp hu => ?_⟩
     rw [List.getElem?_map] at hp
     obtain ⟨p0, hp0, rfl⟩ := Option.map_eq_some_iff.1 hp
     exact hrel (h6 i p0 u hp0 hu)
 ·intro o v es ho
  have hs : S1 o = .map v es := by
   rcases hat o with q | ⟨_, q⟩ | ⟨_, q⟩
   ·rw [q] at ho; cases ho
   ·rw [q] at ho; exact ho
   ·rw [q] at ho
    cases hs : S1 o with
    | dead => rw [hs] at ho; cases ho
    | map v es => rw [hs] at ho; exact ho
    | cells v2 e2 ds2 => rw [hs] at ho; cases ho
  obtain ⟨b, k, ms, cl, h1, h2, h3, h4⟩ := st.sim.maps o v es hs
  exact ⟨b, k, ms, cl, h1, h2, h3, fun i x m hx hm => ⟨(h4 i x m hx hm).1, (h4 i x m hx hm).2.mono hstep⟩⟩
end
theorem Zbh {P : Program} {f : FuncId} {args : List PV} {sz k e : Nat} {cs : List PV} (j : Nat)
  (h : ∀ S nx, zW nx S → Spec P f args S (fun p S' => ∃ v, p = .agg [.sl (nx + j) v sz 0 k] ∧ S' = S.set (nx + j) (.cells v e cs))) (hk : k * sz = cs.length) : Pure P f args (.agg [.lst k cs]) := by
 intro S
 refine ⟨(h (fun _ => .dead) 0 (fun _ _ => rfl)).1, ?_⟩
 intro C w vs hS hl hr
 have hd : zW C.next S := fun i hi => by
  cases hs : S i with
  | dead => rfl
  | cells v e cs => have := hS.lt i (by rw [hs]; simp); omega
  | map v es => have := hS.lt i (by rw [hs]; simp); omega
 refine ((h S C.next hd).2 C w vs hS hl hr).mono ?_
 rintro e' w' ⟨p, u, S', C', rfl, ⟨v, rfl, rfl⟩, hrel, hsim, hstep⟩
 have hdj := hd (C.next + j) (by omega)
 have hkk : ∀ o, S o = S.set (C.next + j) (.cells v e cs) o ∨ S o = .dead := by
  intro o
  by_cases ho : o = C.next + j
  ·subst ho; exact .inr hdj
  ·exact .inl (Store.set_other _ _ _ _ ho).symm
 obtain ⟨k1, k2⟩ := hsim.kill hkk
 refine ⟨.agg [.lst k cs], u, S, C', rfl, ⟨rfl, rfl⟩, ?_, k1, hstep.trans k2⟩
 cases hrel with
 | agg hl2 h1 h2 =>
  refine .agg (by simpa using hl2) h1 fun i c v' hc hv => ?_
  cases i with
  | succ i => simp at hc
  | zero =>
   simp at hc; subst hc
   have := JT hsim (Store.set_same _ _ _) hdj (fun o ho => by
    rcases hkk o with q | q
    ·rw [← q]; exact ho
    ·exact absurd q ho) k2 (h2 0 _ v' rfl hv)
   simpa [yZ, hk] using this
theorem Zbi {S : Store} {nx : Nat} {obs : List Ob} (k : Nat) : ext S nx obs = ext S nx (obs ++ List.replicate k .dead) := by
 funext i
 simp only [ext]
 split
 ·rfl
 ·rw [List.getD_eq_getElem?_getD, List.getD_eq_getElem?_getD]
  by_cases h3 : i - nx < obs.length
  ·rw [List.getElem?_append_left h3]
  ·rw [List.getElem?_eq_none (by omega), List.getElem?_append_right (by omega), List.getElem?_replicate]
   split <;> rfl
theorem JX {S : Store} {nx : Nat} {obs : List Ob} (k : Nat) (x : Ob) : (ext S nx obs).set (nx + obs.length + k) x = ext S nx (obs ++ List.replicate k .dead ++ [x]) := by
 rw [Zbi k]
 have := jk (S := S) (nx := nx) (obs := obs ++ List.replicate k .dead) x
 simpa [Nat.add_assoc] using this
theorem WkL.app {a b c d : List PV} (h : WkL a b) (k : WkL c d) : WkL (a ++ c) (b ++ d) := by
 induction h with
 | nil => exact k
 | cons h t ih => exact .cons h ih
def RSpec (P : Program) (f : FuncId) (args : List PV) (R : PV → Prop) : Prop := ∀ S, Spec P f args S (fun q S' => R q ∧ S' = S)
theorem RSpec.mono {P : Program} {f : FuncId} {args : List PV} {R R' : PV → Prop} (h : RSpec P f args R) (hR : ∀ p, R p → R' p) : RSpec P f args R' := fun S => (h S).mono fun _ _ ⟨e, e'⟩ => ⟨hR _ e, e'⟩
theorem Sim.few {C : Ctx} {S : Store} {w : World} (h : Sim C S w) {o ver e : Nat} {cs : List PV} (hs : S o = .cells ver e cs) (m : Nat) : Sim C (S.set o (.cells ver e (cs.take m))) w ∧ Step C S w C (S.set o (.cells ver e (cs.take m))) w := by
 have hne : ∀ i, S.set o (.cells ver e (cs.take m)) i ≠ .dead → S i ≠ .dead := by
  intro i hi
  by_cases q : i = o
  ·subst q; rw [hs]; simp
  ·rw [Store.set_other _ _ _ _ q] at hi; exact hi
 have hver : ∀ i, (S.set o (.cells ver e (cs.take m)) i).ver = (S i).ver := by
  intro i
  by_cases q : i = o
  ·subst q; rw [Store.set_same, hs]; rfl
  ·rw [Store.set_other _ _ _ _ q]
 have st : Step C S w C (S.set o (.cells ver e (cs.take m))) w := ⟨rfl, ⟨rfl, Nat.le_refl _⟩, rfl, Nat.le_refl _, Nat.le_refl _, Nat.le_refl _, fun b _ hM => ⟨rfl, fun ⟨i, k, hi, hl⟩ => hM ⟨i, k, hne i hi, hl⟩⟩,
  fun i v1 hv => .inr ⟨v1, by rw [← hver]; exact hv, Nat.le_refl _, fun _ => rfl⟩⟩
 refine ⟨⟨fun i hi => h.lt i (hne i hi), fun i v hv => h.clk i v (by rw [← hver]; exact hv), fun i i' b k k' hi hi' => h.dist i i' b k k' (hne i hi) (hne i' hi'), ?_, ?_⟩, st⟩
 ·intro i v' e' ds hi
  by_cases q : i = o
  ·subst q
   rw [Store.set_same] at hi
   cases hi
   rcases h.cells i _ _ _ hs with ⟨h1, h2⟩ | ⟨b, k, c, h1, h2, h3, h4, h5, h6⟩
   ·exact .inl ⟨h1, by rw [h2]; simp⟩
   ·refine .inr ⟨b, k, c, h1, h2, h3, by simp; omega, fun j v hj hv => h5 j v (by simp at hj; omega) hv, fun j p v hp hv => ?_⟩
    rw [List.getElem?_take] at hp
    split at hp
    ·exact (h6 j p v hp hv).mono st
    ·cases hp
  ·rw [Store.set_other _ _ _ _ q] at hi
   rcases h.cells i _ _ _ hi with hn | ⟨b, k, c, h1, h2, h3, h4, h5, h6⟩
   ·exact .inl hn
   ·exact .inr ⟨b, k, c, h1, h2, h3, h4, h5, fun j p v hp hv => (h6 j p v hp hv).mono st⟩
 ·intro i v es hi
  by_cases q : i = o
  ·subst q; rw [Store.set_same] at hi; cases hi
  ·rw [Store.set_other _ _ _ _ q] at hi
   obtain ⟨b, k, ms, cl, h1, h2, h3, h4⟩ := h.maps i v es hi
   exact ⟨b, k, ms, cl, h1, h2, h3, fun j x m hx hm => ⟨(h4 j x m hx hm).1, (h4 j x m hx hm).2.mono st⟩⟩
theorem Zgy {P : Program} {r : Rd} {n nx N : Nat} {Q : Exit → (Nat → PV) → Store → Prop} {F : Nat → PV} {S : Store} {obs : List Ob} {c : Code} {ver e : Nat} {cs : List PV} (j m : Nat) (hj : obs[j]? = some (.cells ver e cs))
  (h : PW P r n N c Q F (ext S nx (obs.set j (.cells ver e (cs.take m))))) : PW P r n N c Q F (ext S nx obs) := by
 have hjl : j < obs.length := (List.getElem?_eq_some_iff.1 hj).1
 refine uL (F' := F) (S' := ext S nx (obs.set j (.cells ver e (cs.take m)))) (fun C w a st => ?_) h
 have hs : ext S nx obs (nx + j) = .cells ver e cs := by rw [yQ, List.getD_eq_getElem?_getD, hj]; rfl
 have := st.sim.few hs m
 rw [y9 _ (by omega) (by omega), Nat.add_sub_cancel_left] at this
 exact ⟨C, ⟨this.1, st.size, fun k => (st.fr k).mono this.2, r.keep this.2 st.v⟩, this.2⟩
@[simp] theorem Zgz {α : Type} (l m : List α) (k : Nat) (d : α) : (l ++ m).getD (l.length + k) d = m.getD k d := by
 rw [List.getD_eq_getElem?_getD, List.getD_eq_getElem?_getD, List.getElem?_append_right (by omega), Nat.add_sub_cancel_left]
@[simp] theorem Zpc {α : Type} (l m : List α) (d : α) : (l ++ m).getD l.length d = m.getD 0 d := Zgz l m 0 d
@[simp] theorem ZgA {α : Type} (l m : List α) (k : Nat) (x : α) : (l ++ m).set (l.length + k) x = l ++ m.set k x := by
 rw [List.set_append_right _ _ (by omega), Nat.add_sub_cancel_left]
@[simp] theorem Zpd {α : Type} (l m : List α) (x : α) : (l ++ m).set l.length x = l ++ m.set 0 x := ZgA l m 0 x
@[simp low] theorem Zpe (a b : Int) : (a != b) = !decide (a = b) := rfl
attribute [simp] YG ZN uh QC
open Go
theorem zm {a b : Prop} (x : a) (y : b) : a ∧ b := ⟨x, y⟩
theorem zF {a b c : Prop} (x : a) (y : b) (z : c) : a ∧ b ∧ c := ⟨x, y, z⟩
theorem yi {a b c d : Prop} (x : a) (y : b) (z : c) (u : d) : a ∧ b ∧ c ∧ d := ⟨x, y, z, u⟩
theorem qm {a b c d e : Prop} (x : a) (y : b) (z : c) (u : d) (v : e) : a ∧ b ∧ c ∧ d ∧ e := ⟨x, y, z, u, v⟩
theorem yh {a b c d e f : Prop} (x : a) (y : b) (z : c) (u : d) (v : e) (w : f) : a ∧ b ∧ c ∧ d ∧ e ∧ f := ⟨x, y, z, u, v, w⟩
abbrev KT := (Nat → PV) → Store → List Ob → Prop
abbrev CT := List Oper → (Nat → PV) → Store → List Ob → Option Nat → FuncId → List PV → Prop
abbrev HT := List Oper → (Nat → PV) → Store → List Ob → Oper → Prop
section
variable {P : Program} {r : Rd} {n nx N : Nat} {Q : Exit → (Nat → PV) → Store → Prop} {F : Nat → PV} {S : Store} {obs : List Ob} {A : Prop} {R : KT → CT → HT → Prop}
abbrev XQ (P : Program) (nx : Nat) (D : List (Nat × Nat)) (l : List Oper) (F : Nat → PV) (S : Store) (obs : List Ob) (R : KT → CT → HT → Prop) : Prop :=
 ∀ (K : KT) (Gc : CT) (Gh : HT) (X : List Oper → KT), (∀ F S obs, X [] F S obs = K F S obs) → (∀ o os F S obs, X (o :: os) F S obs = Yy P nx D Gc Gh (X os) o os F S obs) → R K Gc Gh → X l F S obs
abbrev CQ (P : Program) (r : Rd) (n nx : Nat) (ops : Array Oper) (K : KT) : CT := fun os F S obs d f args => os <:+ ops.toList → SpecV P r.V f args (ext S nx obs) (fun p S' => ∃ S1 obs1, S' = ext S1 nx obs1 ∧ XS P r n nx ops K os (zQ F d p) S1 obs1)
abbrev HQ (P : Program) (r : Rd) (n nx : Nat) (ops : Array Oper) (K : KT) : HT := fun os F S obs o => os <:+ ops.toList → PO P r n o F (ext S nx obs) (fun p S' => ∃ S1 obs1, S' = ext S1 nx obs1 ∧ XS P r n nx ops K os (zQ F o.dst p) S1 obs1)
theorem Ww {id : Nat} {ops : Array Oper} (hN : xC N ops = true) (h : XS P r n nx ops (fun F' S' obs' => Q .normal F' (ext S' nx obs')) ops.toList F S obs) : PW P r n N (.region id ops false) Q F (ext S nx obs) := by
 intro C w a st
 refine wpIn_region ?_
 have := Za7 (Q' := fun e a' w' => ∃ F' S' C', Q e F' S' ∧ St r C' S' w' N F' a' ∧ Defs w.heap.size a.defers C' S' w' a'.defers ∧ Step C (ext S nx obs) w C' S' w') (JD hN)
  (fun F' S' obs' C' w' a' hk st hd hstep => ⟨F', _, C', hk, st, .of_eq hd, hstep⟩) ops.size 0 F S obs C w a rfl (K := fun F' S' obs' => Q .normal F' (ext S' nx obs')) (by simpa using h) st rfl (.refl _ _ _)
 simpa using this
theorem QD {ops : Array Oper} {K : KT} {l : List Oper} {D : List (Nat × Nat)} (hs : l <:+ ops.toList) (hD : vC ops D = true) (hR : XQ P nx D l F S obs R) (h : R K (CQ P r n nx ops K) (HQ P r n nx ops K)) : XS P r n nx ops K l F S obs :=
 Yz hD (Gc := CQ P r n nx ops K) (Gh := HQ P r n nx ops K) (fun _ _ _ _ _ _ _ h => h) (fun _ _ _ _ _ h => h) l F S obs hs (hR K _ _ (XR P nx D K _ _) (fun _ _ _ => rfl) (fun _ _ _ _ _ => rfl) h)
theorem ze {id : Nat} {ops : Array Oper} (D : List (Nat × Nat)) (a : A)
  (h : R (fun F' S' obs' => Q .normal F' (ext S' nx obs')) (CQ P r n nx ops fun F' S' obs' => Q .normal F' (ext S' nx obs')) (HQ P r n nx ops fun F' S' obs' => Q .normal F' (ext S' nx obs')))
  (hN : xC N ops = true := by rfl) (hD : vC ops D = true := by rfl)
  (hR : A → XQ P nx D ops.toList F S obs R := by intro a K Gc Gh X hX0 hX h; simp -implicitDefEqProofs [hX0, hX, a]; exact h) : PW P r n N (.region id ops false) Q F (ext S nx obs) :=
 Ww hN (QD (List.suffix_refl _) hD (hR a) h)
theorem zb {id : Nat} {ops : Array Oper}
  (h : R (fun F' S' obs' => Q .normal F' (ext S' nx obs')) (CQ P r n nx ops fun F' S' obs' => Q .normal F' (ext S' nx obs')) (HQ P r n nx ops fun F' S' obs' => Q .normal F' (ext S' nx obs')))
  (hN : xC N ops = true := by rfl) (hD : vC ops [] = true := by rfl)
  (hR : XQ P nx [] ops.toList F S obs R := by intro K Gc Gh X hX0 hX h; simp -implicitDefEqProofs [hX0, hX]; exact h) : PW P r n N (.region id ops false) Q F (ext S nx obs) :=
 Ww hN (QD (List.suffix_refl _) hD hR h)
theorem jB {ops : Array Oper} {os : List Oper} {K : KT} {d : Option Nat} {f : FuncId} {args : List PV} {v : PV} (D : List (Nat × Nat)) (hp : Pure P f args v) (a : A)
  (h : R K (CQ P r n nx ops K) (HQ P r n nx ops K)) (hD : vC ops D = true := by rfl)
  (hR : A → XQ P nx D os (zQ F d v) S obs R := by intro a K Gc Gh X hX0 hX h; simp -implicitDefEqProofs [hX0, hX, a]; exact h) : CQ P r n nx ops K os F S obs d f args :=
 fun hs => ((hp _).mono (by rintro _ _ ⟨rfl, rfl⟩; exact ⟨_, _, rfl, QD hs hD (hR a) h⟩)).v
theorem zz {ops : Array Oper} {os : List Oper} {K : KT} {d : Option Nat} {f : FuncId} {args : List PV} {v : PV} (hp : Pure P f args v)
  (h : R K (CQ P r n nx ops K) (HQ P r n nx ops K)) (hD : vC ops [] = true := by rfl)
  (hR : XQ P nx [] os (zQ F d v) S obs R := by intro K Gc Gh X hX0 hX h; simp -implicitDefEqProofs [hX0, hX]; exact h) : CQ P r n nx ops K os F S obs d f args :=
 fun hs => ((hp _).mono (by rintro _ _ ⟨rfl, rfl⟩; exact ⟨_, _, rfl, QD hs hD hR h⟩)).v
end
section
abbrev PT := Row → (Nat → PV) → Store → List Ob → Option Nat → FuncId → List PV → Prop
abbrev JY := Row → (Nat → PV) → Store → List Ob → Oper → Prop
variable {P : Program} {r : Rd} {n nx N : Nat} {Q : Exit → (Nat → PV) → Store → Prop} {F : Nat → PV} {S : Store} {obs : List Ob} {A : Prop} {R : KT → PT → PT → JY → Prop}
abbrev YQ (P : Program) (nx : Nat) (ops : Array Oper) (ids : Option (List Nat)) (S0 : Store) (row : Row) (F : Nat → PV) (S : Store) (obs : List Ob) (R : KT → PT → PT → JY → Prop) : Prop :=
 ∀ (K : KT) (Gp Gc : PT) (Gh : JY) (X : Row → KT), (∀ F S obs, X .done F S obs = K F S obs) → (∀ F S obs, X .stop F S obs = True) → (∀ i is F S obs, X (.pure i is) F S obs = YA P ops ids S0 Gp (X is) i is F S obs) →
  (∀ i is more F S obs, X (.alt i is more) F S obs = (YB P nx ops ids S0 Gc Gh (X is) i is F S obs ∧ X more F S obs)) → R K Gp Gc Gh → X row F S obs
abbrev GP (P : Program) (r : Rd) (n nx : Nat) (ops : Array Oper) (ids : Option (List Nat)) (S0 : Store) (K : KT) : PT := fun is F S obs d f args => ∃ p, Pure P f args p ∧ PX P r n ops ids S0 is (zQ F d p) (ext S nx obs) (KX nx K)
abbrev GC (P : Program) (r : Rd) (n nx : Nat) (ops : Array Oper) (ids : Option (List Nat)) (S0 : Store) (K : KT) : PT := fun is F S obs d f args => SpecV P r.V f args (ext S nx obs) (fun p S' => yF ids S0 S' ∧ PX P r n ops ids S0 is (zQ F d p) S' (KX nx K))
abbrev GH (P : Program) (r : Rd) (n nx : Nat) (ops : Array Oper) (ids : Option (List Nat)) (S0 : Store) (K : KT) : JY := fun is F S obs o => qt P F (ext S nx obs) o = none ∧ PO P r n o F (ext S nx obs) (fun p S' => yF ids S0 S' ∧ PX P r n ops ids S0 is (zQ F o.dst p) S' (KX nx K))
theorem Zbj {ops : Array Oper} {ids : Option (List Nat)} {S0 : Store} {K : KT} {row : Row} (hR : YQ P nx ops ids S0 row F S obs R) (h : R K (GP P r n nx ops ids S0 K) (GC P r n nx ops ids S0 K) (GH P r n nx ops ids S0 K)) : PX P r n ops ids S0 row F (ext S nx obs) (KX nx K) :=
 uN (Gp := GP P r n nx ops ids S0 K) (Gc := GC P r n nx ops ids S0 K) (Gh := GH P r n nx ops ids S0 K) (fun _ _ _ _ _ _ _ h => h) (fun _ _ _ _ _ _ _ h => h) (fun _ _ _ _ _ h => h) row F S obs
  (hR K _ _ _ (XD P nx ops ids S0 K _ _ _) (fun _ _ _ => rfl) (fun _ _ _ => rfl) (fun _ _ _ _ _ => rfl) (fun _ _ _ _ _ _ => rfl) h)
theorem zC {id : Nat} {ops : Array Oper} (ids : Option (List Nat)) (row : Row) (hm : P.follows .mixedOrders = true) (a : A)
  (h : R (fun F' S' obs' => Q .normal F' (ext S' nx obs')) (GP P r n nx ops ids (ext S nx obs) fun F' S' obs' => Q .normal F' (ext S' nx obs')) (GC P r n nx ops ids (ext S nx obs) fun F' S' obs' => Q .normal F' (ext S' nx obs')) (GH P r n nx ops ids (ext S nx obs) fun F' S' obs' => Q .normal F' (ext S' nx obs')))
  (hN : xC N ops = true := by rfl) (hG : ZH ops = true := by rfl) (hrow : jN ops [] [] row = true := by rfl)
  (hR : A → YQ P nx ops ids (ext S nx obs) row F S obs R := by intro a K Gp Gc Gh X hX0 hX1 hX2 hX h; simp -implicitDefEqProofs [hX0, hX1, hX2, hX, a]; exact h) : PW P r n N (.region id ops true) Q F (ext S nx obs) :=
 JK ids row hm hN hG hrow (Za8 row F _ (Zbj (hR a) h))
theorem zI {ops : Array Oper} {ids : Option (List Nat)} {S0 : Store} {K : KT} {is : Row} {d : Option Nat} {f : FuncId} {args : List PV} {v : PV} (hp : Pure P f args v) (a : A)
  (h : R K (GP P r n nx ops ids S0 K) (GC P r n nx ops ids S0 K) (GH P r n nx ops ids S0 K))
  (hR : A → YQ P nx ops ids S0 is (zQ F d v) S obs R := by intro a K Gp Gc Gh X hX0 hX1 hX2 hX h; simp -implicitDefEqProofs [hX0, hX1, hX2, hX, a]; exact h) : GP P r n nx ops ids S0 K is F S obs d f args :=
 ⟨v, hp, Zbj (hR a) h⟩
end
theorem zL : undef = Value.tuple #[] := rfl
section
variable {P : Program} {nx N : Nat} {S : Store} {f : FuncId} {fn : Func} {c : Code} {rs : Array ResultVar} {args : List PV}
theorem zx {v : PV} (hf : P.funcs[f]? = some fn) (hN : fn.ntmps = N) (hrs : fn.results = rs) (h : ∀ S nx, zW nx S → PW P w9 0 N c (vB P rs.toList (fun p S' => p = v ∧ S' = S)) (wN args) (ext S nx []))
  (hname : (fn.name == "runtime.NumGoroutine") = false := by rfl) (hb : fn.body = some c := by exact rfl) (hargs : args.length ≤ N := by simp) : Pure P f args v :=
 Zgr hf hname hb hN (congrArg Array.toList hrs) hargs h
theorem yU {Q : PV → Store → Prop} (hf : P.funcs[f]? = some fn) (hN : fn.ntmps = N) (hrs : fn.results = rs) (h : ∀ nx, zW nx S → PW P w9 0 N c (vB P rs.toList Q) (wN args) (ext S nx []))
  (hname : (fn.name == "runtime.NumGoroutine") = false := by rfl) (hb : fn.body = some c := by exact rfl) (hargs : args.length ≤ N := by simp) : Spec P f args S Q :=
 Zbc hf hname hb hN (congrArg Array.toList hrs) hargs h
theorem ui {Q : PV → Store → Prop} (hd : zW nx S) (hf : P.funcs[f]? = some fn) (hN : fn.ntmps = N) (hrs : fn.results = rs) (h : PW P w9 0 N c (vB P rs.toList Q) (wN args) (ext S nx []))
  (hname : (fn.name == "runtime.NumGoroutine") = false := by rfl) (hb : fn.body = some c := by exact rfl) (hargs : args.length ≤ N := by simp) : Spec P f args S Q :=
 Zgq hd hf hname hb hN (congrArg Array.toList hrs) hargs h
end
open Go
instance {α : Type} [Enc α] : Enc (List α) := ⟨fun l => [L l], 1, fun _ => rfl, fun _ => rfl⟩
@[simp] theorem ZgB {α : Type} [Enc α] (l : List α) : Enc.enc l = [L l] := rfl
@[simp high] theorem jp {α : Type} [Enc α] (l : List (List α)) : (l.flatMap Enc.enc).length = l.length := (jQ l).trans (Nat.mul_one _)
@[simp high] theorem Zpf {α : Type} [Enc α] (l : List (List α)) : (l.flatMap Enc.enc).take l.length = l.flatMap Enc.enc := List.take_of_length_le (Nat.le_of_eq (jp l))
abbrev U (n : Nat) : PV := .sc (.int .u64 n)
instance : Enc Nat := ⟨fun x => [U x], 1, fun _ => rfl, fun _ => rfl⟩
@[simp] theorem Zpg (x : Nat) : Enc.enc x = [U x] := rfl
@[simp high] theorem ZgC (l : List Nat) : (l.flatMap Enc.enc).length = l.length := (jQ l).trans (Nat.mul_one _)
@[simp high] theorem Zph (l : List Nat) : (l.flatMap Enc.enc).take l.length = l.flatMap Enc.enc := List.take_of_length_le (Nat.le_of_eq (ZgC l))
instance : Enc Bool := ⟨fun x => [B x], 1, fun _ => rfl, fun _ => rfl⟩
@[simp] theorem Zpi (x : Bool) : Enc.enc x = [B x] := rfl
@[simp high] theorem ZgD (l : List Bool) : (l.flatMap Enc.enc).length = l.length := (jQ l).trans (Nat.mul_one _)
@[simp high] theorem Zpj (l : List Bool) : (l.flatMap Enc.enc).take l.length = l.flatMap Enc.enc := List.take_of_length_le (Nat.le_of_eq (ZgD l))
structure Stop where
 c : Int
 q : Int
 deriving DecidableEq
instance : Inhabited Stop := ⟨⟨0, 0⟩⟩
instance : Enc Stop := ⟨fun s => [I s.c, I s.q], 2, fun _ => rfl, fun _ => rfl⟩
@[simp] theorem Zpk (s : Stop) : Enc.enc s = [I s.c, I s.q] := rfl
@[simp high] theorem Zf (l : List Stop) : (l.flatMap Enc.enc).length = l.length * 2 := jQ l
@[simp high] theorem Zpl (l : List Stop) : (l.flatMap Enc.enc).take (l.length * 2) = l.flatMap Enc.enc := uO l
structure Cust where
 kind : Int
 demand : Int
 pats : List Nat
 rate : Int
 size : Int
 start : Int
 rule : Int
 hold : Int
 deriving DecidableEq
instance : Inhabited Cust := ⟨⟨0, 0, [], 0, 0, 0, 0, 0⟩⟩
abbrev zZ (c : Cust) : List PV := [I c.kind, I c.demand, L c.pats, I c.rate, I c.size, I c.start, I c.rule, I c.hold]
instance : Enc Cust := ⟨zZ, 8, fun _ => rfl, fun _ => rfl⟩
@[simp] theorem Zpm (c : Cust) : Enc.enc c = [I c.kind, I c.demand, L c.pats, I c.rate, I c.size, I c.start, I c.rule, I c.hold] := rfl
@[simp high] theorem Zpn (l : List Cust) : (l.flatMap Enc.enc).length = l.length * 8 := jQ l
@[simp high] theorem Zpo (l : List Cust) : (l.flatMap Enc.enc).take (l.length * 8) = l.flatMap Enc.enc := uO l
structure Inst where
 days : Int
 veh : Int
 cap : Int
 len : Int
 cust : List Cust
 dist : List (List Int)
 deriving DecidableEq
abbrev zA (x : Inst) : List PV := [I x.days, I x.veh, I x.cap, I x.len, L x.cust, L x.dist]
abbrev zD := List Stop
abbrev zi := List zD
abbrev zu := List zi
open Go Go.ChangeShapes Go.WideShapes Go.ChangeAt Go.RowKit
def S0 : Store := fun _ => .dead
def C0 : Ctx := ⟨fun _ => none, 0, 0⟩
theorem sim0 (w : World) : Sim C0 S0 w :=
 ⟨fun _ h => absurd rfl h, (fun _ _ h => by cases h), fun _ _ _ _ _ h => absurd rfl h, (fun _ _ _ _ h => by cases h), (fun _ _ _ h => by cases h)⟩
theorem Zbk (b : Nat) : ¬ C0.M S0 b := by rintro ⟨o, k, h, _⟩; exact h rfl
theorem ZgE {C' : Ctx} {S' : Store} {w w' : World} (h : Step C0 S0 w C' S' w') : Below w.heap.size w w' :=
 ⟨h.os, h.tape.1, h.output, h.size, fun b hb => (h.blocks b hb (Zbk b)).1⟩
def uj (P : Program) (w : World) (t : TypeId) (α : Type) [Enc α] (Ok : α → Prop) : Prop :=
 ∀ (H : Type) (enc : TypeId × Value → H) (fuel : Nat) (cs : List Value) (x : DataW H × List MemPlace), DataW.trod enc P w 0 (fun _ => true) true fuel t cs = some x → ∃ a : α, Ok a ∧ RelL C0 S0 w (Enc.enc a) cs.toArray
section
variable {P : Program} {w : World}
theorem JZ {p : PV} {v : Value} (h : Rel C0 S0 w p v) (h1 : v.oneCell' = true) : RelL C0 S0 w [p] #[v] := by
 refine ⟨rfl, fun i u hu => ?_, fun i q u hq hu => ?_⟩
 ·match i with
  | 0 => cases hu; exact h1
  | i + 1 => cases hu
 ·match i with
  | 0 => cases hq; cases hu; exact h
  | i + 1 => cases hq
theorem wv {t : TypeId} (ht : P.underlying t = some (.int .i64)) : uj P w t Int zU := by
 intro H enc fuel cs x h
 cases fuel with
 | zero => cases h
 | succ n =>
  unfold DataW.trod at h
  rw [ht] at h
  match cs, h with
  | [.int k z], h =>
   simp only at h
   split at h
   ·rename_i hk
    obtain ⟨rfl, hw⟩ := hk
    refine ⟨z, ?_, JZ (.sc _) rfl⟩
    unfold Lit.wf at hw
    simp only [Bool.and_eq_true, decide_eq_true_eq] at hw
    exact hw
   ·cases h
theorem ZgF {t : TypeId} (ht : P.underlying t = some (.int .u64)) : uj P w t Nat (· < 2 ^ 64) := by
 intro H enc fuel cs x h
 cases fuel with
 | zero => cases h
 | succ n =>
  unfold DataW.trod at h
  rw [ht] at h
  match cs, h with
  | [.int k z], h =>
   simp only at h
   split at h
   ·rename_i hk
    obtain ⟨rfl, hw⟩ := hk
    unfold Lit.wf at hw
    simp only [Bool.and_eq_true, decide_eq_true_eq] at hw
    have h0 : 0 ≤ z := hw.1
    have h1 : z ≤ 18446744073709551615 := hw.2
    obtain ⟨m, rfl⟩ := Int.eq_ofNat_of_zero_le h0
    exact ⟨m, by omega, JZ (.sc _) rfl⟩
   ·cases h
theorem Wx {cs : List PV} {vs : List Value} (h : RelL C0 S0 w cs vs.toArray) : cs.length = vs.length ∧ (∀ (i : Nat) (v : Value), vs[i]? = some v → v.oneCell' = true) ∧ ∀ (i : Nat) (p : PV) (v : Value), cs[i]? = some p → vs[i]? = some v → Rel C0 S0 w p v := by
 obtain ⟨h1, h2, h3⟩ := h
 simp only [List.size_toArray, List.getElem?_toArray] at h1 h2 h3
 exact ⟨h1, h2, h3⟩
theorem Zbl {α : Type} {Q : Nat → α → Prop} : ∀ (n : Nat), (∀ i, i < n → ∃ a, Q i a) → ∃ l : List α, l.length = n ∧ ∀ (i : Nat) (a : α), l[i]? = some a → Q i a
 | 0, _ => ⟨[], rfl, fun i a h => nomatch h⟩
 | n + 1, h => by
  obtain ⟨l, hl, hq⟩ := Zbl n fun i hi => h i (by omega)
  obtain ⟨a, ha⟩ := h n (by omega)
  refine ⟨l ++ [a], by simp [hl], fun i b hb => ?_⟩
  by_cases hi : i < n
  ·rw [List.getElem?_append_left (by omega)] at hb; exact hq i b hb
  ·by_cases he : i = n
   ·subst he; rw [List.getElem?_append_right (by omega), hl] at hb; simp at hb; subst hb; exact ha
   ·rw [List.getElem?_eq_none (by simp; omega)] at hb; cases hb
theorem ZgG {α : Type} [Enc α] (l : List α) (i j : Nat) (hj : j < Enc.sz α) {a : α} (hi : l[i]? = some a) : (l.flatMap Enc.enc)[i * Enc.sz α + j]? = (Enc.enc a)[j]? := by
 have hlt := (List.getElem?_eq_some_iff.1 hi).1
 have := Ws hlt
 have e : (l.flatMap Enc.enc)[i * Enc.sz α + j]? = ((l.flatMap Enc.enc).drop (i * Enc.sz α))[j]? := by rw [List.getElem?_drop]
 rw [e, this, List.getElem?_append_left (by rw [Enc.len]; exact hj)]
 rw [(List.getElem?_eq_some_iff.1 hi).2]
theorem QE {t e : TypeId} {α : Type} [Enc α] {Ok : α → Prop} (ht : P.underlying t = some (.slice e)) (hsz : P.cellsOf e = Enc.sz α) (h0 : Enc.sz α ≠ 0) (he : uj P w e α Ok) : uj P w t (List α) (fun l => l.length ≤ 9223372036854775807 ∧ ∀ a ∈ l, Ok a) := by
 intro H enc fuel cs x h
 rcases DataW.trod_slice ht h with ⟨rfl, _⟩ | ⟨a, len, cap, elems, rest, n, _, rfl, rfl, hb, hl, hm, hlen, hel, hsp, hns⟩
 ·exact ⟨[], ⟨by simp, by simp⟩, JZ .lst0 rfl⟩
 have key : ∀ i, i < len → ∃ z : α, Ok z ∧ ∃ vs : List Value, w.cells? 0 (a.add (i * P.cellsOf e)) (P.cellsOf e) = some vs ∧ RelL C0 S0 w (Enc.enc z) vs.toArray := by
  intro i hi
  have h1 := hel i hi
  have h2 : elems[i]? = some (elems[i]'(by omega)) := by simp
  rw [h2, Option.bind_eq_some_iff] at h1
  obtain ⟨vs, hv, hx⟩ := h1
  obtain ⟨z, hz, hr⟩ := he H enc n vs _ hx
  exact ⟨z, hz, vs, hv, hr⟩
 obtain ⟨zs, hzl, hz⟩ := Zbl len key
 have hml : len ≤ 9223372036854775807 := by unfold maxLen at hm; omega
 refine ⟨zs, ⟨by omega, fun z hzm => ?_⟩, ?_⟩
 ·obtain ⟨i, hi⟩ := List.getElem?_of_mem hzm
  exact (hz i z hi).1
 refine JZ (p := L zs) (v := .slice (some a) len cap) ?_ rfl
 rcases Nat.eq_zero_or_pos len with hl0 | hl0
 ·subst hl0
  have : zs = [] := List.eq_nil_of_length_eq_zero hzl
  subst this
  exact .lst0
 -- the block
 obtain ⟨b, off, spot⟩ := a
 have first := hz 0 _ (List.getElem?_eq_getElem (by omega : 0 < zs.length))
 obtain ⟨_, vs0, hv0, hr0⟩ := first
 obtain ⟨_, hvl, hvc⟩ := World.cells?_some hv0
 have hblk : ∃ c e' fz, w.heap[b]? = some (.cells c e' fz) ∧ spot = none := by
  have h1 := hvc 0 (by omega)
  have hs0 : vs0[0]? = some (vs0[0]'(by omega)) := by simp
  rw [hs0] at h1
  unfold World.cell? at h1
  have q1 : (((⟨b, off, spot⟩ : Addr).add (0 * P.cellsOf e)).add 0).block = b := by unfold Addr.add; split <;> simp_all
  have q3 : spot ≠ none → (((⟨b, off, spot⟩ : Addr).add (0 * P.cellsOf e)).add 0).spot ≠ none := by intro hs; simp [Addr.add, hs]
  rw [q1] at h1
  split at h1
  ·rename_i c e' fz hbb
   refine ⟨c, e', fz, hbb, ?_⟩
   cases hsp' : spot with
   | none => rfl
   | some s =>
    have := q3 (by rw [hsp']; simp)
    rw [hsp'] at this h1
    split at h1
    ·cases h1
    ·rename_i hns'
     exfalso
     cases hq : (((⟨b, off, some s⟩ : Addr).add (0 * P.cellsOf e)).add 0).spot with
     | none => exact this hq
     | some s2 => rw [hq] at hns'; exact hns' rfl
  ·cases h1
 obtain ⟨c, e', fz, hbb, rfl⟩ := hblk
 have cellAt : ∀ i j, i < len → j < Enc.sz α → ∃ z v, zs[i]? = some z ∧ c[off + (i * Enc.sz α + j)]? = some v ∧ v.oneCell' = true ∧ ∃ p, (Enc.enc z)[j]? = some p ∧ Rel C0 S0 w p v := by
  intro i j hi hj
  have hzi : zs[i]? = some (zs[i]'(by omega)) := by simp
  obtain ⟨_, vs, hv, hr⟩ := hz i _ hzi
  obtain ⟨_, hvl, hvc⟩ := World.cells?_some hv
  obtain ⟨r1, r2, r3⟩ := Wx hr
  rw [Enc.len] at r1
  have hvj : vs[j]? = some (vs[j]'(by omega)) := by simp
  have h1 := hvc j (by omega)
  rw [hvj, Addr.add_plain, Addr.add_plain] at h1
  unfold World.cell? at h1
  simp only [hbb] at h1
  rw [if_neg (by simp)] at h1
  refine ⟨_, _, hzi, ?_, r2 j _ hvj, ?_⟩
  ·rw [hsz, Nat.add_assoc] at h1; exact h1
  ·have hp : (Enc.enc (zs[i]'(by omega)))[j]? = some ((Enc.enc (zs[i]'(by omega)))[j]'(by rw [Enc.len]; exact hj)) := by simp
   exact ⟨_, hp, r3 j _ _ hp hvj⟩
 have split : ∀ i, i < len * Enc.sz α → i / Enc.sz α < len ∧ i % Enc.sz α < Enc.sz α ∧ i / Enc.sz α * Enc.sz α + i % Enc.sz α = i := by
  intro i hi
  refine ⟨Nat.div_lt_of_lt_mul (by rw [Nat.mul_comm]; exact hi), Nat.mod_lt _ (Nat.pos_of_ne_zero h0), ?_⟩
  rw [Nat.mul_comm]; exact Nat.div_add_mod i _
 have hfl : (zs.flatMap Enc.enc).length = len * Enc.sz α := by rw [jQ, hzl]
 have hcell : ∀ i, i < len * Enc.sz α → ∃ v, c[off + i]? = some v ∧ v.oneCell' = true ∧ ∃ p, (zs.flatMap Enc.enc)[i]? = some p ∧ Rel C0 S0 w p v := by
  intro i hi
  obtain ⟨s1, s2, s3⟩ := split i hi
  obtain ⟨z, v, g1, g2, g3, p, g4, g5⟩ := cellAt _ _ s1 s2
  rw [s3] at g2
  refine ⟨v, g2, g3, p, ?_, g5⟩
  rw [← s3, ZgG zs _ _ s2 g1]; exact g4
 rw [← hzl] at hl ⊢
 refine .lst1 hl (by unfold jn; omega) hbb (Zbk b) (fun _ => ?_) (fun i v hi hv => ?_) (fun i p v hp hv => ?_)
 ·have hpos : 0 < len * Enc.sz α := Nat.mul_pos hl0 (Nat.pos_of_ne_zero h0)
  obtain ⟨v, hv, _⟩ := hcell (len * Enc.sz α - 1) (by omega)
  have := (Array.getElem?_eq_some_iff.1 hv).1
  rw [hfl]; omega
 ·rw [hfl] at hi
  obtain ⟨v', hv', h1, _⟩ := hcell i hi
  rw [hv] at hv'; cases hv'; exact h1
 ·have hi : i < len * Enc.sz α := by have := (List.getElem?_eq_some_iff.1 hp).1; rw [hfl] at this; exact this
  obtain ⟨v', hv', _, p', hp', hr⟩ := hcell i hi
  rw [hv] at hv'; cases hv'
  rw [hp] at hp'; cases hp'; exact hr
theorem Zbm {t : TypeId} {fs : Array Field} {H : Type} {enc : TypeId × Value → H} {fuel : Nat} {cs : List Value} {x : DataW H × List MemPlace} (ht : P.underlying t = some (.struct fs)) (h : DataW.trod enc P w 0 (fun _ => true) true fuel t cs = some x) :
  cs.length = P.cellsOf t ∧ ∃ n, ∀ (i : Nat) (f : Field), fs[i]? = some f → ∃ y, DataW.trod enc P w 0 (fun _ => true) true n f.type ((cs.drop f.offset).take (P.cellsOf f.type)) = some y := by
 cases fuel with
 | zero => cases h
 | succ n =>
  unfold DataW.trod at h
  rw [ht] at h
  simp only at h
  split at h
  ·rename_i hl
   refine ⟨hl, n, fun i f hf => ?_⟩
   obtain ⟨ys, hy, _⟩ := Option.map_eq_some_iff.1 h
   have hlen := mapM_some_length hy
   have hi : i < ys.length := by
    have := (Array.getElem?_eq_some_iff.1 hf).1
    rw [hlen]; simpa using this
   have := mapM_some_get hy i f (by rw [Array.getElem?_toList]; exact hf)
   rw [List.getElem?_eq_getElem hi] at this
   exact ⟨_, this⟩
  ·cases h
theorem vg {cs ds : List PV} {vs us : List Value} (h : RelL C0 S0 w cs vs.toArray) (k : RelL C0 S0 w ds us.toArray) : RelL C0 S0 w (cs ++ ds) (vs ++ us).toArray := by
 have := Yr h k []
 simp only [List.append_nil] at this
 obtain ⟨a1, a2⟩ := Wx h
 obtain ⟨b1, b2⟩ := Wx k
 exact ⟨by simp [a1, b1], fun i v hv => this.2.1 i v (by have := (Array.getElem?_eq_some_iff.1 hv).1; simp at this; simp; omega) (by simpa using hv), fun i p v hp hv => this.2.2 i p v hp (by simpa using hv)⟩
end
theorem ZgH {H : Type} {enc : TypeId × Value → H} {P : Program} {f : Func} {s : ChangeSpec} {apart fresh handsOn again : Bool} {W W' : World} {args : Array Value} {v : Value} {ds gs : List (DataW H)} {before pa pv : List MemPlace}
  (hW : DataW.Whole enc P f.params.toList s.vars apart W args.toList ds gs before)
  (hres : ∀ (b : Nat) (sp : Nat → Bool) (hd : Bool), DataW.TrodAll enc P W' b sp hd f.resultTypes.toList (v.resultList f.resultTypes.size) (s.fn H (ds ++ gs)).results [])
  (hargs : ∀ sp : Nat → Bool, (∀ p ∈ before, sp p.block = true) → DataW.TrodAll enc P W' 0 sp true f.params.toList args.toList (s.fn H (ds ++ gs)).args pa)
  (hvars : ∀ sp : Nat → Bool, (∀ p ∈ before, sp p.block = true) → DataW.TrodVars enc P W' sp s.vars (s.fn H (ds ++ gs)).vars pv)
  (hps : before = pa ++ pv) (hb : Below W.heap.size W W')
  (hok : ∀ (j : Nat) (t : TypeId) (r : Value), f.resultTypes[j]? = some t → (v.resultList f.resultTypes.size)[j]? = some r → Value.okWide P W' .any 0 t r) :
  s.post enc P f apart fresh handsOn again W args v W' := by
 have hold : ∀ p ∈ before, (fun b => decide (b < W.heap.size)) p.block = true := fun p hp => by simpa using hW.lt p hp
 have hlt := hW.lt
 refine ⟨ds, gs, before, [], pa, pv, hW, hres _ _ _, hargs _ hold, hvars _ hold, hb.frame _, fun _ => ?_⟩
 obtain ⟨_, _, _, _, _, hz, hn⟩ := hW
 refine ⟨hok, _, _, ([] ++ pa) ++ pv, ⟨[] ++ pa, pv, trodAll_append (hargs _ (fun _ _ => rfl)) (hres _ _ _), hvars _ (fun _ _ => rfl), rfl, ?_, ?_⟩, ?_⟩
 ·intro b off hp
  have hp' : MemPlace.cell b off ∈ before := by rw [hps]; simpa using hp
  rw [hb.frozen (hlt _ hp')]
  exact hz b off hp'
 ·intro ha
  have := hn ha
  rw [hps] at this
  simpa using this
 ·intro p hp _
  rw [hps]
  simpa using hp
theorem ZgI {P : Program} {w : World} {t : TypeId} {α : Type} [Enc α] {Ok : α → Prop} (h : uj P w t α Ok) {H : Type} {enc : TypeId × Value → H} {vs : Array Value} {d : DataW H} {p : List MemPlace} (ht : DataW.Trod enc P w 0 (fun _ => true) true t (.agg vs) d p) :
  ∃ a : α, Ok a ∧ Rel C0 S0 w (.agg (Enc.enc a)) (.agg vs) := by
 obtain ⟨fuel, hf⟩ := ht
 obtain ⟨a, ha, hr⟩ := h H enc fuel _ _ hf
 refine ⟨a, ha, ?_⟩
 have e : (Value.agg vs).cells.toList.toArray = vs := by simp [Value.cells]
 rw [e] at hr
 exact .agg hr.1 hr.2.1 hr.2.2
theorem Zbn {P : Program} {w : World} {t : TypeId} {α : Type} [Enc α] {Ok : α → Prop} (h : uj P w t α Ok) {H : Type} {enc : TypeId × Value → H} {v : Value} {d : DataW H} {p : List MemPlace} (hv : v.cells = #[v]) (ht : DataW.Trod enc P w 0 (fun _ => true) true t v d p) :
  ∃ a : α, Ok a ∧ ∀ q, (Enc.enc a)[0]? = some q → Rel C0 S0 w q v := by
 obtain ⟨fuel, hf⟩ := ht
 obtain ⟨a, ha, hr⟩ := h H enc fuel _ _ hf
 refine ⟨a, ha, fun q hq => ?_⟩
 rw [hv] at hr
 exact hr.2.2 0 q v hq rfl
end Go.Proofs.YtcnbiofjmioaiaaGreat.Pv
namespace Go.Proofs.YtcnbiofjmioaiaaGreat
open Go Go.ChangeShapes Go.WideShapes Go.ChangeAt Go.RowKit Pv
theorem ZgJ : ownKnob Tryz.prog.godebug = none := by kernel_rfl
theorem ZgK : laidOutB Tryz.prog = true := by kernel_rfl
theorem ZgL {f : FuncId} {args : List Pv.PV} (h : Pv.Pure Tryz.prog f args (Pv.B true)) {W : World} {vs : Array Value} (hl : args.length = vs.size) (hr : ∀ (i : Nat) (c : Pv.PV) (v : Value), args[i]? = some c → vs[i]? = some v → Pv.Rel Pv.C0 Pv.S0 W c v) :
  Calls Tryz.prog f vs W fun e W' => e = .returned (.bool true) ∧ Below W.heap.size W W' := by
 refine ((h Pv.S0).2 Pv.C0 W vs (Pv.sim0 W) hl hr).mono ?_
 rintro e W' ⟨p, v, S', C', rfl, ⟨rfl, rfl⟩, hrel, hs, hst⟩
 cases hrel
 exact ⟨rfl, ZgE hst⟩
theorem Zbo {H : Type} {enc : TypeId × Value → H} {W W' : World} {sp : Nat → Bool} (hb : Below W.heap.size W W') : ∀ (ts : List TypeId) (vs : List Value) (ds : List (DataW H)) (ps : List MemPlace),
  (∀ t ∈ ts, Tryz.prog.readableRec t = true ∧ t < Tryz.prog.types.size) → DataW.TrodAll enc Tryz.prog W 0 (fun _ => true) true ts vs ds ps → (∀ p ∈ ps, p.block < W.heap.size) → (∀ p ∈ ps, sp p.block = true) → DataW.TrodAll enc Tryz.prog W' 0 sp true ts vs ds ps
 | [], [], [], _, _, h, _, _ => h
 | t :: ts, v :: vs, d :: ds, ps, ht, h, hlt, hsp => by
  obtain ⟨p, q, h1, h2, rfl⟩ := h
  obtain ⟨r1, r2⟩ := ht t (by simp)
  exact ⟨p, q, WideElems.Trod_stays ZgK r1 r2 h1 (fun x hx => hb.same (hlt x (by simp [hx]))) (fun x hx => hsp x (by simp [hx])), Zbo hb ts vs ds q (fun t' h' => ht t' (by simp [h'])) h2 (fun x hx => hlt x (by simp [hx])) (fun x hx => hsp x (by simp [hx])), rfl⟩
 | [], [], _ :: _, _, _, h, _, _ => h.elim
 | [], _ :: _, _, _, _, h, _, _ => h.elim
 | _ :: _, [], _, _, _, h, _, _ => h.elim
 | _ :: _, _ :: _, [], _, _, h, _, _ => h.elim
theorem ZgM {H : Type} {enc : TypeId × Value → H} {s : ChangeSpec} {f : Func} {W W' : World} {args : Array Value} {ds : List (DataW H)} {before : List MemPlace} (hvars : s.vars = []) (hrt : f.resultTypes = #[4]) (hpt : ∀ t ∈ f.params.toList, Tryz.prog.readableRec t = true ∧ t < Tryz.prog.types.size)
  (hW : DataW.Whole enc Tryz.prog f.params.toList s.vars false W args.toList ds [] before) (hr : (s.fn H (ds ++ [])).results = [.lit (.bool true)]) (ha : (s.fn H (ds ++ [])).args = ds) (hv : (s.fn H (ds ++ [])).vars = []) (hb : Below W.heap.size W W') :
  s.post enc Tryz.prog f false true false false W args (.bool true) W' := by
 have hW0 := hW
 obtain ⟨p, q, hA, hV, rfl, hfz, hnd⟩ := hW
 rw [hvars] at hV
 obtain ⟨_, rfl⟩ := trodVars_none hV
 have hlt := hW0.lt
 refine ZgH (pa := p) (pv := []) hW0 (fun b sp hd => ?_) (fun sp hsp => ?_) (fun sp _ => ?_) rfl hb (ok_one hrt rfl (okWide_bool_mk Tryz.underlying4 true))
 ·rw [hr, hrt]; exact trodAll_mk1 (shut_bool Tryz.underlying4 true)
 ·rw [ha]
  exact Zbo hb _ _ _ _ hpt hA (fun x hx => hlt x (by simp [hx])) (fun x hx => hsp x (by simp [hx]))
 ·rw [hv, hvars]; rfl
end Go.Proofs.YtcnbiofjmioaiaaGreat
namespace Go.Proofs.YtcnbiofjmioaiaaGreat
open Go Go.ChangeShapes Go.WideShapes Go.ChangeAt Go.RowKit Pv
theorem qc {a b : Bool} (h : a = true) (k : b = true) : (a && b) = true := by rw [h, k]; rfl
theorem ZgN {P : Program} {f : FuncId} {fn : Func} {s : ChangeSpec} {c : OpenClaim}
  (h1 : c.wf (OpenSpec.ofChange s) = true) (h2 : laidOutB P = true) (h3 : mapsRowed P = true) (h4 : fn.params.all (P.readableRec ·) = true) (h5 : namedTie P c.named s.vars = true)
  (h6 : (c.stops == []) = true) (h7 : (P.stops == []) = true) (h8 : (c.knobs == []) = true) (h9 : (P.stopKnobs == []) = true)
  (h10 : (c.inPlace == P.inPlace f) = true) (h11 : (c.unfollowed == P.unfollowed f) = true) (h12 : (c.recurses == P.recurses f) = true) (h13 : (c.named == P.varsNamed f) = true)
  (h14 : (c.maps == (fn.params.toList ++ s.plain.varTypes P).any (P.mapsRec ·)) = true) (h15 : (c.ifaces == (fn.params.toList ++ s.plain.varTypes P).any (P.ifacesRec ·)) = true) (h16 : (c.mapsOut == P.mapsAmong fn.resultTypes.toList) = true)
  (h17 : (c.loops == (fn.params.toList ++ s.plain.varTypes P).any (P.loopsFrom ·)) = true) (h18 : (c.wideKeys == (fn.params.toList ++ s.plain.varTypes P ++ fn.resultTypes.toList).any (P.wideKeysFrom ·)) = true)
  (h19 : s.vars.all (P.varReadable ·) = true) (h20 : fn.resultTypes.all (fun t => P.readableRec t && decide (t < P.types.size)) = true) (h21 : (c.ifacesOut == fn.resultTypes.toList.any (P.ifacesRec ·)) = true) (h22 : (c.loopsOut == fn.resultTypes.toList.any (P.loopsFrom ·)) = true)
  (h23 : (c.plainKeys == P.plainKeys) = true) (h24 : c.shortTexts.isNone = true) (h25 : P.stopsHeard = true) (h26 : P.mayEnter = true) (h27 : (c.lifted == P.liftsFinal) = true) (h28 : (P.make == some c.make) = true)
  (h29 : (c.kinds == (if c.domain.isEmpty then [] else fn.params.toList.map fun t => match P.underlying t with | some (.int k) => some k | _ => none)) = true) (h30 : (c.pinned == c.pinnedBy) = true)
  (h31 : (c.veiled == (fn.params.toList ++ s.plain.varTypes P ++ fn.resultTypes.toList).any (P.veiledRec ·)) = true) (h32 : c.veiledFits P fn.params.toList (fn.params.toList ++ s.plain.varTypes P ++ fn.resultTypes.toList) = true) :
  joinedFacts P f fn s c = true := by
 exact qc (qc (qc (qc (qc (qc (qc (qc (qc (qc (qc (qc (qc (qc (qc (qc (qc (qc (qc (qc (qc (qc (qc (qc (qc (qc (qc (qc (qc (qc (qc h1 h2) h3) h4) h5) h6) h7) h8) h9) h10) h11) h12) h13) h14) h15) h16) h17) h18) h19) h20) h21) h22) h23) h24) h25) h26) h27) h28) h29) h30) h31) h32
theorem ZgO : laidOutB Tryz.pinned.checked.prog = true := by kernel_rfl
theorem ZgP : mapsRowed Tryz.pinned.checked.prog = true := by kernel_rfl
theorem ZgQ : (Tryz.pinned.checked.prog.stops == []) = true := by kernel_rfl
theorem ZgR : (Tryz.pinned.checked.prog.stopKnobs == []) = true := by kernel_rfl
theorem ZgS : Tryz.pinned.checked.prog.stopsHeard = true := by kernel_rfl
theorem ZgT : Tryz.pinned.checked.prog.mayEnter = true := by kernel_rfl
end Go.Proofs.YtcnbiofjmioaiaaGreat
namespace Go.Proofs.YtcnbiofjmioaiaaGreat.Pv
open Go
theorem mixed : Tryz.prog.follows .mixedOrders = true := by kernel_rfl
@[simp] theorem c0 : Tryz.prog.cellsOf 0 = 1 := by kernel_rfl
@[simp] theorem b0 : Program.bytesOf' Tryz.prog 0 = some 0 := by kernel_rfl
@[simp] theorem i0 : (Tryz.prog.info? 0).isSome = true := by kernel_rfl
attribute [simp] Tryz.underlying0
@[simp] theorem c1 : Tryz.prog.cellsOf 1 = 1 := by kernel_rfl
@[simp] theorem b1 : Program.bytesOf' Tryz.prog 1 = some 8 := by kernel_rfl
@[simp] theorem z1 : Program.zeroOf Tryz.prog 1 = some .nilFunc := by kernel_rfl
@[simp] theorem i1 : (Tryz.prog.info? 1).isSome = true := by kernel_rfl
attribute [simp] Tryz.underlying1
@[simp] theorem c2 : Tryz.prog.cellsOf 2 = 1 := by kernel_rfl
@[simp] theorem b2 : Program.bytesOf' Tryz.prog 2 = some 8 := by kernel_rfl
@[simp] theorem z2 : Program.zeroOf Tryz.prog 2 = some (.int .i64 0) := by kernel_rfl
@[simp] theorem i2 : (Tryz.prog.info? 2).isSome = true := by kernel_rfl
@[simp] theorem c3 : Tryz.prog.cellsOf 3 = 1 := by kernel_rfl
@[simp] theorem b3 : Program.bytesOf' Tryz.prog 3 = some 8 := by kernel_rfl
@[simp] theorem z3 : Program.zeroOf Tryz.prog 3 = some (.int .i64 0) := by kernel_rfl
@[simp] theorem i3 : (Tryz.prog.info? 3).isSome = true := by kernel_rfl
attribute [simp] Tryz.underlying3
@[simp] theorem c4 : Tryz.prog.cellsOf 4 = 1 := by kernel_rfl
@[simp] theorem b4 : Program.bytesOf' Tryz.prog 4 = some 1 := by kernel_rfl
@[simp] theorem z4 : Program.zeroOf Tryz.prog 4 = some (.bool false) := by kernel_rfl
@[simp] theorem i4 : (Tryz.prog.info? 4).isSome = true := by kernel_rfl
attribute [simp] Tryz.underlying4
@[simp] theorem c5 : Tryz.prog.cellsOf 5 = 1 := by kernel_rfl
@[simp] theorem b5 : Program.bytesOf' Tryz.prog 5 = some 1 := by kernel_rfl
@[simp] theorem z5 : Program.zeroOf Tryz.prog 5 = some (.int .u8 0) := by kernel_rfl
attribute [simp] Tryz.underlying5
@[simp] theorem z6 : Program.zeroOf Tryz.prog 6 = some (.int .u8 0) := by kernel_rfl
@[simp] theorem q7 : Yo Tryz.prog 7 = true := by kernel_rfl
@[simp] theorem z7 : Program.zeroOf Tryz.prog 7 = some (.agg #[(.int .i64 0), (.int .i64 0), (.bool false), (.int .u8 0)]) := by kernel_rfl
@[simp] theorem z9 : Program.zeroOf Tryz.prog 9 = some (.string ⟨#[]⟩) := by kernel_rfl
attribute [simp] Tryz.underlying9
@[simp] theorem z20 : Program.zeroOf Tryz.prog 20 = some .nilIface := by kernel_rfl
attribute [simp] Tryz.underlying20
@[simp] theorem c22 : Tryz.prog.cellsOf 22 = 1 := by kernel_rfl
@[simp] theorem z22 : Program.zeroOf Tryz.prog 22 = some (.slice none 0 0) := by kernel_rfl
@[simp] theorem i22 : (Tryz.prog.info? 22).isSome = true := by kernel_rfl
attribute [simp] Tryz.underlying22
@[simp] theorem c23 : Tryz.prog.cellsOf 23 = 1 := by kernel_rfl
@[simp] theorem i23 : (Tryz.prog.info? 23).isSome = true := by kernel_rfl
attribute [simp] Tryz.underlying23
@[simp] theorem z24 : Program.zeroOf Tryz.prog 24 = some (.agg #[(.int .i64 0), (.int .i64 0), (.int .i64 0), (.int .i64 0), (.slice none 0 0), (.slice none 0 0)]) := by kernel_rfl
@[simp] theorem c25 : Tryz.prog.cellsOf 25 = 6 := by kernel_rfl
@[simp] theorem z25 : Program.zeroOf Tryz.prog 25 = some (.agg #[(.int .i64 0), (.int .i64 0), (.int .i64 0), (.int .i64 0), (.slice none 0 0), (.slice none 0 0)]) := by kernel_rfl
@[simp] theorem i25 : (Tryz.prog.info? 25).isSome = true := by kernel_rfl
attribute [simp] Tryz.underlying25
@[simp] theorem c26 : Tryz.prog.cellsOf 26 = 1 := by kernel_rfl
@[simp] theorem b26 : Program.bytesOf' Tryz.prog 26 = some 24 := by kernel_rfl
@[simp] theorem z26 : Program.zeroOf Tryz.prog 26 = some (.slice none 0 0) := by kernel_rfl
attribute [simp] Tryz.underlying26
@[simp] theorem c28 : Tryz.prog.cellsOf 28 = 1 := by kernel_rfl
@[simp] theorem z28 : Program.zeroOf Tryz.prog 28 = some (.slice none 0 0) := by kernel_rfl
@[simp] theorem i28 : (Tryz.prog.info? 28).isSome = true := by kernel_rfl
attribute [simp] Tryz.underlying28
@[simp] theorem c31 : Tryz.prog.cellsOf 31 = 1 := by kernel_rfl
@[simp] theorem b31 : Program.bytesOf' Tryz.prog 31 = some 24 := by kernel_rfl
@[simp] theorem z31 : Program.zeroOf Tryz.prog 31 = some (.slice none 0 0) := by kernel_rfl
@[simp] theorem i31 : (Tryz.prog.info? 31).isSome = true := by kernel_rfl
attribute [simp] Tryz.underlying31
@[simp] theorem Wy : Tryz.prog.cellsOf 35 = 2 := by kernel_rfl
@[simp] theorem b35 : Program.bytesOf' Tryz.prog 35 = some 16 := by kernel_rfl
@[simp] theorem q35 : Yo Tryz.prog 35 = true := by kernel_rfl
@[simp] theorem z35 : Program.zeroOf Tryz.prog 35 = some (.agg #[(.int .i64 0), (.int .i64 0)]) := by kernel_rfl
@[simp] theorem Wz : (Tryz.prog.info? 35).isSome = true := by kernel_rfl
attribute [simp] Tryz.underlying35
@[simp] theorem c36 : Tryz.prog.cellsOf 36 = 1 := by kernel_rfl
@[simp] theorem i36 : (Tryz.prog.info? 36).isSome = true := by kernel_rfl
attribute [simp] Tryz.underlying36
@[simp] theorem c38 : Tryz.prog.cellsOf 38 = 1 := by kernel_rfl
@[simp] theorem z38 : Program.zeroOf Tryz.prog 38 = some (.agg #[(.slice none 0 0)]) := by kernel_rfl
@[simp] theorem i38 : (Tryz.prog.info? 38).isSome = true := by kernel_rfl
attribute [simp] Tryz.underlying38
@[simp] theorem c39 : Tryz.prog.cellsOf 39 = 1 := by kernel_rfl
@[simp] theorem b39 : Program.bytesOf' Tryz.prog 39 = some 8 := by kernel_rfl
@[simp] theorem z39 : Program.zeroOf Tryz.prog 39 = some (.int .i64 0) := by kernel_rfl
@[simp] theorem i39 : (Tryz.prog.info? 39).isSome = true := by kernel_rfl
attribute [simp] Tryz.underlying39
@[simp] theorem c45 : Tryz.prog.cellsOf 45 = 1 := by kernel_rfl
@[simp] theorem b45 : Program.bytesOf' Tryz.prog 45 = some 24 := by kernel_rfl
@[simp] theorem z45 : Program.zeroOf Tryz.prog 45 = some (.slice none 0 0) := by kernel_rfl
@[simp] theorem i45 : (Tryz.prog.info? 45).isSome = true := by kernel_rfl
attribute [simp] Tryz.underlying45
@[simp] theorem z46 : Program.zeroOf Tryz.prog 46 = some (.slice none 0 0) := by kernel_rfl
@[simp] theorem z50 : Program.zeroOf Tryz.prog 50 = some .nilFunc := by kernel_rfl
@[simp] theorem z51 : Program.zeroOf Tryz.prog 51 = some .nilFunc := by kernel_rfl
@[simp] theorem z53 : Program.zeroOf Tryz.prog 53 = some .nilFunc := by kernel_rfl
@[simp] theorem z55 : Program.zeroOf Tryz.prog 55 = some .nilFunc := by kernel_rfl
@[simp] theorem c56 : Tryz.prog.cellsOf 56 = 1 := by kernel_rfl
@[simp] theorem i56 : (Tryz.prog.info? 56).isSome = true := by kernel_rfl
attribute [simp] Tryz.underlying56
@[simp] theorem c58 : Tryz.prog.cellsOf 58 = 1 := by kernel_rfl
@[simp] theorem b58 : Program.bytesOf' Tryz.prog 58 = some 24 := by kernel_rfl
@[simp] theorem z58 : Program.zeroOf Tryz.prog 58 = some (.agg #[(.slice none 0 0)]) := by kernel_rfl
@[simp] theorem i58 : (Tryz.prog.info? 58).isSome = true := by kernel_rfl
attribute [simp] Tryz.underlying58
@[simp] theorem c63 : Tryz.prog.cellsOf 63 = 1 := by kernel_rfl
@[simp] theorem i63 : (Tryz.prog.info? 63).isSome = true := by kernel_rfl
attribute [simp] Tryz.underlying63
@[simp] theorem i64 : (Tryz.prog.info? 64).isSome = true := by kernel_rfl
@[simp] theorem c65 : Tryz.prog.cellsOf 65 = 8 := by kernel_rfl
@[simp] theorem b65 : Program.bytesOf' Tryz.prog 65 = some 80 := by kernel_rfl
@[simp] theorem z65 : Program.zeroOf Tryz.prog 65 = some (.agg #[(.int .i64 0), (.int .i64 0), (.slice none 0 0), (.int .i64 0), (.int .i64 0), (.int .i64 0), (.int .i64 0), (.int .i64 0)]) := by kernel_rfl
attribute [simp] Tryz.underlying65
@[simp] theorem z66 : Program.zeroOf Tryz.prog 66 = some .nilFunc := by kernel_rfl
@[simp] theorem z70 : Program.zeroOf Tryz.prog 70 = some .nilFunc := by kernel_rfl
@[simp] theorem c72 : Tryz.prog.cellsOf 72 = 1 := by kernel_rfl
@[simp] theorem b72 : Program.bytesOf' Tryz.prog 72 = some 24 := by kernel_rfl
@[simp] theorem z72 : Program.zeroOf Tryz.prog 72 = some (.agg #[(.slice none 0 0)]) := by kernel_rfl
@[simp] theorem i72 : (Tryz.prog.info? 72).isSome = true := by kernel_rfl
attribute [simp] Tryz.underlying72
@[simp] theorem c74 : Tryz.prog.cellsOf 74 = 4 := by kernel_rfl
@[simp] theorem q74 : Yo Tryz.prog 74 = true := by kernel_rfl
@[simp] theorem z74 : Program.zeroOf Tryz.prog 74 = some (.agg #[(.int .i64 0), (.int .i64 0), (.int .i64 0), (.int .i64 0)]) := by kernel_rfl
attribute [simp] Tryz.underlying74
@[simp] theorem z76 : Program.zeroOf Tryz.prog 76 = some .nilFunc := by kernel_rfl
@[simp] theorem z77 : Program.zeroOf Tryz.prog 77 = some .nilFunc := by kernel_rfl
@[simp] theorem c85 : Tryz.prog.cellsOf 85 = 2 := by kernel_rfl
@[simp] theorem b85 : Program.bytesOf' Tryz.prog 85 = some 16 := by kernel_rfl
@[simp] theorem z85 : Program.zeroOf Tryz.prog 85 = some (.agg #[(.int .i64 0), (.int .i64 0)]) := by kernel_rfl
attribute [simp] Tryz.underlying85
@[simp] theorem c87 : Tryz.prog.cellsOf 87 = 1 := by kernel_rfl
@[simp] theorem i87 : (Tryz.prog.info? 87).isSome = true := by kernel_rfl
attribute [simp] Tryz.underlying87
@[simp] theorem z89 : Program.zeroOf Tryz.prog 89 = some (.agg #[(.int .i64 0), (.int .i64 0), (.int .i64 0), (.int .i64 0), (.slice none 0 0), (.slice none 0 0), (.slice none 0 0), (.int .i64 0), (.slice none 0 0), (.slice none 0 0), (.slice none 0 0)]) := by kernel_rfl
attribute [simp] Tryz.underlying89
@[simp] theorem c93 : Tryz.prog.cellsOf 93 = 1 := by kernel_rfl
@[simp] theorem b93 : Program.bytesOf' Tryz.prog 93 = some 8 := by kernel_rfl
@[simp] theorem z93 : Program.zeroOf Tryz.prog 93 = some (.int .u64 0) := by kernel_rfl
@[simp] theorem i93 : (Tryz.prog.info? 93).isSome = true := by kernel_rfl
attribute [simp] Tryz.underlying93
@[simp] theorem Zqg : Program.zeroOf Tryz.prog 120 = some (.agg #[(.int .i64 0), (.int .i64 0), (.int .i64 0), (.int .i64 0)]) := by kernel_rfl
attribute [simp] Tryz.underlying120
@[simp] theorem z131 : Program.zeroOf Tryz.prog 131 = some .nilFunc := by kernel_rfl
@[simp] theorem Zqh : Tryz.prog.cellsOf 136 = 3 := by kernel_rfl
@[simp] theorem Zqi : Program.zeroOf Tryz.prog 136 = some (.agg #[(.int .i64 0), (.int .i64 0), (.int .i64 0)]) := by kernel_rfl
attribute [simp] Tryz.underlying136
@[simp] theorem Zqj : Tryz.prog.cellsOf 140 = 13 := by kernel_rfl
@[simp] theorem Zqk : Program.zeroOf Tryz.prog 140 = some (.agg #[(.int .i64 0), (.int .i64 0), (.int .i64 0), (.int .i64 0), (.slice none 0 0), (.slice none 0 0), (.slice none 0 0), (.slice none 0 0), (.bool false), (.slice none 0 0), (.int .i64 0), (.slice none 0 0), (.slice none 0 0)]) := by kernel_rfl
attribute [simp] Tryz.underlying140
@[simp] theorem Zql : Tryz.prog.cellsOf 143 = 1 := by kernel_rfl
@[simp] theorem Zqm : Program.zeroOf Tryz.prog 143 = some .nilFunc := by kernel_rfl
attribute [simp] Tryz.underlying143
@[simp] theorem Zqn : Tryz.prog.cellsOf 151 = 5 := by kernel_rfl
@[simp] theorem Zqo : Program.zeroOf Tryz.prog 151 = some (.agg #[(.int .i64 0), (.int .i64 0), (.int .i64 0), (.int .i64 0), (.int .i64 0)]) := by kernel_rfl
@[simp] theorem Zqp : (Tryz.prog.info? 151).isSome = true := by kernel_rfl
attribute [simp] Tryz.underlying151
attribute [simp] Tryz.underlying160
@[simp] theorem Zqq : Tryz.prog.cellsOf 175 = 3 := by kernel_rfl
@[simp] theorem Zqr : Program.bytesOf' Tryz.prog 175 = some 24 := by kernel_rfl
@[simp] theorem Zqs : Program.zeroOf Tryz.prog 175 = some (.agg #[(.int .i64 0), (.int .i64 0), (.int .i64 0)]) := by kernel_rfl
attribute [simp] Tryz.underlying175
attribute [simp] Tryz.underlying182
@[simp] theorem z183 : Program.zeroOf Tryz.prog 183 = some .nilFunc := by kernel_rfl
@[simp] theorem Zqt : Tryz.prog.cellsOf 187 = 1 := by kernel_rfl
@[simp] theorem Zqu : Program.zeroOf Tryz.prog 187 = some (.pointer none) := by kernel_rfl
attribute [simp] Tryz.underlying187
@[simp] theorem Zqv : Tryz.prog.cellsOf 193 = 4 := by kernel_rfl
@[simp] theorem Zqw : Program.zeroOf Tryz.prog 193 = some (.agg #[(.int .i64 0), (.int .i64 0), (.int .i64 0), (.bool false)]) := by kernel_rfl
@[simp] theorem Zqx : (Tryz.prog.info? 193).isSome = true := by kernel_rfl
attribute [simp] Tryz.underlying193
@[simp] theorem Zqy : Tryz.prog.cellsOf 195 = 20 := by kernel_rfl
@[simp] theorem Zqz : Program.zeroOf Tryz.prog 195 = some (.agg #[(.int .i64 0), (.int .i64 0), (.int .i64 0), (.bool false), (.int .i64 0), (.int .i64 0), (.int .i64 0), (.bool false), (.int .i64 0), (.int .i64 0), (.int .i64 0), (.bool false), (.int .i64 0), (.int .i64 0), (.int .i64 0), (.bool false), (.int .i64 0), (.int .i64 0), (.int .i64 0), (.bool false)]) := by kernel_rfl
attribute [simp] Tryz.underlying195
@[simp] theorem ZqA : Tryz.prog.cellsOf 204 = 2 := by kernel_rfl
@[simp] theorem ZqB : Program.zeroOf Tryz.prog 204 = some (.agg #[(.slice none 0 0), (.bool false)]) := by kernel_rfl
attribute [simp] Tryz.underlying204
@[simp] theorem ZqC : Program.zeroOf Tryz.prog 209 = some (.agg #[(.int .u64 0)]) := by kernel_rfl
attribute [simp] Tryz.underlying209
@[simp] theorem ZqD : Program.zeroOf Tryz.prog 212 = some (.agg #[(.int .i64 0), (.int .i64 0), (.int .i64 0), (.int .i64 0), (.slice none 0 0), (.slice none 0 0), (.slice none 0 0), (.int .i64 0), (.int .i64 0), (.int .i64 0), (.int .i64 0)]) := by kernel_rfl
attribute [simp] Tryz.underlying212
attribute [simp] Tryz.underlying213
@[simp] theorem ZqE : Program.zeroOf Tryz.prog 215 = some (.agg #[(.int .i64 0), (.int .i64 0), (.int .i64 0), (.int .i64 0), (.slice none 0 0), (.slice none 0 0), (.slice none 0 0), (.int .i64 0)]) := by kernel_rfl
attribute [simp] Tryz.underlying215
@[simp] theorem z218 : Program.zeroOf Tryz.prog 218 = some .nilFunc := by kernel_rfl
@[simp] theorem ZqF : Tryz.prog.cellsOf 222 = 1 := by kernel_rfl
@[simp] theorem z222 : Program.zeroOf Tryz.prog 222 = some (.slice none 0 0) := by kernel_rfl
@[simp] theorem ZqG : (Tryz.prog.info? 222).isSome = true := by kernel_rfl
attribute [simp] Tryz.underlying222
attribute [simp] Tryz.underlying227
@[simp] theorem z228 : Program.zeroOf Tryz.prog 228 = some .nilFunc := by kernel_rfl
@[simp] theorem ZqH : Tryz.prog.cellsOf 229 = 1 := by kernel_rfl
@[simp] theorem z229 : Program.zeroOf Tryz.prog 229 = some .nilFunc := by kernel_rfl
@[simp] theorem ZqI : (Tryz.prog.info? 229).isSome = true := by kernel_rfl
attribute [simp] Tryz.underlying229
@[simp] theorem ZqJ : Tryz.prog.cellsOf 231 = 2 := by kernel_rfl
@[simp] theorem ZqK : Program.zeroOf Tryz.prog 231 = some (.agg #[.nilFunc, (.int .i64 0)]) := by kernel_rfl
attribute [simp] Tryz.underlying231
@[simp] theorem ZqL : Program.zeroOf Tryz.prog 233 = some (.agg #[(.int .i64 0), (.int .i64 0), (.int .i64 0), (.int .i64 0), (.slice none 0 0), (.slice none 0 0), (.slice none 0 0)]) := by kernel_rfl
attribute [simp] Tryz.underlying233
attribute [simp] Tryz.underlying234
@[simp] theorem ZqM : Tryz.prog.cellsOf 237 = 1 := by kernel_rfl
@[simp] theorem ZqN : (Tryz.prog.info? 237).isSome = true := by kernel_rfl
attribute [simp] Tryz.underlying237
@[simp] theorem ZqO : Program.zeroOf Tryz.prog 239 = some (.agg #[(.int .i64 0), (.int .i64 0), (.int .i64 0), (.int .i64 0), (.slice none 0 0), (.slice none 0 0), (.slice none 0 0), (.slice none 0 0)]) := by kernel_rfl
attribute [simp] Tryz.underlying239
@[simp] theorem ZqP : Tryz.prog.cellsOf 241 = 4 := by kernel_rfl
@[simp] theorem ZqQ : Program.bytesOf' Tryz.prog 241 = some 80 := by kernel_rfl
@[simp] theorem ZqR : Program.zeroOf Tryz.prog 241 = some (.agg #[(.slice none 0 0), (.slice none 0 0), (.slice none 0 0), (.int .i64 0)]) := by kernel_rfl
attribute [simp] Tryz.underlying241
@[simp] theorem ZqS : Tryz.prog.cellsOf 243 = 1 := by kernel_rfl
@[simp] theorem ZqT : (Tryz.prog.info? 243).isSome = true := by kernel_rfl
attribute [simp] Tryz.underlying243
@[simp] theorem ZqU : Tryz.prog.cellsOf 244 = 1 := by kernel_rfl
@[simp] theorem ZqV : (Tryz.prog.info? 244).isSome = true := by kernel_rfl
attribute [simp] Tryz.underlying244
@[simp] theorem ZqW : Tryz.prog.cellsOf 246 = 2 := by kernel_rfl
@[simp] theorem ZqX : Program.zeroOf Tryz.prog 246 = some (.agg #[.nilFunc, .nilFunc]) := by kernel_rfl
@[simp] theorem ZqY : (Tryz.prog.info? 246).isSome = true := by kernel_rfl
attribute [simp] Tryz.underlying246
@[simp] theorem ZqZ : Tryz.prog.cellsOf 247 = 8 := by kernel_rfl
@[simp] theorem Zq0 : Program.zeroOf Tryz.prog 247 = some (.agg #[.nilFunc, .nilFunc, .nilFunc, .nilFunc, .nilFunc, .nilFunc, .nilFunc, .nilFunc]) := by kernel_rfl
attribute [simp] Tryz.underlying247
@[simp] theorem Zq1 : Tryz.prog.cellsOf 251 = 7 := by kernel_rfl
@[simp] theorem Zq2 : Program.zeroOf Tryz.prog 251 = some (.agg #[(.int .i64 0), (.int .i64 0), (.int .i64 0), (.int .i64 0), (.int .i64 0), (.int .i64 0), (.int .i64 0)]) := by kernel_rfl
attribute [simp] Tryz.underlying251
attribute [simp] Tryz.underlying256
@[simp] theorem Zq3 : Tryz.prog.cellsOf 259 = 3 := by kernel_rfl
@[simp] theorem Zq4 : Yo Tryz.prog 259 = true := by kernel_rfl
@[simp] theorem Zq5 : Program.zeroOf Tryz.prog 259 = some (.agg #[(.bool false), (.int .i64 0), (.int .i64 0)]) := by kernel_rfl
attribute [simp] Tryz.underlying259
attribute [simp] Tryz.underlying260
@[simp] theorem Zq6 : Tryz.prog.cellsOf 272 = 1 := by kernel_rfl
@[simp] theorem Zq7 : Program.zeroOf Tryz.prog 272 = some .nilFunc := by kernel_rfl
attribute [simp] Tryz.underlying272
@[simp] theorem Zq8 : Tryz.prog.cellsOf 273 = 1 := by kernel_rfl
@[simp] theorem Zq9 : Program.zeroOf Tryz.prog 273 = some (.slice none 0 0) := by kernel_rfl
attribute [simp] Tryz.underlying273
@[simp] theorem Zra : Tryz.prog.cellsOf 284 = 3 := by kernel_rfl
@[simp] theorem Zrb : Program.zeroOf Tryz.prog 284 = some (.agg #[(.int .i64 0), (.int .i64 0), (.int .i64 0)]) := by kernel_rfl
attribute [simp] Tryz.underlying284
@[simp] theorem Zrc : Tryz.prog.cellsOf 285 = 1 := by kernel_rfl
@[simp] theorem Zrd : Program.zeroOf Tryz.prog 285 = some (.pointer none) := by kernel_rfl
attribute [simp] Tryz.underlying285
@[simp] theorem Zre : Tryz.prog.cellsOf 286 = 1 := by kernel_rfl
@[simp] theorem Zrf : (Tryz.prog.info? 286).isSome = true := by kernel_rfl
attribute [simp] Tryz.underlying286
@[simp] theorem Zrg : Program.zeroOf Tryz.prog 288 = some (.agg #[(.int .i64 0), (.int .i64 0), (.int .i64 0), (.int .i64 0), (.slice none 0 0), (.slice none 0 0), (.slice none 0 0), (.int .i64 0), (.map none)]) := by kernel_rfl
attribute [simp] Tryz.underlying288
attribute [simp] Tryz.underlying296
attribute [simp] Tryz.underlying297
attribute [simp] Tryz.underlying303
attribute [simp] Tryz.underlying311
@[simp] theorem Zrh : Tryz.prog.cellsOf 312 = 1 := by kernel_rfl
@[simp] theorem Zri : Program.bytesOf' Tryz.prog 312 = some 24 := by kernel_rfl
@[simp] theorem Zrj : Program.zeroOf Tryz.prog 312 = some (.slice none 0 0) := by kernel_rfl
attribute [simp] Tryz.underlying312
attribute [simp] Tryz.underlying318
attribute [simp] Tryz.underlying321
@[simp] theorem Zrk : Tryz.prog.cellsOf 323 = 1 := by kernel_rfl
@[simp] theorem Zrl : (Tryz.prog.info? 323).isSome = true := by kernel_rfl
attribute [simp] Tryz.underlying323
@[simp] theorem Zrm : Tryz.prog.cellsOf 325 = 2 := by kernel_rfl
@[simp] theorem Zrn : Program.zeroOf Tryz.prog 325 = some (.agg #[(.slice none 0 0), (.map none)]) := by kernel_rfl
@[simp] theorem Zro : (Tryz.prog.info? 325).isSome = true := by kernel_rfl
attribute [simp] Tryz.underlying325
@[simp] theorem Zrp : Program.zeroOf Tryz.prog 327 = some (.agg #[(.slice none 0 0), (.map none)]) := by kernel_rfl
attribute [simp] Tryz.underlying327
attribute [simp] Tryz.underlying330
@[simp] theorem Zrq : Tryz.prog.cellsOf 332 = 2 := by kernel_rfl
@[simp] theorem Zrr : Program.bytesOf' Tryz.prog 332 = some 16 := by kernel_rfl
@[simp] theorem Zrs : Program.zeroOf Tryz.prog 332 = some (.agg #[(.int .i64 0), (.int .i64 0)]) := by kernel_rfl
attribute [simp] Tryz.underlying332
attribute [simp] Tryz.underlying333
theorem ZgW : qy Tryz.prog 263 := qE Tryz.func263 (by kernel_rfl) rfl
theorem ZgX : qy Tryz.prog 264 := qE Tryz.func264 (by kernel_rfl) rfl
theorem ZgY : qy Tryz.prog 274 := qE Tryz.func274 (by kernel_rfl) rfl
theorem ZgZ : qy Tryz.prog 275 := qE Tryz.func275 (by kernel_rfl) rfl
theorem Zg0 : qy Tryz.prog 276 := qE Tryz.func276 (by kernel_rfl) rfl
theorem Zbr : qy Tryz.prog 283 := qE Tryz.func283 (by kernel_rfl) rfl
theorem Zg1 : qy Tryz.prog 284 := qE Tryz.func284 (by kernel_rfl) rfl
theorem Zg2 : qy Tryz.prog 286 := qE Tryz.func286 (by kernel_rfl) rfl
theorem Zbs : qy Tryz.prog 319 := qE Tryz.func319 (by kernel_rfl) rfl
theorem WA : qy Tryz.prog 320 := qE Tryz.func320 (by kernel_rfl) rfl
theorem Zg3 : qy Tryz.prog 321 := qE Tryz.func321 (by kernel_rfl) rfl
theorem Zg4 : qy Tryz.prog 322 := qE Tryz.func322 (by kernel_rfl) rfl
theorem WB : qy Tryz.prog 323 := qE Tryz.func323 (by kernel_rfl) rfl
end Go.Proofs.YtcnbiofjmioaiaaGreat.Pv
