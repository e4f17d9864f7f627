/- Ghost layer, part 10: calls, the way into a function and out of it, ghost steps, new objects. -/
import Derived.Test.YtafcjklojnhbnaaGreatGi
import Derived.Laws.StructEq
namespace Go.Proofs.YtafcjklojnhbnaaGreat.Pv
open Go

/-- What a call gives, said of pure values. -/
def PCalls (P : Program) (f : FuncId) (args : List PV) (S : Store) (Q : PV → Store → Prop) : Prop :=
  ∀ (C : Ctx) (w : World) (vs : Array Value), Sim C S w → args.length = vs.size → (∀ (i : Nat) (c : PV) (v : Value), args[i]? = some c → vs[i]? = some v → Rel C S w c v) →
    Calls P f vs w fun e w' => ∃ p v S' C', e = .returned v ∧ Q p S' ∧ Rel C' S' w' p v ∧ Sim C' S' w' ∧ Step C S w C' S' w'

theorem PCalls.mono {P : Program} {f : FuncId} {args : List PV} {S : Store} {Q Q' : PV → Store → Prop} (h : PCalls P f args S Q) (hq : ∀ p S', Q p S' → Q' p S') : PCalls P f args S Q' := by
  intro C w vs h1 h2 h3
  refine (h C w vs h1 h2 h3).mono ?_
  rintro e w' ⟨p, v, S', C', a, b, c⟩
  exact ⟨p, v, S', C', a, hq _ _ b, c⟩

/-- The same, where V is known of memory. -/
def PCallsV (P : Program) (V : Ctx → Store → World → Prop) (f : FuncId) (args : List PV) (S : Store) (Q : PV → Store → Prop) : Prop :=
  ∀ (C : Ctx) (w : World) (vs : Array Value), Sim C S w → V C S w → args.length = vs.size → (∀ (i : Nat) (c : PV) (v : Value), args[i]? = some c → vs[i]? = some v → Rel C S w c v) →
    Calls P f vs w fun e w' => ∃ p v S' C', e = .returned v ∧ Q p S' ∧ Rel C' S' w' p v ∧ Sim C' S' w' ∧ Step C S w C' S' w'

theorem PCalls.v {P : Program} {V : Ctx → Store → World → Prop} {f : FuncId} {args : List PV} {S : Store} {Q : PV → Store → Prop} (h : PCalls P f args S Q) : PCallsV P V f args S Q := fun C w vs hS _ => h C w vs hS
theorem PCallsV.mono {P : Program} {V : Ctx → Store → World → Prop} {f : FuncId} {args : List PV} {S : Store} {Q Q' : PV → Store → Prop} (h : PCallsV P V f args S Q) (hq : ∀ p S', Q p S' → Q' p S') : PCallsV P V f args S Q' := by
  intro C w vs h1 h2 h3 h4
  refine (h C w vs h1 h2 h3 h4).mono ?_
  rintro e w' ⟨p, v, S', C', a, b, c⟩
  exact ⟨p, v, S', C', a, hq _ _ b, c⟩

def Enters (P : Program) (f : FuncId) : Prop := ∀ (args : Array Value) (w : World), (callFunc f args).run P w = .ok (.enter f args) w

section
variable {P : Program} {r : Rd} {n N : Nat} {Q : Exit → (Nat → PV) → Store → Prop} {F : Nat → PV} {S : Store}

theorem calls_in {f : FuncId} {args : Array Value} {w : World} {R : Ending → World → Prop} (h : Calls P f args w R) : CallsIn (Fe r) n P f args w R := by
  exact (callsIn_wide (n := n)).2 h

/-- A call of a function value that is known. -/
theorem po_callV {o : Oper} {c : Call} {x : Operand} {k : FuncId} {fs cs : List PV} {K : PV → Store → Prop} {R : PV → Store → Prop} (ho : o.op = .call c) (hc : c.callee = .value x) (hx : ev F x = .fn (.func k) fs cs) (hE : Enters P k)
    (h : PCallsV P r.V k (fs ++ c.args.toList.map (ev F) ++ cs) S R) (hK : ∀ p S', R p S' → K p S') : PO P r n o F S K := by
  intro G hG C w a N st next Q' hnext
  have hxo : x ∈ o.op.operands := by simp [ho, Op.operands, Call.operands, hc]
  have hxG : ev G x = .fn (.func k) fs cs := (hG x hxo).trans hx
  have harg : ∀ y ∈ c.args.toList, ev G y = ev F y := fun y hy => hG y (by simp only [ho, Op.operands, Call.operands, Array.mem_append]; exact .inr (Array.mem_toList_iff.1 hy))
  have hmap : c.args.toList.map (ev F) = c.args.toList.map (ev G) := List.map_congr_left fun y hy => (harg y hy).symm
  rw [hmap] at h
  have hrel := st.ev x
  rw [hxG] at hrel
  generalize hv : a.eval x = v at hrel
  cases hrel with
  | fn hf hc' h1 h2 =>
    rename_i fv cv
    have hrun : (execOp a.eval o).run P w = .ok (.enter k ((fv ++ c.args.map a.eval) ++ cv)) w := by
      unfold execOp
      simp only [ho, resolve, hc, hv, Deferred.ofValue, Sem.run_bind, Sem.run_pure, Result.andThen_ok, invoke]
      exact hE _ w
    refine wpIn_of_run (x := .enter k ((fv ++ c.args.map a.eval) ++ cv)) (w' := w) (by intro c' hc'; rw [ho] at hc'; cases hc') hrun ?_
    rw [Oper.uponIn_enter]
    refine ⟨fun hd => ?_, ?_⟩
    · cases hd
    · have hlist := relList (l := c.args.toList) st.ev
      simp only [Array.toArray_toList] at hlist
      have key := h C w ((fv ++ c.args.map a.eval) ++ cv) st.sim st.v (by simp [hf, hc']) (by
        intro i p v hp hv
        by_cases q1 : i < fs.length
        · rw [List.append_assoc, List.getElem?_append_left q1] at hp
          rw [Array.append_assoc, Array.getElem?_append_left (by omega)] at hv
          exact h1 i p v hp hv
        · by_cases q2 : i < fs.length + (c.args.toList.map (ev G)).length
          · rw [List.append_assoc, List.getElem?_append_right (by omega), List.getElem?_append_left (by omega)] at hp
            rw [Array.append_assoc, Array.getElem?_append_right (by omega), Array.getElem?_append_left (by simp at q2 ⊢; omega)] at hv
            rw [← hf] at hv
            exact hlist.2 _ p v hp hv
          · rw [List.getElem?_append_right (by simp at q2 ⊢; omega), List.length_append] at hp
            rw [Array.getElem?_append_right (by simp at q2 ⊢; omega), Array.size_append] at hv
            have e : fs.length + (c.args.toList.map (ev G)).length = fv.size + (c.args.map a.eval).size := by simp [hf]
            rw [← e] at hv
            exact h2 _ p v hp hv)
      refine (calls_in key).mono ?_
      rintro e w' ⟨p, v, S', C', rfl, hq, hr, hs, hst⟩
      exact hnext v w' C' S' p (hK _ _ hq) hr hs hst

theorem po_call {o : Oper} {c : Call} {x : Operand} {k : FuncId} {fs cs : List PV} {K : PV → Store → Prop} {R : PV → Store → Prop} (ho : o.op = .call c) (hc : c.callee = .value x) (hx : ev F x = .fn (.func k) fs cs) (hE : Enters P k)
    (h : PCalls P k (fs ++ c.args.toList.map (ev F) ++ cs) S R) (hK : ∀ p S', R p S' → K p S') : PO P r n o F S K :=
  po_callV ho hc hx hE h.v hK

/-! ### Into a function, and out of it -/

def frame0 (args : List PV) : Nat → PV := fun i => args.getD i (.sc undef)

def resL (P : Program) (F : Nat → PV) (S : Store) : List ResultVar → Option (List PV)
  | [] => some []
  | .tmp t :: rs => (resL P F S rs).map (F t :: ·)
  | .cell a t :: rs =>
    match loadP P t S (F a) with
    | some p => (resL P F S rs).map (p :: ·)
    | none => none

def oneOf : List PV → PV
  | [p] => p
  | ps => .tup ps

def retQ (P : Program) (rs : List ResultVar) (Q : PV → Store → Prop) : Exit → (Nat → PV) → Store → Prop
  | .normal, F, S => ∃ ps S', resL P F S rs = some ps ∧ Q (oneOf ps) S' ∧ ∀ o, S' o = S o ∨ S' o = .dead
  | .ret, F, S => ∃ ps S', resL P F S rs = some ps ∧ Q (oneOf ps) S' ∧ ∀ o, S' o = S o ∨ S' o = .dead
  | _, _, _ => False

def resOne (a : Act) (x : ResultVar) : Sem Value :=
  match x with
  | .tmp t => pure (a.tmps.getD t undef)
  | .cell x t => do loadVar t (← asAddr (a.tmps.getD x undef))

theorem resL_sound {C : Ctx} {w : World} {a : Act} (st : St r C S w N F a) : ∀ (rs : List ResultVar) (ps : List PV), resL P F S rs = some ps →
    ∃ vs : List Value, (rs.mapM (resOne a)).run P w = .ok vs w ∧ ps.length = vs.length ∧
      ∀ (i : Nat) (p : PV) (v : Value), ps[i]? = some p → vs[i]? = some v → Rel C S w p v := by
  intro rs
  induction rs with
  | nil => intro ps h; cases h; exact ⟨[], by simp, rfl, by simp⟩
  | cons x rs ih =>
    intro ps h
    cases x with
    | tmp t =>
      simp only [resL] at h
      obtain ⟨qs, hq, rfl⟩ := Option.map_eq_some_iff.1 h
      obtain ⟨vs, h1, h2, h3⟩ := ih qs hq
      refine ⟨a.tmps.getD t undef :: vs, ?_, by simp [h2], ?_⟩
      · simp only [List.mapM_cons, resOne, Sem.run_bind, Sem.run_pure, Result.andThen_ok, h1]
      · intro i p v hp hv
        cases i with
        | zero => simp only [List.getElem?_cons_zero, Option.some.injEq] at hp hv; subst hp; subst hv; exact st.fr t
        | succ i => exact h3 i p v (by simpa using hp) (by simpa using hv)
    | cell y t =>
      simp only [resL] at h
      split at h
      · rename_i p0 hp0
        obtain ⟨qs, hq, rfl⟩ := Option.map_eq_some_iff.1 h
        obtain ⟨vs, h1, h2, h3⟩ := ih qs hq
        obtain ⟨u, hu, hrel⟩ := loadP_sound hp0 st.sim (st.fr y)
        have haddr : ∃ ad, a.tmps.getD y undef = .pointer (some ad) := by
          have hy := st.fr y
          generalize a.tmps.getD y undef = u0 at hy
          unfold loadP at hp0
          split at hp0
          · rename_i e; rw [e] at hy; cases hy with | ptr hh => exact hh
          · rename_i e; rw [e] at hy; cases hy with | ip => exact ⟨_, rfl⟩
          · cases hp0
        obtain ⟨ad, had⟩ := haddr
        rw [had] at hu
        refine ⟨u :: vs, ?_, by simp [h2], ?_⟩
        · simp only [Instr.loadAt, Instr.sureAddr, Sem.run_bind, Sem.run_pure, Result.andThen_ok] at hu
          simp only [List.mapM_cons, resOne, Sem.run_bind, had, asAddr, Sem.run_pure, Result.andThen_ok, hu, h1]
        · intro i p v hp hv
          cases i with
          | zero => simp at hp hv; subst hp; subst hv; exact hrel
          | succ i => exact h3 i p v (by simpa using hp) (by simpa using hv)
      · cases h

theorem results_sound {C : Ctx} {w : World} {a : Act} (st : St r C S w N F a) {fn : Func} {rs : List ResultVar} (hrs : fn.results.toList = rs) {ps : List PV} (h : resL P F S rs = some ps) :
    ∃ v, (results fn a.tmps).run P w = .ok v w ∧ Rel C S w (oneOf ps) v := by
  obtain ⟨vs, h1, h2, h3⟩ := resL_sound (P := P) st rs ps h
  have hm : (fn.results.mapM (resOne a)).run P w = .ok vs.toArray w := by
    rw [← Array.toArray_toList (xs := fn.results), List.mapM_toArray, hrs]
    simp only [Sem.run_map, h1, Result.andThen_ok]
  have e : ∀ g : ResultVar → Sem Value, g = resOne a → (fn.results.mapM g).run P w = .ok vs.toArray w := by rintro g rfl; exact hm
  unfold results
  rw [Sem.run_bind, e _ (by funext x; cases x <;> rfl)]
  simp only [Result.andThen_ok, Sem.run_pure]
  refine ⟨_, rfl, ?_⟩
  match vs, ps, h2 with
  | [v], [p], _ => exact h3 0 p v rfl rfl
  | [], [], _ => exact .tup rfl (by simp)
  | v :: v' :: vs, p :: p' :: ps, h2 =>
    simp only [List.size_toArray, List.length_cons]
    rw [dif_neg (by omega)]
    exact .tup (by simpa using h2) (fun i c v hc hv => h3 i c v hc (by simpa using hv))

theorem keep_take {w : World} {D : Nat} (hD : w.heap[D]? = some (.deferred (some []))) (b : Nat) (o : Obj) (hb : w.heap[b]? = some o) (ho : ∀ x, o ≠ .deferred x) : (w.putObj D (.deferred none)).heap[b]? = some o := by
  rw [World.putObj_heap_other (by rintro rfl; rw [hD] at hb; cases hb; exact ho _ rfl)]; exact hb

theorem rel_take {C : Ctx} {w : World} {D : Nat} (hD : w.heap[D]? = some (.deferred (some []))) {p : PV} {v : Value} (hr : Rel C S w p v) : Rel C S (w.putObj D (.deferred none)) p v := by
  have hne := keep_take hD
  induction hr with
  | junk v => exact .junk v
  | sc v => exact .sc v
  | agg hl h1 _ ih => exact .agg hl h1 ih
  | tup hl _ ih => exact .tup hl ih
  | lst0 => exact .lst0
  | lst1 hn hm hb hM' hs h1 _ ih => exact .lst1 hn hm (hne _ _ hb (by intro x e; cases e)) hM' hs h1 ih
  | ip hb hM' hs h1 _ ih => exact .ip (hne _ _ hb (by intro x e; cases e)) hM' hs h1 ih
  | ptr h1 ho h => exact .ptr h1 ho h
  | sl h1 ho h => exact .sl h1 ho h
  | fn hf hc _ _ ih ih' => exact .fn hf hc ih ih'
  | ifc _ ih => exact .ifc ih
  | mp h1 ho h => exact .mp h1 ho h

/-- A mark taken. -/
theorem Sim.take {C : Ctx} {S : Store} {w : World} (h : Sim C S w) {D : Nat} (hD : w.heap[D]? = some (.deferred (some []))) (_ : ¬ C.M S D) : Sim C S (w.putObj D (.deferred none)) := by
  have hne := keep_take hD
  have hrel : ∀ {p v}, Rel C S w p v → Rel C S (w.putObj D (.deferred none)) p v := fun hr => rel_take hD hr
  refine ⟨h.lt, h.clk, h.dist, ?_, ?_⟩
  · intro o ver e cs hs
    rcases h.cells o ver e cs hs with hn | ⟨b, k, c, h1, h2, h3, h4, h5, h6⟩
    · exact .inl hn
    · exact .inr ⟨b, k, c, h1, hne _ _ h2 (by intro x e; cases e), h3, h4, h5, fun i p v hp hv => hrel (h6 i p v hp hv)⟩
  · intro o ver es hs
    obtain ⟨b, k, ms, cl, h1, h2, h3, h4⟩ := h.maps o ver es hs
    exact ⟨b, k, ms, cl, h1, hne _ _ h2 (by intro x e; cases e), h3, fun i e m he hm => ⟨(h4 i e m he hm).1, hrel (h4 i e m he hm).2⟩⟩

theorem Marks.take {n0 : Nat} {C : Ctx} {S : Store} {w : World} {D : Nat} : ∀ {ds : List Deferred}, (∀ d ∈ ds, d ≠ { target := .collected D, args := #[] }) → Marks n0 C S w ds → Marks n0 C S (w.putObj D (.deferred none)) ds
  | [], _, _ => trivial
  | d :: ds, hne, ⟨⟨D', h1, h2, h3, h4, h5⟩, h⟩ => by
    refine ⟨⟨D', h1, h2, ?_, h4, h5⟩, Marks.take (fun d' hd' => hne d' (by simp [hd'])) h⟩
    rw [World.putObj_heap_other (by rintro rfl; exact hne d (by simp) h2)]; exact h3

theorem leaves_ok {C0 : Ctx} {S0 : Store} {w0 : World} {fn : Func} {tmps : Array Value} {rs : List ResultVar} {Q : PV → Store → Prop} {S1 : Store} {ps : List PV} (hrs : fn.results.toList = rs) (h1 : resL P F S rs = some ps) (hQ : Q (oneOf ps) S1) (hk : ∀ o, S1 o = S o ∨ S1 o = .dead) :
    ∀ (ds : List Deferred) (C : Ctx) (w : World), Marks w0.heap.size C S w ds → St nor C S w N F { tmps := tmps, defers := [] } → Step C0 S0 w0 C S w →
      LeavesInM (Fe nor) 0 P fn tmps (fun e w' => ∃ p v S' C', e = .returned v ∧ Q p S' ∧ Rel C' S' w' p v ∧ Sim C' S' w' ∧ Step C0 S0 w0 C' S' w') ds .returning w := by
  intro ds
  induction ds with
  | nil =>
    intro C w _ st step
    obtain ⟨v, hv, hrel⟩ := results_sound (a := { tmps := tmps, defers := [] }) st hrs h1
    obtain ⟨k1, k2⟩ := st.sim.kill hk
    exact ⟨v, hv, _, v, S1, C, rfl, hQ, hrel.mono k2, k1, step.trans k2⟩
  | cons d ds ih =>
    intro C w ⟨⟨D, q1, q2, q3, q4, q5⟩, hm⟩ st step
    refine ⟨by simp, .inl ⟨D, w.putObj D (.deferred none), by rw [q2], run_takeDeferred q3, ?_⟩⟩
    have hDlt := lt_of_heap q3
    have sim' := st.sim.take q3 q4
    refine ih C _ (Marks.take (fun d' hd' => q2 ▸ q5 d' hd') hm) ⟨sim', st.size, fun i => ?_, trivial⟩ ?_
    · have hr := st.fr i
      generalize (({ tmps := tmps, defers := [] } : Act).tmps.getD i undef) = v at hr ⊢
      generalize F i = p at hr ⊢
      exact rel_take q3 hr
    · refine ⟨step.os, step.tape, step.output, by simpa using step.size, step.next, step.clock, fun b hb hM => ?_, step.vers⟩
      obtain ⟨k1, k2⟩ := step.blocks b hb hM
      exact ⟨by rw [World.putObj_heap_other (by omega)]; exact k1, k2⟩

theorem pcallsV_of_pw {V : Ctx → Store → World → Prop} {keep : ∀ {C C' : Ctx} {S S' : Store} {w w' : World}, Step C S w C' S' w' → V C S w → V C' S' w'} {f : FuncId} {fn : Func} {c : Code} {rs : List ResultVar} {args : List PV} {Q : PV → Store → Prop} (hf : P.funcs[f]? = some fn) (hb : fn.body = some c) (hN : fn.ntmps = N) (hrs : fn.results.toList = rs) (hargs : args.length ≤ N)
    (h : PW P ⟨none, V, keep⟩ 0 N c (retQ P rs Q) (frame0 args) S) : PCallsV P V f args S Q := by
  intro C w vs hS hV hl hr
  refine (callsIn_wide (n := 0)).1 (callsIn_of_wp_marks hf hb trivial ?_ rfl)
  have st : St ⟨none, V, keep⟩ C S w N (frame0 args) { tmps := vs ++ Array.replicate (fn.ntmps - vs.size) undef, defers := [] } := by
    refine ⟨hS, by simp [hN]; omega, fun i => ?_, hV⟩
    unfold frame0
    simp only [Array.getD_eq_getD_getElem?, List.getD_eq_getElem?_getD]
    by_cases hi : i < args.length
    · rw [List.getElem?_eq_getElem hi, Array.getElem?_append_left (by omega), Array.getElem?_eq_getElem (by omega)]
      simp only [Option.getD_some]
      exact hr i _ _ (List.getElem?_eq_getElem hi) (Array.getElem?_eq_getElem (by omega))
    · rw [List.getElem?_eq_none (by omega), Array.getElem?_append_right (by omega), Array.getElem?_replicate]
      split <;> exact .sc _
  refine wpIn_mono (h C w _ st) ?_
  rintro e a' w' ⟨F', S', C', hq, hst, ⟨ms, hd, hm⟩, hstep⟩
  have main : (∃ ps S'', resL P F' S' rs = some ps ∧ Q (oneOf ps) S'' ∧ ∀ o, S'' o = S' o ∨ S'' o = .dead) →
      LeavesInM (Fe nor) 0 P fn a'.tmps (fun e w' => ∃ p v S' C', e = .returned v ∧ Q p S' ∧ Rel C' S' w' p v ∧ Sim C' S' w' ∧ Step C S w C' S' w') a'.defers .returning w' := by
    rintro ⟨ps, S'', h1, h2, h3⟩
    rw [hd, List.append_nil]
    exact leaves_ok hrs h1 h2 h3 ms C' w' hm ⟨hst.sim, hst.size, hst.fr, trivial⟩ hstep
  cases e with
  | normal => exact main hq
  | ret => exact main hq
  | _ => exact hq.elim

theorem pcalls_of_pw {f : FuncId} {fn : Func} {c : Code} {rs : List ResultVar} {args : List PV} {Q : PV → Store → Prop} (hf : P.funcs[f]? = some fn) (hb : fn.body = some c) (hN : fn.ntmps = N) (hrs : fn.results.toList = rs) (hargs : args.length ≤ N)
    (h : PW P nor 0 N c (retQ P rs Q) (frame0 args) S) : PCalls P f args S Q :=
  fun C w vs hS hl hr => pcallsV_of_pw hf hb hN hrs hargs h C w vs hS trivial hl hr

/-! ### Ghost steps -/

/-- What is known may be told otherwise. -/
theorem pw_ghost {c : Code} {F' : Nat → PV} {S' : Store} (hg : ∀ C w a, St r C S w N F a → ∃ C', St r C' S' w N F' a ∧ Step C S w C' S' w) (h : PW P r n N c Q F' S') : PW P r n N c Q F S := by
  intro C w a st
  obtain ⟨C', st', hstep⟩ := hg C w a st
  refine wpIn_mono (h C' w a st') ?_
  rintro e a' w' ⟨F2, S2, C2, h1, h2, h3, h4⟩
  exact ⟨F2, S2, C2, h1, h2, h3, hstep.trans h4⟩

/-- A frame of which less is said. -/
theorem pw_forget {c : Code} {F' : Nat → PV} (hF : ∀ i, F' i = F i ∨ F' i = .junk) (h : PW P r n N c Q F' S) : PW P r n N c Q F S :=
  pw_ghost (fun C w a st => ⟨C, ⟨st.sim, st.size, fun i => by rcases hF i with e | e <;> rw [e]; exact st.fr i; exact .junk _, st.v⟩, .refl _ _ _⟩) h

/-- A row of operations that turn nothing and look at no object, reckoned out. -/
def runI (P : Program) (ops : Array Oper) : List Oper → (Nat → PV) → Option (Nat → PV)
  | [], F => some F
  | o :: os, F =>
    match gd ops F o with
    | none => none
    | some false => runI P ops os (updO F o.dst (.sc undef))
    | some true =>
      match popI P F o with
      | some p => runI P ops os (updO F o.dst p)
      | none => none

theorem prl_of_run {ops : Array Oper} {K : (Nat → PV) → Store → Prop} : ∀ (l : List Oper) (F F' : Nat → PV), runI P ops l F = some F' → K F' S → PRl P r n [] ops l F S K
  | [], F, F', h, hK => by cases h; exact hK
  | o :: os, F, F', h, hK => by
    have hb : byHand [] o = false := by unfold byHand; split <;> rfl
    simp only [runI] at h
    simp only [PRl]
    split at h
    · cases h
    · rename_i hg; simp only [hg]; exact prl_of_run os _ _ h hK
    · rename_i hg
      simp only [hg, hb, Bool.false_eq_true, if_false]
      split at h
      · rename_i p hp; simp only [hp]; exact prl_of_run os _ _ h hK
      · cases h

/-- A region that draws no order and turns nothing. -/
theorem pw_R {id : Nat} {ops : Array Oper} {F' : Nat → PV} (hN : dstsBelow N ops = true) (h : runI P ops ops.toList F = some F') (hQ : Q .normal F' S) : PW P r n N (.region id ops false) Q F S :=
  pw_region [] hN (prl_of_run _ _ _ h hQ)

/-- A region whose operations are looked at one by one. -/
theorem pw_L {id : Nat} {ops : Array Oper} (H : List Nat) (hN : dstsBelow N ops = true) (h : ∀ K : (Nat → PV) → Store → Prop, (∀ F' S', Q .normal F' S' → K F' S') → PRl P r n H ops ops.toList F S K) : PW P r n N (.region id ops false) Q F S :=
  pw_region H hN (h _ fun _ _ h => h)

/-- A row of operations that turn nothing (loads too), reckoned out. -/
def runD (P : Program) (ops : Array Oper) (S : Store) : List Oper → (Nat → PV) → Option (Nat → PV)
  | [], F => some F
  | o :: os, F =>
    match gd ops F o with
    | none => none
    | some false => runD P ops S os (updO F o.dst (.sc undef))
    | some true =>
      match popI P F o with
      | some p => runD P ops S os (updO F o.dst p)
      | none =>
        match loadT P none S F o with
        | some p => runD P ops S os (updO F o.dst p)
        | none => none

/-- A region that draws its order, and turns nothing: reckoned out in the text's order. -/
theorem pw_D {id : Nat} {ops : Array Oper} {F' : Nat → PV} (hm : P.follows .mixedOrders = true) (hN : dstsBelow N ops = true) (hR : regOk ops = true) (hrow : rowOk ops [] [] (Row.pures (List.range ops.size) .done) = true)
    (h : runD P ops S ops.toList F = some F') (hQ : Q .normal F' S) : PW P r n N (.region id ops true) Q F S := by
  refine pw_draw none (Row.pures (List.range ops.size) .done) hm hN hR hrow ?_
  have key : ∀ (m k : Nat) (G : Nat → PV), ops.size - k = m → runD P ops S (ops.toList.drop k) G = some F' → PX P r n ops none S (Row.pures ((List.range ops.size).drop k) .done) G S (Q .normal) := by
    intro m
    induction m with
    | zero =>
      intro k G hk hrun
      rw [List.drop_eq_nil_of_le (by simp; omega)] at hrun ⊢
      cases hrun; exact hQ
    | succ m ih =>
      intro k G hk hrun
      have hlt : k < ops.size := by omega
      rw [range_drop k _ hlt]
      have e2 : ops.toList.drop k = ops[k] :: ops.toList.drop (k + 1) := by
        rw [List.drop_eq_getElem_cons (by simpa using hlt)]; simp
      rw [e2] at hrun
      have hget : ops[k]? = some ops[k] := by simp
      simp only [runD] at hrun
      simp only [Row.pures, PX, hget]
      split at hrun
      · cases hrun
      · rename_i hg; simp only [hg]; exact ih (k + 1) _ (by omega) hrun
      · rename_i hg
        simp only [hg]
        split at hrun
        · rename_i p hp; simp only [hp]; exact ih (k + 1) _ (by omega) hrun
        · rename_i hp
          simp only [hp]
          split at hrun
          · rename_i p hl; simp only [hl]; exact ih (k + 1) _ (by omega) hrun
          · cases hrun
  exact key ops.size 0 F rfl (by simpa using h)

/-- A region that draws its order, looked at operation by operation. -/
theorem pw_X {id : Nat} {ops : Array Oper} (ids : Option (List Nat)) (row : Row) (hm : P.follows .mixedOrders = true) (hN : dstsBelow N ops = true) (hR : regOk ops = true) (hrow : rowOk ops [] [] row = true)
    (h : ∀ K : (Nat → PV) → Store → Prop, (∀ F' S', Q .normal F' S' → K F' S') → PX P r n ops ids S row F S K) : PW P r n N (.region id ops true) Q F S :=
  pw_draw ids row hm hN hR hrow (h _ fun _ _ h => h)

end
end Go.Proofs.YtafcjklojnhbnaaGreat.Pv

/- Ghost layer, part 11: operations that make objects: variables, make, append. -/
namespace Go.Proofs.YtafcjklojnhbnaaGreat.Pv
open Go

section
variable {P : Program} {r : Rd} {n N : Nat} {Q : Exit → (Nat → PV) → Store → Prop} {F : Nat → PV} {S : Store}

theorem relL_cells {C : Ctx} {w : World} {cs : List PV} {vs : Array Value} (h : RelL C S w cs vs) : cs.length ≤ vs.size ∧ (∀ (i : Nat) (v : Value), i < cs.length → vs[i]? = some v → v.oneCell' = true) ∧
    ∀ (i : Nat) (p : PV) (v : Value), cs[i]? = some p → vs[i]? = some v → Rel C S w p v :=
  ⟨by rw [h.1]; exact Nat.le_refl _, fun i v _ hv => h.2.1 i v hv, h.2.2⟩

theorem rel_newptr' (C : Ctx) (S : Store) (w w' : World) (o ver k : Nat) (x : Ob) (hx : x.ver = some ver) : Rel (C.put o ver (some (w.heap.size, k))) (S.set o x) w' (.ptr o ver 0) (.pointer (some ⟨w.heap.size, 0, none⟩)) := by
  refine .ptr ⟨_, rfl⟩ (by simp only [Ctx.put]; omega) fun v0 hv0 => ?_
  rw [Store.set_same, hx] at hv0
  cases hv0
  exact ⟨Nat.le_refl _, fun _ => ⟨w.heap.size, k, by simp [Ctx.put], rfl⟩⟩

theorem Fresh.clock (C : Ctx) {S : Store} {j : Nat} (h : S j = .dead) : Fresh C S j C.clock := ⟨h, .inr (Nat.le_refl _)⟩

/-- A new variable. -/
theorem po_alloc0 {o : Oper} {t : TypeId} {z : Value} {K : PV → Store → Prop} (ho : o.op = .alloc t) (hz : Program.zeroOf P t = some z) (h1 : z.cells.all (·.oneCell') = true)
    (hK : ∀ C : Ctx, S C.next = .dead → ∃ id v, Fresh C S id v ∧ K (.ptr id v 0) (S.set id (.cells v t (zeroCellsOf z)))) : PO P r n o F S K := by
  intro G _ C w a N st next Q' hnext
  have hr := relL_cells (relL_zero (C := C) (S := S) (w := w) h1)
  obtain ⟨id, ver, hfr, hK⟩ := hK C st.sim.free
  obtain ⟨k1, k2⟩ := st.sim.object' hfr t z.cells (zeroCellsOf z) hr.1 hr.2.1 hr.2.2
  refine wpIn_of_run (x := .value (.pointer (some ⟨w.heap.size, 0, none⟩))) (w' := w.alloc (.cells z.cells t)) (by intro c hc; rw [ho] at hc; cases hc) ?_ (hnext _ _ _ _ _ hK (rel_newptr' C S w _ _ _ _ _ rfl) k1 k2)
  unfold execOp
  simp only [ho, Instr.alloc, Sem.run_bind, run_zeroValue hz, Result.andThen_ok, newVar, newRow, Sem.run_pure, run_newObj, World.alloc_eq]

/-- A new variable that holds a value. -/
theorem po_box0 {o : Oper} {t : TypeId} {x : Operand} {K : PV → Store → Prop} (ho : o.op = .box t x) (hf : (ev F x).fit = true)
    (hK : ∀ C : Ctx, S C.next = .dead → ∃ id v, Fresh C S id v ∧ K (.ptr id v 0) (S.set id (.cells v t (ev F x).cells))) : PO P r n o F S K := by
  intro G hG C w a N st next Q' hnext
  have e : ev G x = ev F x := hG x (by simp [ho, Op.operands])
  rw [← e] at hf
  simp only [← e] at hK
  have hr := relL_cells ((st.ev x).cells' hf)
  obtain ⟨id, ver, hfr, hK⟩ := hK C st.sim.free
  obtain ⟨k1, k2⟩ := st.sim.object' hfr t (a.eval x).cells (ev G x).cells hr.1 hr.2.1 hr.2.2
  refine wpIn_of_run (x := .value (.pointer (some ⟨w.heap.size, 0, none⟩))) (w' := w.alloc (.cells (a.eval x).cells t)) (by intro c hc; rw [ho] at hc; cases hc) ?_ (hnext _ _ _ _ _ hK (rel_newptr' C S w _ _ _ _ _ rfl) k1 k2)
  unfold execOp
  simp only [ho, Instr.box, newVar, newRow, Sem.run_bind, run_newObj, Result.andThen_ok, Sem.run_pure, World.alloc_eq]

theorem rel_newsl (C : Ctx) (S : Store) (w w' : World) (o ver k sz m cap : Nat) (x : Ob) (hx : x.ver = some ver) (hm : m ≤ cap) (hM : m ≤ maxN) (hc : cap ≤ maxLen) (hk : cap * sz = k) :
    Rel (C.put o ver (some (w.heap.size, k))) (S.set o x) w' (.sl o ver sz 0 m) (.slice (some ⟨w.heap.size, 0, none⟩) m cap) := by
  refine .sl ⟨_, _, rfl, hm, hM, hc, fun _ => ⟨_, _, rfl⟩⟩ (by simp only [Ctx.put]; omega) fun v0 hv0 => ?_
  rw [Store.set_same, hx] at hv0
  cases hv0
  exact ⟨Nat.le_refl _, fun _ => .inr ⟨w.heap.size, k, _, _, by simp [Ctx.put], rfl, fun _ => ⟨rfl, hk⟩, fun _ => rfl⟩⟩

def Program.bytesOf' (P : Program) (t : TypeId) : Option Nat := (P.info? t).map (·.bytes)

theorem run_typeInfo {t : TypeId} {b : Nat} (h : Program.bytesOf' P t = some b) (w : World) : ∃ i, (typeInfo t).run P w = .ok i w ∧ i.bytes = b := by
  unfold Program.bytesOf' at h
  obtain ⟨i, hi, rfl⟩ := Option.map_eq_some_iff.1 h
  exact ⟨i, by simp [typeInfo, hi], rfl⟩

/-- make. -/
theorem po_makeSlice0 {o : Oper} {t e : TypeId} {l c : Operand} {z : Value} {kl kc : IntKind} {a b by_ : Nat} {K : PV → Store → Prop} (ho : o.op = .makeSlice t l c) (ht : P.underlying t = some (.slice e)) (hl : ev F l = .sc (.int kl (a : Int))) (hc : ev F c = .sc (.int kc (b : Int)))
    (hz : Program.zeroOf P e = some z) (h1 : z.cells.all (·.oneCell') = true) (hsz : z.cells.size = P.cellsOf e) (h0 : P.cellsOf e ≠ 0) (hby : Program.bytesOf' P e = some by_) (hab : a ≤ b) (hb : b ≤ 140737488355328) (hbb : b * by_ ≤ 281474976710656)
    (hK : ∀ C : Ctx, S C.next = .dead → ∃ id v, Fresh C S id v ∧ K (.sl id v (P.cellsOf e) 0 a) (S.set id (.cells v e (zerosP b z)))) : PO P r n o F S K := by
  intro G hG C w act N st next Q' hnext
  have e1 : ev G l = _ := (hG l (by simp [ho, Op.operands])).trans hl
  have e2 : ev G c = _ := (hG c (by simp [ho, Op.operands])).trans hc
  have r1 := st.ev l
  have r2 := st.ev c
  rw [e1] at r1; rw [e2] at r2
  generalize hv1 : act.eval l = v1 at r1
  generalize hv2 : act.eval c = v2 at r2
  cases r1; cases r2
  have hr := relL_cells (relL_zeros (C := C) (S := S) (w := w) h1 b)
  obtain ⟨id, ver, hfr, hK⟩ := hK C st.sim.free
  obtain ⟨k1, k2⟩ := st.sim.object' hfr e ((Array.range (b * z.cells.size)).map (z.cells[· % z.cells.size]!)) (zerosP b z) hr.1 hr.2.1 hr.2.2
  obtain ⟨i, hi, hib⟩ := run_typeInfo hby w
  have wrapb : IntKind.i64.wrap (b : Int) = b := IntWalk.i64_in _ ⟨by omega, by omega⟩
  have wrapa : IntKind.i64.wrap (a : Int) = a := IntWalk.i64_in _ ⟨by omega, by omega⟩
  refine wpIn_of_run (x := .value (.slice (some ⟨w.heap.size, 0, none⟩) a b)) (w' := w.alloc (.cells ((Array.range (b * z.cells.size)).map (z.cells[· % z.cells.size]!)) e)) (by intro c hc; rw [ho] at hc; cases hc) ?_
    (hnext _ _ _ _ _ hK (rel_newsl C S w _ _ _ _ _ _ _ _ rfl hab (by unfold maxN; omega) (by unfold maxLen; omega) (by rw [Array.size_map, Array.size_range, hsz])) k1 k2)
  unfold execOp
  simp only [ho, hv1, hv2, Instr.makeSlice, Sem.run_bind, run_underlying ht, Result.andThen_ok, asInt, asIntOf, Sem.run_pure, hi, hib, wrapa, wrapb]
  have hcast : (by_ : Int) * (b : Int) ≤ 281474976710656 := by
    obtain ⟨q, hq⟩ : ∃ q, b * by_ = q := ⟨_, rfl⟩
    have e : (by_ : Int) * (b : Int) = (q : Int) := by rw [← hq, Int.natCast_mul, Int.mul_comm]
    rw [e]; rw [hq] at hbb; omega
  have p48 : (2 : Int) ^ 48 = 281474976710656 := rfl
  have q1 : decide ((b : Int) < 0) = false := decide_eq_false (by omega)
  have q2 : decide ((by_ : Int) * (b : Int) > 2 ^ 48) = false := decide_eq_false (by rw [p48]; omega)
  have q3 : decide ((a : Int) < 0) = false := decide_eq_false (by omega)
  have q4 : decide ((a : Int) > (b : Int)) = false := decide_eq_false (by omega)
  rw [if_neg (by rw [q1, q2, q3, q4]; decide)]
  simp only [Sem.run_bind, run_askRoom, Result.andThen_ok, Int.toNat_natCast, run_sizeOf' h0]
  by_cases hb0 : b = 0
  · subst hb0
    simp only [Nat.zero_mul, if_true, Sem.run_pure, Result.andThen_ok, Sem.run_bind, newRow, run_newObj, Array.range_zero', Array.map_empty, World.alloc_eq]
  · have hne : b * P.cellsOf e ≠ 0 := Nat.mul_ne_zero hb0 h0
    rw [if_neg hne]
    simp only [Sem.run_bind, run_zeroValue hz, Result.andThen_ok, Sem.run_pure, newRow, run_newObj, World.alloc_eq, hsz]

theorem fresh0 {S : Store} {X : Nat → Nat → Prop} (h : ∀ id, S id = .dead → X id 0) : ∀ C : Ctx, S C.next = .dead → ∃ id v, Fresh C S id v ∧ X id v := fun C hd => ⟨C.next, 0, ⟨hd, .inl (Nat.le_refl _)⟩, h _ hd⟩
theorem freshAt {S : Store} {X : Nat → Nat → Prop} (j : Nat) (hj : S j = .dead) (h : ∀ v, X j v) : ∀ C : Ctx, S C.next = .dead → ∃ id v, Fresh C S id v ∧ X id v := fun C _ => ⟨j, C.clock, .clock C hj, h _⟩

theorem po_alloc {o : Oper} {t : TypeId} {z : Value} {K : PV → Store → Prop} (ho : o.op = .alloc t) (hz : Program.zeroOf P t = some z) (h1 : z.cells.all (·.oneCell') = true)
    (hK : ∀ id, S id = .dead → K (.ptr id 0 0) (S.set id (.cells 0 t (zeroCellsOf z)))) : PO P r n o F S K :=
  po_alloc0 ho hz h1 (fresh0 (X := fun id v => K (.ptr id v 0) (S.set id (.cells v t (zeroCellsOf z)))) hK)

theorem po_box {o : Oper} {t : TypeId} {x : Operand} {K : PV → Store → Prop} (ho : o.op = .box t x) (hf : (ev F x).fit = true)
    (hK : ∀ id, S id = .dead → K (.ptr id 0 0) (S.set id (.cells 0 t (ev F x).cells))) : PO P r n o F S K :=
  po_box0 ho hf (fresh0 (X := fun id v => K (.ptr id v 0) (S.set id (.cells v t (ev F x).cells))) hK)

theorem po_makeSlice {o : Oper} {t e : TypeId} {l c : Operand} {z : Value} {kl kc : IntKind} {a b by_ : Nat} {K : PV → Store → Prop} (ho : o.op = .makeSlice t l c) (ht : P.underlying t = some (.slice e)) (hl : ev F l = .sc (.int kl (a : Int))) (hc : ev F c = .sc (.int kc (b : Int)))
    (hz : Program.zeroOf P e = some z) (h1 : z.cells.all (·.oneCell') = true) (hsz : z.cells.size = P.cellsOf e) (h0 : P.cellsOf e ≠ 0) (hby : Program.bytesOf' P e = some by_) (hab : a ≤ b) (hb : b ≤ 140737488355328) (hbb : b * by_ ≤ 281474976710656)
    (hK : ∀ id, S id = .dead → K (.sl id 0 (P.cellsOf e) 0 a) (S.set id (.cells 0 e (zerosP b z)))) : PO P r n o F S K :=
  po_makeSlice0 ho ht hl hc hz h1 hsz h0 hby hab hb hbb (fresh0 (X := fun id v => K (.sl id v (P.cellsOf e) 0 a) (S.set id (.cells v e (zerosP b z)))) hK)

/-! ### append -/

/-- What is appended, as the model reads it. -/
structure SrcOk (P : Program) (w : World) (sz : Nat) (x : Value) (m : Nat) (news : List Value) : Prop where
  len : (Builtin.lenOf x).run P w = .ok m w
  cells : (Builtin.firstCells sz m x).run P w = .ok news.toArray w
  cells' : (Builtin.firstCells sz m x).run P w.drew = .ok news.toArray w.drew
  size : news.length = m * sz
  one : ∀ v ∈ news, v.oneCell' = true

theorem run_append_same {t ty e : TypeId} {x : Value} {b : Option Addr} {k cap : Nat} (ht : P.underlying t = some (.slice e)) (h0 : P.cellsOf e ≠ 0) {w : World} (hs : SrcOk P w (P.cellsOf e) x 0 []) (hk : k ≤ cap) :
    (Builtin.append_ #[t, t] ty #[.slice b k cap, x]).run P w = .ok (.slice b k cap) w := by
  have hsz := run_sizeOf' h0 w
  unfold Builtin.append_
  simp only [List.getElem?_toArray, List.getElem?_cons_zero, List.getElem?_cons_succ, Sem.run_bind, run_underlying ht, Result.andThen_ok, hsz, Sem.run_pure, Bool.false_eq_true, if_false, hs.len, Nat.add_zero]
  rw [if_pos hk]
  simp only [Bool.not_false, if_true, Sem.run_bind, hs.cells, Result.andThen_ok]
  cases b with
  | none => rfl
  | some a => simp [storeCells]

theorem run_append_room' {t ty e : TypeId} {x : Value} {g k cap m : Nat} {news : List Value} {cur : Array Value} (ht : P.underlying t = some (.slice e)) (h0 : P.cellsOf e ≠ 0) {w : World} (hs : SrcOk P w (P.cellsOf e) x m news)
    (hg : w.heap[g]? = some (.cells cur e (0, 0))) (hk : k + m ≤ cap) (hc : cur.size = cap * P.cellsOf e) :
    (Builtin.append_ #[t, t] ty #[.slice (some ⟨g, 0, none⟩) k cap, x]).run P w =
      .ok (.slice (some ⟨g, 0, none⟩) (k + m) cap) (w.setRow g (cur.toList.take (k * P.cellsOf e) ++ news ++ cur.toList.drop (k * P.cellsOf e + news.length)).toArray) := by
  have hsz := run_sizeOf' h0 w
  have hfit : k * P.cellsOf e + 0 + news.length ≤ cur.size := by
    rw [hs.size, hc, Nat.add_zero, ← Nat.add_mul]; exact Nat.mul_le_mul_right _ hk
  have hst := run_storeCells_at P g (k * P.cellsOf e) e news 0 cur w hg hfit hs.one
  simp only [Nat.add_zero] at hst
  unfold Builtin.append_
  simp only [List.getElem?_toArray, List.getElem?_cons_zero, List.getElem?_cons_succ, Sem.run_bind, run_underlying ht, Result.andThen_ok, hsz, Sem.run_pure, Bool.false_eq_true, if_false, hs.len]
  rw [if_pos hk]
  simp only [Bool.not_false, if_true, Sem.run_bind, hs.cells, Result.andThen_ok, Addr.add_plain, Nat.zero_add, hst, Sem.run_pure]

theorem run_append_more {t ty e : TypeId} {x : Value} {b : Option Addr} {k cap m by_ : Nat} {z : Value} {olds news : List Value} (ht : P.underlying t = some (.slice e)) (h0 : P.cellsOf e ≠ 0) (hz : Program.zeroOf P e = some z) (hby : Program.bytesOf' P e = some by_)
    {w : World} (hs : SrcOk P w (P.cellsOf e) x m news) (hold : (Builtin.firstCells (P.cellsOf e) k (.slice b k cap)).run P w.drew = .ok olds.toArray w.drew) (hk : cap < k + m) (hbytes : (k + m) * by_ ≤ 140737488355328) (hbp : by_ ≠ 0) :
    (Builtin.append_ #[t, t] ty #[.slice b k cap, x]).run P w =
      .ok (.slice (some ⟨w.heap.size, 0, none⟩) (k + m) (grownCap w (k + m) cap e)) (w.drew.alloc (.cells (olds.toArray ++ news.toArray ++ Builtin.zeroCells z.cells (grownCap w (k + m) cap e - (k + m))) e)) := by
  have hsz := run_sizeOf' h0 w
  obtain ⟨i, hi, hib⟩ := run_typeInfo hby w
  obtain ⟨i2, hi2, hib2⟩ := run_typeInfo hby w.drew
  have hfit : Builtin.nextslicecap (k + m) cap * by_ ≤ 281474976710656 := growslice_fits hk hbytes
  unfold Builtin.append_
  simp only [List.getElem?_toArray, List.getElem?_cons_zero, List.getElem?_cons_succ, Sem.run_bind, run_underlying ht, Result.andThen_ok, hsz, Sem.run_pure, Bool.false_eq_true, if_false, hs.len]
  rw [if_neg (by omega)]
  simp only [Sem.run_bind, hi, Result.andThen_ok, hib]
  rw [if_neg (by
    rintro ⟨_, h | h⟩
    · cases h
    · exact hbp h)]
  simp only [Sem.run_bind, hi, Result.andThen_ok, hib]
  rw [if_neg (by
    have : (2 : Nat) ^ 48 = 281474976710656 := by decide
    rw [this]; omega)]
  simp only [Sem.run_bind, run_choose, Question.forced, Bool.false_eq_true, if_false, Result.andThen_ok, World.drew_eq]
  rw [show (Question.appendCap (k + m) cap e).cut (w.tape w.drawn (.appendCap (k + m) cap e)) = grownCap w (k + m) cap e from rfl]
  simp only [hi2, Result.andThen_ok, run_askRoom, hold, Bool.not_false, if_true, hs.cells', run_zeroValue hz, newRow, Sem.run_bind, run_newObj, Sem.run_pure, World.alloc_eq, World.size_drew]

/-- The cells that a slice of an object shows. -/
theorem first_cells {w : World} {b k cap sz : Nat} {c : Array Value} {e : TypeId} {fz : Nat × Nat} (hb : w.heap[b]? = some (.cells c e fz)) (o : Nat) (hl : o + k * sz ≤ c.size) :
    (Builtin.firstCells sz k (.slice (some ⟨b, o, none⟩) k cap)).run P w = .ok (c.extract o (o + k * sz)) w := by
  unfold Builtin.firstCells loadCells
  have := run_loadCellsFrom (P := P) (o := o) hb (k * sz) 0 #[] (by omega)
  simpa using this

/-- What may be appended: how many elements, and their cells. -/
def srcP (S : Store) (sz : Nat) (x : PV) : Option (Nat × List PV) :=
  match x with
  | .lst m ds => if ds.length = m * sz then some (m, ds) else none
  | .sl o ver sz' off m =>
    match S o with
    | .cells v _ cs => if v = ver ∧ sz' = sz ∧ off + m * sz ≤ cs.length then some (m, (cs.drop off).take (m * sz)) else none
    | _ => none
  | .sc (.slice none 0 0) => some (0, [])
  | _ => none

theorem srcP_sound {C : Ctx} {w : World} {sz m : Nat} {x : PV} {ds : List PV} {u : Value} (hS : Sim C S w) (h : srcP S sz x = some (m, ds)) (hu : Rel C S w x u) :
    ∃ news : List Value, SrcOk P w sz u m news ∧ RelL C S w ds news.toArray ∧ m ≤ maxN := by
  have fromBlock : ∀ (b o cap : Nat) (c : Array Value) (e : TypeId) (fz : Nat × Nat) (ds : List PV), w.heap[b]? = some (.cells c e fz) → ds.length = m * sz → (ds ≠ [] → o + ds.length ≤ c.size) →
      (∀ (i : Nat) (v : Value), i < ds.length → c[o + i]? = some v → v.oneCell' = true) → (∀ (i : Nat) (p : PV) (v : Value), ds[i]? = some p → c[o + i]? = some v → Rel C S w p v) →
      ∃ news : List Value, SrcOk P w sz (.slice (some ⟨b, o, none⟩) m cap) m news ∧ RelL C S w ds news.toArray := by
    intro b o cap c e fz ds hb hl hs h1 hr
    by_cases hd : ds = []
    · subst hd
      have hz : m * sz = 0 := by simpa using hl.symm
      refine ⟨[], ⟨rfl, ?_, ?_, by simp [hz], by simp⟩, by simp [RelL]⟩
      · simp [Builtin.firstCells, loadCells, hz, loadCellsFrom]
      · simp [Builtin.firstCells, loadCells, hz, loadCellsFrom]
    · have hle := hs hd
      rw [hl] at hle
      have hb' : w.drew.heap[b]? = some (.cells c e fz) := hb
      refine ⟨(c.extract o (o + m * sz)).toList, ⟨rfl, by rw [Array.toArray_toList]; exact first_cells hb o hle, by rw [Array.toArray_toList]; exact first_cells hb' o hle, by simp; omega, ?_⟩, ?_⟩
      · intro v hv
        obtain ⟨i, hi⟩ := List.getElem?_of_mem hv
        rw [Array.getElem?_toList, Array.getElem?_extract] at hi
        split at hi
        · exact h1 i v (by omega) hi
        · cases hi
      · rw [Array.toArray_toList]
        refine ⟨by simp; omega, fun i v hv => ?_, fun i p v hp hv => ?_⟩
        · rw [Array.getElem?_extract] at hv
          split at hv
          · exact h1 i v (by omega) hv
          · cases hv
        · rw [Array.getElem?_extract] at hv
          split at hv
          · exact hr i p v hp hv
          · cases hv
  unfold srcP at h
  split at h
  · rename_i m' ds'
    split at h
    · rename_i hl
      cases h
      cases hu with
      | lst0 =>
        rename_i cap a
        refine ⟨[], ⟨rfl, ?_, ?_, by simp, by simp⟩, by simp [RelL], by unfold maxN; omega⟩
        · cases a <;> simp [Builtin.firstCells, loadCells, loadCellsFrom]
        · cases a <;> simp [Builtin.firstCells, loadCells, loadCellsFrom]
      | lst1 hn hm hb hM hs h1 hr =>
        obtain ⟨news, k1, k2⟩ := fromBlock _ _ _ _ _ _ ds hb hl hs h1 hr
        exact ⟨news, k1, k2, hm⟩
    · cases h
  · rename_i o ver sz' off m'
    split at h
    · rename_i v e cs hs
      split at h
      · rename_i hc
        obtain ⟨rfl, rfl, hle⟩ := hc
        cases h
        cases hu with
        | sl h1 h2 h3 =>
          obtain ⟨a, cap, rfl, q1, q2, q3, q4⟩ := h1
          rcases hS.cells o v e cs hs with ⟨hn, hnil⟩ | ⟨b, k, c, g1, g2, g3, g4, g5, g6⟩
          · have hm0 : (cs.drop off).take (m * sz') = [] := by rw [hnil]; simp
            rw [hm0]
            have hz : m * sz' = 0 := by rw [hnil] at hle; simp at hle; omega
            refine ⟨[], ⟨rfl, ?_, ?_, by simp [hz], by simp⟩, by simp [RelL], q2⟩
            · cases a <;> simp [Builtin.firstCells, loadCells, hz, loadCellsFrom]
            · cases a <;> simp [Builtin.firstCells, loadCells, hz, loadCellsFrom]
          · by_cases hm0 : m = 0
            · subst hm0
              refine ⟨[], ⟨rfl, ?_, ?_, by simp, by simp⟩, by simp [RelL], q2⟩
              · cases a <;> simp [Builtin.firstCells, loadCells, loadCellsFrom]
              · cases a <;> simp [Builtin.firstCells, loadCells, loadCellsFrom]
            · have hloc : a = some ⟨b, off, none⟩ := by
                rcases (h3 v (by rw [hs]; rfl)).2 rfl with ⟨z1, z2, _⟩ | ⟨b', k', a', cap', z1, z2, z3, z4⟩
                · exact absurd z2 hm0
                · rw [g1] at z1; cases z1; cases z2; exact z4 hm0
              subst hloc
              have hsub : ∀ (i : Nat) (p : PV), ((cs.drop off).take (m * sz'))[i]? = some p → cs[off + i]? = some p := by
                intro i p hp
                by_cases hi : i < m * sz'
                · rw [List.getElem?_take_of_lt hi, List.getElem?_drop] at hp; exact hp
                · rw [List.getElem?_eq_none (by simp; omega)] at hp; cases hp
              obtain ⟨news, k1, k2⟩ := fromBlock b off cap c e (0, 0) ((cs.drop off).take (m * sz')) g2 (by simp; omega) (fun _ => by simp; omega) (fun i v hi hv => g5 (off + i) v (by simp at hi; omega) hv) (fun i p v hp hv => g6 (off + i) p v (hsub i p hp) hv)
              exact ⟨news, k1, k2, q2⟩
      · cases h
    · cases h
  · cases h
    cases hu
    exact ⟨[], ⟨rfl, by simp [Builtin.firstCells], by simp [Builtin.firstCells], by simp, by simp⟩, by simp [RelL], by unfold maxN; omega⟩
  · cases h

theorem relL_append {C : Ctx} {w : World} {cs ds : List PV} {vs us : List Value} (h : RelL C S w cs vs.toArray) (k : RelL C S w ds us.toArray) (rest : List Value) :
    (cs ++ ds).length ≤ (vs ++ us ++ rest).length ∧ (∀ (i : Nat) (v : Value), i < (cs ++ ds).length → (vs ++ us ++ rest)[i]? = some v → v.oneCell' = true) ∧
    ∀ (i : Nat) (p : PV) (v : Value), (cs ++ ds)[i]? = some p → (vs ++ us ++ rest)[i]? = some v → Rel C S w p v := by
  obtain ⟨h1, h2, h3⟩ := h
  obtain ⟨k1, k2, k3⟩ := k
  simp only [List.size_toArray, List.getElem?_toArray] at h1 h2 h3 k1 k2 k3
  refine ⟨by simp; omega, fun i v hi hv => ?_, fun i p v hp hv => ?_⟩
  · rw [List.length_append] at hi
    by_cases q : i < cs.length
    · rw [List.append_assoc, List.getElem?_append_left (by omega)] at hv; exact h2 i v hv
    · rw [List.append_assoc, List.getElem?_append_right (by omega), List.getElem?_append_left (by omega)] at hv
      exact k2 _ v hv
  · by_cases q : i < cs.length
    · rw [List.getElem?_append_left q] at hp
      rw [List.append_assoc, List.getElem?_append_left (by omega)] at hv; exact h3 i p v hp hv
    · rw [List.getElem?_append_right (by omega)] at hp
      have := (List.getElem?_eq_some_iff.1 hp).1
      rw [List.append_assoc, List.getElem?_append_right (by omega), List.getElem?_append_left (by omega), ← h1] at hv
      exact k3 _ p v hp hv

end
end Go.Proofs.YtafcjklojnhbnaaGreat.Pv

/- Ghost layer, part 12: append. -/
namespace Go.Proofs.YtafcjklojnhbnaaGreat.Pv
open Go

/-- A new object that is no memory yet: a nil slice. -/
theorem Sim.nilObject' {C : Ctx} {S : Store} {w : World} (h : Sim C S w) {o ver : Nat} (hf : Fresh C S o ver) (e : TypeId) :
    Sim (C.put o ver none) (S.set o (.cells ver e [])) w ∧ Step C S w (C.put o ver none) (S.set o (.cells ver e [])) w := by
  have hloc : ∀ i, i ≠ o → (C.put o ver none).loc i = C.loc i := fun i hi => by simp [Ctx.put, hi]
  have hlocn : (C.put o ver none).loc o = none := by simp [Ctx.put]
  have st : Step C S w (C.put o ver none) (S.set o (.cells ver e [])) w :=
    Sim.step_new hf rfl _ rfl ⟨rfl, Nat.le_refl _⟩ rfl (Nat.le_refl _) (fun _ _ => rfl) (fun b k hq => nomatch hq)
  refine ⟨⟨?_, ?_, ?_, ?_, ?_⟩, st⟩
  · intro i ho
    by_cases hc : i = o
    · subst hc; simp only [Ctx.put]; omega
    · rw [Store.set_other _ _ _ _ hc] at ho
      have := h.lt i ho
      simp only [Ctx.put]; omega
  · intro i v hv
    by_cases hc : i = o
    · subst hc; rw [Store.set_same] at hv; cases hv; simp only [Ctx.put]; omega
    · rw [Store.set_other _ _ _ _ hc] at hv
      have := h.clk i v hv
      simp only [Ctx.put]; omega
  · intro i o' b k k' ho ho' hl hl'
    by_cases hc : i = o
    · subst hc; rw [hlocn] at hl; cases hl
    · by_cases hc' : o' = o
      · subst hc'; rw [hlocn] at hl'; cases hl'
      · rw [hloc i hc] at hl; rw [hloc o' hc'] at hl'; rw [Store.set_other _ _ _ _ hc] at ho; rw [Store.set_other _ _ _ _ hc'] at ho'
        exact h.dist i o' b k k' ho ho' hl hl'
  · intro i ver e' cs' hs
    by_cases hc : i = o
    · subst hc
      rw [Store.set_same] at hs
      cases hs
      exact .inl ⟨hlocn, rfl⟩
    · rw [Store.set_other _ _ _ _ hc] at hs
      rcases h.cells i ver e' cs' hs with hn | ⟨b, k, c', g1, g2, g3, g4, g5, g6⟩
      · exact .inl ⟨(hloc i hc).trans hn.1, hn.2⟩
      · exact .inr ⟨b, k, c', (hloc i hc).trans g1, g2, g3, g4, g5, fun i p v hp hv => (g6 i p v hp hv).mono st⟩
  · intro i ver es hs
    by_cases hc : i = o
    · subst hc; rw [Store.set_same] at hs; cases hs
    · rw [Store.set_other _ _ _ _ hc] at hs
      obtain ⟨b, k, ms, cl, g1, g2, g3, g4⟩ := h.maps i ver es hs
      exact ⟨b, k, ms, cl, (hloc i hc).trans g1, g2, g3, fun i x m he hm => ⟨(g4 i x m he hm).1, (g4 i x m he hm).2.mono st⟩⟩

section
variable {P : Program} {r : Rd} {n N : Nat} {Q : Exit → (Nat → PV) → Store → Prop} {F : Nat → PV} {S : Store}

/-- What append asks of an element's type. -/
structure ElemOk (P : Program) (t e : TypeId) (z : Value) (by_ : Nat) : Prop where
  ty : P.underlying t = some (.slice e)
  pos : P.cellsOf e ≠ 0
  zero : Program.zeroOf P e = some z
  zsize : z.cells.size = P.cellsOf e
  bytes : Program.bytesOf' P e = some by_
  bpos : by_ ≠ 0

theorem run_append_op {o : Oper} {s x : Operand} {t : TypeId} {a : Act} {w w' : World} {v : Value} (ho : o.op = .call { callee := .builtin .append, args := #[s, x], argTypes := #[t, t] })
    (h : (Builtin.append_ #[t, t] o.type #[a.eval s, a.eval x]).run P w = .ok v w') : (execOp a.eval o).run P w = .ok (.value v) w' := by
  unfold execOp
  simp only [ho, resolve, invoke, builtin, Sem.run_bind, Sem.run_pure, Result.andThen_ok, List.map_toArray, List.map_cons, List.map_nil, h]

theorem po_append {o : Oper} {s x : Operand} {t e : TypeId} {z : Value} {by_ id ver k m : Nat} {cs ds : List PV} {K : PV → Store → Prop} (ho : o.op = .call { callee := .builtin .append, args := #[s, x], argTypes := #[t, t] })
    (hE : ElemOk P t e z by_) (hs : ev F s = .sl id ver (P.cellsOf e) 0 k) (hid : S id = .cells ver e cs) (hk : k * P.cellsOf e ≤ cs.length) (hx : srcP S (P.cellsOf e) (ev F x) = some (m, ds)) (hb : (k + m) * by_ ≤ 140737488355328) (hm : k + m ≤ 140737488355328)
    (hK : K (.sl id (ver + 1) (P.cellsOf e) 0 (k + m)) (S.set id (.cells (ver + 1) e (cs.take (k * P.cellsOf e) ++ ds)))) : PO P r n o F S K := by
  intro G hG C w a N st next Q' hnext
  have e1 : ev G s = _ := (hG s (by simp [ho, Op.operands, Call.operands])).trans hs
  have e2 : ev G x = ev F x := hG x (by simp [ho, Op.operands, Call.operands])
  rw [← e2] at hx
  have r1 := st.ev s
  rw [e1] at r1
  obtain ⟨news, hsrc, hrel, _⟩ := srcP_sound (P := P) st.sim hx (st.ev x)
  have hnd : ∀ c, o.op ≠ .defer c := by intro c hc; rw [ho] at hc; cases hc
  have hmN : k + m ≤ maxN := Nat.le_trans hm (by unfold maxN; omega)
  generalize hv : a.eval s = v at r1
  cases r1 with
  | sl h1 h2 h3 =>
    obtain ⟨ad, cap, rfl, q1, q2, q3, q4⟩ := h1
    have hloc := (h3 ver (by rw [hid]; rfl)).2 rfl
    have hcontent := st.sim.cells id ver e cs hid
    have newsl : ∀ (C' : Ctx) (w' : World) (ad' : Option Addr) (cap' b' : Nat), (C.next ≤ C'.next ∧ ver + 1 < C'.clock) → C'.loc id = some (b', cap' * P.cellsOf e) → ad' = some ⟨b', 0, none⟩ → k + m ≤ cap' → cap' ≤ maxLen →
        Rel C' (S.set id (.cells (ver + 1) e (cs.take (k * P.cellsOf e) ++ ds))) w' (.sl id (ver + 1) (P.cellsOf e) 0 (k + m)) (.slice ad' (k + m) cap') := by
      intro C' w' ad' cap' b' hn hl had hkm hcl
      refine .sl ⟨_, _, rfl, hkm, hmN, hcl, fun _ => ⟨_, _, had⟩⟩ ⟨Nat.lt_of_lt_of_le h2.1 hn.1, hn.2⟩ fun v0 hv0 => ?_
      rw [Store.set_same] at hv0; cases hv0
      exact ⟨Nat.le_refl _, fun _ => .inr ⟨b', _, _, _, hl, rfl, fun _ => ⟨had, rfl⟩, fun _ => had⟩⟩
    rcases hcontent with ⟨hn, hnil⟩ | ⟨b, kk, c, g1, g2, g3, g4, g5, g6⟩
    · -- nothing yet
      have hz : k * P.cellsOf e = 0 := by rw [hnil] at hk; simpa using hk
      have hk0 : k = 0 := by
        rcases Nat.mul_eq_zero.1 hz with h | h
        · exact h
        · exact absurd h hE.pos
      rcases hloc with ⟨_, _, _, hsl⟩ | ⟨b', k', _, _, z1, _⟩
      · cases hsl
        subst hnil
        simp only [Nat.zero_mul, List.take_nil, List.nil_append, Nat.zero_add] at hK hb hm hmN newsl
        by_cases hm0 : m = 0
        · subst hm0
          have hne : news = [] := List.eq_nil_of_length_eq_zero (by rw [hsrc.size]; simp)
          have hde : ds = [] := List.eq_nil_of_length_eq_zero (by rw [hrel.1, hne]; rfl)
          subst hne; subst hde
          have hrun := run_append_op (P := P) (a := a) (w := w) ho (by rw [hv]; exact run_append_same (ty := o.type) hE.ty hE.pos hsrc (Nat.zero_le 0))
          obtain ⟨t1, t2⟩ := st.sim.turn (l := C.loc id) (ver' := ver + 1) (cs' := []) hid (by omega) (fun h => absurd h (by omega)) (w' := w) ⟨⟨rfl, rfl, rfl, Nat.le_refl _, fun _ _ _ => rfl⟩, Nat.le_refl _⟩ (.inl ⟨hn, rfl⟩)
          refine wpIn_of_run hnd hrun (hnext _ _ _ _ _ hK ?_ t1 t2)
          refine .sl ⟨_, _, rfl, Nat.le_refl _, by omega, by omega, fun h => absurd rfl h⟩ ⟨h2.1, by simp only [Ctx.at]; omega⟩ fun v0 hv0 => ?_
          rw [Store.set_same] at hv0; cases hv0
          exact ⟨Nat.le_refl _, fun _ => .inl ⟨by simp [Ctx.at, hn], rfl, rfl, rfl⟩⟩
        · have hrun := run_append_op (P := P) (a := a) (w := w) ho (by
            rw [hv]
            exact run_append_more (ty := o.type) (olds := []) hE.ty hE.pos hE.zero hE.bytes hsrc (by simp [Builtin.firstCells]) (by omega) (by simpa using hb) hE.bpos)
          have hgc : m ≤ grownCap w m 0 e := by have := grownCap_ge w m 0 e; exact this
          have hgm : grownCap w m 0 e ≤ maxLen := grownCap_le_maxLen w m 0 e (by unfold maxLen; omega)
          simp only [Nat.zero_add] at hrun
          have hsz : (#[] ++ news.toArray ++ Builtin.zeroCells z.cells (grownCap w m 0 e - m) : Array Value).size = grownCap w m 0 e * P.cellsOf e := by
            simp only [Array.size_append, List.size_toArray, List.length_nil, Nat.zero_add, size_zeroCells, hE.zsize, hsrc.size]
            rw [← Nat.add_mul]; congr 1; omega
          have hra := relL_append (cs := []) (vs := []) (by simp [RelL]) hrel (Builtin.zeroCells z.cells (grownCap w m 0 e - m)).toList
          simp only [List.nil_append] at hra
          have hget : ∀ i : Nat, (#[] ++ news.toArray ++ Builtin.zeroCells z.cells (grownCap w m 0 e - m) : Array Value)[i]? = (news ++ (Builtin.zeroCells z.cells (grownCap w m 0 e - m)).toList)[i]? := by
            intro i; rw [← Array.getElem?_toList]; simp
          obtain ⟨t1, t2⟩ := st.sim.turn (l := some (w.heap.size, grownCap w m 0 e * P.cellsOf e)) (ver' := ver + 1) (cs' := ds) hid (by omega) (fun h => absurd h (by omega))
            (w' := w.drew.alloc (.cells (#[] ++ news.toArray ++ Builtin.zeroCells z.cells (grownCap w m 0 e - m)) e)) ⟨⟨rfl, rfl, rfl, by simp, fun j hj _ => heap_alloc_lt w.drew _ j hj⟩, Nat.le_succ _⟩
            (.inr ⟨w.heap.size, _, _, rfl, .inl (Nat.le_refl _), heap_alloc_new' w.drew _, hsz, by rw [← hsz]; have := hra.1; simp at this ⊢; omega, fun i v hi hv => hra.2.1 i v hi (by rw [← hget]; exact hv), fun i p v hp hv => hra.2.2 i p v hp (by rw [← hget]; exact hv)⟩)
          refine wpIn_of_run hnd hrun (hnext _ _ _ _ _ hK ?_ t1 t2)
          have := newsl (C.at id (ver + 1) (some (w.heap.size, grownCap w m 0 e * P.cellsOf e))) (w.drew.alloc (.cells (#[] ++ news.toArray ++ Builtin.zeroCells z.cells (grownCap w m 0 e - m)) e)) (some ⟨w.heap.size, 0, none⟩) (grownCap w m 0 e) w.heap.size ⟨Nat.le_refl _, by simp only [Ctx.at]; omega⟩ (by simp [Ctx.at]) rfl hgc hgm
          exact this
      · rw [hn] at z1; cases z1
    · -- it lies in block b
      rcases hloc with ⟨z1, _⟩ | ⟨b', k', ad', cap', z1, z2, z3, z4⟩
      · rw [g1] at z1; cases z1
      · rw [g1] at z1; cases z1; cases z2
        obtain ⟨rfl, hcap⟩ := z3 rfl
        have hcsz : c.size = cap * P.cellsOf e := g3.trans hcap.symm
        by_cases hroom : k + m ≤ cap
        · have hrun := run_append_op (P := P) (a := a) (w := w) ho (by rw [hv]; exact run_append_room' (ty := o.type) hE.ty hE.pos hsrc g2 hroom hcsz)
          have hkc : k * P.cellsOf e ≤ c.size := by rw [hcsz]; exact Nat.mul_le_mul_right _ q1
          have hfit : k * P.cellsOf e + news.length ≤ c.size := by rw [hsrc.size, hcsz, ← Nat.add_mul]; exact Nat.mul_le_mul_right _ hroom
          have hold : RelL C S w (cs.take (k * P.cellsOf e)) (c.toList.take (k * P.cellsOf e)).toArray := by
            refine ⟨by simp; omega, fun i v hv => ?_, fun i p v hp hv => ?_⟩
            · rw [List.getElem?_toArray] at hv
              have hi := (List.getElem?_eq_some_iff.1 hv).1
              simp only [List.length_take] at hi
              rw [List.getElem?_take_of_lt (by omega), Array.getElem?_toList] at hv
              exact g5 i v (by omega) hv
            · have hi := (List.getElem?_eq_some_iff.1 hp).1
              simp only [List.length_take] at hi
              rw [List.getElem?_take_of_lt (by omega)] at hp
              rw [List.getElem?_toArray, List.getElem?_take_of_lt (by omega), Array.getElem?_toList] at hv
              exact g6 i p v hp hv
          have hra := relL_append hold hrel (c.toList.drop (k * P.cellsOf e + news.length))
          obtain ⟨t1, t2⟩ := st.sim.turn (l := C.loc id) (ver' := ver + 1) (cs' := cs.take (k * P.cellsOf e) ++ ds) hid (by omega) (fun h => absurd h (by omega))
            (w' := w.setRow b (c.toList.take (k * P.cellsOf e) ++ news ++ c.toList.drop (k * P.cellsOf e + news.length)).toArray)
            (by rw [g1]; exact ⟨⟨rfl, rfl, rfl, by simp [World.setRow], fun j hj hne => setRow_other w b j _ (fun e => hne (by rw [e]; rfl))⟩, Nat.le_refl _⟩)
            (.inr ⟨b, cap * P.cellsOf e, _, by rw [g1, hcap], .inr (by rw [g1]; rfl), setRow_heap w b c _ e _ g2, by simp; omega, by have := hra.1; simp at this ⊢; omega, fun i v hi hv => hra.2.1 i v hi (by rw [List.getElem?_toArray] at hv; exact hv), fun i p v hp hv => hra.2.2 i p v hp (by rw [List.getElem?_toArray] at hv; exact hv)⟩)
          refine wpIn_of_run hnd hrun (hnext _ _ _ _ _ hK ?_ t1 t2)
          exact newsl _ _ _ cap b ⟨Nat.le_refl _, by simp only [Ctx.at]; omega⟩ (by simp [Ctx.at, g1, hcap]) rfl hroom q3
        · have hfirst := first_cells (P := P) (w := w.drew) (b := b) (k := k) (cap := cap) (sz := P.cellsOf e) (c := c) (e := e) (fz := (0, 0)) g2 0 (by rw [Nat.zero_add, hcsz]; exact Nat.mul_le_mul_right _ q1)
          rw [Nat.zero_add] at hfirst
          have hrun := run_append_op (P := P) (a := a) (w := w) ho (by
            rw [hv]
            exact run_append_more (ty := o.type) (olds := (c.extract 0 (k * P.cellsOf e)).toList) hE.ty hE.pos hE.zero hE.bytes hsrc (by rw [Array.toArray_toList]; exact hfirst) (by omega) hb hE.bpos)
          have hgc := grownCap_ge w (k + m) cap e
          have hgm : grownCap w (k + m) cap e ≤ maxLen := grownCap_le_maxLen w (k + m) cap e (by unfold maxLen; omega)
          have hkc : k * P.cellsOf e ≤ c.size := by rw [hcsz]; exact Nat.mul_le_mul_right _ q1
          rw [Array.toArray_toList] at hrun
          have hsz : (c.extract 0 (k * P.cellsOf e) ++ news.toArray ++ Builtin.zeroCells z.cells (grownCap w (k + m) cap e - (k + m)) : Array Value).size = grownCap w (k + m) cap e * P.cellsOf e := by
            simp only [Array.size_append, List.size_toArray, size_zeroCells, hE.zsize, hsrc.size, Array.size_extract, Nat.sub_zero, Nat.min_eq_left hkc, ← Nat.add_mul]
            congr 1; omega
          have hold : RelL C S w (cs.take (k * P.cellsOf e)) (c.extract 0 (k * P.cellsOf e)).toList.toArray := by
            rw [Array.toArray_toList]
            refine ⟨by simp; omega, fun i v hv => ?_, fun i p v hp hv => ?_⟩
            · rw [Array.getElem?_extract] at hv
              split at hv
              · rw [Nat.zero_add] at hv; exact g5 i v (by omega) hv
              · cases hv
            · have hi := (List.getElem?_eq_some_iff.1 hp).1
              simp only [List.length_take] at hi
              rw [List.getElem?_take_of_lt (by omega)] at hp
              rw [Array.getElem?_extract] at hv
              split at hv
              · rw [Nat.zero_add] at hv; exact g6 i p v hp hv
              · cases hv
          have hra := relL_append hold hrel (Builtin.zeroCells z.cells (grownCap w (k + m) cap e - (k + m))).toList
          have hget : ∀ i : Nat, (c.extract 0 (k * P.cellsOf e) ++ news.toArray ++ Builtin.zeroCells z.cells (grownCap w (k + m) cap e - (k + m)) : Array Value)[i]? =
              ((c.extract 0 (k * P.cellsOf e)).toList ++ news ++ (Builtin.zeroCells z.cells (grownCap w (k + m) cap e - (k + m))).toList)[i]? := by
            intro i; rw [← Array.getElem?_toList]; simp
          obtain ⟨t1, t2⟩ := st.sim.turn (l := some (w.heap.size, grownCap w (k + m) cap e * P.cellsOf e)) (ver' := ver + 1) (cs' := cs.take (k * P.cellsOf e) ++ ds) hid (by omega) (fun h => absurd h (by omega))
            (w' := w.drew.alloc (.cells (c.extract 0 (k * P.cellsOf e) ++ news.toArray ++ Builtin.zeroCells z.cells (grownCap w (k + m) cap e - (k + m))) e)) ⟨⟨rfl, rfl, rfl, by simp, fun j hj _ => heap_alloc_lt w.drew _ j hj⟩, Nat.le_succ _⟩
            (.inr ⟨w.heap.size, _, _, rfl, .inl (Nat.le_refl _), heap_alloc_new' w.drew _, hsz, by rw [← hsz]; have := hra.1; simp at this ⊢; omega, fun i v hi hv => hra.2.1 i v hi (by rw [← hget]; exact hv), fun i p v hp hv => hra.2.2 i p v hp (by rw [← hget]; exact hv)⟩)
          refine wpIn_of_run hnd hrun (hnext _ _ _ _ _ hK ?_ t1 t2)
          exact newsl _ _ _ (grownCap w (k + m) cap e) w.heap.size ⟨Nat.le_refl _, by simp only [Ctx.at]; omega⟩ (by simp [Ctx.at]) rfl hgc hgm

/-- A nil slice becomes an object that is still empty. -/
theorem pw_nil0 {c : Code} (d e sz : Nat) (hF : F d = .sc (.slice none 0 0)) (h : ∀ C : Ctx, S C.next = .dead → ∃ id v, Fresh C S id v ∧ PW P r n N c Q (upd F d (.sl id v sz 0 0)) (S.set id (.cells v e []))) : PW P r n N c Q F S := by
  intro C w a st
  obtain ⟨id, ver, hfr, h⟩ := h C st.sim.free
  obtain ⟨k1, k2⟩ := st.sim.nilObject' hfr e
  have st' : St r (C.put id ver none) (S.set id (.cells ver e [])) w N (upd F d (.sl id ver sz 0 0)) a := by
    refine ⟨k1, st.size, fun i => ?_, r.keep k2 st.v⟩
    by_cases hi : i = d
    · subst hi
      rw [upd_same]
      have := st.fr i
      rw [hF] at this
      generalize a.tmps.getD i undef = v at this
      cases this
      refine .sl ⟨_, _, rfl, Nat.le_refl _, by unfold maxN; omega, by unfold maxLen; omega, fun h => absurd rfl h⟩ (by simp only [Ctx.put]; omega) fun v0 hv0 => ?_
      rw [Store.set_same] at hv0; cases hv0
      exact ⟨Nat.le_refl _, fun _ => .inl ⟨by simp [Ctx.put], rfl, rfl, rfl⟩⟩
    · rw [upd_other _ _ _ _ hi]; exact (st.fr i).mono k2
  refine wpIn_mono (h _ w a st') ?_
  rintro e a' w' ⟨F2, S2, C2, h1, h2, h3, h4⟩
  exact ⟨F2, S2, C2, h1, h2, h3, k2.trans h4⟩

theorem pw_nil {c : Code} (d e sz : Nat) (hF : F d = .sc (.slice none 0 0)) (h : ∀ id, S id = .dead → PW P r n N c Q (upd F d (.sl id 0 sz 0 0)) (S.set id (.cells 0 e []))) : PW P r n N c Q F S :=
  pw_nil0 d e sz hF (fresh0 (X := fun id v => PW P r n N c Q (upd F d (.sl id v sz 0 0)) (S.set id (.cells v e []))) h)

/-- An object that nobody will write any more is a list. -/
theorem pw_freeze {c : Code} {id ver e : Nat} {cs : List PV} {F' : Nat → PV} {S' : Store} (hid : S id = .cells ver e cs) (hS' : S' = S.set id .dead)
    (hF : ∀ i, F' i = F i ∨ F' i = .junk ∨ ∃ sz k, F i = .sl id ver sz 0 k ∧ k * sz = cs.length ∧ F' i = .lst k cs) (h : PW P r n N c Q F' S') : PW P r n N c Q F S := by
  refine pw_ghost (F' := F') (S' := S') (fun C w a st => ?_) h
  have hk := st.sim.kill (S' := S') (fun o => by
    subst hS'
    by_cases ho : o = id
    · exact .inr (by rw [ho, Store.set_same])
    · exact .inl (by rw [Store.set_other _ _ _ _ ho]))
  refine ⟨C, ⟨hk.1, st.size, fun i => ?_, r.keep hk.2 st.v⟩, hk.2⟩
  rcases hF i with e1 | e1 | ⟨sz, k, e1, e2, e3⟩
  · rw [e1]; exact (st.fr i).mono hk.2
  · rw [e1]; exact .junk _
  · rw [e3]
    have := st.fr i
    rw [e1] at this
    generalize a.tmps.getD i undef = v at this
    cases this with
    | sl h1 h2 h3 =>
      obtain ⟨ad, cap, rfl, q1, q2, q3, q4⟩ := h1
      have hnM : ∀ b k', C.loc id = some (b, k') → ¬ C.M S' b := by
        rintro b k' hl ⟨o, k2, ho, hl2⟩
        subst hS'
        by_cases hoi : o = id
        · subst hoi; rw [Store.set_same] at ho; exact ho rfl
        · rw [Store.set_other _ _ _ _ hoi] at ho
          exact hoi (st.sim.dist o id b k2 k' ho (by rw [hid]; simp) hl2 hl)
      rcases (h3 ver (by rw [hid]; rfl)).2 rfl with ⟨z1, z2, _, z4⟩ | ⟨b, k', ad', cap', z1, z2, z3, z4⟩
      · subst z2
        have : cs = [] := List.eq_nil_of_length_eq_zero (by omega)
        subst this
        cases z4
        exact .lst0
      · cases z2
        rcases st.sim.cells id ver e cs hid with ⟨hn, _⟩ | ⟨b2, kk, c, g1, g2, g3, g4, g5, g6⟩
        · rw [hn] at z1; cases z1
        · rw [g1] at z1; cases z1
          obtain ⟨rfl, _⟩ := z3 rfl
          exact .lst1 q1 q2 g2 (hnM _ _ g1) (fun _ => by omega) (fun j v hj hv => g5 j v hj (by simpa using hv)) (fun j p v hp hv => (g6 j p v hp (by simpa using hv)).mono hk.2)

end
end Go.Proofs.YtafcjklojnhbnaaGreat.Pv

/- Ghost layer, part 13: what the reckoning rewrites with; small facts for walks. -/
namespace Go.Proofs.YtafcjklojnhbnaaGreat.Pv
open Go

attribute [simp] runI runD PRl PX Row.pures loadT Agree gd popI popS callP lenP ev ofV updO upd pbin pbinInt unP nilP indexP fieldP loadP partP isAgg' fieldVP elemP convP twoP thenQ inBlockQ PV.cells PV.one PV.fit Value.oneCell' oneOf resL byHand boundP sliceP Value.cells zeroCellsOf buildP litP knownP placesP fillP storeP srcP frame0

@[simp] theorem int_beq (a b : Int) : (a == b) = decide (a = b) := rfl

theorem zerosP_succ' (n : Nat) (z : Value) : zerosP (n + 1) z = zeroCellsOf z ++ zerosP n z := by
  unfold zerosP zeroCellsOf
  generalize z.cells = c
  rw [Nat.succ_mul, Nat.add_comm, List.range_add, List.map_append, List.map_map]
  congr 1
  · apply List.ext_getElem?
    intro i
    by_cases h : i < c.size
    · simp [h, Nat.mod_eq_of_lt h]
    · simp [h]
  · apply List.map_congr_left
    intro i _
    simp
@[simp] theorem zerosP_zero (z : Value) : zerosP 0 z = [] := by simp [zerosP]
@[simp] theorem zerosP_one (z : Value) : zerosP 1 z = zeroCellsOf z := by rw [zerosP_succ' 0 z]; simp
@[simp] theorem zerosP_two (z : Value) : zerosP 2 z = zeroCellsOf z ++ zeroCellsOf z := by rw [zerosP_succ' 1 z]; simp
@[simp] theorem zerosP_three (z : Value) : zerosP 3 z = zeroCellsOf z ++ (zeroCellsOf z ++ zeroCellsOf z) := by rw [zerosP_succ' 2 z]; simp
@[simp] theorem zerosP_four (z : Value) : zerosP 4 z = zeroCellsOf z ++ (zeroCellsOf z ++ (zeroCellsOf z ++ zeroCellsOf z)) := by rw [zerosP_succ' 3 z]; simp

@[simp] theorem splice_nil (cs : List PV) (off : Nat) : splice cs off [] = cs := by simp [splice]
@[simp] theorem splice_cons0 (c d : PV) (cs ds : List PV) : splice (c :: cs) 0 (d :: ds) = d :: splice cs 0 ds := by simp [splice]
@[simp] theorem splice_skip (c d : PV) (cs ds : List PV) (k : Nat) : splice (c :: cs) (k + 1) (d :: ds) = c :: splice cs k (d :: ds) := by simp [splice, Nat.add_right_comm k 1]
@[simp] theorem splice_len (cs ds : List PV) (off : Nat) (h : off + ds.length ≤ cs.length) : (splice cs off ds).length = cs.length := by simp [splice]; omega

@[simp] theorem set_same' (S : Store) (o : Nat) (x : Ob) : S.set o x o = x := Store.set_same S o x
theorem set_ne (S : Store) (o i : Nat) (x : Ob) (h : i ≠ o) : S.set o x i = S i := Store.set_other S o i x h
@[simp] theorem set_set' (S : Store) (o : Nat) (x y : Ob) : (S.set o x).set o y = S.set o y := Store.set_set S o x y

theorem wrap64 (x : Int) (h1 : -9223372036854775808 ≤ x) (h2 : x ≤ 9223372036854775807) : IntKind.i64.wrap x = x := IntWalk.i64_in x ⟨h1, h2⟩

/-- A whole number in its range. -/
def I64 (x : Int) : Prop := -9223372036854775808 ≤ x ∧ x ≤ 9223372036854775807

def pint (x : Int) : PV := .sc (.int .i64 x)
def pbool (b : Bool) : PV := .sc (.bool b)

/-- A list whose elements take k cells each. -/
def plist {α : Type} (enc : α → List PV) (l : List α) : PV := .lst l.length (l.flatMap enc)

theorem flat_drop {α : Type} (enc : α → List PV) (k : Nat) (hk : ∀ x, (enc x).length = k) : ∀ (l : List α) (i : Nat), (l.flatMap enc).drop (i * k) = (l.drop i).flatMap enc
  | l, 0 => by simp
  | [], i + 1 => by simp
  | x :: xs, i + 1 => by
    rw [List.flatMap_cons, List.drop_succ_cons, ← flat_drop enc k hk xs i, List.drop_append, hk, Nat.add_mul, Nat.one_mul]
    rw [List.drop_eq_nil_of_le (by rw [hk]; omega)]
    simp

theorem flat_at {α : Type} (enc : α → List PV) (k : Nat) (hk : ∀ x, (enc x).length = k) (l : List α) (i : Nat) (hi : i < l.length) : (l.flatMap enc).drop (i * k) = enc l[i] ++ (l.drop (i + 1)).flatMap enc := by
  rw [flat_drop enc k hk, List.drop_eq_getElem_cons hi, List.flatMap_cons]

theorem flat_len {α : Type} (enc : α → List PV) (k : Nat) (hk : ∀ x, (enc x).length = k) : ∀ (l : List α), (l.flatMap enc).length = l.length * k
  | [] => by simp
  | x :: xs => by rw [List.flatMap_cons, List.length_append, hk, flat_len enc k hk xs, List.length_cons, Nat.add_mul]; omega

theorem flat_take {α : Type} (enc : α → List PV) (k : Nat) (hk : ∀ x, (enc x).length = k) : ∀ (l : List α) (i : Nat), (l.flatMap enc).take (i * k) = (l.take i).flatMap enc
  | l, 0 => by simp
  | [], i + 1 => by simp
  | x :: xs, i + 1 => by
    rw [List.flatMap_cons, List.take_succ_cons, List.flatMap_cons, ← flat_take enc k hk xs i, List.take_append, hk, Nat.add_mul, Nat.one_mul]
    rw [List.take_of_length_le (by rw [hk]; omega)]
    simp

end Go.Proofs.YtafcjklojnhbnaaGreat.Pv

/- Ghost layer, part 14: maps; methods behind an interface value. -/
namespace Go.Proofs.YtafcjklojnhbnaaGreat.Pv
open Go

/-- The entries of a map have turned. -/
theorem Sim.turnMap {C : Ctx} {S : Store} {w w' : World} (h : Sim C S w) {o ver b k : Nat} {es es' : List (Value × PV)} (hs : S o = .map ver es) (hl : C.loc o = some (b, k)) (hg : w.grownBy w' (some b) ∧ w.drawn ≤ w'.drawn) {ms : Array MapEntry} {cl : Nat}
    (hb : w'.heap[b]? = some (.map ms cl)) (hlen : es'.length = ms.size) (hr : ∀ (i : Nat) (e : Value × PV) (m : MapEntry), es'[i]? = some e → ms[i]? = some m → m.key = e.1 ∧ Rel C S w e.2 m.val) :
    Sim C (S.set o (.map ver es')) w' ∧ Step C S w C (S.set o (.map ver es')) w' := by
  have hne : S o ≠ .dead := by rw [hs]; simp
  have hfar : ∀ i b' k', i ≠ o → S i ≠ .dead → C.loc i = some (b', k') → some b' ≠ some b := by
    intro i b' k' hi hd hb' he
    cases he
    exact hi (h.dist i o b k' k hd hne hb' hl)
  have hdead : ∀ i, S.set o (.map ver es') i ≠ .dead → S i ≠ .dead := by
    intro i hi
    by_cases hc : i = o
    · subst hc; exact hne
    · rw [Store.set_other _ _ _ _ hc] at hi; exact hi
  have st : Step C S w C (S.set o (.map ver es')) w' := by
    refine ⟨hg.1.os, ⟨hg.1.tape, hg.2⟩, hg.1.output, hg.1.size, Nat.le_refl _, Nat.le_refl _, fun c hc hM => ⟨hg.1.block c hc ?_, ?_⟩, ?_⟩
    · intro he; cases he; exact hM ⟨o, k, hne, hl⟩
    · rintro ⟨i, k', hd, hb'⟩; exact hM ⟨i, k', hdead i hd, hb'⟩
    · intro i v1 hv
      by_cases hc : i = o
      · subst hc; rw [Store.set_same] at hv; cases hv; exact .inr ⟨ver, by rw [hs]; rfl, Nat.le_refl _, fun _ => rfl⟩
      · rw [Store.set_other _ _ _ _ hc] at hv; exact .inr ⟨v1, hv, Nat.le_refl _, fun _ => rfl⟩
  refine ⟨⟨fun i hi => h.lt i (hdead i hi), fun i v hv => (by
    by_cases hc : i = o
    · subst hc; rw [Store.set_same] at hv; cases hv; exact h.clk i ver (by rw [hs]; rfl)
    · rw [Store.set_other _ _ _ _ hc] at hv; exact h.clk i v hv), fun i j b1 k1 k2 hi hj => h.dist i j b1 k1 k2 (hdead i hi) (hdead j hj), ?_, ?_⟩, st⟩
  · intro i v' e' ds hi
    by_cases hc : i = o
    · subst hc; rw [Store.set_same] at hi; cases hi
    · rw [Store.set_other _ _ _ _ hc] at hi
      rcases h.cells i v' e' ds hi with hn | ⟨b1, k1, c', g1, g2, g3, g4, g5, g6⟩
      · exact .inl hn
      · exact .inr ⟨b1, k1, c', g1, (hg.1.block b1 (lt_of_heap g2) (hfar i b1 k1 hc (by rw [hi]; simp) g1)).trans g2, g3, g4, g5, fun j p v hp hv => (g6 j p v hp hv).mono st⟩
  · intro i ver2 fs hi
    by_cases hc : i = o
    · subst hc
      rw [Store.set_same] at hi; cases hi
      exact ⟨b, k, ms, cl, hl, hb, hlen, fun j e m he hm => ⟨(hr j e m he hm).1, (hr j e m he hm).2.mono st⟩⟩
    · rw [Store.set_other _ _ _ _ hc] at hi
      obtain ⟨b1, k1, ms1, cl1, g1, g2, g3, g4⟩ := h.maps i ver2 fs hi
      exact ⟨b1, k1, ms1, cl1, g1, (hg.1.block b1 (lt_of_heap g2) (hfar i b1 k1 hc (by rw [hi]; simp) g1)).trans g2, g3, fun j x m he hm => ⟨(g4 j x m he hm).1, (g4 j x m he hm).2.mono st⟩⟩

/-- A new map. -/
theorem Sim.newMap' {C : Ctx} {S : Store} {w : World} (h : Sim C S w) {o ver : Nat} (hf : Fresh C S o ver) :
    Sim (C.put o ver (some (w.heap.size, 0))) (S.set o (.map ver [])) (w.alloc (.map #[] 0)) ∧ Step C S w (C.put o ver (some (w.heap.size, 0))) (S.set o (.map ver [])) (w.alloc (.map #[] 0)) := by
  have hloc : ∀ i, i ≠ o → (C.put o ver (some (w.heap.size, 0))).loc i = C.loc i := fun i hi => by simp [Ctx.put, hi]
  have hlocn : (C.put o ver (some (w.heap.size, 0))).loc o = some (w.heap.size, 0) := by simp [Ctx.put]
  have st : Step C S w (C.put o ver (some (w.heap.size, 0))) (S.set o (.map ver [])) (w.alloc (.map #[] 0)) :=
    Sim.step_new hf rfl _ rfl ⟨rfl, Nat.le_refl _⟩ rfl (by simp) (fun b hb => heap_alloc_lt w _ b hb) (fun b k hq => by cases hq; exact Nat.le_refl _)
  refine ⟨⟨?_, ?_, ?_, ?_, ?_⟩, st⟩
  · intro i ho
    by_cases hc : i = o
    · subst hc; simp only [Ctx.put]; omega
    · rw [Store.set_other _ _ _ _ hc] at ho
      have := h.lt i ho
      simp only [Ctx.put]; omega
  · intro i v hv
    by_cases hc : i = o
    · subst hc; rw [Store.set_same] at hv; cases hv; simp only [Ctx.put]; omega
    · rw [Store.set_other _ _ _ _ hc] at hv
      have := h.clk i v hv
      simp only [Ctx.put]; omega
  · intro i i' b k k' ho ho' hl hl'
    by_cases hc : i = o <;> by_cases hc' : i' = o
    · omega
    · subst hc
      rw [hlocn] at hl; rw [hloc i' hc'] at hl'; rw [Store.set_other _ _ _ _ hc'] at ho'
      have := h.M_lt ⟨i', k', ho', hl'⟩
      simp only [Option.some.injEq, Prod.mk.injEq] at hl; omega
    · subst hc'
      rw [hlocn] at hl'; rw [hloc i hc] at hl; rw [Store.set_other _ _ _ _ hc] at ho
      have := h.M_lt ⟨i, k, ho, hl⟩
      simp only [Option.some.injEq, Prod.mk.injEq] at hl'; omega
    · rw [hloc i hc] at hl; rw [hloc i' hc'] at hl'; rw [Store.set_other _ _ _ _ hc] at ho; rw [Store.set_other _ _ _ _ hc'] at ho'
      exact h.dist i i' b k k' ho ho' hl hl'
  · intro i ver' e' cs' hs
    by_cases hc : i = o
    · subst hc; rw [Store.set_same] at hs; cases hs
    · rw [Store.set_other _ _ _ _ hc] at hs
      rcases h.cells i ver' e' cs' hs with hn | ⟨b, k, c', g1, g2, g3, g4, g5, g6⟩
      · exact .inl ⟨(hloc i hc).trans hn.1, hn.2⟩
      · exact .inr ⟨b, k, c', (hloc i hc).trans g1, (heap_alloc_lt w _ b (lt_of_heap g2)).trans g2, g3, g4, g5, fun i p v hp hv => (g6 i p v hp hv).mono st⟩
  · intro i ver' es hs
    by_cases hc : i = o
    · subst hc; rw [Store.set_same] at hs; cases hs
      exact ⟨w.heap.size, 0, #[], 0, hlocn, heap_alloc_new' w _, rfl, by simp⟩
    · rw [Store.set_other _ _ _ _ hc] at hs
      obtain ⟨b, k, ms, cl, g1, g2, g3, g4⟩ := h.maps i ver' es hs
      exact ⟨b, k, ms, cl, (hloc i hc).trans g1, (heap_alloc_lt w _ b (lt_of_heap g2)).trans g2, g3, fun i e m he hm => ⟨(g4 i e m he hm).1, (g4 i e m he hm).2.mono st⟩⟩

/-- Where a key stands. -/
def findP (d : TypeDesc) (k : Value) : List (Value × PV) → Nat → Option (Option (Nat × PV))
  | [], _ => some none
  | e :: es, i =>
    match Instr.sameNow d k e.1 with
    | some true => some (some (i, e.2))
    | some false => findP d k es (i + 1)
    | none => none

/-- A key of a plain kind. -/
def plainKey (d : TypeDesc) : Bool :=
  match d with
  | .int _ => true
  | .string => true
  | .bool => true
  | _ => false

section
variable {P : Program} {r : Rd} {n N : Nat} {Q : Exit → (Nat → PV) → Store → Prop} {F : Nat → PV} {S : Store}

theorem findP_sound {C : Ctx} {w : World} {d : TypeDesc} {k : Value} : ∀ (es : List (Value × PV)) (ms : List MapEntry) (i : Nat) (res : Option (Nat × PV)), es.length = ms.length →
    (∀ (j : Nat) (e : Value × PV) (m : MapEntry), es[j]? = some e → ms[j]? = some m → m.key = e.1 ∧ Rel C S w e.2 m.val) → findP d k es i = some res →
    (res = none ∧ Instr.findNow d k ms i = some none) ∨ ∃ j p v, res = some (j, p) ∧ Instr.findNow d k ms i = some (some (j, v)) ∧ Rel C S w p v
  | [], [], i, res, _, _, h => by cases h; exact .inl ⟨rfl, rfl⟩
  | e :: es, m :: ms, i, res, hl, hr, h => by
    obtain ⟨hk, hv⟩ := hr 0 e m rfl rfl
    simp only [findP] at h
    simp only [Instr.findNow, hk]
    split at h
    · rename_i hs; cases h; simp only [hs]; exact .inr ⟨_, _, _, rfl, rfl, hv⟩
    · rename_i hs; simp only [hs]
      exact findP_sound es ms (i + 1) res (by simpa using hl) (fun j e m he hm => hr (j + 1) e m (by simpa using he) (by simpa using hm)) h
    · cases h

theorem run_checkKey {t : TypeId} {d : TypeDesc} (ht : P.underlying t = some d) (hp : plainKey d = true) (b : Bool) (k : Value) (w : World) : (Instr.checkKey b 10000 t k).run P w = .ok () w := by
  show (Instr.checkKey b (9999 + 1) t k).run P w = _
  unfold Instr.checkKey
  simp only [Sem.run_bind, run_underlying ht, Result.andThen_ok]
  cases d <;> simp [plainKey] at hp <;> rfl

def lookP (ok : Bool) (z : Value) (res : Option (Nat × PV)) : PV :=
  match res with
  | some (_, p) => if ok = true then .tup [p, .sc (.bool true)] else p
  | none => if ok = true then .tup [ofV z, .sc (.bool false)] else ofV z

/-- m[k]; v, ok := m[k]. -/
theorem po_lookup {o : Oper} {t kt et id ver : Nat} {x i : Operand} {ok : Bool} {k : Value} {d : TypeDesc} {es : List (Value × PV)} {res : Option (Nat × PV)} {z : Value} {K : PV → Store → Prop} (ho : o.op = .lookup t x i ok) (ht : P.underlying t = some (.map kt et))
    (hk : P.underlying kt = some d) (hd : plainKey d = true) (hx : ev F x = .mp id ver) (hi : ev F i = .sc k) (hs : S id = .map ver es) (hf : findP d k es 0 = some res) (hz : Program.zeroOf P et = some z)
    (hK : K (lookP ok z res) S) : PO P r n o F S K := by
  intro G hG C w a N st next Q' hnext
  have e1 := st.ev x
  have e2 := st.ev i
  rw [(hG x (by simp [ho, Op.operands])).trans hx] at e1
  rw [(hG i (by simp [ho, Op.operands])).trans hi] at e2
  generalize hv1 : a.eval x = v1 at e1
  generalize hv2 : a.eval i = v2 at e2
  cases e2
  obtain ⟨b, k0, ms, cl, g1, g2, g3, g4⟩ := st.sim.maps id ver es hs
  cases e1 with
  | mp h1 h2 h3 =>
    obtain ⟨b', rfl⟩ := h1
    obtain ⟨b2, k2, q1, q2⟩ := (h3 ver (by rw [hs]; rfl)).2 rfl
    rw [g1] at q1; cases q1; cases q2
    have hnd : ∀ c, o.op ≠ .defer c := by intro c hc; rw [ho] at hc; cases hc
    have hget : (getObj b).run P w = .ok (.map ms cl) w := by
      simp only [getObj, Sem.run, g2]
    have hfind := findP_sound (C := C) (w := w) es ms.toList 0 res (by simpa using g3) (fun j e m he hm => g4 j e m he (by rw [← Array.getElem?_toList]; exact hm)) hf
    rcases hfind with ⟨rfl, hn⟩ | ⟨j, p, v, rfl, hn, hrel⟩
    · have hrun : (execOp a.eval o).run P w = .ok (.value (if ok then .tuple #[z, .bool false] else z)) w := by
        unfold execOp
        simp only [ho, hv1, hv2, Instr.lookup, Sem.run_bind, run_underlying ht, Result.andThen_ok, hget, Sem.run_pure, run_checkKey hk hd, Instr.findKey, run_underlying hk, hn, run_zeroValue hz]
      refine wpIn_of_run hnd hrun (hnext _ _ _ _ _ hK ?_ st.sim (.refl _ _ _))
      cases ok
      · exact rel_ofV z
      · exact .tup rfl (by
          intro i c v hc hv
          match i with
          | 0 => have hc : some (ofV z) = some c := hc; have hv : some z = some v := hv; cases hc; cases hv; exact rel_ofV z
          | 1 => have hc : some (PV.sc (.bool false)) = some c := hc; have hv : some (Value.bool false) = some v := hv; cases hc; cases hv; exact .sc _
          | i + 2 => simp at hc)
    · have hrun : (execOp a.eval o).run P w = .ok (.value (if ok then .tuple #[v, .bool true] else v)) w := by
        unfold execOp
        simp only [ho, hv1, hv2, Instr.lookup, Sem.run_bind, run_underlying ht, Result.andThen_ok, hget, Sem.run_pure, run_checkKey hk hd, Instr.findKey, run_underlying hk, hn]
      refine wpIn_of_run hnd hrun (hnext _ _ _ _ _ hK ?_ st.sim (.refl _ _ _))
      cases ok
      · exact hrel
      · exact .tup rfl (by
          intro i c v hc hv
          match i with
          | 0 => simp at hc hv; subst hc; subst hv; exact hrel
          | 1 => simp at hc hv; subst hc; subst hv; exact .sc _
          | i + 2 => simp at hc)

theorem findP_lt {d : TypeDesc} {k : Value} : ∀ (es : List (Value × PV)) (i j : Nat) (p : PV), findP d k es i = some (some (j, p)) → i ≤ j ∧ j < i + es.length
  | [], _, _, _, h => by cases h
  | e :: es, i, j, p, h => by
    simp only [findP] at h
    split at h
    · cases h; simp
    · have := findP_lt es (i + 1) j p h; simp only [List.length_cons]; omega
    · cases h

theorem findP_key {d : TypeDesc} {k : Value} : ∀ (es : List (Value × PV)) (i j : Nat) (p : PV), findP d k es i = some (some (j, p)) → ∃ e, es[j - i]? = some e ∧ Instr.sameNow d k e.1 = some true
  | [], _, _, _, h => by cases h
  | e :: es, i, j, p, h => by
    simp only [findP] at h
    split at h
    · rename_i hs; cases h; exact ⟨e, by simp, hs⟩
    · obtain ⟨e', h1, h2⟩ := findP_key es (i + 1) j p h
      have := findP_lt es (i + 1) j p h
      exact ⟨e', by rw [show j - i = (j - (i + 1)) + 1 from by omega, List.getElem?_cons_succ]; exact h1, h2⟩
    · cases h

theorem bytes_beq' (a b : ByteArray) : (a == b) = true ↔ a = b := by
  constructor
  · intro h
    cases a; cases b
    have h' : (ByteArray.mk _).beq (ByteArray.mk _) = true := h
    simp only [ByteArray.beq] at h'
    rw [eq_of_beq h']
  · rintro rfl
    cases a
    show (ByteArray.mk _).beq (ByteArray.mk _) = true
    simp [ByteArray.beq]

theorem sameBits_of_now {d : TypeDesc} {k k' : Value} (h : Instr.sameNow d k k' = some true) : Instr.sameBits 10000 k' k = true ∧ k' = k := by
  unfold Instr.sameNow at h
  split at h
  · split at h
    · rename_i hk
      subst hk
      simp at h; subst h
      exact ⟨by simp [Instr.sameBits], rfl⟩
    · cases h
  · simp only [Option.some.injEq] at h; rw [bytes_beq'] at h; subst h; exact ⟨by simp only [Instr.sameBits]; rw [bytes_beq'], rfl⟩
  · simp at h; subst h; exact ⟨by simp [Instr.sameBits], rfl⟩
  · cases h

theorem run_getMap {w : World} {b : Nat} {ms : Array MapEntry} {cl : Nat} (h : w.heap[b]? = some (.map ms cl)) : (getObj b).run P w = .ok (.map ms cl) w := by
  simp only [getObj, Sem.run, h]

theorem run_setMap {w : World} {b : Nat} {ms : Array MapEntry} {cl : Nat} (o : Obj) (h : w.heap[b]? = some (.map ms cl)) : (setObj b o).run P w = .ok () (w.putObj b o) := by
  simp only [setObj, Sem.run, h]; rfl

theorem putObj_grown {w : World} {b : Nat} {o' : Obj} : w.grownBy (w.putObj b o') (some b) ∧ w.drawn ≤ (w.putObj b o').drawn :=
  ⟨⟨rfl, rfl, rfl, by simp [World.putObj], fun j _ hne => World.putObj_heap_other (fun e => hne (by rw [e]))⟩, Nat.le_refl _⟩

/-- What m[k] = v makes of the entries. -/
def putP (k : Value) (p : PV) (es : List (Value × PV)) (res : Option (Nat × PV)) : List (Value × PV) :=
  match res with
  | some (j, _) => es.set j (k, p)
  | none => es ++ [(k, p)]

/-- m[k] = v. -/
theorem po_mapUpdate {o : Oper} {t kt et id ver : Nat} {x i y : Operand} {k : Value} {d : TypeDesc} {es : List (Value × PV)} {res : Option (Nat × PV)} {K : PV → Store → Prop} (ho : o.op = .mapUpdate t x i y ∨ o.op = .insert t x i y) (ht : P.underlying t = some (.map kt et))
    (hk : P.underlying kt = some d) (hd : plainKey d = true) (hx : ev F x = .mp id ver) (hi : ev F i = .sc k) (hs : S id = .map ver es) (hf : findP d k es 0 = some res)
    (hK : K (.sc undef) (S.set id (.map ver (putP k (ev F y) es res)))) : PO P r n o F S K := by
  intro G hG C w a N st next Q' hnext
  have ops : x ∈ o.op.operands ∧ i ∈ o.op.operands ∧ y ∈ o.op.operands := by rcases ho with ho | ho <;> simp [ho, Op.operands]
  have e1 := st.ev x
  have e2 := st.ev i
  have e3 := st.ev y
  rw [(hG x ops.1).trans hx] at e1
  rw [(hG i ops.2.1).trans hi] at e2
  rw [hG y ops.2.2] at e3
  generalize hv1 : a.eval x = v1 at e1
  generalize hv2 : a.eval i = v2 at e2
  cases e2
  obtain ⟨b, k0, ms, cl, g1, g2, g3, g4⟩ := st.sim.maps id ver es hs
  cases e1 with
  | mp h1 h2 h3 =>
    obtain ⟨b', rfl⟩ := h1
    obtain ⟨b2, k2, q1, q2⟩ := (h3 ver (by rw [hs]; rfl)).2 rfl
    rw [g1] at q1; cases q1; cases q2
    have hnd : ∀ c, o.op ≠ .defer c := by intro c hc; rcases ho with ho | ho <;> (rw [ho] at hc; cases hc)
    have hlt : b < w.heap.size := lt_of_heap g2
    have hfind := findP_sound (C := C) (w := w) es ms.toList 0 res (by simpa using g3) (fun j e m he hm => g4 j e m he (by rw [← Array.getElem?_toList]; exact hm)) hf
    have fin : ∀ (w' : World), (Instr.mapUpdate t (.map (some b)) k (a.eval y)).run P w = .ok () w' → (execOp a.eval o).run P w = .ok .skip w' := by
      intro w' hw
      unfold execOp
      rcases ho with ho | ho <;> (simp only [ho, hv1, hv2, Sem.run_bind, hw, Result.andThen_ok]; rfl)
    rcases hfind with ⟨rfl, hn⟩ | ⟨j, p, v, rfl, hn, hrel⟩
    · have hrun := fin (w.putObj b (.map (ms.push { key := k, val := a.eval y, born := cl }) (cl + 1))) (by
        simp only [Instr.mapUpdate, Sem.run_bind, run_underlying ht, Result.andThen_ok, run_getMap g2, run_checkKey hk hd, Instr.findKey, run_underlying hk, hn, Sem.run_pure, run_setMap _ g2])
      obtain ⟨t1, t2⟩ := st.sim.turnMap (es' := es ++ [(k, ev F y)]) (ms := ms.push { key := k, val := a.eval y, born := cl }) (cl := cl + 1) hs g1 putObj_grown (World.putObj_heap_same hlt) (by simp [g3]) (by
        intro jj e m he hm
        by_cases hj : jj < es.length
        · rw [List.getElem?_append_left hj] at he
          rw [Array.getElem?_push, if_neg (by omega)] at hm
          exact g4 jj e m he hm
        · have hje : jj = es.length := by
            rcases Nat.lt_or_ge jj (es.length + 1) with q | q
            · omega
            · rw [List.getElem?_eq_none (by simpa using q)] at he; cases he
          subst hje
          rw [List.getElem?_append_right (Nat.le_refl _)] at he
          simp only [Nat.sub_self, List.getElem?_cons_zero, Option.some.injEq] at he
          subst he
          rw [g3, Array.getElem?_push, if_pos rfl] at hm
          cases hm
          exact ⟨rfl, e3⟩)
      exact wpIn_of_run hnd hrun (hnext _ _ _ _ _ hK (.sc _) t1 t2)
    · obtain ⟨e0, he0, hsame⟩ := findP_key es 0 j p hf
      rw [Nat.sub_zero] at he0
      have hjl := findP_lt es 0 j p hf
      have hmj : ms[j]? = some (ms[j]'(by omega)) := by simp
      have hkey := (g4 j e0 _ he0 hmj).1
      obtain ⟨sb1, sb2⟩ := sameBits_of_now hsame
      have hrun := fin (w.putObj b (.map (ms.modify j fun e => { e with key := k, val := a.eval y }) cl)) (by
        simp only [Instr.mapUpdate, Sem.run_bind, run_underlying ht, Result.andThen_ok, run_getMap g2, run_checkKey hk hd, Instr.findKey, run_underlying hk, hn, Sem.run_pure, hmj, Option.map_some, Option.getD_some, hkey, Instr.keyThatStays, sb1, if_true, run_setMap _ g2])
      obtain ⟨t1, t2⟩ := st.sim.turnMap (es' := es.set j (k, ev F y)) (ms := ms.modify j fun e => { e with key := k, val := a.eval y }) (cl := cl) hs g1 putObj_grown (World.putObj_heap_same hlt) (by simp [g3]) (by
        intro jj e m he hm
        rw [Array.getElem?_modify] at hm
        rw [List.getElem?_set] at he
        by_cases hj : j = jj
        · subst hj
          rw [if_pos rfl] at hm he
          rw [hmj] at hm
          rw [if_pos (by omega)] at he
          cases he; cases hm
          exact ⟨rfl, e3⟩
        · rw [if_neg hj] at hm he
          exact g4 jj e m he hm)
      exact wpIn_of_run hnd hrun (hnext _ _ _ _ _ hK (.sc _) t1 t2)

def delP (es : List (Value × PV)) (res : Option (Nat × PV)) : List (Value × PV) :=
  match res with
  | some (j, _) => es.eraseIdx j
  | none => es

/-- delete(m, k). -/
theorem po_delete {o : Oper} {t kt et id ver : Nat} {x i : Operand} {k : Value} {d : TypeDesc} {es : List (Value × PV)} {res : Option (Nat × PV)} {ts : Array TypeId} {K : PV → Store → Prop} (ho : o.op = .call { callee := .builtin .delete, args := #[x, i], argTypes := ts }) (hts : ts[0]? = some t) (ht : P.underlying t = some (.map kt et))
    (hk : P.underlying kt = some d) (hd : plainKey d = true) (hx : ev F x = .mp id ver) (hi : ev F i = .sc k) (hs : S id = .map ver es) (hf : findP d k es 0 = some res)
    (hK : K (.tup []) (S.set id (.map ver (delP es res)))) : PO P r n o F S K := by
  intro G hG C w a N st next Q' hnext
  have ops : x ∈ o.op.operands ∧ i ∈ o.op.operands := by simp [ho, Op.operands, Call.operands]
  have e1 := st.ev x
  have e2 := st.ev i
  rw [(hG x ops.1).trans hx] at e1
  rw [(hG i ops.2).trans hi] at e2
  generalize hv1 : a.eval x = v1 at e1
  generalize hv2 : a.eval i = v2 at e2
  cases e2
  obtain ⟨b, k0, ms, cl, g1, g2, g3, g4⟩ := st.sim.maps id ver es hs
  cases e1 with
  | mp h1 h2 h3 =>
    obtain ⟨b', rfl⟩ := h1
    obtain ⟨b2, k2, q1, q2⟩ := (h3 ver (by rw [hs]; rfl)).2 rfl
    rw [g1] at q1; cases q1; cases q2
    have hnd : ∀ c, o.op ≠ .defer c := by intro c hc; rw [ho] at hc; cases hc
    have hlt : b < w.heap.size := lt_of_heap g2
    have hfind := findP_sound (C := C) (w := w) es ms.toList 0 res (by simpa using g3) (fun j e m he hm => g4 j e m he (by rw [← Array.getElem?_toList]; exact hm)) hf
    have fin : ∀ (w' : World), (Builtin.delete_ ts o.type #[.map (some b), k]).run P w = .ok (.tuple #[]) w' → (execOp a.eval o).run P w = .ok (.value (.tuple #[])) w' := by
      intro w' hw
      unfold execOp
      simp only [ho, hv1, hv2, resolve, invoke, builtin, Sem.run_bind, Sem.run_pure, Result.andThen_ok, List.map_toArray, List.map_cons, List.map_nil, hw]
    rcases hfind with ⟨rfl, hn⟩ | ⟨j, p, v, rfl, hn, hrel⟩
    · have hrun := fin (w.putObj b (.map ms cl)) (by
        simp only [Builtin.delete_, hts, List.getElem?_toArray, List.getElem?_cons_zero, List.getElem?_cons_succ, Sem.run_bind, run_underlying ht, Result.andThen_ok, run_getMap g2, run_checkKey hk hd, Instr.findKey, run_underlying hk, hn, Sem.run_pure, run_setMap _ g2])
      obtain ⟨t1, t2⟩ := st.sim.turnMap (es' := es) (ms := ms) (cl := cl) hs g1 putObj_grown (World.putObj_heap_same hlt) g3 g4
      exact wpIn_of_run hnd hrun (hnext _ _ _ _ _ hK (.tup rfl (by simp)) t1 t2)
    · have hjl := findP_lt es 0 j p hf
      have hrun := fin (w.putObj b (.map (ms.eraseIdxIfInBounds j) cl)) (by
        simp only [Builtin.delete_, hts, List.getElem?_toArray, List.getElem?_cons_zero, List.getElem?_cons_succ, Sem.run_bind, run_underlying ht, Result.andThen_ok, run_getMap g2, run_checkKey hk hd, Instr.findKey, run_underlying hk, hn, Sem.run_pure, run_setMap _ g2])
      have hms : (ms.eraseIdxIfInBounds j).toList = ms.toList.eraseIdx j := by
        unfold Array.eraseIdxIfInBounds
        rw [dif_pos (by omega)]
        simp
      have hlen : (es.eraseIdx j).length = (ms.eraseIdxIfInBounds j).size := by
        have g3' : es.length = ms.toList.length := by simpa using g3
        have : (es.eraseIdx j).length = (ms.eraseIdxIfInBounds j).toList.length := by rw [hms, List.length_eraseIdx, List.length_eraseIdx, g3']
        exact this.trans Array.length_toList
      obtain ⟨t1, t2⟩ := st.sim.turnMap (es' := es.eraseIdx j) (ms := ms.eraseIdxIfInBounds j) (cl := cl) hs g1 putObj_grown (World.putObj_heap_same hlt) hlen (by
        intro jj e m he hm
        rw [← Array.getElem?_toList, hms, List.getElem?_eraseIdx] at hm
        rw [List.getElem?_eraseIdx] at he
        split at he
        · rename_i hj; rw [if_pos hj] at hm; exact g4 jj e m he (by rw [← Array.getElem?_toList]; exact hm)
        · rename_i hj; rw [if_neg hj] at hm; exact g4 (jj + 1) e m he (by rw [← Array.getElem?_toList]; exact hm))
      exact wpIn_of_run hnd hrun (hnext _ _ _ _ _ hK (.tup rfl (by simp)) t1 t2)

/-- make(map ..), a map that is written out empty. -/
theorem po_makeMap0 {o : Oper} {t : TypeId} {K : PV → Store → Prop} (ho : o.op = .makeMap t none) (hK : ∀ C : Ctx, S C.next = .dead → ∃ id v, Fresh C S id v ∧ K (.mp id v) (S.set id (.map v []))) : PO P r n o F S K := by
  intro G _ C w a N st next Q' hnext
  obtain ⟨id, ver, hfr, hK⟩ := hK C st.sim.free
  obtain ⟨k1, k2⟩ := st.sim.newMap' hfr
  refine wpIn_of_run (x := .value (.map (some w.heap.size))) (w' := w.alloc (.map #[] 0)) (by intro c hc; rw [ho] at hc; cases hc) ?_ (hnext _ _ _ _ (.mp id ver) hK ?_ k1 k2)
  · unfold execOp
    simp only [ho, Option.map_none, Instr.makeMap, Sem.run_bind, run_newObj, Result.andThen_ok, Sem.run_pure, World.alloc_eq]
  · refine .mp ⟨_, rfl⟩ (by simp only [Ctx.put]; omega) fun v0 hv0 => ?_
    rw [Store.set_same] at hv0; cases hv0
    exact ⟨Nat.le_refl _, fun _ => ⟨w.heap.size, 0, by simp [Ctx.put], rfl⟩⟩

theorem po_makeMap {o : Oper} {t : TypeId} {K : PV → Store → Prop} (ho : o.op = .makeMap t none) (hK : ∀ id, S id = .dead → K (.mp id 0) (S.set id (.map 0 []))) : PO P r n o F S K :=
  po_makeMap0 ho (fresh0 (X := fun id v => K (.mp id v) (S.set id (.map v []))) hK)

/-- A method of a type that needs no way to its receiver. -/
def MethodAt (P : Program) (t : TypeId) (name : String) (k : FuncId) : Prop := ∀ (v : Value) (w : World), (method (P.types.size + Made.depth) t v name).run P w = .ok (k, v) w

/-- A call through an interface value whose type is known. -/
theorem po_invoke {o : Oper} {c : Call} {x : Operand} {name : String} {t : TypeId} {q : PV} {k : FuncId} {K : PV → Store → Prop} {R : PV → Store → Prop} (ho : o.op = .call c) (hc : c.callee = .invoke x name) (hx : ev F x = .ifc t q) (hM : MethodAt P t name k) (hE : Enters P k)
    (h : PCalls P k (q :: c.args.toList.map (ev F)) S R) (hK : ∀ p S', R p S' → K p S') : PO P r n o F S K := by
  intro G hG C w a N st next Q' hnext
  have hxo : x ∈ o.op.operands := by simp [ho, Op.operands, Call.operands, hc]
  have hxG : ev G x = .ifc t q := (hG x hxo).trans hx
  have harg : ∀ y ∈ c.args.toList, ev G y = ev F y := fun y hy => hG y (by simp only [ho, Op.operands, Call.operands, Array.mem_append]; exact .inr (Array.mem_toList_iff.1 hy))
  have hmap : c.args.toList.map (ev F) = c.args.toList.map (ev G) := List.map_congr_left fun y hy => (harg y hy).symm
  rw [hmap] at h
  have hrel := st.ev x
  rw [hxG] at hrel
  generalize hv : a.eval x = v at hrel
  cases hrel with
  | ifc hq =>
    rename_i u
    have hrun : (execOp a.eval o).run P w = .ok (.enter k (#[u] ++ c.args.map a.eval)) w := by
      unfold execOp
      have hex : (#[Value.iface t u] ++ c.args.map a.eval).extract 1 (#[Value.iface t u] ++ c.args.map a.eval).size = c.args.map a.eval := by
        apply Array.ext
        · simp
        · intro i h1 h2
          simp
      have hget : (#[Value.iface t u] ++ c.args.map a.eval)[0]? = some (.iface t u) := by rw [Array.getElem?_append_left (by simp)]; rfl
      simp only [ho, resolve, hc, hv, Sem.run_bind, Sem.run_pure, Result.andThen_ok, invoke, hget, hex, callMethod, run_program, hM u w]
      exact hE _ w
    refine wpIn_of_run (x := .enter k (#[u] ++ c.args.map a.eval)) (w' := w) (by intro c' hc'; rw [ho] at hc'; cases hc') hrun ?_
    rw [Oper.uponIn_enter]
    refine ⟨fun hd => ?_, ?_⟩
    · cases hd
    · have hlist := relList (l := c.args.toList) st.ev
      simp only [Array.toArray_toList] at hlist
      have key := h C w (#[u] ++ c.args.map a.eval) st.sim (by simp; omega) (by
        intro i p v hp hv
        cases i with
        | zero =>
          rw [Array.getElem?_append_left (by simp)] at hv
          have hp : some q = some p := hp
          have hv : some u = some v := hv
          cases hp; cases hv; exact hq
        | succ i =>
          rw [List.getElem?_cons_succ] at hp
          rw [Array.getElem?_append_right (by simp)] at hv
          exact hlist.2 i p v hp (by simpa using hv))
      refine (calls_in key).mono ?_
      rintro e w' ⟨p, v, S', C', rfl, hq, hr, hs, hst⟩
      exact hnext v w' C' S' p (hK _ _ hq) hr hs hst

end
end Go.Proofs.YtafcjklojnhbnaaGreat.Pv

/- Ghost layer, part 15: append to a nil slice; a nil slice in an object's cell. -/
namespace Go.Proofs.YtafcjklojnhbnaaGreat.Pv
open Go

section
variable {P : Program} {r : Rd} {n N : Nat} {Q : Exit → (Nat → PV) → Store → Prop} {F : Nat → PV} {S : Store}

theorem rel_newnil (C : Ctx) (S : Store) (w : World) (o ver sz e : Nat) : Rel (C.put o ver none) (S.set o (.cells ver e [])) w (.sl o ver sz 0 0) (.slice none 0 0) := by
  refine .sl ⟨_, _, rfl, Nat.le_refl _, by unfold maxN; omega, by unfold maxLen; omega, fun h => absurd rfl h⟩ (by simp only [Ctx.put]; omega) fun v0 hv0 => ?_
  rw [Store.set_same] at hv0; cases hv0
  exact ⟨Nat.le_refl _, fun _ => .inl ⟨by simp [Ctx.put], rfl, rfl, rfl⟩⟩

theorem enters_of {f : FuncId} {fn : Func} {c : Code} (hf : P.funcs[f]? = some fn) (hname : (fn.name == "runtime.NumGoroutine") = false) (hb : fn.body = some c) : Enters P f := by
  intro args w
  have h1 : fn.name ≠ "runtime.NumGoroutine" := by simpa using hname
  simp [callFunc, hf, h1, hb, mark]

/-- x.(T), v, ok := x.(T): T no interface. -/
def assertP (x : PV) (t : TypeId) (z : Value) : Option PV :=
  match x with
  | .ifc t' p => if t' = t then some (.tup [p, .sc (.bool true)]) else some (.tup [ofV z, .sc (.bool false)])
  | _ => none

theorem po_assert {o : Oper} {x : Operand} {xt t : TypeId} {d : TypeDesc} {z : Value} {p : PV} {K : PV → Store → Prop} (ho : o.op = .typeAssert x xt t true) (ht : P.underlying t = some d) (hd : ∀ ms, d ≠ .interface ms) (hz : Program.zeroOf P t = some z)
    (hp : assertP (ev F x) t z = some p) (hK : K p S) : PO P r n o F S K := by
  intro G hG C w a N st next Q' hnext
  have hr := st.ev x
  rw [hG x (by simp [ho, Op.operands])] at hr
  have hnd : ∀ c, o.op ≠ .defer c := by intro c hc; rw [ho] at hc; cases hc
  unfold assertP at hp
  split at hp
  · rename_i t' q he
    rw [he] at hr
    generalize hv : a.eval x = v at hr
    cases hr with
    | ifc hq =>
      rename_i u
      by_cases ht' : t' = t
      · rw [if_pos ht'] at hp; cases hp
        refine wpIn_of_run (x := .value (.tuple #[u, .bool true])) (w' := w) hnd ?_ (hnext _ _ _ _ _ hK (.tup rfl ?_) st.sim (.refl _ _ _))
        · unfold execOp
          simp only [ho, hv, Instr.typeAssert, Sem.run_bind, run_underlying ht, Result.andThen_ok]
          cases d <;> first | exact absurd rfl (hd _) | (simp only [ht', if_true]; rfl)
        · intro i c v hc hv
          match i with
          | 0 => have hc : some q = some c := hc; have hv : some u = some v := hv; cases hc; cases hv; exact hq
          | 1 => have hc : some (PV.sc (.bool true)) = some c := hc; have hv : some (Value.bool true) = some v := hv; cases hc; cases hv; exact .sc _
          | i + 2 => simp at hc
      · rw [if_neg ht'] at hp; cases hp
        refine wpIn_of_run (x := .value (.tuple #[z, .bool false])) (w' := w) hnd ?_ (hnext _ _ _ _ _ hK (.tup rfl ?_) st.sim (.refl _ _ _))
        · unfold execOp
          simp only [ho, hv, Instr.typeAssert, Sem.run_bind, run_underlying ht, Result.andThen_ok]
          cases d <;> first | exact absurd rfl (hd _) | (simp only [ht', if_false, if_true, Sem.run_bind, run_zeroValue hz, Result.andThen_ok]; rfl)
        · intro i c v hc hv
          match i with
          | 0 => have hc : some (ofV z) = some c := hc; have hv : some z = some v := hv; cases hc; cases hv; exact rel_ofV z
          | 1 => have hc : some (PV.sc (.bool false)) = some c := hc; have hv : some (Value.bool false) = some v := hv; cases hc; cases hv; exact .sc _
          | i + 2 => simp at hc
  · cases hp

/-- append to a nil slice. -/
theorem po_append_nil0 {o : Oper} {s x : Operand} {t e : TypeId} {z : Value} {by_ m : Nat} {ds : List PV} {K : PV → Store → Prop} (ho : o.op = .call { callee := .builtin .append, args := #[s, x], argTypes := #[t, t] })
    (hE : ElemOk P t e z by_) (hs : ev F s = .sc (.slice none 0 0)) (hx : srcP S (P.cellsOf e) (ev F x) = some (m, ds)) (hb : m * by_ ≤ 140737488355328) (hm : m ≤ 140737488355328)
    (hK : ∀ C : Ctx, S C.next = .dead → ∃ id v, Fresh C S id v ∧ K (.sl id v (P.cellsOf e) 0 m) (S.set id (.cells v e ds))) : PO P r n o F S K := by
  intro G hG C w a N st next Q' hnext
  have e1 : ev G s = _ := (hG s (by simp [ho, Op.operands, Call.operands])).trans hs
  have e2 : ev G x = ev F x := hG x (by simp [ho, Op.operands, Call.operands])
  rw [← e2] at hx
  have r1 := st.ev s
  rw [e1] at r1
  obtain ⟨news, hsrc, hrel, _⟩ := srcP_sound (P := P) st.sim hx (st.ev x)
  have hnd : ∀ c, o.op ≠ .defer c := by intro c hc; rw [ho] at hc; cases hc
  generalize hv : a.eval s = v at r1
  cases r1
  obtain ⟨id, ver, hfr, hK⟩ := hK C st.sim.free
  by_cases hm0 : m = 0
  · subst hm0
    have hne : news = [] := List.eq_nil_of_length_eq_zero (by rw [hsrc.size]; simp)
    have hde : ds = [] := List.eq_nil_of_length_eq_zero (by rw [hrel.1, hne]; rfl)
    subst hne; subst hde
    have hrun := run_append_op (P := P) (a := a) (w := w) ho (by rw [hv]; exact run_append_same (ty := o.type) hE.ty hE.pos hsrc (Nat.zero_le 0))
    obtain ⟨t1, t2⟩ := st.sim.nilObject' hfr e
    exact wpIn_of_run hnd hrun (hnext _ _ _ _ _ hK (rel_newnil C S w _ _ _ e) t1 t2)
  · have hrun := run_append_op (P := P) (a := a) (w := w) ho (by
      rw [hv]
      exact run_append_more (ty := o.type) (olds := []) hE.ty hE.pos hE.zero hE.bytes hsrc (by simp [Builtin.firstCells]) (by omega) (by simpa using hb) hE.bpos)
    have hgc : m ≤ grownCap w m 0 e := by have := grownCap_ge w m 0 e; exact this
    have hgm : grownCap w m 0 e ≤ maxLen := grownCap_le_maxLen w m 0 e (by unfold maxLen; omega)
    simp only [Nat.zero_add] at hrun
    have hsz : (#[] ++ news.toArray ++ Builtin.zeroCells z.cells (grownCap w m 0 e - m) : Array Value).size = grownCap w m 0 e * P.cellsOf e := by
      simp only [Array.size_append, List.size_toArray, List.length_nil, Nat.zero_add, size_zeroCells, hE.zsize, hsrc.size]
      rw [← Nat.add_mul]; congr 1; omega
    have hra := relL_append (cs := []) (vs := []) (by simp [RelL]) hrel (Builtin.zeroCells z.cells (grownCap w m 0 e - m)).toList
    simp only [List.nil_append] at hra
    have hget : ∀ i : Nat, (#[] ++ news.toArray ++ Builtin.zeroCells z.cells (grownCap w m 0 e - m) : Array Value)[i]? = (news ++ (Builtin.zeroCells z.cells (grownCap w m 0 e - m)).toList)[i]? := by
      intro i; rw [← Array.getElem?_toList]; simp
    obtain ⟨d1, d2⟩ := st.sim.drew
    obtain ⟨t1, t2⟩ := d1.object' hfr e (#[] ++ news.toArray ++ Builtin.zeroCells z.cells (grownCap w m 0 e - m)) ds (by have := hra.1; simp at this ⊢; omega) (fun i v hi hv => hra.2.1 i v hi (by rw [← hget]; exact hv)) (fun i p v hp hv => (hra.2.2 i p v hp (by rw [← hget]; exact hv)).mono d2)
    exact wpIn_of_run hnd hrun (hnext _ _ _ _ _ hK (rel_newsl C S w _ _ _ _ _ _ _ _ rfl hgc (Nat.le_trans hm (by unfold maxN; omega)) hgm hsz.symm) t1 (d2.trans t2))

theorem po_append_nil {o : Oper} {s x : Operand} {t e : TypeId} {z : Value} {by_ m : Nat} {ds : List PV} {K : PV → Store → Prop} (ho : o.op = .call { callee := .builtin .append, args := #[s, x], argTypes := #[t, t] })
    (hE : ElemOk P t e z by_) (hs : ev F s = .sc (.slice none 0 0)) (hx : srcP S (P.cellsOf e) (ev F x) = some (m, ds)) (hb : m * by_ ≤ 140737488355328) (hm : m ≤ 140737488355328)
    (hK : ∀ id, S id = .dead → K (.sl id 0 (P.cellsOf e) 0 m) (S.set id (.cells 0 e ds))) : PO P r n o F S K :=
  po_append_nil0 ho hE hs hx hb hm (fresh0 (X := fun id v => K (.sl id v (P.cellsOf e) 0 m) (S.set id (.cells v e ds))) hK)

/-- What an object's cells are known to be may be told otherwise. -/
theorem Sim.relabel {C : Ctx} {S : Store} {w : World} (h : Sim C S w) {o ver e : Nat} {cs cs' : List PV} (hs : S o = .cells ver e cs) (hl : cs'.length = cs.length)
    (hr : ∀ (i : Nat) (p' : PV), cs'[i]? = some p' → cs[i]? = some p' ∨ ∃ p, cs[i]? = some p ∧ ∀ v, Rel C S w p v → Rel C S w p' v) :
    Sim C (S.set o (.cells ver e cs')) w ∧ Step C S w C (S.set o (.cells ver e cs')) w := by
  have hl0 : C.at o ver (C.loc o) = C := by
    have hck := h.clk o ver (by rw [hs]; rfl)
    cases C
    simp only [Ctx.at, Ctx.mk.injEq, true_and] at hck ⊢
    refine ⟨?_, by omega⟩
    funext i
    split
    · rename_i e; rw [e]
    · rfl
  have := h.turn (w' := w) (ver' := ver) (cs' := cs') (l := C.loc o) hs (Nat.le_refl _) (fun _ => rfl) ⟨⟨rfl, rfl, rfl, Nat.le_refl _, fun _ _ _ => rfl⟩, Nat.le_refl _⟩ (by
    rcases h.cells o ver e cs hs with ⟨h1, h2⟩ | ⟨b, k, c, g1, g2, g3, g4, g5, g6⟩
    · exact .inl ⟨h1, List.eq_nil_of_length_eq_zero (by rw [hl, h2]; rfl)⟩
    · refine .inr ⟨b, k, c, g1, .inr (by rw [g1]; rfl), g2, g3, by omega, fun i v hi hv => g5 i v (by omega) hv, fun i p v hp hv => ?_⟩
      rcases hr i p hp with q | ⟨p0, q1, q2⟩
      · exact g6 i p v q hv
      · exact q2 v (g6 i p0 v q1 hv))
  rw [hl0] at this
  exact this

/-- A nil slice in an object's cell becomes an object that is still empty. -/
theorem pw_nilOb0 {c : Code} {o ver e0 : Nat} {cs : List PV} (i e sz : Nat) (hs : S o = .cells ver e0 cs) (hi : cs[i]? = some (.sc (.slice none 0 0)))
    (h : ∀ C : Ctx, S C.next = .dead → ∃ id v, Fresh C S id v ∧ PW P r n N c Q F ((S.set id (.cells v e [])).set o (.cells ver e0 (cs.set i (.sl id v sz 0 0))))) : PW P r n N c Q F S := by
  intro C w a st
  obtain ⟨id, vv, hfr, h⟩ := h C st.sim.free
  obtain ⟨k1, k2⟩ := st.sim.nilObject' hfr e
  have hne : o ≠ id := by
    intro e; have := hfr.dead; rw [← e, hs] at this; cases this
  obtain ⟨j1, j2⟩ := k1.relabel (o := o) (cs' := cs.set i (.sl id vv sz 0 0)) (by rw [Store.set_other _ _ _ _ hne]; exact hs) (by simp) (by
    intro j p' hp'
    rw [List.getElem?_set] at hp'
    split at hp'
    · rename_i hij
      subst hij
      split at hp'
      · cases hp'
        refine .inr ⟨_, hi, fun v hv => ?_⟩
        cases hv
        exact rel_newnil C S w _ _ sz e
      · cases hp'
    · exact .inl hp')
  refine wpIn_mono (h _ w a ⟨j1, st.size, fun i => ((st.fr i).mono k2).mono j2, r.keep j2 (r.keep k2 st.v)⟩) ?_
  rintro e a' w' ⟨F2, S2, C2, h1, h2, h3, h4⟩
  exact ⟨F2, S2, C2, h1, h2, h3, (k2.trans j2).trans h4⟩

theorem pw_nilOb {c : Code} {o ver e0 : Nat} {cs : List PV} (i e sz : Nat) (hs : S o = .cells ver e0 cs) (hi : cs[i]? = some (.sc (.slice none 0 0)))
    (h : ∀ id, S id = .dead → PW P r n N c Q F ((S.set id (.cells 0 e [])).set o (.cells ver e0 (cs.set i (.sl id 0 sz 0 0))))) : PW P r n N c Q F S :=
  pw_nilOb0 i e sz hs hi (fresh0 (X := fun id v => PW P r n N c Q F ((S.set id (.cells v e [])).set o (.cells ver e0 (cs.set i (.sl id v sz 0 0))))) h)

end
end Go.Proofs.YtafcjklojnhbnaaGreat.Pv

