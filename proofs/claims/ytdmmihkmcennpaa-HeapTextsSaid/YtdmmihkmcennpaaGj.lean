/- Ghost layer, part 10: calls, the way into a function and out of it, ghost steps, new objects. -/
import Derived.Test.YtdmmihkmcennpaaGi
namespace Go.Proofs.Ytdmmihkmcennpaa.Pv
open Go

/-- What a call gives, said of pure values. -/
def PCalls (P : Program) (f : FuncId) (args : List PV) (S : Store) (Q : PV → Store → Prop) : Prop :=
  ∀ (C : Ctx) (w : World) (vs : Array Value), Sim C S w → args.length = vs.size → (∀ (i : Nat) (c : PV) (v : Value), args[i]? = some c → vs[i]? = some v → Rel C S w c v) →
    Calls P f vs w fun e w' => ∃ p v S' C', e = .returned v ∧ Q p S' ∧ Rel C' S' w' p v ∧ Sim C' S' w' ∧ Step C S w C' S' w'

theorem PCalls.mono {P : Program} {f : FuncId} {args : List PV} {S : Store} {Q Q' : PV → Store → Prop} (h : PCalls P f args S Q) (hq : ∀ p S', Q p S' → Q' p S') : PCalls P f args S Q' := by
  intro C w vs h1 h2 h3
  refine (h C w vs h1 h2 h3).mono ?_
  rintro e w' ⟨p, v, S', C', a, b, c⟩
  exact ⟨p, v, S', C', a, hq _ _ b, c⟩

def Enters (P : Program) (f : FuncId) : Prop := ∀ (args : Array Value) (w : World), (callFunc f args).run P w = .ok (.enter f args) w

section
variable {P : Program} {r : Option Nat} {n N : Nat} {Q : Exit → (Nat → PV) → Store → Prop} {F : Nat → PV} {S : Store}

theorem calls_in {f : FuncId} {args : Array Value} {w : World} {R : Ending → World → Prop} (h : Calls P f args w R) : CallsIn (Fe r) n P f args w R := by
  cases r with
  | none => exact callsIn_wide.2 h
  | some l => exact (callsIn_wide (n := n)).2 h

/-- A call of a function value that is known. -/
theorem po_call {o : Oper} {c : Call} {x : Operand} {k : FuncId} {fs cs : List PV} {K : PV → Store → Prop} {R : PV → Store → Prop} (ho : o.op = .call c) (hc : c.callee = .value x) (hx : ev F x = .fn (.func k) fs cs) (hE : Enters P k)
    (h : PCalls P k (fs ++ c.args.toList.map (ev F) ++ cs) S R) (hK : ∀ p S', R p S' → K p S') : PO P r n o F S K := by
  intro G hG C w a N st next Q' hnext
  have hxo : x ∈ o.op.operands := by simp [ho, Op.operands, Call.operands, hc]
  have hxG : ev G x = .fn (.func k) fs cs := (hG x hxo).trans hx
  have harg : ∀ y ∈ c.args.toList, ev G y = ev F y := fun y hy => hG y (by simp only [ho, Op.operands, Call.operands, Array.mem_append]; exact .inr (Array.mem_toList_iff.1 hy))
  have hmap : c.args.toList.map (ev F) = c.args.toList.map (ev G) := List.map_congr_left fun y hy => (harg y hy).symm
  rw [hmap] at h
  have hrel := st.ev x
  rw [hxG] at hrel
  generalize hv : a.eval x = v at hrel
  cases hrel with
  | fn hf hc' h1 h2 =>
    rename_i fv cv
    have hrun : (execOp a.eval o).run P w = .ok (.enter k ((fv ++ c.args.map a.eval) ++ cv)) w := by
      unfold execOp
      simp only [ho, resolve, hc, hv, Deferred.ofValue, Sem.run_bind, Sem.run_pure, Result.andThen_ok, invoke]
      exact hE _ w
    refine wpIn_of_run (x := .enter k ((fv ++ c.args.map a.eval) ++ cv)) (w' := w) (by intro c' hc'; rw [ho] at hc'; cases hc') hrun ?_
    rw [Oper.uponIn_enter]
    refine ⟨fun hd => ?_, ?_⟩
    · cases r <;> cases hd
    · have hlist := relList (l := c.args.toList) st.ev
      simp only [Array.toArray_toList] at hlist
      have key := h C w ((fv ++ c.args.map a.eval) ++ cv) st.sim (by simp [hf, hc']) (by
        intro i p v hp hv
        by_cases q1 : i < fs.length
        · rw [List.append_assoc, List.getElem?_append_left q1] at hp
          rw [Array.append_assoc, Array.getElem?_append_left (by omega)] at hv
          exact h1 i p v hp hv
        · by_cases q2 : i < fs.length + (c.args.toList.map (ev G)).length
          · rw [List.append_assoc, List.getElem?_append_right (by omega), List.getElem?_append_left (by omega)] at hp
            rw [Array.append_assoc, Array.getElem?_append_right (by omega), Array.getElem?_append_left (by simp at q2 ⊢; omega)] at hv
            rw [← hf] at hv
            exact hlist.2 _ p v hp hv
          · rw [List.getElem?_append_right (by simp at q2 ⊢; omega), List.length_append] at hp
            rw [Array.getElem?_append_right (by simp at q2 ⊢; omega), Array.size_append] at hv
            have e : fs.length + (c.args.toList.map (ev G)).length = fv.size + (c.args.map a.eval).size := by simp [hf]
            rw [← e] at hv
            exact h2 _ p v hp hv)
      refine (calls_in key).mono ?_
      rintro e w' ⟨p, v, S', C', rfl, hq, hr, hs, hst⟩
      exact hnext v w' C' S' p (hK _ _ hq) hr hs hst

/-! ### Into a function, and out of it -/

def frame0 (args : List PV) : Nat → PV := fun i => args.getD i (.sc undef)

def resL (P : Program) (F : Nat → PV) (S : Store) : List ResultVar → Option (List PV)
  | [] => some []
  | .tmp t :: rs => (resL P F S rs).map (F t :: ·)
  | .cell a t :: rs =>
    match loadP P t S (F a) with
    | some p => (resL P F S rs).map (p :: ·)
    | none => none

def oneOf : List PV → PV
  | [p] => p
  | ps => .tup ps

def retQ (P : Program) (rs : List ResultVar) (Q : PV → Store → Prop) : Exit → (Nat → PV) → Store → Prop
  | .normal, F, S => ∃ ps S', resL P F S rs = some ps ∧ Q (oneOf ps) S' ∧ ∀ o, S' o = S o ∨ S' o = .dead
  | .ret, F, S => ∃ ps S', resL P F S rs = some ps ∧ Q (oneOf ps) S' ∧ ∀ o, S' o = S o ∨ S' o = .dead
  | _, _, _ => False

def resOne (a : Act) (x : ResultVar) : Sem Value :=
  match x with
  | .tmp t => pure (a.tmps.getD t undef)
  | .cell x t => do loadVar t (← asAddr (a.tmps.getD x undef))

theorem resL_sound {C : Ctx} {w : World} {a : Act} (st : St C S w N F a) : ∀ (rs : List ResultVar) (ps : List PV), resL P F S rs = some ps →
    ∃ vs : List Value, (rs.mapM (resOne a)).run P w = .ok vs w ∧ ps.length = vs.length ∧
      ∀ (i : Nat) (p : PV) (v : Value), ps[i]? = some p → vs[i]? = some v → Rel C S w p v := by
  intro rs
  induction rs with
  | nil => intro ps h; cases h; exact ⟨[], by simp, rfl, by simp⟩
  | cons x rs ih =>
    intro ps h
    cases x with
    | tmp t =>
      simp only [resL] at h
      obtain ⟨qs, hq, rfl⟩ := Option.map_eq_some_iff.1 h
      obtain ⟨vs, h1, h2, h3⟩ := ih qs hq
      refine ⟨a.tmps.getD t undef :: vs, ?_, by simp [h2], ?_⟩
      · simp only [List.mapM_cons, resOne, Sem.run_bind, Sem.run_pure, Result.andThen_ok, h1]
      · intro i p v hp hv
        cases i with
        | zero => simp only [List.getElem?_cons_zero, Option.some.injEq] at hp hv; subst hp; subst hv; exact st.fr t
        | succ i => exact h3 i p v (by simpa using hp) (by simpa using hv)
    | cell y t =>
      simp only [resL] at h
      split at h
      · rename_i p0 hp0
        obtain ⟨qs, hq, rfl⟩ := Option.map_eq_some_iff.1 h
        obtain ⟨vs, h1, h2, h3⟩ := ih qs hq
        obtain ⟨u, hu, hrel⟩ := loadP_sound hp0 st.sim (st.fr y)
        have haddr : ∃ ad, a.tmps.getD y undef = .pointer (some ad) := by
          have hy := st.fr y
          generalize a.tmps.getD y undef = u0 at hy
          unfold loadP at hp0
          split at hp0
          · rename_i e; rw [e] at hy; cases hy with | ptr hh => exact hh
          · rename_i e; rw [e] at hy; cases hy with | ip => exact ⟨_, rfl⟩
          · cases hp0
        obtain ⟨ad, had⟩ := haddr
        rw [had] at hu
        refine ⟨u :: vs, ?_, by simp [h2], ?_⟩
        · simp only [Instr.loadAt, Instr.sureAddr, Sem.run_bind, Sem.run_pure, Result.andThen_ok] at hu
          simp only [List.mapM_cons, resOne, Sem.run_bind, had, asAddr, Sem.run_pure, Result.andThen_ok, hu, h1]
        · intro i p v hp hv
          cases i with
          | zero => simp at hp hv; subst hp; subst hv; exact hrel
          | succ i => exact h3 i p v (by simpa using hp) (by simpa using hv)
      · cases h

theorem results_sound {C : Ctx} {w : World} {a : Act} (st : St C S w N F a) {fn : Func} {rs : List ResultVar} (hrs : fn.results.toList = rs) {ps : List PV} (h : resL P F S rs = some ps) :
    ∃ v, (results fn a.tmps).run P w = .ok v w ∧ Rel C S w (oneOf ps) v := by
  obtain ⟨vs, h1, h2, h3⟩ := resL_sound (P := P) st rs ps h
  have hm : (fn.results.mapM (resOne a)).run P w = .ok vs.toArray w := by
    rw [← Array.toArray_toList (xs := fn.results), List.mapM_toArray, hrs]
    simp only [Sem.run_map, h1, Result.andThen_ok]
  have e : ∀ g : ResultVar → Sem Value, g = resOne a → (fn.results.mapM g).run P w = .ok vs.toArray w := by rintro g rfl; exact hm
  unfold results
  rw [Sem.run_bind, e _ (by funext x; cases x <;> rfl)]
  simp only [Result.andThen_ok, Sem.run_pure]
  refine ⟨_, rfl, ?_⟩
  match vs, ps, h2 with
  | [v], [p], _ => exact h3 0 p v rfl rfl
  | [], [], _ => exact .tup rfl (by simp)
  | v :: v' :: vs, p :: p' :: ps, h2 =>
    simp only [List.size_toArray, List.length_cons]
    rw [dif_neg (by omega)]
    exact .tup (by simpa using h2) (fun i c v hc hv => h3 i c v hc (by simpa using hv))

theorem pcalls_of_pw {f : FuncId} {fn : Func} {c : Code} {rs : List ResultVar} {args : List PV} {Q : PV → Store → Prop} (hf : P.funcs[f]? = some fn) (hb : fn.body = some c) (hN : fn.ntmps = N) (hrs : fn.results.toList = rs) (hargs : args.length ≤ N)
    (h : PW P none 0 N c (retQ P rs Q) (frame0 args) S) : PCalls P f args S Q := by
  intro C w vs hS hl hr
  refine calls_of_wp hf hb ?_
  have st : St C S w N (frame0 args) { tmps := vs ++ Array.replicate (fn.ntmps - vs.size) undef, defers := [] } := by
    refine ⟨hS, by simp [hN]; omega, fun i => ?_⟩
    unfold frame0
    simp only [Array.getD_eq_getD_getElem?, List.getD_eq_getElem?_getD]
    by_cases hi : i < args.length
    · rw [List.getElem?_eq_getElem hi, Array.getElem?_append_left (by omega), Array.getElem?_eq_getElem (by omega)]
      simp only [Option.getD_some]
      exact hr i _ _ (List.getElem?_eq_getElem hi) (Array.getElem?_eq_getElem (by omega))
    · rw [List.getElem?_eq_none (by omega), Array.getElem?_append_right (by omega), Array.getElem?_replicate]
      split <;> exact .sc _
  have hw := (wpIn_wide (n := 0)).1 (h C w _ st)
  refine wp_mono hw ?_
  rintro e a' w' ⟨F', S', C', hq, hst, hd, hstep⟩
  have main : (∃ ps S'', resL P F' S' rs = some ps ∧ Q (oneOf ps) S'' ∧ ∀ o, S'' o = S' o ∨ S'' o = .dead) →
      a'.defers = [] ∧ ∃ v, (results fn a'.tmps).run P w' = .ok v w' ∧ (∃ p v' S'' C'', Ending.returned v = .returned v' ∧ Q p S'' ∧ Rel C'' S'' w' p v' ∧ Sim C'' S'' w' ∧ Step C S w C'' S'' w') := by
    rintro ⟨ps, S'', h1, h2, h3⟩
    obtain ⟨v, hv, hrel⟩ := results_sound hst hrs h1
    obtain ⟨k1, k2⟩ := hst.sim.kill h3
    exact ⟨hd, v, hv, _, v, S'', C', rfl, h2, hrel.mono k2, k1, hstep.trans k2⟩
  cases e with
  | normal => exact main hq
  | ret => exact main hq
  | _ => exact hq.elim

/-! ### Ghost steps -/

/-- What is known may be told otherwise. -/
theorem pw_ghost {c : Code} {F' : Nat → PV} {S' : Store} (hg : ∀ C w a, St C S w N F a → ∃ C', St C' S' w N F' a ∧ Step C S w C' S' w) (h : PW P r n N c Q F' S') : PW P r n N c Q F S := by
  intro C w a st
  obtain ⟨C', st', hstep⟩ := hg C w a st
  refine wpIn_mono (h C' w a st') ?_
  rintro e a' w' ⟨F2, S2, C2, h1, h2, h3, h4⟩
  exact ⟨F2, S2, C2, h1, h2, h3, hstep.trans h4⟩

/-- A frame of which less is said. -/
theorem pw_forget {c : Code} {F' : Nat → PV} (hF : ∀ i, F' i = F i ∨ F' i = .junk) (h : PW P r n N c Q F' S) : PW P r n N c Q F S :=
  pw_ghost (fun C w a st => ⟨C, ⟨st.sim, st.size, fun i => by rcases hF i with e | e <;> rw [e]; exact st.fr i; exact .junk _⟩, .refl _ _ _⟩) h

/-- A row of operations that turn nothing and look at no object, reckoned out. -/
def runI (P : Program) (ops : Array Oper) : List Oper → (Nat → PV) → Option (Nat → PV)
  | [], F => some F
  | o :: os, F =>
    match gd ops F o with
    | none => none
    | some false => runI P ops os (updO F o.dst (.sc undef))
    | some true =>
      match popI P F o with
      | some p => runI P ops os (updO F o.dst p)
      | none => none

theorem prl_of_run {ops : Array Oper} {K : (Nat → PV) → Store → Prop} : ∀ (l : List Oper) (F F' : Nat → PV), runI P ops l F = some F' → K F' S → PRl P r n [] ops l F S K
  | [], F, F', h, hK => by cases h; exact hK
  | o :: os, F, F', h, hK => by
    have hb : byHand [] o = false := by unfold byHand; split <;> rfl
    simp only [runI] at h
    simp only [PRl]
    split at h
    · cases h
    · rename_i hg; simp only [hg]; exact prl_of_run os _ _ h hK
    · rename_i hg
      simp only [hg, hb, Bool.false_eq_true, if_false]
      split at h
      · rename_i p hp; simp only [hp]; exact prl_of_run os _ _ h hK
      · cases h

/-- A region that draws no order and turns nothing. -/
theorem pw_R {id : Nat} {ops : Array Oper} {F' : Nat → PV} (hN : dstsBelow N ops = true) (h : runI P ops ops.toList F = some F') (hQ : Q .normal F' S) : PW P r n N (.region id ops false) Q F S :=
  pw_region [] hN (prl_of_run _ _ _ h hQ)

/-- A region whose operations are looked at one by one. -/
theorem pw_L {id : Nat} {ops : Array Oper} (H : List Nat) (hN : dstsBelow N ops = true) (h : ∀ K : (Nat → PV) → Store → Prop, (∀ F' S', Q .normal F' S' → K F' S') → PRl P r n H ops ops.toList F S K) : PW P r n N (.region id ops false) Q F S :=
  pw_region H hN (h _ fun _ _ h => h)

/-- A row of operations that turn nothing (loads too), reckoned out. -/
def runD (P : Program) (ops : Array Oper) (S : Store) : List Oper → (Nat → PV) → Option (Nat → PV)
  | [], F => some F
  | o :: os, F =>
    match gd ops F o with
    | none => none
    | some false => runD P ops S os (updO F o.dst (.sc undef))
    | some true =>
      match popI P F o with
      | some p => runD P ops S os (updO F o.dst p)
      | none =>
        match loadT P none S F o with
        | some p => runD P ops S os (updO F o.dst p)
        | none => none

/-- A region that draws its order, and turns nothing: reckoned out in the text's order. -/
theorem pw_D {id : Nat} {ops : Array Oper} {F' : Nat → PV} (hm : P.follows .mixedOrders = true) (hN : dstsBelow N ops = true) (hR : regOk ops = true) (hrow : rowOk ops [] [] (Row.pures (List.range ops.size) .done) = true)
    (h : runD P ops S ops.toList F = some F') (hQ : Q .normal F' S) : PW P r n N (.region id ops true) Q F S := by
  refine pw_draw none (Row.pures (List.range ops.size) .done) hm hN hR hrow ?_
  have key : ∀ (m k : Nat) (G : Nat → PV), ops.size - k = m → runD P ops S (ops.toList.drop k) G = some F' → PX P r n ops none S (Row.pures ((List.range ops.size).drop k) .done) G S (Q .normal) := by
    intro m
    induction m with
    | zero =>
      intro k G hk hrun
      rw [List.drop_eq_nil_of_le (by simp; omega)] at hrun ⊢
      cases hrun; exact hQ
    | succ m ih =>
      intro k G hk hrun
      have hlt : k < ops.size := by omega
      rw [range_drop k _ hlt]
      have e2 : ops.toList.drop k = ops[k] :: ops.toList.drop (k + 1) := by
        rw [List.drop_eq_getElem_cons (by simpa using hlt)]; simp
      rw [e2] at hrun
      have hget : ops[k]? = some ops[k] := by simp
      simp only [runD] at hrun
      simp only [Row.pures, PX, hget]
      split at hrun
      · cases hrun
      · rename_i hg; simp only [hg]; exact ih (k + 1) _ (by omega) hrun
      · rename_i hg
        simp only [hg]
        split at hrun
        · rename_i p hp; simp only [hp]; exact ih (k + 1) _ (by omega) hrun
        · rename_i hp
          simp only [hp]
          split at hrun
          · rename_i p hl; simp only [hl]; exact ih (k + 1) _ (by omega) hrun
          · cases hrun
  exact key ops.size 0 F rfl (by simpa using h)

/-- A region that draws its order, looked at operation by operation. -/
theorem pw_X {id : Nat} {ops : Array Oper} (ids : Option (List Nat)) (row : Row) (hm : P.follows .mixedOrders = true) (hN : dstsBelow N ops = true) (hR : regOk ops = true) (hrow : rowOk ops [] [] row = true)
    (h : ∀ K : (Nat → PV) → Store → Prop, (∀ F' S', Q .normal F' S' → K F' S') → PX P r n ops ids S row F S K) : PW P r n N (.region id ops true) Q F S :=
  pw_draw ids row hm hN hR hrow (h _ fun _ _ h => h)

end
end Go.Proofs.Ytdmmihkmcennpaa.Pv
