/- Ghost layer, part 15: append to a nil slice; a nil slice in an object's cell. -/
import Derived.Test.YtdmmihkmcennpaaGn
namespace Go.Proofs.Ytdmmihkmcennpaa.Pv
open Go

section
variable {P : Program} {r : Option Nat} {n N : Nat} {Q : Exit → (Nat → PV) → Store → Prop} {F : Nat → PV} {S : Store}

theorem rel_newnil (C : Ctx) (S : Store) (w : World) (o ver sz e : Nat) : Rel (C.put o ver none) (S.set o (.cells ver e [])) w (.sl o ver sz 0 0) (.slice none 0 0) := by
  refine .sl ⟨_, _, rfl, Nat.le_refl _, by unfold maxN; omega, by unfold maxLen; omega, fun h => absurd rfl h⟩ (by simp only [Ctx.put]; omega) fun v0 hv0 => ?_
  rw [Store.set_same] at hv0; cases hv0
  exact ⟨Nat.le_refl _, fun _ => .inl ⟨by simp [Ctx.put], rfl, rfl, rfl⟩⟩

theorem enters_of {f : FuncId} {fn : Func} {c : Code} (hf : P.funcs[f]? = some fn) (hname : (fn.name == "runtime.NumGoroutine") = false) (hb : fn.body = some c) : Enters P f := by
  intro args w
  have h1 : fn.name ≠ "runtime.NumGoroutine" := by simpa using hname
  simp [callFunc, hf, h1, hb, mark]

/-- x.(T), v, ok := x.(T): T no interface. -/
def assertP (x : PV) (t : TypeId) (z : Value) : Option PV :=
  match x with
  | .ifc t' p => if t' = t then some (.tup [p, .sc (.bool true)]) else some (.tup [ofV z, .sc (.bool false)])
  | _ => none

theorem po_assert {o : Oper} {x : Operand} {xt t : TypeId} {d : TypeDesc} {z : Value} {p : PV} {K : PV → Store → Prop} (ho : o.op = .typeAssert x xt t true) (ht : P.underlying t = some d) (hd : ∀ ms, d ≠ .interface ms) (hz : Program.zeroOf P t = some z)
    (hp : assertP (ev F x) t z = some p) (hK : K p S) : PO P r n o F S K := by
  intro G hG C w a N st next Q' hnext
  have hr := st.ev x
  rw [hG x (by simp [ho, Op.operands])] at hr
  have hnd : ∀ c, o.op ≠ .defer c := by intro c hc; rw [ho] at hc; cases hc
  unfold assertP at hp
  split at hp
  · rename_i t' q he
    rw [he] at hr
    generalize hv : a.eval x = v at hr
    cases hr with
    | ifc hq =>
      rename_i u
      by_cases ht' : t' = t
      · rw [if_pos ht'] at hp; cases hp
        refine wpIn_of_run (x := .value (.tuple #[u, .bool true])) (w' := w) hnd ?_ (hnext _ _ _ _ _ hK (.tup rfl ?_) st.sim (.refl _ _ _))
        · unfold execOp
          simp only [ho, hv, Instr.typeAssert, Sem.run_bind, run_underlying ht, Result.andThen_ok]
          cases d <;> first | exact absurd rfl (hd _) | (simp only [ht', if_true]; rfl)
        · intro i c v hc hv
          match i with
          | 0 => have hc : some q = some c := hc; have hv : some u = some v := hv; cases hc; cases hv; exact hq
          | 1 => have hc : some (PV.sc (.bool true)) = some c := hc; have hv : some (Value.bool true) = some v := hv; cases hc; cases hv; exact .sc _
          | i + 2 => simp at hc
      · rw [if_neg ht'] at hp; cases hp
        refine wpIn_of_run (x := .value (.tuple #[z, .bool false])) (w' := w) hnd ?_ (hnext _ _ _ _ _ hK (.tup rfl ?_) st.sim (.refl _ _ _))
        · unfold execOp
          simp only [ho, hv, Instr.typeAssert, Sem.run_bind, run_underlying ht, Result.andThen_ok]
          cases d <;> first | exact absurd rfl (hd _) | (simp only [ht', if_false, if_true, Sem.run_bind, run_zeroValue hz, Result.andThen_ok]; rfl)
        · intro i c v hc hv
          match i with
          | 0 => have hc : some (ofV z) = some c := hc; have hv : some z = some v := hv; cases hc; cases hv; exact rel_ofV z
          | 1 => have hc : some (PV.sc (.bool false)) = some c := hc; have hv : some (Value.bool false) = some v := hv; cases hc; cases hv; exact .sc _
          | i + 2 => simp at hc
  · cases hp

/-- append to a nil slice. -/
theorem po_append_nil0 {o : Oper} {s x : Operand} {t e : TypeId} {z : Value} {by_ m : Nat} {ds : List PV} {K : PV → Store → Prop} (ho : o.op = .call { callee := .builtin .append, args := #[s, x], argTypes := #[t, t] })
    (hE : ElemOk P t e z by_) (hs : ev F s = .sc (.slice none 0 0)) (hx : srcP S (P.cellsOf e) (ev F x) = some (m, ds)) (hb : m * by_ ≤ 140737488355328) (hm : m ≤ 140737488355328)
    (hK : ∀ C : Ctx, S C.next = .dead → ∃ id v, Fresh C S id v ∧ K (.sl id v (P.cellsOf e) 0 m) (S.set id (.cells v e ds))) : PO P r n o F S K := by
  intro G hG C w a N st next Q' hnext
  have e1 : ev G s = _ := (hG s (by simp [ho, Op.operands, Call.operands])).trans hs
  have e2 : ev G x = ev F x := hG x (by simp [ho, Op.operands, Call.operands])
  rw [← e2] at hx
  have r1 := st.ev s
  rw [e1] at r1
  obtain ⟨news, hsrc, hrel, _⟩ := srcP_sound (P := P) st.sim hx (st.ev x)
  have hnd : ∀ c, o.op ≠ .defer c := by intro c hc; rw [ho] at hc; cases hc
  generalize hv : a.eval s = v at r1
  cases r1
  obtain ⟨id, ver, hfr, hK⟩ := hK C st.sim.free
  by_cases hm0 : m = 0
  · subst hm0
    have hne : news = [] := List.eq_nil_of_length_eq_zero (by rw [hsrc.size]; simp)
    have hde : ds = [] := List.eq_nil_of_length_eq_zero (by rw [hrel.1, hne]; rfl)
    subst hne; subst hde
    have hrun := run_append_op (P := P) (a := a) (w := w) ho (by rw [hv]; exact run_append_same (ty := o.type) hE.ty hE.pos hsrc (Nat.zero_le 0))
    obtain ⟨t1, t2⟩ := st.sim.nilObject' hfr e
    exact wpIn_of_run hnd hrun (hnext _ _ _ _ _ hK (rel_newnil C S w _ _ _ e) t1 t2)
  · have hrun := run_append_op (P := P) (a := a) (w := w) ho (by
      rw [hv]
      exact run_append_more (ty := o.type) (olds := []) hE.ty hE.pos hE.zero hE.bytes hsrc (by simp [Builtin.firstCells]) (by omega) (by simpa using hb) hE.bpos)
    have hgc : m ≤ grownCap w m 0 e := by have := grownCap_ge w m 0 e; exact this
    have hgm : grownCap w m 0 e ≤ maxLen := grownCap_le_maxLen w m 0 e (by unfold maxLen; omega)
    simp only [Nat.zero_add] at hrun
    have hsz : (#[] ++ news.toArray ++ Builtin.zeroCells z.cells (grownCap w m 0 e - m) : Array Value).size = grownCap w m 0 e * P.cellsOf e := by
      simp only [Array.size_append, List.size_toArray, List.length_nil, Nat.zero_add, size_zeroCells, hE.zsize, hsrc.size]
      rw [← Nat.add_mul]; congr 1; omega
    have hra := relL_append (cs := []) (vs := []) (by simp [RelL]) hrel (Builtin.zeroCells z.cells (grownCap w m 0 e - m)).toList
    simp only [List.nil_append] at hra
    have hget : ∀ i : Nat, (#[] ++ news.toArray ++ Builtin.zeroCells z.cells (grownCap w m 0 e - m) : Array Value)[i]? = (news ++ (Builtin.zeroCells z.cells (grownCap w m 0 e - m)).toList)[i]? := by
      intro i; rw [← Array.getElem?_toList]; simp
    obtain ⟨d1, d2⟩ := st.sim.drew
    obtain ⟨t1, t2⟩ := d1.object' hfr e (#[] ++ news.toArray ++ Builtin.zeroCells z.cells (grownCap w m 0 e - m)) ds (by have := hra.1; simp at this ⊢; omega) (fun i v hi hv => hra.2.1 i v hi (by rw [← hget]; exact hv)) (fun i p v hp hv => (hra.2.2 i p v hp (by rw [← hget]; exact hv)).mono d2)
    exact wpIn_of_run hnd hrun (hnext _ _ _ _ _ hK (rel_newsl C S w _ _ _ _ _ _ _ _ rfl hgc (Nat.le_trans hm (by unfold maxN; omega)) hgm hsz.symm) t1 (d2.trans t2))

theorem po_append_nil {o : Oper} {s x : Operand} {t e : TypeId} {z : Value} {by_ m : Nat} {ds : List PV} {K : PV → Store → Prop} (ho : o.op = .call { callee := .builtin .append, args := #[s, x], argTypes := #[t, t] })
    (hE : ElemOk P t e z by_) (hs : ev F s = .sc (.slice none 0 0)) (hx : srcP S (P.cellsOf e) (ev F x) = some (m, ds)) (hb : m * by_ ≤ 140737488355328) (hm : m ≤ 140737488355328)
    (hK : ∀ id, S id = .dead → K (.sl id 0 (P.cellsOf e) 0 m) (S.set id (.cells 0 e ds))) : PO P r n o F S K :=
  po_append_nil0 ho hE hs hx hb hm (fresh0 (X := fun id v => K (.sl id v (P.cellsOf e) 0 m) (S.set id (.cells v e ds))) hK)

/-- What an object's cells are known to be may be told otherwise. -/
theorem Sim.relabel {C : Ctx} {S : Store} {w : World} (h : Sim C S w) {o ver e : Nat} {cs cs' : List PV} (hs : S o = .cells ver e cs) (hl : cs'.length = cs.length)
    (hr : ∀ (i : Nat) (p' : PV), cs'[i]? = some p' → cs[i]? = some p' ∨ ∃ p, cs[i]? = some p ∧ ∀ v, Rel C S w p v → Rel C S w p' v) :
    Sim C (S.set o (.cells ver e cs')) w ∧ Step C S w C (S.set o (.cells ver e cs')) w := by
  have hl0 : C.at o ver (C.loc o) = C := by
    have hck := h.clk o ver (by rw [hs]; rfl)
    cases C
    simp only [Ctx.at, Ctx.mk.injEq, true_and] at hck ⊢
    refine ⟨?_, by omega⟩
    funext i
    split
    · rename_i e; rw [e]
    · rfl
  have := h.turn (w' := w) (ver' := ver) (cs' := cs') (l := C.loc o) hs (Nat.le_refl _) (fun _ => rfl) ⟨rfl, rfl, rfl, Nat.le_refl _, fun _ _ _ => rfl⟩ (by
    rcases h.cells o ver e cs hs with ⟨h1, h2⟩ | ⟨b, k, c, g1, g2, g3, g4, g5, g6⟩
    · exact .inl ⟨h1, List.eq_nil_of_length_eq_zero (by rw [hl, h2]; rfl)⟩
    · refine .inr ⟨b, k, c, g1, .inr (by rw [g1]; rfl), g2, g3, by omega, fun i v hi hv => g5 i v (by omega) hv, fun i p v hp hv => ?_⟩
      rcases hr i p hp with q | ⟨p0, q1, q2⟩
      · exact g6 i p v q hv
      · exact q2 v (g6 i p0 v q1 hv))
  rw [hl0] at this
  exact this

/-- A nil slice in an object's cell becomes an object that is still empty. -/
theorem pw_nilOb0 {c : Code} {o ver e0 : Nat} {cs : List PV} (i e sz : Nat) (hs : S o = .cells ver e0 cs) (hi : cs[i]? = some (.sc (.slice none 0 0)))
    (h : ∀ C : Ctx, S C.next = .dead → ∃ id v, Fresh C S id v ∧ PW P r n N c Q F ((S.set id (.cells v e [])).set o (.cells ver e0 (cs.set i (.sl id v sz 0 0))))) : PW P r n N c Q F S := by
  intro C w a st
  obtain ⟨id, vv, hfr, h⟩ := h C st.sim.free
  obtain ⟨k1, k2⟩ := st.sim.nilObject' hfr e
  have hne : o ≠ id := by
    intro e; have := hfr.dead; rw [← e, hs] at this; cases this
  obtain ⟨j1, j2⟩ := k1.relabel (o := o) (cs' := cs.set i (.sl id vv sz 0 0)) (by rw [Store.set_other _ _ _ _ hne]; exact hs) (by simp) (by
    intro j p' hp'
    rw [List.getElem?_set] at hp'
    split at hp'
    · rename_i hij
      subst hij
      split at hp'
      · cases hp'
        refine .inr ⟨_, hi, fun v hv => ?_⟩
        cases hv
        exact rel_newnil C S w _ _ sz e
      · cases hp'
    · exact .inl hp')
  refine wpIn_mono (h _ w a ⟨j1, st.size, fun i => ((st.fr i).mono k2).mono j2⟩) ?_
  rintro e a' w' ⟨F2, S2, C2, h1, h2, h3, h4⟩
  exact ⟨F2, S2, C2, h1, h2, h3, (k2.trans j2).trans h4⟩

theorem pw_nilOb {c : Code} {o ver e0 : Nat} {cs : List PV} (i e sz : Nat) (hs : S o = .cells ver e0 cs) (hi : cs[i]? = some (.sc (.slice none 0 0)))
    (h : ∀ id, S id = .dead → PW P r n N c Q F ((S.set id (.cells 0 e [])).set o (.cells ver e0 (cs.set i (.sl id 0 sz 0 0))))) : PW P r n N c Q F S :=
  pw_nilOb0 i e sz hs hi (fresh0 (X := fun id v => PW P r n N c Q F ((S.set id (.cells v e [])).set o (.cells ver e0 (cs.set i (.sl id v sz 0 0))))) h)

end
end Go.Proofs.Ytdmmihkmcennpaa.Pv
