/- Ghost layer, part 12: append. -/
import Derived.Test.YtdmmihkmcennpaaGk
namespace Go.Proofs.Ytdmmihkmcennpaa.Pv
open Go

/-- A new object that is no memory yet: a nil slice. -/
theorem Sim.nilObject' {C : Ctx} {S : Store} {w : World} (h : Sim C S w) {o ver : Nat} (hf : Fresh C S o ver) (e : TypeId) :
    Sim (C.put o ver none) (S.set o (.cells ver e [])) w ∧ Step C S w (C.put o ver none) (S.set o (.cells ver e [])) w := by
  have hloc : ∀ i, i ≠ o → (C.put o ver none).loc i = C.loc i := fun i hi => by simp [Ctx.put, hi]
  have hlocn : (C.put o ver none).loc o = none := by simp [Ctx.put]
  have st : Step C S w (C.put o ver none) (S.set o (.cells ver e [])) w :=
    Sim.step_new hf rfl _ rfl rfl rfl (Nat.le_refl _) (fun _ _ => rfl) (fun b k hq => nomatch hq)
  refine ⟨⟨?_, ?_, ?_, ?_, ?_⟩, st⟩
  · intro i ho
    by_cases hc : i = o
    · subst hc; simp only [Ctx.put]; omega
    · rw [Store.set_other _ _ _ _ hc] at ho
      have := h.lt i ho
      simp only [Ctx.put]; omega
  · intro i v hv
    by_cases hc : i = o
    · subst hc; rw [Store.set_same] at hv; cases hv; simp only [Ctx.put]; omega
    · rw [Store.set_other _ _ _ _ hc] at hv
      have := h.clk i v hv
      simp only [Ctx.put]; omega
  · intro i o' b k k' ho ho' hl hl'
    by_cases hc : i = o
    · subst hc; rw [hlocn] at hl; cases hl
    · by_cases hc' : o' = o
      · subst hc'; rw [hlocn] at hl'; cases hl'
      · rw [hloc i hc] at hl; rw [hloc o' hc'] at hl'; rw [Store.set_other _ _ _ _ hc] at ho; rw [Store.set_other _ _ _ _ hc'] at ho'
        exact h.dist i o' b k k' ho ho' hl hl'
  · intro i ver e' cs' hs
    by_cases hc : i = o
    · subst hc
      rw [Store.set_same] at hs
      cases hs
      exact .inl ⟨hlocn, rfl⟩
    · rw [Store.set_other _ _ _ _ hc] at hs
      rcases h.cells i ver e' cs' hs with hn | ⟨b, k, c', g1, g2, g3, g4, g5, g6⟩
      · exact .inl ⟨(hloc i hc).trans hn.1, hn.2⟩
      · exact .inr ⟨b, k, c', (hloc i hc).trans g1, g2, g3, g4, g5, fun i p v hp hv => (g6 i p v hp hv).mono st⟩
  · intro i ver es hs
    by_cases hc : i = o
    · subst hc; rw [Store.set_same] at hs; cases hs
    · rw [Store.set_other _ _ _ _ hc] at hs
      obtain ⟨b, k, ms, cl, g1, g2, g3, g4⟩ := h.maps i ver es hs
      exact ⟨b, k, ms, cl, (hloc i hc).trans g1, g2, g3, fun i x m he hm => ⟨(g4 i x m he hm).1, (g4 i x m he hm).2.mono st⟩⟩

section
variable {P : Program} {r : Option Nat} {n N : Nat} {Q : Exit → (Nat → PV) → Store → Prop} {F : Nat → PV} {S : Store}

/-- What append asks of an element's type. -/
structure ElemOk (P : Program) (t e : TypeId) (z : Value) (by_ : Nat) : Prop where
  ty : P.underlying t = some (.slice e)
  pos : P.cellsOf e ≠ 0
  zero : Program.zeroOf P e = some z
  zsize : z.cells.size = P.cellsOf e
  bytes : Program.bytesOf' P e = some by_
  bpos : by_ ≠ 0

theorem run_append_op {o : Oper} {s x : Operand} {t : TypeId} {a : Act} {w w' : World} {v : Value} (ho : o.op = .call { callee := .builtin .append, args := #[s, x], argTypes := #[t, t] })
    (h : (Builtin.append_ #[t, t] o.type #[a.eval s, a.eval x]).run P w = .ok v w') : (execOp a.eval o).run P w = .ok (.value v) w' := by
  unfold execOp
  simp only [ho, resolve, invoke, builtin, Sem.run_bind, Sem.run_pure, Result.andThen_ok, List.map_toArray, List.map_cons, List.map_nil, h]

theorem po_append {o : Oper} {s x : Operand} {t e : TypeId} {z : Value} {by_ id ver k m : Nat} {cs ds : List PV} {K : PV → Store → Prop} (ho : o.op = .call { callee := .builtin .append, args := #[s, x], argTypes := #[t, t] })
    (hE : ElemOk P t e z by_) (hs : ev F s = .sl id ver (P.cellsOf e) 0 k) (hid : S id = .cells ver e cs) (hk : k * P.cellsOf e ≤ cs.length) (hx : srcP S (P.cellsOf e) (ev F x) = some (m, ds)) (hb : (k + m) * by_ ≤ 140737488355328) (hm : k + m ≤ 140737488355328)
    (hK : K (.sl id (ver + 1) (P.cellsOf e) 0 (k + m)) (S.set id (.cells (ver + 1) e (cs.take (k * P.cellsOf e) ++ ds)))) : PO P r n o F S K := by
  intro G hG C w a N st next Q' hnext
  have e1 : ev G s = _ := (hG s (by simp [ho, Op.operands, Call.operands])).trans hs
  have e2 : ev G x = ev F x := hG x (by simp [ho, Op.operands, Call.operands])
  rw [← e2] at hx
  have r1 := st.ev s
  rw [e1] at r1
  obtain ⟨news, hsrc, hrel, _⟩ := srcP_sound (P := P) st.sim hx (st.ev x)
  have hnd : ∀ c, o.op ≠ .defer c := by intro c hc; rw [ho] at hc; cases hc
  have hmN : k + m ≤ maxN := Nat.le_trans hm (by unfold maxN; omega)
  generalize hv : a.eval s = v at r1
  cases r1 with
  | sl h1 h2 h3 =>
    obtain ⟨ad, cap, rfl, q1, q2, q3, q4⟩ := h1
    have hloc := (h3 ver (by rw [hid]; rfl)).2 rfl
    have hcontent := st.sim.cells id ver e cs hid
    have newsl : ∀ (C' : Ctx) (w' : World) (ad' : Option Addr) (cap' b' : Nat), (C.next ≤ C'.next ∧ ver + 1 < C'.clock) → C'.loc id = some (b', cap' * P.cellsOf e) → ad' = some ⟨b', 0, none⟩ → k + m ≤ cap' → cap' ≤ maxLen →
        Rel C' (S.set id (.cells (ver + 1) e (cs.take (k * P.cellsOf e) ++ ds))) w' (.sl id (ver + 1) (P.cellsOf e) 0 (k + m)) (.slice ad' (k + m) cap') := by
      intro C' w' ad' cap' b' hn hl had hkm hcl
      refine .sl ⟨_, _, rfl, hkm, hmN, hcl, fun _ => ⟨_, _, had⟩⟩ ⟨Nat.lt_of_lt_of_le h2.1 hn.1, hn.2⟩ fun v0 hv0 => ?_
      rw [Store.set_same] at hv0; cases hv0
      exact ⟨Nat.le_refl _, fun _ => .inr ⟨b', _, _, _, hl, rfl, fun _ => ⟨had, rfl⟩, fun _ => had⟩⟩
    rcases hcontent with ⟨hn, hnil⟩ | ⟨b, kk, c, g1, g2, g3, g4, g5, g6⟩
    · -- nothing yet
      have hz : k * P.cellsOf e = 0 := by rw [hnil] at hk; simpa using hk
      have hk0 : k = 0 := by
        rcases Nat.mul_eq_zero.1 hz with h | h
        · exact h
        · exact absurd h hE.pos
      rcases hloc with ⟨_, _, _, hsl⟩ | ⟨b', k', _, _, z1, _⟩
      · cases hsl
        subst hnil
        simp only [Nat.zero_mul, List.take_nil, List.nil_append, Nat.zero_add] at hK hb hm hmN newsl
        by_cases hm0 : m = 0
        · subst hm0
          have hne : news = [] := List.eq_nil_of_length_eq_zero (by rw [hsrc.size]; simp)
          have hde : ds = [] := List.eq_nil_of_length_eq_zero (by rw [hrel.1, hne]; rfl)
          subst hne; subst hde
          have hrun := run_append_op (P := P) (a := a) (w := w) ho (by rw [hv]; exact run_append_same (ty := o.type) hE.ty hE.pos hsrc (Nat.zero_le 0))
          obtain ⟨t1, t2⟩ := st.sim.turn (l := C.loc id) (ver' := ver + 1) (cs' := []) hid (by omega) (fun h => absurd h (by omega)) (w' := w) ⟨rfl, rfl, rfl, Nat.le_refl _, fun _ _ _ => rfl⟩ (.inl ⟨hn, rfl⟩)
          refine wpIn_of_run hnd hrun (hnext _ _ _ _ _ hK ?_ t1 t2)
          refine .sl ⟨_, _, rfl, Nat.le_refl _, by omega, by omega, fun h => absurd rfl h⟩ ⟨h2.1, by simp only [Ctx.at]; omega⟩ fun v0 hv0 => ?_
          rw [Store.set_same] at hv0; cases hv0
          exact ⟨Nat.le_refl _, fun _ => .inl ⟨by simp [Ctx.at, hn], rfl, rfl, rfl⟩⟩
        · have hrun := run_append_op (P := P) (a := a) (w := w) ho (by
            rw [hv]
            exact run_append_more (ty := o.type) (olds := []) hE.ty hE.pos hE.zero hE.bytes hsrc (by simp [Builtin.firstCells]) (by omega) (by simpa using hb) hE.bpos)
          have hgc : m ≤ grownCap w m 0 e := by have := grownCap_ge w m 0 e; exact this
          have hgm : grownCap w m 0 e ≤ maxLen := grownCap_le_maxLen w m 0 e (by unfold maxLen; omega)
          simp only [Nat.zero_add] at hrun
          have hsz : (#[] ++ news.toArray ++ Builtin.zeroCells z.cells (grownCap w m 0 e - m) : Array Value).size = grownCap w m 0 e * P.cellsOf e := by
            simp only [Array.size_append, List.size_toArray, List.length_nil, Nat.zero_add, size_zeroCells, hE.zsize, hsrc.size]
            rw [← Nat.add_mul]; congr 1; omega
          have hra := relL_append (cs := []) (vs := []) (by simp [RelL]) hrel (Builtin.zeroCells z.cells (grownCap w m 0 e - m)).toList
          simp only [List.nil_append] at hra
          have hget : ∀ i : Nat, (#[] ++ news.toArray ++ Builtin.zeroCells z.cells (grownCap w m 0 e - m) : Array Value)[i]? = (news ++ (Builtin.zeroCells z.cells (grownCap w m 0 e - m)).toList)[i]? := by
            intro i; rw [← Array.getElem?_toList]; simp
          obtain ⟨t1, t2⟩ := st.sim.turn (l := some (w.heap.size, grownCap w m 0 e * P.cellsOf e)) (ver' := ver + 1) (cs' := ds) hid (by omega) (fun h => absurd h (by omega))
            (w' := w.drew.alloc (.cells (#[] ++ news.toArray ++ Builtin.zeroCells z.cells (grownCap w m 0 e - m)) e)) ⟨rfl, rfl, rfl, by simp, fun j hj _ => heap_alloc_lt w.drew _ j hj⟩
            (.inr ⟨w.heap.size, _, _, rfl, .inl (Nat.le_refl _), heap_alloc_new' w.drew _, hsz, by rw [← hsz]; have := hra.1; simp at this ⊢; omega, fun i v hi hv => hra.2.1 i v hi (by rw [← hget]; exact hv), fun i p v hp hv => hra.2.2 i p v hp (by rw [← hget]; exact hv)⟩)
          refine wpIn_of_run hnd hrun (hnext _ _ _ _ _ hK ?_ t1 t2)
          have := newsl (C.at id (ver + 1) (some (w.heap.size, grownCap w m 0 e * P.cellsOf e))) (w.drew.alloc (.cells (#[] ++ news.toArray ++ Builtin.zeroCells z.cells (grownCap w m 0 e - m)) e)) (some ⟨w.heap.size, 0, none⟩) (grownCap w m 0 e) w.heap.size ⟨Nat.le_refl _, by simp only [Ctx.at]; omega⟩ (by simp [Ctx.at]) rfl hgc hgm
          exact this
      · rw [hn] at z1; cases z1
    · -- it lies in block b
      rcases hloc with ⟨z1, _⟩ | ⟨b', k', ad', cap', z1, z2, z3, z4⟩
      · rw [g1] at z1; cases z1
      · rw [g1] at z1; cases z1; cases z2
        obtain ⟨rfl, hcap⟩ := z3 rfl
        have hcsz : c.size = cap * P.cellsOf e := g3.trans hcap.symm
        by_cases hroom : k + m ≤ cap
        · have hrun := run_append_op (P := P) (a := a) (w := w) ho (by rw [hv]; exact run_append_room' (ty := o.type) hE.ty hE.pos hsrc g2 hroom hcsz)
          have hkc : k * P.cellsOf e ≤ c.size := by rw [hcsz]; exact Nat.mul_le_mul_right _ q1
          have hfit : k * P.cellsOf e + news.length ≤ c.size := by rw [hsrc.size, hcsz, ← Nat.add_mul]; exact Nat.mul_le_mul_right _ hroom
          have hold : RelL C S w (cs.take (k * P.cellsOf e)) (c.toList.take (k * P.cellsOf e)).toArray := by
            refine ⟨by simp; omega, fun i v hv => ?_, fun i p v hp hv => ?_⟩
            · rw [List.getElem?_toArray] at hv
              have hi := (List.getElem?_eq_some_iff.1 hv).1
              simp only [List.length_take] at hi
              rw [List.getElem?_take_of_lt (by omega), Array.getElem?_toList] at hv
              exact g5 i v (by omega) hv
            · have hi := (List.getElem?_eq_some_iff.1 hp).1
              simp only [List.length_take] at hi
              rw [List.getElem?_take_of_lt (by omega)] at hp
              rw [List.getElem?_toArray, List.getElem?_take_of_lt (by omega), Array.getElem?_toList] at hv
              exact g6 i p v hp hv
          have hra := relL_append hold hrel (c.toList.drop (k * P.cellsOf e + news.length))
          obtain ⟨t1, t2⟩ := st.sim.turn (l := C.loc id) (ver' := ver + 1) (cs' := cs.take (k * P.cellsOf e) ++ ds) hid (by omega) (fun h => absurd h (by omega))
            (w' := w.setRow b (c.toList.take (k * P.cellsOf e) ++ news ++ c.toList.drop (k * P.cellsOf e + news.length)).toArray)
            (by rw [g1]; exact ⟨rfl, rfl, rfl, by simp [World.setRow], fun j hj hne => setRow_other w b j _ (fun e => hne (by rw [e]; rfl))⟩)
            (.inr ⟨b, cap * P.cellsOf e, _, by rw [g1, hcap], .inr (by rw [g1]; rfl), setRow_heap w b c _ e _ g2, by simp; omega, by have := hra.1; simp at this ⊢; omega, fun i v hi hv => hra.2.1 i v hi (by rw [List.getElem?_toArray] at hv; exact hv), fun i p v hp hv => hra.2.2 i p v hp (by rw [List.getElem?_toArray] at hv; exact hv)⟩)
          refine wpIn_of_run hnd hrun (hnext _ _ _ _ _ hK ?_ t1 t2)
          exact newsl _ _ _ cap b ⟨Nat.le_refl _, by simp only [Ctx.at]; omega⟩ (by simp [Ctx.at, g1, hcap]) rfl hroom q3
        · have hfirst := first_cells (P := P) (w := w.drew) (b := b) (k := k) (cap := cap) (sz := P.cellsOf e) (c := c) (e := e) (fz := (0, 0)) g2 0 (by rw [Nat.zero_add, hcsz]; exact Nat.mul_le_mul_right _ q1)
          rw [Nat.zero_add] at hfirst
          have hrun := run_append_op (P := P) (a := a) (w := w) ho (by
            rw [hv]
            exact run_append_more (ty := o.type) (olds := (c.extract 0 (k * P.cellsOf e)).toList) hE.ty hE.pos hE.zero hE.bytes hsrc (by rw [Array.toArray_toList]; exact hfirst) (by omega) hb hE.bpos)
          have hgc := grownCap_ge w (k + m) cap e
          have hgm : grownCap w (k + m) cap e ≤ maxLen := grownCap_le_maxLen w (k + m) cap e (by unfold maxLen; omega)
          have hkc : k * P.cellsOf e ≤ c.size := by rw [hcsz]; exact Nat.mul_le_mul_right _ q1
          rw [Array.toArray_toList] at hrun
          have hsz : (c.extract 0 (k * P.cellsOf e) ++ news.toArray ++ Builtin.zeroCells z.cells (grownCap w (k + m) cap e - (k + m)) : Array Value).size = grownCap w (k + m) cap e * P.cellsOf e := by
            simp only [Array.size_append, List.size_toArray, size_zeroCells, hE.zsize, hsrc.size, Array.size_extract, Nat.sub_zero, Nat.min_eq_left hkc, ← Nat.add_mul]
            congr 1; omega
          have hold : RelL C S w (cs.take (k * P.cellsOf e)) (c.extract 0 (k * P.cellsOf e)).toList.toArray := by
            rw [Array.toArray_toList]
            refine ⟨by simp; omega, fun i v hv => ?_, fun i p v hp hv => ?_⟩
            · rw [Array.getElem?_extract] at hv
              split at hv
              · rw [Nat.zero_add] at hv; exact g5 i v (by omega) hv
              · cases hv
            · have hi := (List.getElem?_eq_some_iff.1 hp).1
              simp only [List.length_take] at hi
              rw [List.getElem?_take_of_lt (by omega)] at hp
              rw [Array.getElem?_extract] at hv
              split at hv
              · rw [Nat.zero_add] at hv; exact g6 i p v hp hv
              · cases hv
          have hra := relL_append hold hrel (Builtin.zeroCells z.cells (grownCap w (k + m) cap e - (k + m))).toList
          have hget : ∀ i : Nat, (c.extract 0 (k * P.cellsOf e) ++ news.toArray ++ Builtin.zeroCells z.cells (grownCap w (k + m) cap e - (k + m)) : Array Value)[i]? =
              ((c.extract 0 (k * P.cellsOf e)).toList ++ news ++ (Builtin.zeroCells z.cells (grownCap w (k + m) cap e - (k + m))).toList)[i]? := by
            intro i; rw [← Array.getElem?_toList]; simp
          obtain ⟨t1, t2⟩ := st.sim.turn (l := some (w.heap.size, grownCap w (k + m) cap e * P.cellsOf e)) (ver' := ver + 1) (cs' := cs.take (k * P.cellsOf e) ++ ds) hid (by omega) (fun h => absurd h (by omega))
            (w' := w.drew.alloc (.cells (c.extract 0 (k * P.cellsOf e) ++ news.toArray ++ Builtin.zeroCells z.cells (grownCap w (k + m) cap e - (k + m))) e)) ⟨rfl, rfl, rfl, by simp, fun j hj _ => heap_alloc_lt w.drew _ j hj⟩
            (.inr ⟨w.heap.size, _, _, rfl, .inl (Nat.le_refl _), heap_alloc_new' w.drew _, hsz, by rw [← hsz]; have := hra.1; simp at this ⊢; omega, fun i v hi hv => hra.2.1 i v hi (by rw [← hget]; exact hv), fun i p v hp hv => hra.2.2 i p v hp (by rw [← hget]; exact hv)⟩)
          refine wpIn_of_run hnd hrun (hnext _ _ _ _ _ hK ?_ t1 t2)
          exact newsl _ _ _ (grownCap w (k + m) cap e) w.heap.size ⟨Nat.le_refl _, by simp only [Ctx.at]; omega⟩ (by simp [Ctx.at]) rfl hgc hgm

/-- A nil slice becomes an object that is still empty. -/
theorem pw_nil0 {c : Code} (d e sz : Nat) (hF : F d = .sc (.slice none 0 0)) (h : ∀ C : Ctx, S C.next = .dead → ∃ id v, Fresh C S id v ∧ PW P r n N c Q (upd F d (.sl id v sz 0 0)) (S.set id (.cells v e []))) : PW P r n N c Q F S := by
  intro C w a st
  obtain ⟨id, ver, hfr, h⟩ := h C st.sim.free
  obtain ⟨k1, k2⟩ := st.sim.nilObject' hfr e
  have st' : St (C.put id ver none) (S.set id (.cells ver e [])) w N (upd F d (.sl id ver sz 0 0)) a := by
    refine ⟨k1, st.size, fun i => ?_⟩
    by_cases hi : i = d
    · subst hi
      rw [upd_same]
      have := st.fr i
      rw [hF] at this
      generalize a.tmps.getD i undef = v at this
      cases this
      refine .sl ⟨_, _, rfl, Nat.le_refl _, by unfold maxN; omega, by unfold maxLen; omega, fun h => absurd rfl h⟩ (by simp only [Ctx.put]; omega) fun v0 hv0 => ?_
      rw [Store.set_same] at hv0; cases hv0
      exact ⟨Nat.le_refl _, fun _ => .inl ⟨by simp [Ctx.put], rfl, rfl, rfl⟩⟩
    · rw [upd_other _ _ _ _ hi]; exact (st.fr i).mono k2
  refine wpIn_mono (h _ w a st') ?_
  rintro e a' w' ⟨F2, S2, C2, h1, h2, h3, h4⟩
  exact ⟨F2, S2, C2, h1, h2, h3, k2.trans h4⟩

theorem pw_nil {c : Code} (d e sz : Nat) (hF : F d = .sc (.slice none 0 0)) (h : ∀ id, S id = .dead → PW P r n N c Q (upd F d (.sl id 0 sz 0 0)) (S.set id (.cells 0 e []))) : PW P r n N c Q F S :=
  pw_nil0 d e sz hF (fresh0 (X := fun id v => PW P r n N c Q (upd F d (.sl id v sz 0 0)) (S.set id (.cells v e []))) h)

/-- An object that nobody will write any more is a list. -/
theorem pw_freeze {c : Code} {id ver e : Nat} {cs : List PV} {F' : Nat → PV} {S' : Store} (hid : S id = .cells ver e cs) (hS' : S' = S.set id .dead)
    (hF : ∀ i, F' i = F i ∨ F' i = .junk ∨ ∃ sz k, F i = .sl id ver sz 0 k ∧ k * sz = cs.length ∧ F' i = .lst k cs) (h : PW P r n N c Q F' S') : PW P r n N c Q F S := by
  refine pw_ghost (F' := F') (S' := S') (fun C w a st => ?_) h
  have hk := st.sim.kill (S' := S') (fun o => by
    subst hS'
    by_cases ho : o = id
    · exact .inr (by rw [ho, Store.set_same])
    · exact .inl (by rw [Store.set_other _ _ _ _ ho]))
  refine ⟨C, ⟨hk.1, st.size, fun i => ?_⟩, hk.2⟩
  rcases hF i with e1 | e1 | ⟨sz, k, e1, e2, e3⟩
  · rw [e1]; exact (st.fr i).mono hk.2
  · rw [e1]; exact .junk _
  · rw [e3]
    have := st.fr i
    rw [e1] at this
    generalize a.tmps.getD i undef = v at this
    cases this with
    | sl h1 h2 h3 =>
      obtain ⟨ad, cap, rfl, q1, q2, q3, q4⟩ := h1
      have hnM : ∀ b k', C.loc id = some (b, k') → ¬ C.M S' b := by
        rintro b k' hl ⟨o, k2, ho, hl2⟩
        subst hS'
        by_cases hoi : o = id
        · subst hoi; rw [Store.set_same] at ho; exact ho rfl
        · rw [Store.set_other _ _ _ _ hoi] at ho
          exact hoi (st.sim.dist o id b k2 k' ho (by rw [hid]; simp) hl2 hl)
      rcases (h3 ver (by rw [hid]; rfl)).2 rfl with ⟨z1, z2, _, z4⟩ | ⟨b, k', ad', cap', z1, z2, z3, z4⟩
      · subst z2
        have : cs = [] := List.eq_nil_of_length_eq_zero (by omega)
        subst this
        cases z4
        exact .lst0
      · cases z2
        rcases st.sim.cells id ver e cs hid with ⟨hn, _⟩ | ⟨b2, kk, c, g1, g2, g3, g4, g5, g6⟩
        · rw [hn] at z1; cases z1
        · rw [g1] at z1; cases z1
          obtain ⟨rfl, _⟩ := z3 rfl
          exact .lst1 q1 q2 g2 (hnM _ _ g1) (fun _ => by omega) (fun j v hj hv => g5 j v hj (by simpa using hv)) (fun j p v hp hv => (g6 j p v hp (by simpa using hv)).mono hk.2)

end
end Go.Proofs.Ytdmmihkmcennpaa.Pv
