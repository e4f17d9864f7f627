/- Ghost layer, part 11: operations that make objects: variables, make, append. -/
import Derived.Test.YtdmmihkmcennpaaGj
namespace Go.Proofs.Ytdmmihkmcennpaa.Pv
open Go

section
variable {P : Program} {r : Option Nat} {n N : Nat} {Q : Exit → (Nat → PV) → Store → Prop} {F : Nat → PV} {S : Store}

theorem relL_cells {C : Ctx} {w : World} {cs : List PV} {vs : Array Value} (h : RelL C S w cs vs) : cs.length ≤ vs.size ∧ (∀ (i : Nat) (v : Value), i < cs.length → vs[i]? = some v → v.oneCell' = true) ∧
    ∀ (i : Nat) (p : PV) (v : Value), cs[i]? = some p → vs[i]? = some v → Rel C S w p v :=
  ⟨by rw [h.1]; exact Nat.le_refl _, fun i v _ hv => h.2.1 i v hv, h.2.2⟩

theorem rel_newptr' (C : Ctx) (S : Store) (w w' : World) (o ver k : Nat) (x : Ob) (hx : x.ver = some ver) : Rel (C.put o ver (some (w.heap.size, k))) (S.set o x) w' (.ptr o ver 0) (.pointer (some ⟨w.heap.size, 0, none⟩)) := by
  refine .ptr ⟨_, rfl⟩ (by simp only [Ctx.put]; omega) fun v0 hv0 => ?_
  rw [Store.set_same, hx] at hv0
  cases hv0
  exact ⟨Nat.le_refl _, fun _ => ⟨w.heap.size, k, by simp [Ctx.put], rfl⟩⟩

theorem Fresh.clock (C : Ctx) {S : Store} {j : Nat} (h : S j = .dead) : Fresh C S j C.clock := ⟨h, .inr (Nat.le_refl _)⟩

/-- A new variable. -/
theorem po_alloc0 {o : Oper} {t : TypeId} {z : Value} {K : PV → Store → Prop} (ho : o.op = .alloc t) (hz : Program.zeroOf P t = some z) (h1 : z.cells.all (·.oneCell') = true)
    (hK : ∀ C : Ctx, S C.next = .dead → ∃ id v, Fresh C S id v ∧ K (.ptr id v 0) (S.set id (.cells v t (zeroCellsOf z)))) : PO P r n o F S K := by
  intro G _ C w a N st next Q' hnext
  have hr := relL_cells (relL_zero (C := C) (S := S) (w := w) h1)
  obtain ⟨id, ver, hfr, hK⟩ := hK C st.sim.free
  obtain ⟨k1, k2⟩ := st.sim.object' hfr t z.cells (zeroCellsOf z) hr.1 hr.2.1 hr.2.2
  refine wpIn_of_run (x := .value (.pointer (some ⟨w.heap.size, 0, none⟩))) (w' := w.alloc (.cells z.cells t)) (by intro c hc; rw [ho] at hc; cases hc) ?_ (hnext _ _ _ _ _ hK (rel_newptr' C S w _ _ _ _ _ rfl) k1 k2)
  unfold execOp
  simp only [ho, Instr.alloc, Sem.run_bind, run_zeroValue hz, Result.andThen_ok, newVar, newRow, Sem.run_pure, run_newObj, World.alloc_eq]

/-- A new variable that holds a value. -/
theorem po_box0 {o : Oper} {t : TypeId} {x : Operand} {K : PV → Store → Prop} (ho : o.op = .box t x) (hf : (ev F x).fit = true)
    (hK : ∀ C : Ctx, S C.next = .dead → ∃ id v, Fresh C S id v ∧ K (.ptr id v 0) (S.set id (.cells v t (ev F x).cells))) : PO P r n o F S K := by
  intro G hG C w a N st next Q' hnext
  have e : ev G x = ev F x := hG x (by simp [ho, Op.operands])
  rw [← e] at hf
  simp only [← e] at hK
  have hr := relL_cells ((st.ev x).cells' hf)
  obtain ⟨id, ver, hfr, hK⟩ := hK C st.sim.free
  obtain ⟨k1, k2⟩ := st.sim.object' hfr t (a.eval x).cells (ev G x).cells hr.1 hr.2.1 hr.2.2
  refine wpIn_of_run (x := .value (.pointer (some ⟨w.heap.size, 0, none⟩))) (w' := w.alloc (.cells (a.eval x).cells t)) (by intro c hc; rw [ho] at hc; cases hc) ?_ (hnext _ _ _ _ _ hK (rel_newptr' C S w _ _ _ _ _ rfl) k1 k2)
  unfold execOp
  simp only [ho, Instr.box, newVar, newRow, Sem.run_bind, run_newObj, Result.andThen_ok, Sem.run_pure, World.alloc_eq]

theorem rel_newsl (C : Ctx) (S : Store) (w w' : World) (o ver k sz m cap : Nat) (x : Ob) (hx : x.ver = some ver) (hm : m ≤ cap) (hM : m ≤ maxN) (hc : cap ≤ maxLen) (hk : cap * sz = k) :
    Rel (C.put o ver (some (w.heap.size, k))) (S.set o x) w' (.sl o ver sz 0 m) (.slice (some ⟨w.heap.size, 0, none⟩) m cap) := by
  refine .sl ⟨_, _, rfl, hm, hM, hc, fun _ => ⟨_, _, rfl⟩⟩ (by simp only [Ctx.put]; omega) fun v0 hv0 => ?_
  rw [Store.set_same, hx] at hv0
  cases hv0
  exact ⟨Nat.le_refl _, fun _ => .inr ⟨w.heap.size, k, _, _, by simp [Ctx.put], rfl, fun _ => ⟨rfl, hk⟩, fun _ => rfl⟩⟩

def Program.bytesOf' (P : Program) (t : TypeId) : Option Nat := (P.info? t).map (·.bytes)

theorem run_typeInfo {t : TypeId} {b : Nat} (h : Program.bytesOf' P t = some b) (w : World) : ∃ i, (typeInfo t).run P w = .ok i w ∧ i.bytes = b := by
  unfold Program.bytesOf' at h
  obtain ⟨i, hi, rfl⟩ := Option.map_eq_some_iff.1 h
  exact ⟨i, by simp [typeInfo, hi], rfl⟩

/-- make. -/
theorem po_makeSlice0 {o : Oper} {t e : TypeId} {l c : Operand} {z : Value} {kl kc : IntKind} {a b by_ : Nat} {K : PV → Store → Prop} (ho : o.op = .makeSlice t l c) (ht : P.underlying t = some (.slice e)) (hl : ev F l = .sc (.int kl (a : Int))) (hc : ev F c = .sc (.int kc (b : Int)))
    (hz : Program.zeroOf P e = some z) (h1 : z.cells.all (·.oneCell') = true) (hsz : z.cells.size = P.cellsOf e) (h0 : P.cellsOf e ≠ 0) (hby : Program.bytesOf' P e = some by_) (hab : a ≤ b) (hb : b ≤ 140737488355328) (hbb : b * by_ ≤ 281474976710656)
    (hK : ∀ C : Ctx, S C.next = .dead → ∃ id v, Fresh C S id v ∧ K (.sl id v (P.cellsOf e) 0 a) (S.set id (.cells v e (zerosP b z)))) : PO P r n o F S K := by
  intro G hG C w act N st next Q' hnext
  have e1 : ev G l = _ := (hG l (by simp [ho, Op.operands])).trans hl
  have e2 : ev G c = _ := (hG c (by simp [ho, Op.operands])).trans hc
  have r1 := st.ev l
  have r2 := st.ev c
  rw [e1] at r1; rw [e2] at r2
  generalize hv1 : act.eval l = v1 at r1
  generalize hv2 : act.eval c = v2 at r2
  cases r1; cases r2
  have hr := relL_cells (relL_zeros (C := C) (S := S) (w := w) h1 b)
  obtain ⟨id, ver, hfr, hK⟩ := hK C st.sim.free
  obtain ⟨k1, k2⟩ := st.sim.object' hfr e ((Array.range (b * z.cells.size)).map (z.cells[· % z.cells.size]!)) (zerosP b z) hr.1 hr.2.1 hr.2.2
  obtain ⟨i, hi, hib⟩ := run_typeInfo hby w
  have wrapb : IntKind.i64.wrap (b : Int) = b := IntWalk.i64_in _ ⟨by omega, by omega⟩
  have wrapa : IntKind.i64.wrap (a : Int) = a := IntWalk.i64_in _ ⟨by omega, by omega⟩
  refine wpIn_of_run (x := .value (.slice (some ⟨w.heap.size, 0, none⟩) a b)) (w' := w.alloc (.cells ((Array.range (b * z.cells.size)).map (z.cells[· % z.cells.size]!)) e)) (by intro c hc; rw [ho] at hc; cases hc) ?_
    (hnext _ _ _ _ _ hK (rel_newsl C S w _ _ _ _ _ _ _ _ rfl hab (by unfold maxN; omega) (by unfold maxLen; omega) (by rw [Array.size_map, Array.size_range, hsz])) k1 k2)
  unfold execOp
  simp only [ho, hv1, hv2, Instr.makeSlice, Sem.run_bind, run_underlying ht, Result.andThen_ok, asInt, asIntOf, Sem.run_pure, hi, hib, wrapa, wrapb]
  have hcast : (by_ : Int) * (b : Int) ≤ 281474976710656 := by
    obtain ⟨q, hq⟩ : ∃ q, b * by_ = q := ⟨_, rfl⟩
    have e : (by_ : Int) * (b : Int) = (q : Int) := by rw [← hq, Int.natCast_mul, Int.mul_comm]
    rw [e]; rw [hq] at hbb; omega
  have p48 : (2 : Int) ^ 48 = 281474976710656 := rfl
  have q1 : decide ((b : Int) < 0) = false := decide_eq_false (by omega)
  have q2 : decide ((by_ : Int) * (b : Int) > 2 ^ 48) = false := decide_eq_false (by rw [p48]; omega)
  have q3 : decide ((a : Int) < 0) = false := decide_eq_false (by omega)
  have q4 : decide ((a : Int) > (b : Int)) = false := decide_eq_false (by omega)
  rw [if_neg (by rw [q1, q2, q3, q4]; decide)]
  simp only [Sem.run_bind, run_askRoom, Result.andThen_ok, Int.toNat_natCast, run_sizeOf' h0]
  by_cases hb0 : b = 0
  · subst hb0
    simp only [Nat.zero_mul, if_true, Sem.run_pure, Result.andThen_ok, Sem.run_bind, newRow, run_newObj, Array.range_zero', Array.map_empty, World.alloc_eq]
  · have hne : b * P.cellsOf e ≠ 0 := Nat.mul_ne_zero hb0 h0
    rw [if_neg hne]
    simp only [Sem.run_bind, run_zeroValue hz, Result.andThen_ok, Sem.run_pure, newRow, run_newObj, World.alloc_eq, hsz]

theorem fresh0 {S : Store} {X : Nat → Nat → Prop} (h : ∀ id, S id = .dead → X id 0) : ∀ C : Ctx, S C.next = .dead → ∃ id v, Fresh C S id v ∧ X id v := fun C hd => ⟨C.next, 0, ⟨hd, .inl (Nat.le_refl _)⟩, h _ hd⟩
theorem freshAt {S : Store} {X : Nat → Nat → Prop} (j : Nat) (hj : S j = .dead) (h : ∀ v, X j v) : ∀ C : Ctx, S C.next = .dead → ∃ id v, Fresh C S id v ∧ X id v := fun C _ => ⟨j, C.clock, .clock C hj, h _⟩

theorem po_alloc {o : Oper} {t : TypeId} {z : Value} {K : PV → Store → Prop} (ho : o.op = .alloc t) (hz : Program.zeroOf P t = some z) (h1 : z.cells.all (·.oneCell') = true)
    (hK : ∀ id, S id = .dead → K (.ptr id 0 0) (S.set id (.cells 0 t (zeroCellsOf z)))) : PO P r n o F S K :=
  po_alloc0 ho hz h1 (fresh0 (X := fun id v => K (.ptr id v 0) (S.set id (.cells v t (zeroCellsOf z)))) hK)

theorem po_box {o : Oper} {t : TypeId} {x : Operand} {K : PV → Store → Prop} (ho : o.op = .box t x) (hf : (ev F x).fit = true)
    (hK : ∀ id, S id = .dead → K (.ptr id 0 0) (S.set id (.cells 0 t (ev F x).cells))) : PO P r n o F S K :=
  po_box0 ho hf (fresh0 (X := fun id v => K (.ptr id v 0) (S.set id (.cells v t (ev F x).cells))) hK)

theorem po_makeSlice {o : Oper} {t e : TypeId} {l c : Operand} {z : Value} {kl kc : IntKind} {a b by_ : Nat} {K : PV → Store → Prop} (ho : o.op = .makeSlice t l c) (ht : P.underlying t = some (.slice e)) (hl : ev F l = .sc (.int kl (a : Int))) (hc : ev F c = .sc (.int kc (b : Int)))
    (hz : Program.zeroOf P e = some z) (h1 : z.cells.all (·.oneCell') = true) (hsz : z.cells.size = P.cellsOf e) (h0 : P.cellsOf e ≠ 0) (hby : Program.bytesOf' P e = some by_) (hab : a ≤ b) (hb : b ≤ 140737488355328) (hbb : b * by_ ≤ 281474976710656)
    (hK : ∀ id, S id = .dead → K (.sl id 0 (P.cellsOf e) 0 a) (S.set id (.cells 0 e (zerosP b z)))) : PO P r n o F S K :=
  po_makeSlice0 ho ht hl hc hz h1 hsz h0 hby hab hb hbb (fresh0 (X := fun id v => K (.sl id v (P.cellsOf e) 0 a) (S.set id (.cells v e (zerosP b z)))) hK)

/-! ### append -/

/-- What is appended, as the model reads it. -/
structure SrcOk (P : Program) (w : World) (sz : Nat) (x : Value) (m : Nat) (news : List Value) : Prop where
  len : (Builtin.lenOf x).run P w = .ok m w
  cells : (Builtin.firstCells sz m x).run P w = .ok news.toArray w
  cells' : (Builtin.firstCells sz m x).run P w.drew = .ok news.toArray w.drew
  size : news.length = m * sz
  one : ∀ v ∈ news, v.oneCell' = true

theorem run_append_same {t ty e : TypeId} {x : Value} {b : Option Addr} {k cap : Nat} (ht : P.underlying t = some (.slice e)) (h0 : P.cellsOf e ≠ 0) {w : World} (hs : SrcOk P w (P.cellsOf e) x 0 []) (hk : k ≤ cap) :
    (Builtin.append_ #[t, t] ty #[.slice b k cap, x]).run P w = .ok (.slice b k cap) w := by
  have hsz := run_sizeOf' h0 w
  unfold Builtin.append_
  simp only [List.getElem?_toArray, List.getElem?_cons_zero, List.getElem?_cons_succ, Sem.run_bind, run_underlying ht, Result.andThen_ok, hsz, Sem.run_pure, Bool.false_eq_true, if_false, hs.len, Nat.add_zero]
  rw [if_pos hk]
  simp only [Bool.not_false, if_true, Sem.run_bind, hs.cells, Result.andThen_ok]
  cases b with
  | none => rfl
  | some a => simp [storeCells]

theorem run_append_room' {t ty e : TypeId} {x : Value} {g k cap m : Nat} {news : List Value} {cur : Array Value} (ht : P.underlying t = some (.slice e)) (h0 : P.cellsOf e ≠ 0) {w : World} (hs : SrcOk P w (P.cellsOf e) x m news)
    (hg : w.heap[g]? = some (.cells cur e (0, 0))) (hk : k + m ≤ cap) (hc : cur.size = cap * P.cellsOf e) :
    (Builtin.append_ #[t, t] ty #[.slice (some ⟨g, 0, none⟩) k cap, x]).run P w =
      .ok (.slice (some ⟨g, 0, none⟩) (k + m) cap) (w.setRow g (cur.toList.take (k * P.cellsOf e) ++ news ++ cur.toList.drop (k * P.cellsOf e + news.length)).toArray) := by
  have hsz := run_sizeOf' h0 w
  have hfit : k * P.cellsOf e + 0 + news.length ≤ cur.size := by
    rw [hs.size, hc, Nat.add_zero, ← Nat.add_mul]; exact Nat.mul_le_mul_right _ hk
  have hst := run_storeCells_at P g (k * P.cellsOf e) e news 0 cur w hg hfit hs.one
  simp only [Nat.add_zero] at hst
  unfold Builtin.append_
  simp only [List.getElem?_toArray, List.getElem?_cons_zero, List.getElem?_cons_succ, Sem.run_bind, run_underlying ht, Result.andThen_ok, hsz, Sem.run_pure, Bool.false_eq_true, if_false, hs.len]
  rw [if_pos hk]
  simp only [Bool.not_false, if_true, Sem.run_bind, hs.cells, Result.andThen_ok, Addr.add_plain, Nat.zero_add, hst, Sem.run_pure]

theorem run_append_more {t ty e : TypeId} {x : Value} {b : Option Addr} {k cap m by_ : Nat} {z : Value} {olds news : List Value} (ht : P.underlying t = some (.slice e)) (h0 : P.cellsOf e ≠ 0) (hz : Program.zeroOf P e = some z) (hby : Program.bytesOf' P e = some by_)
    {w : World} (hs : SrcOk P w (P.cellsOf e) x m news) (hold : (Builtin.firstCells (P.cellsOf e) k (.slice b k cap)).run P w.drew = .ok olds.toArray w.drew) (hk : cap < k + m) (hbytes : (k + m) * by_ ≤ 140737488355328) (hbp : by_ ≠ 0) :
    (Builtin.append_ #[t, t] ty #[.slice b k cap, x]).run P w =
      .ok (.slice (some ⟨w.heap.size, 0, none⟩) (k + m) (grownCap w (k + m) cap e)) (w.drew.alloc (.cells (olds.toArray ++ news.toArray ++ Builtin.zeroCells z.cells (grownCap w (k + m) cap e - (k + m))) e)) := by
  have hsz := run_sizeOf' h0 w
  obtain ⟨i, hi, hib⟩ := run_typeInfo hby w
  obtain ⟨i2, hi2, hib2⟩ := run_typeInfo hby w.drew
  have hfit : Builtin.nextslicecap (k + m) cap * by_ ≤ 281474976710656 := growslice_fits hk hbytes
  unfold Builtin.append_
  simp only [List.getElem?_toArray, List.getElem?_cons_zero, List.getElem?_cons_succ, Sem.run_bind, run_underlying ht, Result.andThen_ok, hsz, Sem.run_pure, Bool.false_eq_true, if_false, hs.len]
  rw [if_neg (by omega)]
  simp only [Sem.run_bind, hi, Result.andThen_ok, hib]
  rw [if_neg (by
    rintro ⟨_, h | h⟩
    · cases h
    · exact hbp h)]
  simp only [Sem.run_bind, hi, Result.andThen_ok, hib]
  rw [if_neg (by
    have : (2 : Nat) ^ 48 = 281474976710656 := by decide
    rw [this]; omega)]
  simp only [Sem.run_bind, run_choose, Question.forced, Bool.false_eq_true, if_false, Result.andThen_ok, World.drew_eq]
  rw [show (Question.appendCap (k + m) cap e).cut (w.tape w.drawn (.appendCap (k + m) cap e)) = grownCap w (k + m) cap e from rfl]
  simp only [hi2, Result.andThen_ok, run_askRoom, hold, Bool.not_false, if_true, hs.cells', run_zeroValue hz, newRow, Sem.run_bind, run_newObj, Sem.run_pure, World.alloc_eq, World.size_drew]

/-- The cells that a slice of an object shows. -/
theorem first_cells {w : World} {b k cap sz : Nat} {c : Array Value} {e : TypeId} {fz : Nat × Nat} (hb : w.heap[b]? = some (.cells c e fz)) (o : Nat) (hl : o + k * sz ≤ c.size) :
    (Builtin.firstCells sz k (.slice (some ⟨b, o, none⟩) k cap)).run P w = .ok (c.extract o (o + k * sz)) w := by
  unfold Builtin.firstCells loadCells
  have := run_loadCellsFrom (P := P) (o := o) hb (k * sz) 0 #[] (by omega)
  simpa using this

/-- What may be appended: how many elements, and their cells. -/
def srcP (S : Store) (sz : Nat) (x : PV) : Option (Nat × List PV) :=
  match x with
  | .lst m ds => if ds.length = m * sz then some (m, ds) else none
  | .sl o ver sz' off m =>
    match S o with
    | .cells v _ cs => if v = ver ∧ sz' = sz ∧ off + m * sz ≤ cs.length then some (m, (cs.drop off).take (m * sz)) else none
    | _ => none
  | .sc (.slice none 0 0) => some (0, [])
  | _ => none

theorem srcP_sound {C : Ctx} {w : World} {sz m : Nat} {x : PV} {ds : List PV} {u : Value} (hS : Sim C S w) (h : srcP S sz x = some (m, ds)) (hu : Rel C S w x u) :
    ∃ news : List Value, SrcOk P w sz u m news ∧ RelL C S w ds news.toArray ∧ m ≤ maxN := by
  have fromBlock : ∀ (b o cap : Nat) (c : Array Value) (e : TypeId) (fz : Nat × Nat) (ds : List PV), w.heap[b]? = some (.cells c e fz) → ds.length = m * sz → (ds ≠ [] → o + ds.length ≤ c.size) →
      (∀ (i : Nat) (v : Value), i < ds.length → c[o + i]? = some v → v.oneCell' = true) → (∀ (i : Nat) (p : PV) (v : Value), ds[i]? = some p → c[o + i]? = some v → Rel C S w p v) →
      ∃ news : List Value, SrcOk P w sz (.slice (some ⟨b, o, none⟩) m cap) m news ∧ RelL C S w ds news.toArray := by
    intro b o cap c e fz ds hb hl hs h1 hr
    by_cases hd : ds = []
    · subst hd
      have hz : m * sz = 0 := by simpa using hl.symm
      refine ⟨[], ⟨rfl, ?_, ?_, by simp [hz], by simp⟩, by simp [RelL]⟩
      · simp [Builtin.firstCells, loadCells, hz, loadCellsFrom]
      · simp [Builtin.firstCells, loadCells, hz, loadCellsFrom]
    · have hle := hs hd
      rw [hl] at hle
      have hb' : w.drew.heap[b]? = some (.cells c e fz) := hb
      refine ⟨(c.extract o (o + m * sz)).toList, ⟨rfl, by rw [Array.toArray_toList]; exact first_cells hb o hle, by rw [Array.toArray_toList]; exact first_cells hb' o hle, by simp; omega, ?_⟩, ?_⟩
      · intro v hv
        obtain ⟨i, hi⟩ := List.getElem?_of_mem hv
        rw [Array.getElem?_toList, Array.getElem?_extract] at hi
        split at hi
        · exact h1 i v (by omega) hi
        · cases hi
      · rw [Array.toArray_toList]
        refine ⟨by simp; omega, fun i v hv => ?_, fun i p v hp hv => ?_⟩
        · rw [Array.getElem?_extract] at hv
          split at hv
          · exact h1 i v (by omega) hv
          · cases hv
        · rw [Array.getElem?_extract] at hv
          split at hv
          · exact hr i p v hp hv
          · cases hv
  unfold srcP at h
  split at h
  · rename_i m' ds'
    split at h
    · rename_i hl
      cases h
      cases hu with
      | lst0 =>
        rename_i cap a
        refine ⟨[], ⟨rfl, ?_, ?_, by simp, by simp⟩, by simp [RelL], by unfold maxN; omega⟩
        · cases a <;> simp [Builtin.firstCells, loadCells, loadCellsFrom]
        · cases a <;> simp [Builtin.firstCells, loadCells, loadCellsFrom]
      | lst1 hn hm hb hM hs h1 hr =>
        obtain ⟨news, k1, k2⟩ := fromBlock _ _ _ _ _ _ ds hb hl hs h1 hr
        exact ⟨news, k1, k2, hm⟩
    · cases h
  · rename_i o ver sz' off m'
    split at h
    · rename_i v e cs hs
      split at h
      · rename_i hc
        obtain ⟨rfl, rfl, hle⟩ := hc
        cases h
        cases hu with
        | sl h1 h2 h3 =>
          obtain ⟨a, cap, rfl, q1, q2, q3, q4⟩ := h1
          rcases hS.cells o v e cs hs with ⟨hn, hnil⟩ | ⟨b, k, c, g1, g2, g3, g4, g5, g6⟩
          · have hm0 : (cs.drop off).take (m * sz') = [] := by rw [hnil]; simp
            rw [hm0]
            have hz : m * sz' = 0 := by rw [hnil] at hle; simp at hle; omega
            refine ⟨[], ⟨rfl, ?_, ?_, by simp [hz], by simp⟩, by simp [RelL], q2⟩
            · cases a <;> simp [Builtin.firstCells, loadCells, hz, loadCellsFrom]
            · cases a <;> simp [Builtin.firstCells, loadCells, hz, loadCellsFrom]
          · by_cases hm0 : m = 0
            · subst hm0
              refine ⟨[], ⟨rfl, ?_, ?_, by simp, by simp⟩, by simp [RelL], q2⟩
              · cases a <;> simp [Builtin.firstCells, loadCells, loadCellsFrom]
              · cases a <;> simp [Builtin.firstCells, loadCells, loadCellsFrom]
            · have hloc : a = some ⟨b, off, none⟩ := by
                rcases (h3 v (by rw [hs]; rfl)).2 rfl with ⟨z1, z2, _⟩ | ⟨b', k', a', cap', z1, z2, z3, z4⟩
                · exact absurd z2 hm0
                · rw [g1] at z1; cases z1; cases z2; exact z4 hm0
              subst hloc
              have hsub : ∀ (i : Nat) (p : PV), ((cs.drop off).take (m * sz'))[i]? = some p → cs[off + i]? = some p := by
                intro i p hp
                by_cases hi : i < m * sz'
                · rw [List.getElem?_take_of_lt hi, List.getElem?_drop] at hp; exact hp
                · rw [List.getElem?_eq_none (by simp; omega)] at hp; cases hp
              obtain ⟨news, k1, k2⟩ := fromBlock b off cap c e (0, 0) ((cs.drop off).take (m * sz')) g2 (by simp; omega) (fun _ => by simp; omega) (fun i v hi hv => g5 (off + i) v (by simp at hi; omega) hv) (fun i p v hp hv => g6 (off + i) p v (hsub i p hp) hv)
              exact ⟨news, k1, k2, q2⟩
      · cases h
    · cases h
  · cases h
    cases hu
    exact ⟨[], ⟨rfl, by simp [Builtin.firstCells], by simp [Builtin.firstCells], by simp, by simp⟩, by simp [RelL], by unfold maxN; omega⟩
  · cases h

theorem relL_append {C : Ctx} {w : World} {cs ds : List PV} {vs us : List Value} (h : RelL C S w cs vs.toArray) (k : RelL C S w ds us.toArray) (rest : List Value) :
    (cs ++ ds).length ≤ (vs ++ us ++ rest).length ∧ (∀ (i : Nat) (v : Value), i < (cs ++ ds).length → (vs ++ us ++ rest)[i]? = some v → v.oneCell' = true) ∧
    ∀ (i : Nat) (p : PV) (v : Value), (cs ++ ds)[i]? = some p → (vs ++ us ++ rest)[i]? = some v → Rel C S w p v := by
  obtain ⟨h1, h2, h3⟩ := h
  obtain ⟨k1, k2, k3⟩ := k
  simp only [List.size_toArray, List.getElem?_toArray] at h1 h2 h3 k1 k2 k3
  refine ⟨by simp; omega, fun i v hi hv => ?_, fun i p v hp hv => ?_⟩
  · rw [List.length_append] at hi
    by_cases q : i < cs.length
    · rw [List.append_assoc, List.getElem?_append_left (by omega)] at hv; exact h2 i v hv
    · rw [List.append_assoc, List.getElem?_append_right (by omega), List.getElem?_append_left (by omega)] at hv
      exact k2 _ v hv
  · by_cases q : i < cs.length
    · rw [List.getElem?_append_left q] at hp
      rw [List.append_assoc, List.getElem?_append_left (by omega)] at hv; exact h3 i p v hp hv
    · rw [List.getElem?_append_right (by omega)] at hp
      have := (List.getElem?_eq_some_iff.1 hp).1
      rw [List.append_assoc, List.getElem?_append_right (by omega), List.getElem?_append_left (by omega), ← h1] at hv
      exact k3 _ p v hp hv

end
end Go.Proofs.Ytdmmihkmcennpaa.Pv
