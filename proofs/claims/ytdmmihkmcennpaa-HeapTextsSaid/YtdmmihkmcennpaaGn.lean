/- Ghost layer, part 14: maps; methods behind an interface value. -/
import Derived.Test.YtdmmihkmcennpaaGm
import Derived.Laws.StructEq
namespace Go.Proofs.Ytdmmihkmcennpaa.Pv
open Go

/-- The entries of a map have turned. -/
theorem Sim.turnMap {C : Ctx} {S : Store} {w w' : World} (h : Sim C S w) {o ver b k : Nat} {es es' : List (Value × PV)} (hs : S o = .map ver es) (hl : C.loc o = some (b, k)) (hg : w.grownBy w' (some b)) {ms : Array MapEntry} {cl : Nat}
    (hb : w'.heap[b]? = some (.map ms cl)) (hlen : es'.length = ms.size) (hr : ∀ (i : Nat) (e : Value × PV) (m : MapEntry), es'[i]? = some e → ms[i]? = some m → m.key = e.1 ∧ Rel C S w e.2 m.val) :
    Sim C (S.set o (.map ver es')) w' ∧ Step C S w C (S.set o (.map ver es')) w' := by
  have hne : S o ≠ .dead := by rw [hs]; simp
  have hfar : ∀ i b' k', i ≠ o → S i ≠ .dead → C.loc i = some (b', k') → some b' ≠ some b := by
    intro i b' k' hi hd hb' he
    cases he
    exact hi (h.dist i o b k' k hd hne hb' hl)
  have hdead : ∀ i, S.set o (.map ver es') i ≠ .dead → S i ≠ .dead := by
    intro i hi
    by_cases hc : i = o
    · subst hc; exact hne
    · rw [Store.set_other _ _ _ _ hc] at hi; exact hi
  have st : Step C S w C (S.set o (.map ver es')) w' := by
    refine ⟨hg.os, hg.tape, hg.output, hg.size, Nat.le_refl _, Nat.le_refl _, fun c hc hM => ⟨hg.block c hc ?_, ?_⟩, ?_⟩
    · intro he; cases he; exact hM ⟨o, k, hne, hl⟩
    · rintro ⟨i, k', hd, hb'⟩; exact hM ⟨i, k', hdead i hd, hb'⟩
    · intro i v1 hv
      by_cases hc : i = o
      · subst hc; rw [Store.set_same] at hv; cases hv; exact .inr ⟨ver, by rw [hs]; rfl, Nat.le_refl _, fun _ => rfl⟩
      · rw [Store.set_other _ _ _ _ hc] at hv; exact .inr ⟨v1, hv, Nat.le_refl _, fun _ => rfl⟩
  refine ⟨⟨fun i hi => h.lt i (hdead i hi), fun i v hv => (by
    by_cases hc : i = o
    · subst hc; rw [Store.set_same] at hv; cases hv; exact h.clk i ver (by rw [hs]; rfl)
    · rw [Store.set_other _ _ _ _ hc] at hv; exact h.clk i v hv), fun i j b1 k1 k2 hi hj => h.dist i j b1 k1 k2 (hdead i hi) (hdead j hj), ?_, ?_⟩, st⟩
  · intro i v' e' ds hi
    by_cases hc : i = o
    · subst hc; rw [Store.set_same] at hi; cases hi
    · rw [Store.set_other _ _ _ _ hc] at hi
      rcases h.cells i v' e' ds hi with hn | ⟨b1, k1, c', g1, g2, g3, g4, g5, g6⟩
      · exact .inl hn
      · exact .inr ⟨b1, k1, c', g1, (hg.block b1 (lt_of_heap g2) (hfar i b1 k1 hc (by rw [hi]; simp) g1)).trans g2, g3, g4, g5, fun j p v hp hv => (g6 j p v hp hv).mono st⟩
  · intro i ver2 fs hi
    by_cases hc : i = o
    · subst hc
      rw [Store.set_same] at hi; cases hi
      exact ⟨b, k, ms, cl, hl, hb, hlen, fun j e m he hm => ⟨(hr j e m he hm).1, (hr j e m he hm).2.mono st⟩⟩
    · rw [Store.set_other _ _ _ _ hc] at hi
      obtain ⟨b1, k1, ms1, cl1, g1, g2, g3, g4⟩ := h.maps i ver2 fs hi
      exact ⟨b1, k1, ms1, cl1, g1, (hg.block b1 (lt_of_heap g2) (hfar i b1 k1 hc (by rw [hi]; simp) g1)).trans g2, g3, fun j x m he hm => ⟨(g4 j x m he hm).1, (g4 j x m he hm).2.mono st⟩⟩

/-- A new map. -/
theorem Sim.newMap' {C : Ctx} {S : Store} {w : World} (h : Sim C S w) {o ver : Nat} (hf : Fresh C S o ver) :
    Sim (C.put o ver (some (w.heap.size, 0))) (S.set o (.map ver [])) (w.alloc (.map #[] 0)) ∧ Step C S w (C.put o ver (some (w.heap.size, 0))) (S.set o (.map ver [])) (w.alloc (.map #[] 0)) := by
  have hloc : ∀ i, i ≠ o → (C.put o ver (some (w.heap.size, 0))).loc i = C.loc i := fun i hi => by simp [Ctx.put, hi]
  have hlocn : (C.put o ver (some (w.heap.size, 0))).loc o = some (w.heap.size, 0) := by simp [Ctx.put]
  have st : Step C S w (C.put o ver (some (w.heap.size, 0))) (S.set o (.map ver [])) (w.alloc (.map #[] 0)) :=
    Sim.step_new hf rfl _ rfl rfl rfl (by simp) (fun b hb => heap_alloc_lt w _ b hb) (fun b k hq => by cases hq; exact Nat.le_refl _)
  refine ⟨⟨?_, ?_, ?_, ?_, ?_⟩, st⟩
  · intro i ho
    by_cases hc : i = o
    · subst hc; simp only [Ctx.put]; omega
    · rw [Store.set_other _ _ _ _ hc] at ho
      have := h.lt i ho
      simp only [Ctx.put]; omega
  · intro i v hv
    by_cases hc : i = o
    · subst hc; rw [Store.set_same] at hv; cases hv; simp only [Ctx.put]; omega
    · rw [Store.set_other _ _ _ _ hc] at hv
      have := h.clk i v hv
      simp only [Ctx.put]; omega
  · intro i i' b k k' ho ho' hl hl'
    by_cases hc : i = o <;> by_cases hc' : i' = o
    · omega
    · subst hc
      rw [hlocn] at hl; rw [hloc i' hc'] at hl'; rw [Store.set_other _ _ _ _ hc'] at ho'
      have := h.M_lt ⟨i', k', ho', hl'⟩
      simp only [Option.some.injEq, Prod.mk.injEq] at hl; omega
    · subst hc'
      rw [hlocn] at hl'; rw [hloc i hc] at hl; rw [Store.set_other _ _ _ _ hc] at ho
      have := h.M_lt ⟨i, k, ho, hl⟩
      simp only [Option.some.injEq, Prod.mk.injEq] at hl'; omega
    · rw [hloc i hc] at hl; rw [hloc i' hc'] at hl'; rw [Store.set_other _ _ _ _ hc] at ho; rw [Store.set_other _ _ _ _ hc'] at ho'
      exact h.dist i i' b k k' ho ho' hl hl'
  · intro i ver' e' cs' hs
    by_cases hc : i = o
    · subst hc; rw [Store.set_same] at hs; cases hs
    · rw [Store.set_other _ _ _ _ hc] at hs
      rcases h.cells i ver' e' cs' hs with hn | ⟨b, k, c', g1, g2, g3, g4, g5, g6⟩
      · exact .inl ⟨(hloc i hc).trans hn.1, hn.2⟩
      · exact .inr ⟨b, k, c', (hloc i hc).trans g1, (heap_alloc_lt w _ b (lt_of_heap g2)).trans g2, g3, g4, g5, fun i p v hp hv => (g6 i p v hp hv).mono st⟩
  · intro i ver' es hs
    by_cases hc : i = o
    · subst hc; rw [Store.set_same] at hs; cases hs
      exact ⟨w.heap.size, 0, #[], 0, hlocn, heap_alloc_new' w _, rfl, by simp⟩
    · rw [Store.set_other _ _ _ _ hc] at hs
      obtain ⟨b, k, ms, cl, g1, g2, g3, g4⟩ := h.maps i ver' es hs
      exact ⟨b, k, ms, cl, (hloc i hc).trans g1, (heap_alloc_lt w _ b (lt_of_heap g2)).trans g2, g3, fun i e m he hm => ⟨(g4 i e m he hm).1, (g4 i e m he hm).2.mono st⟩⟩

/-- Where a key stands. -/
def findP (d : TypeDesc) (k : Value) : List (Value × PV) → Nat → Option (Option (Nat × PV))
  | [], _ => some none
  | e :: es, i =>
    match Instr.sameNow d k e.1 with
    | some true => some (some (i, e.2))
    | some false => findP d k es (i + 1)
    | none => none

/-- A key of a plain kind. -/
def plainKey (d : TypeDesc) : Bool :=
  match d with
  | .int _ => true
  | .string => true
  | .bool => true
  | _ => false

section
variable {P : Program} {r : Option Nat} {n N : Nat} {Q : Exit → (Nat → PV) → Store → Prop} {F : Nat → PV} {S : Store}

theorem findP_sound {C : Ctx} {w : World} {d : TypeDesc} {k : Value} : ∀ (es : List (Value × PV)) (ms : List MapEntry) (i : Nat) (res : Option (Nat × PV)), es.length = ms.length →
    (∀ (j : Nat) (e : Value × PV) (m : MapEntry), es[j]? = some e → ms[j]? = some m → m.key = e.1 ∧ Rel C S w e.2 m.val) → findP d k es i = some res →
    (res = none ∧ Instr.findNow d k ms i = some none) ∨ ∃ j p v, res = some (j, p) ∧ Instr.findNow d k ms i = some (some (j, v)) ∧ Rel C S w p v
  | [], [], i, res, _, _, h => by cases h; exact .inl ⟨rfl, rfl⟩
  | e :: es, m :: ms, i, res, hl, hr, h => by
    obtain ⟨hk, hv⟩ := hr 0 e m rfl rfl
    simp only [findP] at h
    simp only [Instr.findNow, hk]
    split at h
    · rename_i hs; cases h; simp only [hs]; exact .inr ⟨_, _, _, rfl, rfl, hv⟩
    · rename_i hs; simp only [hs]
      exact findP_sound es ms (i + 1) res (by simpa using hl) (fun j e m he hm => hr (j + 1) e m (by simpa using he) (by simpa using hm)) h
    · cases h

theorem run_checkKey {t : TypeId} {d : TypeDesc} (ht : P.underlying t = some d) (hp : plainKey d = true) (b : Bool) (k : Value) (w : World) : (Instr.checkKey b 10000 t k).run P w = .ok () w := by
  show (Instr.checkKey b (9999 + 1) t k).run P w = _
  unfold Instr.checkKey
  simp only [Sem.run_bind, run_underlying ht, Result.andThen_ok]
  cases d <;> simp [plainKey] at hp <;> rfl

def lookP (ok : Bool) (z : Value) (res : Option (Nat × PV)) : PV :=
  match res with
  | some (_, p) => if ok = true then .tup [p, .sc (.bool true)] else p
  | none => if ok = true then .tup [ofV z, .sc (.bool false)] else ofV z

/-- m[k]; v, ok := m[k]. -/
theorem po_lookup {o : Oper} {t kt et id ver : Nat} {x i : Operand} {ok : Bool} {k : Value} {d : TypeDesc} {es : List (Value × PV)} {res : Option (Nat × PV)} {z : Value} {K : PV → Store → Prop} (ho : o.op = .lookup t x i ok) (ht : P.underlying t = some (.map kt et))
    (hk : P.underlying kt = some d) (hd : plainKey d = true) (hx : ev F x = .mp id ver) (hi : ev F i = .sc k) (hs : S id = .map ver es) (hf : findP d k es 0 = some res) (hz : Program.zeroOf P et = some z)
    (hK : K (lookP ok z res) S) : PO P r n o F S K := by
  intro G hG C w a N st next Q' hnext
  have e1 := st.ev x
  have e2 := st.ev i
  rw [(hG x (by simp [ho, Op.operands])).trans hx] at e1
  rw [(hG i (by simp [ho, Op.operands])).trans hi] at e2
  generalize hv1 : a.eval x = v1 at e1
  generalize hv2 : a.eval i = v2 at e2
  cases e2
  obtain ⟨b, k0, ms, cl, g1, g2, g3, g4⟩ := st.sim.maps id ver es hs
  cases e1 with
  | mp h1 h2 h3 =>
    obtain ⟨b', rfl⟩ := h1
    obtain ⟨b2, k2, q1, q2⟩ := (h3 ver (by rw [hs]; rfl)).2 rfl
    rw [g1] at q1; cases q1; cases q2
    have hnd : ∀ c, o.op ≠ .defer c := by intro c hc; rw [ho] at hc; cases hc
    have hget : (getObj b).run P w = .ok (.map ms cl) w := by
      simp only [getObj, Sem.run, g2]
    have hfind := findP_sound (C := C) (w := w) es ms.toList 0 res (by simpa using g3) (fun j e m he hm => g4 j e m he (by rw [← Array.getElem?_toList]; exact hm)) hf
    rcases hfind with ⟨rfl, hn⟩ | ⟨j, p, v, rfl, hn, hrel⟩
    · have hrun : (execOp a.eval o).run P w = .ok (.value (if ok then .tuple #[z, .bool false] else z)) w := by
        unfold execOp
        simp only [ho, hv1, hv2, Instr.lookup, Sem.run_bind, run_underlying ht, Result.andThen_ok, hget, Sem.run_pure, run_checkKey hk hd, Instr.findKey, run_underlying hk, hn, run_zeroValue hz]
      refine wpIn_of_run hnd hrun (hnext _ _ _ _ _ hK ?_ st.sim (.refl _ _ _))
      cases ok
      · exact rel_ofV z
      · exact .tup rfl (by
          intro i c v hc hv
          match i with
          | 0 => have hc : some (ofV z) = some c := hc; have hv : some z = some v := hv; cases hc; cases hv; exact rel_ofV z
          | 1 => have hc : some (PV.sc (.bool false)) = some c := hc; have hv : some (Value.bool false) = some v := hv; cases hc; cases hv; exact .sc _
          | i + 2 => simp at hc)
    · have hrun : (execOp a.eval o).run P w = .ok (.value (if ok then .tuple #[v, .bool true] else v)) w := by
        unfold execOp
        simp only [ho, hv1, hv2, Instr.lookup, Sem.run_bind, run_underlying ht, Result.andThen_ok, hget, Sem.run_pure, run_checkKey hk hd, Instr.findKey, run_underlying hk, hn]
      refine wpIn_of_run hnd hrun (hnext _ _ _ _ _ hK ?_ st.sim (.refl _ _ _))
      cases ok
      · exact hrel
      · exact .tup rfl (by
          intro i c v hc hv
          match i with
          | 0 => simp at hc hv; subst hc; subst hv; exact hrel
          | 1 => simp at hc hv; subst hc; subst hv; exact .sc _
          | i + 2 => simp at hc)

theorem findP_lt {d : TypeDesc} {k : Value} : ∀ (es : List (Value × PV)) (i j : Nat) (p : PV), findP d k es i = some (some (j, p)) → i ≤ j ∧ j < i + es.length
  | [], _, _, _, h => by cases h
  | e :: es, i, j, p, h => by
    simp only [findP] at h
    split at h
    · cases h; simp
    · have := findP_lt es (i + 1) j p h; simp only [List.length_cons]; omega
    · cases h

theorem findP_key {d : TypeDesc} {k : Value} : ∀ (es : List (Value × PV)) (i j : Nat) (p : PV), findP d k es i = some (some (j, p)) → ∃ e, es[j - i]? = some e ∧ Instr.sameNow d k e.1 = some true
  | [], _, _, _, h => by cases h
  | e :: es, i, j, p, h => by
    simp only [findP] at h
    split at h
    · rename_i hs; cases h; exact ⟨e, by simp, hs⟩
    · obtain ⟨e', h1, h2⟩ := findP_key es (i + 1) j p h
      have := findP_lt es (i + 1) j p h
      exact ⟨e', by rw [show j - i = (j - (i + 1)) + 1 from by omega, List.getElem?_cons_succ]; exact h1, h2⟩
    · cases h

theorem bytes_beq' (a b : ByteArray) : (a == b) = true ↔ a = b := by
  constructor
  · intro h
    cases a; cases b
    have h' : (ByteArray.mk _).beq (ByteArray.mk _) = true := h
    simp only [ByteArray.beq] at h'
    rw [eq_of_beq h']
  · rintro rfl
    cases a
    show (ByteArray.mk _).beq (ByteArray.mk _) = true
    simp [ByteArray.beq]

theorem sameBits_of_now {d : TypeDesc} {k k' : Value} (h : Instr.sameNow d k k' = some true) : Instr.sameBits 10000 k' k = true ∧ k' = k := by
  unfold Instr.sameNow at h
  split at h
  · split at h
    · rename_i hk
      subst hk
      simp at h; subst h
      exact ⟨by simp [Instr.sameBits], rfl⟩
    · cases h
  · simp only [Option.some.injEq] at h; rw [bytes_beq'] at h; subst h; exact ⟨by simp only [Instr.sameBits]; rw [bytes_beq'], rfl⟩
  · simp at h; subst h; exact ⟨by simp [Instr.sameBits], rfl⟩
  · cases h

theorem run_getMap {w : World} {b : Nat} {ms : Array MapEntry} {cl : Nat} (h : w.heap[b]? = some (.map ms cl)) : (getObj b).run P w = .ok (.map ms cl) w := by
  simp only [getObj, Sem.run, h]

theorem run_setMap {w : World} {b : Nat} {ms : Array MapEntry} {cl : Nat} (o : Obj) (h : w.heap[b]? = some (.map ms cl)) : (setObj b o).run P w = .ok () (w.putObj b o) := by
  simp only [setObj, Sem.run, h]; rfl

theorem putObj_grown {w : World} {b : Nat} {o' : Obj} : w.grownBy (w.putObj b o') (some b) :=
  ⟨rfl, rfl, rfl, by simp [World.putObj], fun j _ hne => World.putObj_heap_other (fun e => hne (by rw [e]))⟩

/-- What m[k] = v makes of the entries. -/
def putP (k : Value) (p : PV) (es : List (Value × PV)) (res : Option (Nat × PV)) : List (Value × PV) :=
  match res with
  | some (j, _) => es.set j (k, p)
  | none => es ++ [(k, p)]

/-- m[k] = v. -/
theorem po_mapUpdate {o : Oper} {t kt et id ver : Nat} {x i y : Operand} {k : Value} {d : TypeDesc} {es : List (Value × PV)} {res : Option (Nat × PV)} {K : PV → Store → Prop} (ho : o.op = .mapUpdate t x i y ∨ o.op = .insert t x i y) (ht : P.underlying t = some (.map kt et))
    (hk : P.underlying kt = some d) (hd : plainKey d = true) (hx : ev F x = .mp id ver) (hi : ev F i = .sc k) (hs : S id = .map ver es) (hf : findP d k es 0 = some res)
    (hK : K (.sc undef) (S.set id (.map ver (putP k (ev F y) es res)))) : PO P r n o F S K := by
  intro G hG C w a N st next Q' hnext
  have ops : x ∈ o.op.operands ∧ i ∈ o.op.operands ∧ y ∈ o.op.operands := by rcases ho with ho | ho <;> simp [ho, Op.operands]
  have e1 := st.ev x
  have e2 := st.ev i
  have e3 := st.ev y
  rw [(hG x ops.1).trans hx] at e1
  rw [(hG i ops.2.1).trans hi] at e2
  rw [hG y ops.2.2] at e3
  generalize hv1 : a.eval x = v1 at e1
  generalize hv2 : a.eval i = v2 at e2
  cases e2
  obtain ⟨b, k0, ms, cl, g1, g2, g3, g4⟩ := st.sim.maps id ver es hs
  cases e1 with
  | mp h1 h2 h3 =>
    obtain ⟨b', rfl⟩ := h1
    obtain ⟨b2, k2, q1, q2⟩ := (h3 ver (by rw [hs]; rfl)).2 rfl
    rw [g1] at q1; cases q1; cases q2
    have hnd : ∀ c, o.op ≠ .defer c := by intro c hc; rcases ho with ho | ho <;> (rw [ho] at hc; cases hc)
    have hlt : b < w.heap.size := lt_of_heap g2
    have hfind := findP_sound (C := C) (w := w) es ms.toList 0 res (by simpa using g3) (fun j e m he hm => g4 j e m he (by rw [← Array.getElem?_toList]; exact hm)) hf
    have fin : ∀ (w' : World), (Instr.mapUpdate t (.map (some b)) k (a.eval y)).run P w = .ok () w' → (execOp a.eval o).run P w = .ok .skip w' := by
      intro w' hw
      unfold execOp
      rcases ho with ho | ho <;> (simp only [ho, hv1, hv2, Sem.run_bind, hw, Result.andThen_ok]; rfl)
    rcases hfind with ⟨rfl, hn⟩ | ⟨j, p, v, rfl, hn, hrel⟩
    · have hrun := fin (w.putObj b (.map (ms.push { key := k, val := a.eval y, born := cl }) (cl + 1))) (by
        simp only [Instr.mapUpdate, Sem.run_bind, run_underlying ht, Result.andThen_ok, run_getMap g2, run_checkKey hk hd, Instr.findKey, run_underlying hk, hn, Sem.run_pure, run_setMap _ g2])
      obtain ⟨t1, t2⟩ := st.sim.turnMap (es' := es ++ [(k, ev F y)]) (ms := ms.push { key := k, val := a.eval y, born := cl }) (cl := cl + 1) hs g1 putObj_grown (World.putObj_heap_same hlt) (by simp [g3]) (by
        intro jj e m he hm
        by_cases hj : jj < es.length
        · rw [List.getElem?_append_left hj] at he
          rw [Array.getElem?_push, if_neg (by omega)] at hm
          exact g4 jj e m he hm
        · have hje : jj = es.length := by
            rcases Nat.lt_or_ge jj (es.length + 1) with q | q
            · omega
            · rw [List.getElem?_eq_none (by simpa using q)] at he; cases he
          subst hje
          rw [List.getElem?_append_right (Nat.le_refl _)] at he
          simp only [Nat.sub_self, List.getElem?_cons_zero, Option.some.injEq] at he
          subst he
          rw [g3, Array.getElem?_push, if_pos rfl] at hm
          cases hm
          exact ⟨rfl, e3⟩)
      exact wpIn_of_run hnd hrun (hnext _ _ _ _ _ hK (.sc _) t1 t2)
    · obtain ⟨e0, he0, hsame⟩ := findP_key es 0 j p hf
      rw [Nat.sub_zero] at he0
      have hjl := findP_lt es 0 j p hf
      have hmj : ms[j]? = some (ms[j]'(by omega)) := by simp
      have hkey := (g4 j e0 _ he0 hmj).1
      obtain ⟨sb1, sb2⟩ := sameBits_of_now hsame
      have hrun := fin (w.putObj b (.map (ms.modify j fun e => { e with key := k, val := a.eval y }) cl)) (by
        simp only [Instr.mapUpdate, Sem.run_bind, run_underlying ht, Result.andThen_ok, run_getMap g2, run_checkKey hk hd, Instr.findKey, run_underlying hk, hn, Sem.run_pure, hmj, Option.map_some, Option.getD_some, hkey, Instr.keyThatStays, sb1, if_true, run_setMap _ g2])
      obtain ⟨t1, t2⟩ := st.sim.turnMap (es' := es.set j (k, ev F y)) (ms := ms.modify j fun e => { e with key := k, val := a.eval y }) (cl := cl) hs g1 putObj_grown (World.putObj_heap_same hlt) (by simp [g3]) (by
        intro jj e m he hm
        rw [Array.getElem?_modify] at hm
        rw [List.getElem?_set] at he
        by_cases hj : j = jj
        · subst hj
          rw [if_pos rfl] at hm he
          rw [hmj] at hm
          rw [if_pos (by omega)] at he
          cases he; cases hm
          exact ⟨rfl, e3⟩
        · rw [if_neg hj] at hm he
          exact g4 jj e m he hm)
      exact wpIn_of_run hnd hrun (hnext _ _ _ _ _ hK (.sc _) t1 t2)

def delP (es : List (Value × PV)) (res : Option (Nat × PV)) : List (Value × PV) :=
  match res with
  | some (j, _) => es.eraseIdx j
  | none => es

/-- delete(m, k). -/
theorem po_delete {o : Oper} {t kt et id ver : Nat} {x i : Operand} {k : Value} {d : TypeDesc} {es : List (Value × PV)} {res : Option (Nat × PV)} {ts : Array TypeId} {K : PV → Store → Prop} (ho : o.op = .call { callee := .builtin .delete, args := #[x, i], argTypes := ts }) (hts : ts[0]? = some t) (ht : P.underlying t = some (.map kt et))
    (hk : P.underlying kt = some d) (hd : plainKey d = true) (hx : ev F x = .mp id ver) (hi : ev F i = .sc k) (hs : S id = .map ver es) (hf : findP d k es 0 = some res)
    (hK : K (.tup []) (S.set id (.map ver (delP es res)))) : PO P r n o F S K := by
  intro G hG C w a N st next Q' hnext
  have ops : x ∈ o.op.operands ∧ i ∈ o.op.operands := by simp [ho, Op.operands, Call.operands]
  have e1 := st.ev x
  have e2 := st.ev i
  rw [(hG x ops.1).trans hx] at e1
  rw [(hG i ops.2).trans hi] at e2
  generalize hv1 : a.eval x = v1 at e1
  generalize hv2 : a.eval i = v2 at e2
  cases e2
  obtain ⟨b, k0, ms, cl, g1, g2, g3, g4⟩ := st.sim.maps id ver es hs
  cases e1 with
  | mp h1 h2 h3 =>
    obtain ⟨b', rfl⟩ := h1
    obtain ⟨b2, k2, q1, q2⟩ := (h3 ver (by rw [hs]; rfl)).2 rfl
    rw [g1] at q1; cases q1; cases q2
    have hnd : ∀ c, o.op ≠ .defer c := by intro c hc; rw [ho] at hc; cases hc
    have hlt : b < w.heap.size := lt_of_heap g2
    have hfind := findP_sound (C := C) (w := w) es ms.toList 0 res (by simpa using g3) (fun j e m he hm => g4 j e m he (by rw [← Array.getElem?_toList]; exact hm)) hf
    have fin : ∀ (w' : World), (Builtin.delete_ ts o.type #[.map (some b), k]).run P w = .ok (.tuple #[]) w' → (execOp a.eval o).run P w = .ok (.value (.tuple #[])) w' := by
      intro w' hw
      unfold execOp
      simp only [ho, hv1, hv2, resolve, invoke, builtin, Sem.run_bind, Sem.run_pure, Result.andThen_ok, List.map_toArray, List.map_cons, List.map_nil, hw]
    rcases hfind with ⟨rfl, hn⟩ | ⟨j, p, v, rfl, hn, hrel⟩
    · have hrun := fin (w.putObj b (.map ms cl)) (by
        simp only [Builtin.delete_, hts, List.getElem?_toArray, List.getElem?_cons_zero, List.getElem?_cons_succ, Sem.run_bind, run_underlying ht, Result.andThen_ok, run_getMap g2, run_checkKey hk hd, Instr.findKey, run_underlying hk, hn, Sem.run_pure, run_setMap _ g2])
      obtain ⟨t1, t2⟩ := st.sim.turnMap (es' := es) (ms := ms) (cl := cl) hs g1 putObj_grown (World.putObj_heap_same hlt) g3 g4
      exact wpIn_of_run hnd hrun (hnext _ _ _ _ _ hK (.tup rfl (by simp)) t1 t2)
    · have hjl := findP_lt es 0 j p hf
      have hrun := fin (w.putObj b (.map (ms.eraseIdxIfInBounds j) cl)) (by
        simp only [Builtin.delete_, hts, List.getElem?_toArray, List.getElem?_cons_zero, List.getElem?_cons_succ, Sem.run_bind, run_underlying ht, Result.andThen_ok, run_getMap g2, run_checkKey hk hd, Instr.findKey, run_underlying hk, hn, Sem.run_pure, run_setMap _ g2])
      have hms : (ms.eraseIdxIfInBounds j).toList = ms.toList.eraseIdx j := by
        unfold Array.eraseIdxIfInBounds
        rw [dif_pos (by omega)]
        simp
      have hlen : (es.eraseIdx j).length = (ms.eraseIdxIfInBounds j).size := by
        have g3' : es.length = ms.toList.length := by simpa using g3
        have : (es.eraseIdx j).length = (ms.eraseIdxIfInBounds j).toList.length := by rw [hms, List.length_eraseIdx, List.length_eraseIdx, g3']
        exact this.trans Array.length_toList
      obtain ⟨t1, t2⟩ := st.sim.turnMap (es' := es.eraseIdx j) (ms := ms.eraseIdxIfInBounds j) (cl := cl) hs g1 putObj_grown (World.putObj_heap_same hlt) hlen (by
        intro jj e m he hm
        rw [← Array.getElem?_toList, hms, List.getElem?_eraseIdx] at hm
        rw [List.getElem?_eraseIdx] at he
        split at he
        · rename_i hj; rw [if_pos hj] at hm; exact g4 jj e m he (by rw [← Array.getElem?_toList]; exact hm)
        · rename_i hj; rw [if_neg hj] at hm; exact g4 (jj + 1) e m he (by rw [← Array.getElem?_toList]; exact hm))
      exact wpIn_of_run hnd hrun (hnext _ _ _ _ _ hK (.tup rfl (by simp)) t1 t2)

/-- make(map ..), a map that is written out empty. -/
theorem po_makeMap0 {o : Oper} {t : TypeId} {K : PV → Store → Prop} (ho : o.op = .makeMap t none) (hK : ∀ C : Ctx, S C.next = .dead → ∃ id v, Fresh C S id v ∧ K (.mp id v) (S.set id (.map v []))) : PO P r n o F S K := by
  intro G _ C w a N st next Q' hnext
  obtain ⟨id, ver, hfr, hK⟩ := hK C st.sim.free
  obtain ⟨k1, k2⟩ := st.sim.newMap' hfr
  refine wpIn_of_run (x := .value (.map (some w.heap.size))) (w' := w.alloc (.map #[] 0)) (by intro c hc; rw [ho] at hc; cases hc) ?_ (hnext _ _ _ _ (.mp id ver) hK ?_ k1 k2)
  · unfold execOp
    simp only [ho, Option.map_none, Instr.makeMap, Sem.run_bind, run_newObj, Result.andThen_ok, Sem.run_pure, World.alloc_eq]
  · refine .mp ⟨_, rfl⟩ (by simp only [Ctx.put]; omega) fun v0 hv0 => ?_
    rw [Store.set_same] at hv0; cases hv0
    exact ⟨Nat.le_refl _, fun _ => ⟨w.heap.size, 0, by simp [Ctx.put], rfl⟩⟩

theorem po_makeMap {o : Oper} {t : TypeId} {K : PV → Store → Prop} (ho : o.op = .makeMap t none) (hK : ∀ id, S id = .dead → K (.mp id 0) (S.set id (.map 0 []))) : PO P r n o F S K :=
  po_makeMap0 ho (fresh0 (X := fun id v => K (.mp id v) (S.set id (.map v []))) hK)

/-- A method of a type that needs no way to its receiver. -/
def MethodAt (P : Program) (t : TypeId) (name : String) (k : FuncId) : Prop := ∀ (v : Value) (w : World), (method (P.types.size + Made.depth) t v name).run P w = .ok (k, v) w

/-- A call through an interface value whose type is known. -/
theorem po_invoke {o : Oper} {c : Call} {x : Operand} {name : String} {t : TypeId} {q : PV} {k : FuncId} {K : PV → Store → Prop} {R : PV → Store → Prop} (ho : o.op = .call c) (hc : c.callee = .invoke x name) (hx : ev F x = .ifc t q) (hM : MethodAt P t name k) (hE : Enters P k)
    (h : PCalls P k (q :: c.args.toList.map (ev F)) S R) (hK : ∀ p S', R p S' → K p S') : PO P r n o F S K := by
  intro G hG C w a N st next Q' hnext
  have hxo : x ∈ o.op.operands := by simp [ho, Op.operands, Call.operands, hc]
  have hxG : ev G x = .ifc t q := (hG x hxo).trans hx
  have harg : ∀ y ∈ c.args.toList, ev G y = ev F y := fun y hy => hG y (by simp only [ho, Op.operands, Call.operands, Array.mem_append]; exact .inr (Array.mem_toList_iff.1 hy))
  have hmap : c.args.toList.map (ev F) = c.args.toList.map (ev G) := List.map_congr_left fun y hy => (harg y hy).symm
  rw [hmap] at h
  have hrel := st.ev x
  rw [hxG] at hrel
  generalize hv : a.eval x = v at hrel
  cases hrel with
  | ifc hq =>
    rename_i u
    have hrun : (execOp a.eval o).run P w = .ok (.enter k (#[u] ++ c.args.map a.eval)) w := by
      unfold execOp
      have hex : (#[Value.iface t u] ++ c.args.map a.eval).extract 1 (#[Value.iface t u] ++ c.args.map a.eval).size = c.args.map a.eval := by
        apply Array.ext
        · simp
        · intro i h1 h2
          simp [Array.getElem_append]
      have hget : (#[Value.iface t u] ++ c.args.map a.eval)[0]? = some (.iface t u) := by rw [Array.getElem?_append_left (by simp)]; rfl
      simp only [ho, resolve, hc, hv, Sem.run_bind, Sem.run_pure, Result.andThen_ok, invoke, Array.append_empty, hget, hex, callMethod, run_program, hM u w]
      exact hE _ w
    refine wpIn_of_run (x := .enter k (#[u] ++ c.args.map a.eval)) (w' := w) (by intro c' hc'; rw [ho] at hc'; cases hc') hrun ?_
    rw [Oper.uponIn_enter]
    refine ⟨fun hd => ?_, ?_⟩
    · cases r <;> cases hd
    · have hlist := relList (l := c.args.toList) st.ev
      simp only [Array.toArray_toList] at hlist
      have key := h C w (#[u] ++ c.args.map a.eval) st.sim (by simp; omega) (by
        intro i p v hp hv
        cases i with
        | zero =>
          rw [Array.getElem?_append_left (by simp)] at hv
          have hp : some q = some p := hp
          have hv : some u = some v := hv
          cases hp; cases hv; exact hq
        | succ i =>
          rw [List.getElem?_cons_succ] at hp
          rw [Array.getElem?_append_right (by simp)] at hv
          exact hlist.2 i p v hp (by simpa using hv))
      refine (calls_in key).mono ?_
      rintro e w' ⟨p, v, S', C', rfl, hq, hr, hs, hst⟩
      exact hnext v w' C' S' p (hK _ _ hq) hr hs hst

end
end Go.Proofs.Ytdmmihkmcennpaa.Pv
