/- Ghost layer, part 2: what single changes of memory do to it. -/
import Derived.Test.YtdmmihkmcennpaaGa
namespace Go.Proofs.Ytdmmihkmcennpaa.Pv
open Go

theorem Sim.M_lt {C : Ctx} {S : Store} {w : World} (h : Sim C S w) {b : Nat} (hM : C.M S b) : b < w.heap.size := by
  obtain ⟨o, k, ho, hl⟩ := hM
  cases hs : S o with
  | dead => exact absurd hs ho
  | cells ver e cs =>
    rcases h.cells o ver e cs hs with ⟨hn, _⟩ | ⟨b', k', c, hl', hb, _⟩
    · rw [hn] at hl; cases hl
    · rw [hl'] at hl; cases hl; exact lt_of_heap hb
  | map ver es =>
    obtain ⟨b', k', ms, cl, hl', hb, _⟩ := h.maps o _ es hs
    rw [hl'] at hl; cases hl; exact lt_of_heap hb

/-- Every change in which nothing of what lives has turned. -/
theorem Sim.still {C : Ctx} {S : Store} {w w' : World} (h : Sim C S w) (ho : w'.os = w.os) (ht : w'.tape = w.tape) (hu : w'.output = w.output) (hz : w.heap.size ≤ w'.heap.size)
    (hb : ∀ b, b < w.heap.size → w'.heap[b]? = w.heap[b]?) : Sim C S w' ∧ Step C S w C S w' := by
  have st : Step C S w C S w' := ⟨ho, ht, hu, hz, Nat.le_refl _, Nat.le_refl _, fun b hlt hM => ⟨hb b hlt, hM⟩, fun _ v1 h => .inr ⟨v1, h, Nat.le_refl _, fun _ => rfl⟩⟩
  refine ⟨⟨h.lt, h.clk, h.dist, ?_, ?_⟩, st⟩
  · intro o ver e cs hs
    rcases h.cells o ver e cs hs with hn | ⟨b, k, c, h1, h2, h3, h4, h5, h6⟩
    · exact .inl hn
    · exact .inr ⟨b, k, c, h1, (hb b (lt_of_heap h2)).trans h2, h3, h4, h5, fun i p v hp hv => (h6 i p v hp hv).mono st⟩
  · intro o ver es hs
    obtain ⟨b, k, ms, cl, h1, h2, h3, h4⟩ := h.maps o ver es hs
    exact ⟨b, k, ms, cl, h1, (hb b (lt_of_heap h2)).trans h2, h3, fun i e m he hm => ⟨(h4 i e m he hm).1, (h4 i e m he hm).2.mono st⟩⟩

theorem Sim.drew {C : Ctx} {S : Store} {w : World} (h : Sim C S w) : Sim C S w.drew ∧ Step C S w C S w.drew :=
  h.still rfl rfl rfl (Nat.le_refl _) (fun _ _ => rfl)

theorem heap_alloc_lt (w : World) (o : Obj) (b : Nat) (h : b < w.heap.size) : (w.alloc o).heap[b]? = w.heap[b]? := by
  show (w.heap.push o)[b]? = _
  rw [Array.getElem?_push, if_neg (by omega)]
theorem heap_alloc_new' (w : World) (o : Obj) : (w.alloc o).heap[w.heap.size]? = some o := by
  show (w.heap.push o)[w.heap.size]? = _
  rw [Array.getElem?_push, if_pos rfl]

/-- A new block that nobody will write. -/
theorem Sim.alloc {C : Ctx} {S : Store} {w : World} (h : Sim C S w) (o : Obj) : Sim C S (w.alloc o) ∧ Step C S w C S (w.alloc o) ∧ ¬ C.M S w.heap.size := by
  obtain ⟨h1, h2⟩ := h.still (w' := w.alloc o) rfl rfl rfl (by simp) (fun b hb => heap_alloc_lt w o b hb)
  exact ⟨h1, h2, fun hM => by have := h.M_lt hM; omega⟩

/-- The ghost store has a number that is free. -/
theorem Sim.free {C : Ctx} {S : Store} {w : World} (h : Sim C S w) : S C.next = .dead := by
  cases hs : S C.next with
  | dead => rfl
  | cells v e cs => have := h.lt C.next (by rw [hs]; simp); omega
  | map v es => have := h.lt C.next (by rw [hs]; simp); omega

def Ctx.put (C : Ctx) (o ver : Nat) (x : Option (Nat × Nat)) : Ctx := { loc := fun i => if i = o then x else C.loc i, next := max C.next (o + 1), clock := max C.clock (ver + 1) }

/-- May an object be made under this number, with this version? -/
structure Fresh (C : Ctx) (S : Store) (o ver : Nat) : Prop where
  dead : S o = .dead
  new : C.next ≤ o ∨ C.clock ≤ ver

theorem Sim.fresh {C : Ctx} {S : Store} {w : World} (h : Sim C S w) : Fresh C S C.next 0 := ⟨h.free, .inl (Nat.le_refl _)⟩

/-- What a new object does to what is told of the others. -/
theorem Sim.step_new {C : Ctx} {S : Store} {w w' : World} {o ver : Nat} (hf : Fresh C S o ver) {x : Ob} (hx : x.ver = some ver) (l : Option (Nat × Nat)) (ho : w'.os = w.os) (ht : w'.tape = w.tape) (hu : w'.output = w.output)
    (hz : w.heap.size ≤ w'.heap.size) (hb : ∀ b, b < w.heap.size → w'.heap[b]? = w.heap[b]?) (hl : ∀ b k, l = some (b, k) → w.heap.size ≤ b) : Step C S w (C.put o ver l) (S.set o x) w' := by
  have hloc : ∀ i, i ≠ o → (C.put o ver l).loc i = C.loc i := fun i hi => by simp [Ctx.put, hi]
  have hlocn : (C.put o ver l).loc o = l := by simp [Ctx.put]
  refine ⟨ho, ht, hu, hz, by simp only [Ctx.put]; omega, by simp only [Ctx.put]; omega, fun b hlt hM => ⟨hb b hlt, ?_⟩, ?_⟩
  · rintro ⟨i, k, hi, hl'⟩
    by_cases hc : i = o
    · subst hc; rw [hlocn] at hl'; have := hl b k hl'; omega
    · rw [hloc i hc] at hl'; rw [Store.set_other _ _ _ _ hc] at hi; exact hM ⟨i, k, hi, hl'⟩
  · intro i v1 hv
    by_cases hc : i = o
    · subst hc; rw [Store.set_same, hx] at hv; cases hv; exact .inl hf.new
    · rw [Store.set_other _ _ _ _ hc] at hv
      exact .inr ⟨v1, hv, Nat.le_refl _, fun _ => hloc i hc⟩

/-- A new object over a block that is new. -/
theorem Sim.object' {C : Ctx} {S : Store} {w : World} (h : Sim C S w) {o ver : Nat} (hf : Fresh C S o ver) (e : TypeId) (c : Array Value) (cs : List PV) (hl : cs.length ≤ c.size)
    (h1 : ∀ (i : Nat) (v : Value), i < cs.length → c[i]? = some v → v.oneCell' = true)
    (hr : ∀ (i : Nat) (p : PV) (v : Value), cs[i]? = some p → c[i]? = some v → Rel C S w p v) :
    Sim (C.put o ver (some (w.heap.size, c.size))) (S.set o (.cells ver e cs)) (w.alloc (.cells c e)) ∧
    Step C S w (C.put o ver (some (w.heap.size, c.size))) (S.set o (.cells ver e cs)) (w.alloc (.cells c e)) := by
  have hloc : ∀ i, i ≠ o → (C.put o ver (some (w.heap.size, c.size))).loc i = C.loc i := fun i hi => by simp [Ctx.put, hi]
  have hlocn : (C.put o ver (some (w.heap.size, c.size))).loc o = some (w.heap.size, c.size) := by simp [Ctx.put]
  have st : Step C S w (C.put o ver (some (w.heap.size, c.size))) (S.set o (.cells ver e cs)) (w.alloc (.cells c e)) :=
    Sim.step_new hf rfl _ rfl rfl rfl (by simp) (fun b hb => heap_alloc_lt w _ b hb) (fun b k hq => by cases hq; exact Nat.le_refl _)
  refine ⟨⟨?_, ?_, ?_, ?_, ?_⟩, st⟩
  · intro i hi
    by_cases hc : i = o
    · subst hc; simp only [Ctx.put]; omega
    · rw [Store.set_other _ _ _ _ hc] at hi
      have := h.lt i hi
      simp only [Ctx.put]; omega
  · intro i v hv
    by_cases hc : i = o
    · subst hc; rw [Store.set_same] at hv; cases hv; simp only [Ctx.put]; omega
    · rw [Store.set_other _ _ _ _ hc] at hv
      have := h.clk i v hv
      simp only [Ctx.put]; omega
  · intro i i' b k k' ho ho' hl hl'
    by_cases hc : i = o <;> by_cases hc' : i' = o
    · omega
    · subst hc
      rw [hlocn] at hl; rw [hloc i' hc'] at hl'; rw [Store.set_other _ _ _ _ hc'] at ho'
      have := h.M_lt ⟨i', k', ho', hl'⟩
      simp only [Option.some.injEq, Prod.mk.injEq] at hl; omega
    · subst hc'
      rw [hlocn] at hl'; rw [hloc i hc] at hl; rw [Store.set_other _ _ _ _ hc] at ho
      have := h.M_lt ⟨i, k, ho, hl⟩
      simp only [Option.some.injEq, Prod.mk.injEq] at hl'; omega
    · rw [hloc i hc] at hl; rw [hloc i' hc'] at hl'; rw [Store.set_other _ _ _ _ hc] at ho; rw [Store.set_other _ _ _ _ hc'] at ho'
      exact h.dist i i' b k k' ho ho' hl hl'
  · intro i ver' e' cs' hs
    by_cases hc : i = o
    · subst hc
      rw [Store.set_same] at hs
      cases hs
      exact .inr ⟨w.heap.size, c.size, c, hlocn, heap_alloc_new' w _, rfl, hl, h1, fun i p v hp hv => (hr i p v hp hv).mono st⟩
    · rw [Store.set_other _ _ _ _ hc] at hs
      rcases h.cells i ver' e' cs' hs with hn | ⟨b, k, c', g1, g2, g3, g4, g5, g6⟩
      · exact .inl ⟨(hloc i hc).trans hn.1, hn.2⟩
      · exact .inr ⟨b, k, c', (hloc i hc).trans g1, (heap_alloc_lt w _ b (lt_of_heap g2)).trans g2, g3, g4, g5, fun i p v hp hv => (g6 i p v hp hv).mono st⟩
  · intro i ver' es hs
    by_cases hc : i = o
    · subst hc; rw [Store.set_same] at hs; cases hs
    · rw [Store.set_other _ _ _ _ hc] at hs
      obtain ⟨b, k, ms, cl, g1, g2, g3, g4⟩ := h.maps i ver' es hs
      exact ⟨b, k, ms, cl, (hloc i hc).trans g1, (heap_alloc_lt w _ b (lt_of_heap g2)).trans g2, g3, fun i e m he hm => ⟨(g4 i e m he hm).1, (g4 i e m he hm).2.mono st⟩⟩

theorem Sim.object {C : Ctx} {S : Store} {w : World} (h : Sim C S w) (e : TypeId) (c : Array Value) (cs : List PV) (hl : cs.length ≤ c.size)
    (h1 : ∀ (i : Nat) (v : Value), i < cs.length → c[i]? = some v → v.oneCell' = true)
    (hr : ∀ (i : Nat) (p : PV) (v : Value), cs[i]? = some p → c[i]? = some v → Rel C S w p v) :
    Sim (C.put C.next 0 (some (w.heap.size, c.size))) (S.set C.next (.cells 0 e cs)) (w.alloc (.cells c e)) ∧
    Step C S w (C.put C.next 0 (some (w.heap.size, c.size))) (S.set C.next (.cells 0 e cs)) (w.alloc (.cells c e)) := h.object' h.fresh e c cs hl h1 hr

/-- An object is forgotten. -/
theorem Sim.kill {C : Ctx} {S S' : Store} {w : World} (h : Sim C S w) (hk : ∀ o, S' o = S o ∨ S' o = .dead) : Sim C S' w ∧ Step C S w C S' w := by
  have hd : ∀ o, S' o ≠ .dead → S' o = S o := fun o ho => (hk o).resolve_right ho
  have hM : ∀ b, C.M S' b → C.M S b := fun b ⟨o, k, ho, hl⟩ => ⟨o, k, by rw [← hd o ho]; exact ho, hl⟩
  have st : Step C S w C S' w := by
    refine ⟨rfl, rfl, rfl, Nat.le_refl _, Nat.le_refl _, Nat.le_refl _, fun b _ hb => ⟨rfl, fun h => hb (hM b h)⟩, fun o v1 hv => ?_⟩
    have : S' o ≠ .dead := by intro e; rw [e] at hv; cases hv
    rw [hd o this] at hv
    exact .inr ⟨v1, hv, Nat.le_refl _, fun _ => rfl⟩
  refine ⟨⟨fun o ho => h.lt o (by rw [← hd o ho]; exact ho), fun o v hv => h.clk o v (by rw [← hd o (by intro e; rw [e] at hv; cases hv)]; exact hv), fun o o' b k k' ho ho' => h.dist o o' b k k' (by rw [← hd o ho]; exact ho) (by rw [← hd o' ho']; exact ho'), ?_, ?_⟩, st⟩
  · intro o ver e cs hs
    have := hd o (by rw [hs]; simp)
    rcases h.cells o ver e cs (this ▸ hs) with hn | ⟨b, k, c, h1, h2, h3, h4, h5, h6⟩
    · exact .inl hn
    · exact .inr ⟨b, k, c, h1, h2, h3, h4, h5, fun i p v hp hv => (h6 i p v hp hv).mono st⟩
  · intro o ver es hs
    have := hd o (by rw [hs]; simp)
    obtain ⟨b, k, ms, cl, h1, h2, h3, h4⟩ := h.maps o ver es (this ▸ hs)
    exact ⟨b, k, ms, cl, h1, h2, h3, fun i e m he hm => ⟨(h4 i e m he hm).1, (h4 i e m he hm).2.mono st⟩⟩

def Ctx.at (C : Ctx) (o ver : Nat) (l : Option (Nat × Nat)) : Ctx := { loc := fun i => if i = o then l else C.loc i, next := C.next, clock := max C.clock (ver + 1) }

/-- The content of an object has turned, in its place or in another one that is new. -/
theorem Sim.turn {C : Ctx} {S : Store} {w w' : World} (h : Sim C S w) {o ver e : Nat} {cs : List PV} (hs : S o = .cells ver e cs) {ver' : Nat} {cs' : List PV} {l : Option (Nat × Nat)}
    (hver : ver ≤ ver') (hsame : ver = ver' → l = C.loc o)
    (hg : w.grownBy w' ((C.loc o).map (·.1)))
    (hl : (l = none ∧ cs' = []) ∨ ∃ b k c, l = some (b, k) ∧ (w.heap.size ≤ b ∨ (C.loc o).map (·.1) = some b) ∧ w'.heap[b]? = some (.cells c e (0, 0)) ∧ c.size = k ∧ cs'.length ≤ k ∧
      (∀ (i : Nat) (v : Value), i < cs'.length → c[i]? = some v → v.oneCell' = true) ∧ ∀ (i : Nat) (p : PV) (v : Value), cs'[i]? = some p → c[i]? = some v → Rel C S w p v) :
    Sim (C.at o ver' l) (S.set o (.cells ver' e cs')) w' ∧
    Step C S w (C.at o ver' l) (S.set o (.cells ver' e cs')) w' := by
  have hne : S o ≠ .dead := by rw [hs]; simp
  have hsame' : ∀ i, i ≠ o → (C.at o ver' l).loc i = C.loc i := fun i hi => by simp [Ctx.at, hi]
  have hloco : (C.at o ver' l).loc o = l := by simp [Ctx.at]
  have hfar : ∀ i b k, i ≠ o → S i ≠ .dead → C.loc i = some (b, k) → some b ≠ (C.loc o).map (·.1) := by
    intro i b k hi hd hb he
    cases ho : C.loc o with
    | none => rw [ho] at he; cases he
    | some x =>
      obtain ⟨b', k'⟩ := x
      rw [ho] at he
      simp only [Option.map_some, Option.some.injEq] at he
      subst he
      exact hi (h.dist i o b k k' hd hne hb ho)
  have st : Step C S w (C.at o ver' l) (S.set o (.cells ver' e cs')) w' := by
    refine ⟨hg.os, hg.tape, hg.output, hg.size, Nat.le_refl _, by simp only [Ctx.at]; omega, fun b hb hM => ⟨hg.block b hb ?_, ?_⟩, ?_⟩
    · intro he
      cases ho : C.loc o with
      | none => rw [ho] at he; cases he
      | some x =>
        obtain ⟨b', k'⟩ := x
        rw [ho] at he
        simp only [Option.map_some, Option.some.injEq] at he
        subst he
        exact hM ⟨o, k', hne, ho⟩
    · rintro ⟨i, k, hd, hb'⟩
      by_cases hi : i = o
      · subst hi
        rw [hloco] at hb'
        rcases hl with ⟨h0, _⟩ | ⟨b2, k2, c, h0, h1, _⟩
        · rw [h0] at hb'; cases hb'
        · rw [h0] at hb'
          cases hb'
          rcases h1 with h1 | h1
          · omega
          · cases ho : C.loc i with
            | none => rw [ho] at h1; cases h1
            | some x =>
              obtain ⟨b', k'⟩ := x
              rw [ho] at h1
              simp only [Option.map_some, Option.some.injEq] at h1
              subst h1
              exact hM ⟨i, k', hne, ho⟩
      · rw [hsame' i hi] at hb'; rw [Store.set_other _ _ _ _ hi] at hd; exact hM ⟨i, k, hd, hb'⟩
    · intro i v1 hv
      by_cases hc : i = o
      · subst hc
        rw [Store.set_same] at hv
        simp only [Ob.ver, Option.some.injEq] at hv
        subst hv
        exact .inr ⟨ver, by rw [hs]; rfl, hver, fun hq => by rw [hloco]; exact hsame hq⟩
      · rw [Store.set_other _ _ _ _ hc] at hv
        exact .inr ⟨v1, hv, Nat.le_refl _, fun _ => hsame' i hc⟩
  refine ⟨⟨?_, ?_, ?_, ?_, ?_⟩, st⟩
  · intro i hi
    by_cases hc : i = o
    · subst hc; exact h.lt i hne
    · rw [Store.set_other _ _ _ _ hc] at hi; exact h.lt i hi
  · intro i v hv
    by_cases hc : i = o
    · subst hc; rw [Store.set_same] at hv; cases hv; simp only [Ctx.at]; omega
    · rw [Store.set_other _ _ _ _ hc] at hv
      have := h.clk i v hv
      simp only [Ctx.at]; omega
  · have one : ∀ i b k k', i ≠ o → S i ≠ .dead → C.loc i = some (b, k) → l = some (b, k') → False := by
      intro i b k k' hi hd hb hl'
      rcases hl with ⟨h0, _⟩ | ⟨b2, k2, c, h0, h1, _⟩
      · rw [h0] at hl'; cases hl'
      · rw [h0] at hl'
        cases hl'
        rcases h1 with h1 | h1
        · have := h.M_lt ⟨i, k, hd, hb⟩; omega
        · exact hfar i b k hi hd hb h1.symm
    intro i j b k k' hi hj hl1 hl2
    by_cases hc : i = o <;> by_cases hc' : j = o
    · omega
    · subst hc
      rw [hloco] at hl1; rw [hsame' j hc'] at hl2; rw [Store.set_other _ _ _ _ hc'] at hj
      exact (one j b k' k hc' hj hl2 hl1).elim
    · subst hc'
      rw [hloco] at hl2; rw [hsame' i hc] at hl1; rw [Store.set_other _ _ _ _ hc] at hi
      exact (one i b k k' hc hi hl1 hl2).elim
    · rw [hsame' i hc] at hl1; rw [hsame' j hc'] at hl2; rw [Store.set_other _ _ _ _ hc] at hi; rw [Store.set_other _ _ _ _ hc'] at hj
      exact h.dist i j b k k' hi hj hl1 hl2
  · intro i v' e' ds hi
    by_cases hc : i = o
    · subst hc
      rw [Store.set_same] at hi
      cases hi
      rcases hl with ⟨h0, h1⟩ | ⟨b, k, c, h0, _, h2, h3, h4, h5, h6⟩
      · exact .inl ⟨hloco.trans h0, h1⟩
      · exact .inr ⟨b, k, c, hloco.trans h0, h2, h3, h4, h5, fun j p v hp hv => (h6 j p v hp hv).mono st⟩
    · rw [Store.set_other _ _ _ _ hc] at hi
      rcases h.cells i v' e' ds hi with hn | ⟨b, k, c', g1, g2, g3, g4, g5, g6⟩
      · exact .inl ⟨(hsame' i hc).trans hn.1, hn.2⟩
      · exact .inr ⟨b, k, c', (hsame' i hc).trans g1, (hg.block b (lt_of_heap g2) (hfar i b k hc (by rw [hi]; simp) g1)).trans g2, g3, g4, g5, fun j p v hp hv => (g6 j p v hp hv).mono st⟩
  · intro i ver2 es hi
    by_cases hc : i = o
    · subst hc; rw [Store.set_same] at hi; cases hi
    · rw [Store.set_other _ _ _ _ hc] at hi
      obtain ⟨b, k, ms, cl, g1, g2, g3, g4⟩ := h.maps i ver2 es hi
      exact ⟨b, k, ms, cl, (hsame' i hc).trans g1, (hg.block b (lt_of_heap g2) (hfar i b k hc (by rw [hi]; simp) g1)).trans g2, g3, fun j x m he hm => ⟨(g4 j x m he hm).1, (g4 j x m he hm).2.mono st⟩⟩

end Go.Proofs.Ytdmmihkmcennpaa.Pv
