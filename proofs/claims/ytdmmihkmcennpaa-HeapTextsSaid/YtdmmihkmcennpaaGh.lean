/- Ghost layer, part 8: the calculus: what a piece of code does, said of pure values and ghost objects alone. -/
import Derived.Test.YtdmmihkmcennpaaGg
import Derived.RangeFuncCalls
namespace Go.Proofs.Ytdmmihkmcennpaa.Pv
open Go

def Fe (r : Option Nat) : Fence := { Fence.wide with round := r }

structure St (C : Ctx) (S : Store) (w : World) (N : Nat) (F : Nat → PV) (a : Act) : Prop where
  sim : Sim C S w
  size : a.tmps.size = N
  fr : ∀ i, Rel C S w (F i) (a.tmps.getD i undef)

theorem St.ev {C : Ctx} {S : Store} {w : World} {N : Nat} {F : Nat → PV} {a : Act} (h : St C S w N F a) (x : Operand) : Rel C S w (ev F x) (a.eval x) := by
  cases x with
  | tmp t => exact h.fr t
  | const v => exact rel_ofV v
  | global g => exact .sc _
  | func f => exact .fn rfl rfl (by simp) (by simp)

theorem put_getD (a : Act) (d : Nat) (v : Value) (hd : d < a.tmps.size) (i : Nat) : (a.put (some d) v).tmps.getD i undef = if i = d then v else a.tmps.getD i undef := by
  simp only [Act.put, Array.getD_eq_getD_getElem?]
  rw [Array.getElem?_setIfInBounds]
  by_cases h : i = d
  · subst h; simp [hd]
  · rw [if_neg h, if_neg (fun e => h e.symm)]

/-- The frame behind an operation. -/
theorem St.put {C C' : Ctx} {S S' : Store} {w w' : World} {N : Nat} {F : Nat → PV} {a : Act} (h : St C S w N F a) (st : Step C S w C' S' w') (hs : Sim C' S' w') {d : Option Nat} (hd : ∀ x, d = some x → x < N) {p : PV} {v : Value}
    (hr : Rel C' S' w' p v) : St C' S' w' N (updO F d p) (a.put d v) := by
  cases d with
  | none => exact ⟨hs, h.size, fun i => (h.fr i).mono st⟩
  | some d =>
    have hlt : d < a.tmps.size := by rw [h.size]; exact hd d rfl
    refine ⟨hs, by simp [Act.put, h.size], fun i => ?_⟩
    rw [put_getD a d v hlt]
    simp only [updO, upd]
    split
    · exact hr
    · exact (h.fr i).mono st

def gd (ops : Array Oper) (F : Nat → PV) (o : Oper) : Option Bool :=
  match o.guard with
  | none => some true
  | some (j, want) =>
    match (ops[j]?).bind (·.dst) with
    | none => some false
    | some d => match F d with
      | .sc v => match v with
        | .bool b => some (b == want)
        | _ => some false
      | _ => none

theorem gd_sound {ops : Array Oper} {C : Ctx} {S : Store} {w : World} {N : Nat} {F : Nat → PV} {a : Act} {o : Oper} {b : Bool} (h : St C S w N F a) (hg : gd ops F o = some b) : Region.wanted o (yielded ops a.tmps) = b := by
  unfold gd at hg
  unfold Region.wanted
  split at hg
  · rename_i hn; rw [hn]; cases hg; rfl
  · rename_i j want hn
    rw [hn]
    simp only
    split at hg
    · rename_i hd
      cases hg
      simp [yielded, hd]
    · rename_i d hd
      have hr := h.fr d
      split at hg
      · rename_i v hv
        rw [hv] at hr
        generalize hq : a.tmps.getD d undef = u at hr
        cases hr
        rw [Array.getD_eq_getD_getElem?] at hq
        split at hg
        · rename_i b'
          cases hg
          cases hx : a.tmps[d]? with
          | none => rw [hx] at hq; cases hq
          | some y =>
            rw [hx] at hq
            simp only [Option.getD_some] at hq
            subst hq
            simp only [yielded, hd, Option.bind_some, hx]
            cases b' <;> cases want <;> rfl
        · rename_i hne
          cases hg
          cases hx : a.tmps[d]? with
          | none => simp [yielded, hd, hx]
          | some y =>
            rw [hx] at hq
            simp only [Option.getD_some] at hq
            subst hq
            simp only [yielded, hd, Option.bind_some, hx]
            cases y <;> first | rfl | exact absurd rfl (hne _)
      · cases hg

/-- A load out of an object. -/
def loadP (P : Program) (t : TypeId) (S : Store) (x : PV) : Option PV :=
  match x with
  | .ptr o ver off =>
    match S o with
    | .cells v _ cs => if v = ver ∧ (P.underlying t).isSome = true then partP P t (cs.drop off) else none
    | _ => none
  | .ip cs => if (P.underlying t).isSome = true then partP P t cs else none
  | _ => none

theorem loadP_sound {P : Program} {C : Ctx} {S : Store} {w : World} {t : TypeId} {x p : PV} {u : Value} (h : loadP P t S x = some p) (hS : Sim C S w) (hu : Rel C S w x u) : ∃ r, (Instr.loadAt t u).run P w = .ok r w ∧ Rel C S w p r := by
  unfold loadP at h
  split at h
  · rename_i o ver off
    split at h
    · rename_i v e cs hs
      split at h
      · rename_i hc
        obtain ⟨rfl, hd0⟩ := hc
        cases hd : P.underlying t with
        | none => rw [hd] at hd0; cases hd0
        | some d =>
          cases hu with
          | ptr h1 h2 h3 =>
            obtain ⟨b, k, hl, rfl⟩ := (h3 v (by rw [hs]; rfl)).2 rfl
            rcases hS.cells o v e cs hs with ⟨hn, _⟩ | ⟨b', k', c, g1, g2, g3, g4, g5, g6⟩
            · rw [hn] at hl; cases hl
            · rw [g1] at hl; cases hl
              obtain ⟨q1, q2, q3⟩ := rel_drop (k := off) (o := 0) (c := c) (cs := cs) (fun _ => by omega) (fun i v hi hv => g5 i v hi (by simpa using hv)) (fun i q v hq hv => g6 i q v hq (by simpa using hv))
              rw [Nat.zero_add] at q1 q2 q3
              obtain ⟨r, hr, hrel⟩ := run_loadVar (P := P) (b := b) hd g2 q1 q2 q3 h
              exact ⟨r, by simp [Instr.loadAt, Instr.sureAddr, hr], hrel⟩
      · cases h
    · cases h
  · split at h
    · rename_i hd0
      cases hd : P.underlying t with
      | none => rw [hd] at hd0; cases hd0
      | some d =>
        cases hu with
        | ip hb hM hs h1 hr =>
          obtain ⟨r, hrr, hrel⟩ := run_loadVar hd hb hs h1 hr h
          exact ⟨r, by simp [Instr.loadAt, Instr.sureAddr, hrr], hrel⟩
    · cases h
  · cases h

def splice (cs : List PV) (off : Nat) (ds : List PV) : List PV := cs.take off ++ ds ++ cs.drop (off + ds.length)

/-- A store into an object. -/
def storeP (P : Program) (t : TypeId) (S : Store) (x y : PV) : Option Store :=
  match x with
  | .ptr o ver off =>
    match S o with
    | .cells v e cs => if v = ver ∧ y.cells.length = P.cellsOf t ∧ P.cellsOf t ≠ 0 ∧ off + y.cells.length ≤ cs.length ∧ y.fit = true then some (S.set o (.cells v e (splice cs off y.cells))) else none
    | _ => none
  | _ => none

theorem storeP_sound {P : Program} {C : Ctx} {S S' : Store} {w : World} {t : TypeId} {x y : PV} {u v : Value} (h : storeP P t S x y = some S') (hS : Sim C S w) (hu : Rel C S w x u) (hv : Rel C S w y v) :
    ∃ w' C', (Instr.storeAt t u v).run P w = .ok () w' ∧ Sim C' S' w' ∧ Step C S w C' S' w' := by
  unfold storeP at h
  split at h
  · rename_i o ver off
    split at h
    · rename_i vv e cs hs
      split at h
      · rename_i hc
        obtain ⟨rfl, c1, c2, c3, c4⟩ := hc
        cases h
        cases hu with
        | ptr h1 h2 h3 =>
          obtain ⟨b, k, hl, rfl⟩ := (h3 vv (by rw [hs]; rfl)).2 rfl
          rcases hS.cells o vv e cs hs with ⟨hn, _⟩ | ⟨b', k', c, g1, g2, g3, g4, g5, g6⟩
          · rw [hn] at hl; cases hl
          · rw [g1] at hl; cases hl
            obtain ⟨r1, r2, r3⟩ := hv.cells' c4
            have hone : ∀ z ∈ v.cells.toList, z.oneCell' = true := by
              intro z hz
              obtain ⟨i, hi⟩ := List.getElem?_of_mem hz
              exact r2 i z (by rw [← Array.getElem?_toList]; exact hi)
            have hfit : off + 0 + v.cells.toList.length ≤ c.size := by simp only [Array.length_toList]; omega
            have hrun := run_storeCells_at P b off e v.cells.toList 0 c w g2 hfit hone
            have hlen : v.cells.toList.length = y.cells.length := by simp [r1]
            simp only [Nat.add_zero] at hrun
            generalize hw' : w.setRow b (c.toList.take off ++ v.cells.toList ++ c.toList.drop (off + v.cells.toList.length)).toArray = w' at hrun
            have hheap : w'.heap[b]? = some (.cells (c.toList.take off ++ v.cells.toList ++ c.toList.drop (off + v.cells.toList.length)).toArray e (0, 0)) := by
              rw [← hw']; exact setRow_heap w b c _ e _ g2
            have hgr : w.grownBy w' (some b) := by
              rw [← hw']
              exact ⟨rfl, rfl, rfl, by simp [World.setRow], fun j hj hne => setRow_other w b j _ (fun e => hne (by rw [e]))⟩
            have hsize : (c.toList.take off ++ v.cells.toList ++ c.toList.drop (off + v.cells.toList.length)).toArray.size = k := by
              simp; omega
            obtain ⟨t1, t2⟩ := hS.turn (l := C.loc o) (ver' := vv) (cs' := splice cs off y.cells) hs (Nat.le_refl _) (fun _ => rfl) (by rw [g1]; exact hgr)
              (.inr ⟨b, k, _, g1, .inr (by rw [g1]; rfl), hheap, hsize, by simp [splice]; omega, fun i z hi hz => by
                  rw [List.getElem?_toArray] at hz
                  by_cases q1 : i < off
                  · rw [List.append_assoc, List.getElem?_append_left (by simp; omega), List.getElem?_take_of_lt q1] at hz
                    exact g5 i z (by omega) (by rw [← Array.getElem?_toList]; exact hz)
                  · by_cases q2 : i < off + v.cells.toList.length
                    · rw [List.append_assoc, List.getElem?_append_right (by simp; omega), List.length_take, Nat.min_eq_left (by simp; omega), List.getElem?_append_left (by omega)] at hz
                      exact r2 _ z (by rw [← Array.getElem?_toList]; exact hz)
                    · rw [List.getElem?_append_right (by simp at q2 ⊢; omega), List.length_append, List.length_take, Nat.min_eq_left (by simp; omega), List.getElem?_drop] at hz
                      have : off + v.cells.toList.length + (i - (off + v.cells.toList.length)) = i := by omega
                      rw [this] at hz
                      have hi' : i < cs.length := by simp [splice] at hi; omega
                      exact g5 i z hi' (by rw [← Array.getElem?_toList]; exact hz),
                fun i p z hp hz => by
                  rw [List.getElem?_toArray] at hz
                  unfold splice at hp
                  by_cases q1 : i < off
                  · rw [List.append_assoc, List.getElem?_append_left (by simp; omega), List.getElem?_take_of_lt q1] at hz
                    rw [List.append_assoc, List.getElem?_append_left (by simp; omega), List.getElem?_take_of_lt q1] at hp
                    exact g6 i p z hp (by rw [← Array.getElem?_toList]; exact hz)
                  · by_cases q2 : i < off + v.cells.toList.length
                    · rw [List.append_assoc, List.getElem?_append_right (by simp; omega), List.length_take, Nat.min_eq_left (by simp; omega), List.getElem?_append_left (by omega)] at hz
                      rw [List.append_assoc, List.getElem?_append_right (by simp; omega), List.length_take, Nat.min_eq_left (by omega), List.getElem?_append_left (by omega)] at hp
                      exact r3 _ p z hp (by rw [← Array.getElem?_toList]; exact hz)
                    · rw [List.getElem?_append_right (by simp at q2 ⊢; omega), List.length_append, List.length_take, Nat.min_eq_left (by simp; omega), List.getElem?_drop] at hz
                      rw [List.getElem?_append_right (by simp at q2 ⊢; omega), List.length_append, List.length_take, Nat.min_eq_left (by omega), List.getElem?_drop] at hp
                      have e1 : off + v.cells.toList.length + (i - (off + v.cells.toList.length)) = i := by omega
                      have e2 : off + y.cells.length + (i - (off + y.cells.length)) = i := by omega
                      rw [e1] at hz
                      rw [e2] at hp
                      exact g6 i p z hp (by rw [← Array.getElem?_toList]; exact hz)⟩)
            refine ⟨w', _, ?_, t1, t2⟩
            simp only [Instr.storeAt, Instr.sureAddr, Sem.run_bind, Sem.run_pure, Result.andThen_ok, storeVar, run_sizeOf' c2]
            rw [if_neg (by omega)]
            exact hrun
      · cases h
    · cases h
  · cases h

/-- The operations that read or write an object, and draw nothing. -/
def popS (P : Program) (F : Nat → PV) (S : Store) (o : Oper) : Option (PV × Store) :=
  match o.op with
  | .load t x => (loadP P t S (ev F x)).map fun p => (p, S)
  | .store t x y => (storeP P t S (ev F x) (ev F y)).map fun S' => (.sc undef, S')
  | _ => none

/-- An operation, said of pure values: whatever stands for them. -/
def PO0 (P : Program) (r : Option Nat) (n : Nat) (o : Oper) (F : Nat → PV) (S : Store) (K : PV → Store → Prop) : Prop :=
  ∀ (C : Ctx) (w : World) (a : Act) (N : Nat), St C S w N F a → ∀ (next : Act → World → Prop) (Q : Exit → Act → World → Prop),
    (∀ v w' C' S' p, K p S' → Rel C' S' w' p v → Sim C' S' w' → Step C S w C' S' w' → next (a.put o.dst v) w') → o.wpIn (Fe r) n P a w next Q

/-- It looks at its operands alone. -/
def PO (P : Program) (r : Option Nat) (n : Nat) (o : Oper) (F : Nat → PV) (S : Store) (K : PV → Store → Prop) : Prop :=
  ∀ G : Nat → PV, (∀ x ∈ o.op.operands, ev G x = ev F x) → PO0 P r n o G S K

theorem popI_congr {P : Program} {F G : Nat → PV} {o : Oper} (h : ∀ x ∈ o.op.operands, ev G x = ev F x) : popI P G o = popI P F o := by
  unfold popI
  cases ho : o.op <;> simp only [ho] at h ⊢
  case move x => rw [h x (by simp [Op.operands])]
  case assign x => rw [h x (by simp [Op.operands])]
  case pick c a b => rw [h c (by simp [Op.operands]), h a (by simp [Op.operands]), h b (by simp [Op.operands])]
  case build t parts =>
    have : parts.toList.map (fun x => (x.1, ev G x.2)) = parts.toList.map (fun x => (x.1, ev F x.2)) := List.map_congr_left fun x hx => by
      rw [h x.2 (by simp only [Op.operands, List.mem_toArray, List.mem_map]; exact ⟨x, hx, rfl⟩)]
    rw [this]
  case buildSlice t len parts =>
    have : parts.toList.map (fun x => (x.1, ev G x.2)) = parts.toList.map (fun x => (x.1, ev F x.2)) := List.map_congr_left fun x hx => by
      rw [h x.2 (by simp only [Op.operands, List.mem_toArray, List.mem_map]; exact ⟨x, hx, rfl⟩)]
    rw [this]
  case load t x => rw [h x (by simp [Op.operands])]
  case nilCheck x => rw [h x (by simp [Op.operands])]
  case binOp op t x y ty => rw [h x (by simp [Op.operands]), h y (by simp [Op.operands])]
  case unOp op t x => rw [h x (by simp [Op.operands])]
  case convert src dst x => rw [h x (by simp [Op.operands])]
  case makeInterface t x => rw [h x (by simp [Op.operands])]
  case makeFunc fn first cap =>
    have h1 : first.toList.map (ev G) = first.toList.map (ev F) := List.map_congr_left fun x hx => h x (by simp only [Op.operands, Array.mem_append]; exact .inl (Array.mem_toList_iff.1 hx))
    have h2 : cap.toList.map (ev G) = cap.toList.map (ev F) := List.map_congr_left fun x hx => h x (by simp only [Op.operands, Array.mem_append]; exact .inr (Array.mem_toList_iff.1 hx))
    rw [h1, h2]
  case slice t x lo hi mx =>
    have e : ∀ (y : Option Operand), (∀ z, y = some z → ev G z = ev F z) → y.map (ev G) = y.map (ev F) := by
      intro y hy; cases y with
      | none => rfl
      | some z => simp [hy z rfl]
    rw [h x (by simp [Op.operands]), e lo (fun z hz => h z (by subst hz; simp [Op.operands])), e hi (fun z hz => h z (by subst hz; simp [Op.operands])), e mx (fun z hz => h z (by subst hz; simp [Op.operands]))]
  case fieldAddr t x f => rw [h x (by simp [Op.operands])]
  case field t x f => rw [h x (by simp [Op.operands])]
  case indexAddr t x i => rw [h x (by simp [Op.operands]), h i (by simp [Op.operands])]
  case index t x i => rw [h x (by simp [Op.operands]), h i (by simp [Op.operands])]
  case extract t i => rw [h t (by simp [Op.operands])]
  case call c =>
    have ha : ∀ x ∈ c.args.toList, ev G x = ev F x := fun x hx => h x (by simp only [Op.operands, Call.operands, Array.mem_append]; exact .inr (Array.mem_toList_iff.1 hx))
    unfold callP
    split
    · split
      · rename_i x t hx ht; rw [ha x (by rw [hx]; simp)]
      · rfl
    · split
      · rename_i x y hx; rw [ha x (by rw [hx]; simp), ha y (by rw [hx]; simp)]
      · rfl
    · split
      · rename_i x y hx; rw [ha x (by rw [hx]; simp), ha y (by rw [hx]; simp)]
      · rfl
    · rfl

theorem popS_congr {P : Program} {F G : Nat → PV} {S : Store} {o : Oper} (h : ∀ x ∈ o.op.operands, ev G x = ev F x) : popS P G S o = popS P F S o := by
  unfold popS
  cases ho : o.op <;> simp only [ho] at h ⊢
  case load t x => rw [h x (by simp [Op.operands])]
  case store t x y => rw [h x (by simp [Op.operands]), h y (by simp [Op.operands])]

theorem wpIn_of_run {P : Program} {r : Option Nat} {n : Nat} {o : Oper} {a : Act} {w w' : World} {x : Next} {next : Act → World → Prop} {Q : Exit → Act → World → Prop} (hnd : ∀ c, o.op ≠ .defer c)
    (hr : (execOp a.eval o).run P w = .ok x w') (h : o.uponIn (Fe r) n P a next Q (.ok x w')) : o.wpIn (Fe r) n P a w next Q := by
  refine ⟨fun _ _ => trivial, ?_⟩
  rw [Oper.semAt_eq _ _ _ hnd, hr]
  exact h

theorem PO_I {P : Program} {r : Option Nat} {n : Nat} {o : Oper} {F : Nat → PV} {S : Store} {K : PV → Store → Prop} {p : PV} (h : popI P F o = some p) (hK : K p S) : PO P r n o F S K := by
  intro G hG
  rw [← popI_congr hG] at h
  intro C w a N st next Q hnext
  obtain ⟨v, w', hrun, hrel, hs, hstep⟩ := popI_sound h st.sim st.ev
  refine wpIn_of_run ?_ hrun (hnext v w' C S p hK hrel hs hstep)
  intro c hc
  simp [popI, hc] at h

theorem PO_S {P : Program} {r : Option Nat} {n : Nat} {o : Oper} {F : Nat → PV} {S S' : Store} {K : PV → Store → Prop} {p : PV} (h : popS P F S o = some (p, S')) (hK : K p S') : PO P r n o F S K := by
  intro G hG
  rw [← popS_congr hG] at h
  intro C w a N st next Q hnext
  have hnd : ∀ c, o.op ≠ .defer c := by intro c hc; simp [popS, hc] at h
  unfold popS at h
  split at h
  · rename_i t x ho
    obtain ⟨q, hq, he⟩ := Option.map_eq_some_iff.1 h
    cases he
    obtain ⟨v, hrun, hrel⟩ := loadP_sound hq st.sim (st.ev x)
    refine wpIn_of_run (x := .value v) (w' := w) hnd ?_ (hnext v w C S p hK hrel st.sim (.refl _ _ _))
    unfold execOp
    simp only [ho, Sem.run_bind, hrun]
    rfl
  · rename_i t x y ho
    obtain ⟨q, hq, he⟩ := Option.map_eq_some_iff.1 h
    cases he
    obtain ⟨w', C', hrun, hs, hstep⟩ := storeP_sound hq st.sim (st.ev x) (st.ev y)
    refine wpIn_of_run (x := .skip) (w' := w') hnd ?_ (hnext undef w' C' S' _ hK (.sc _) hs hstep)
    unfold execOp
    simp only [ho, Sem.run_bind, hrun]
    rfl
  · cases h

/-- Is the operation to be looked at by hand? -/
def byHand (H : List Nat) (o : Oper) : Bool :=
  match o.dst with
  | some d => H.contains d
  | none => false

/-- A row of operations, one behind the other (those that write a slot of H: by hand). -/
def PRl (P : Program) (r : Option Nat) (n : Nat) (H : List Nat) (ops : Array Oper) : List Oper → (Nat → PV) → Store → ((Nat → PV) → Store → Prop) → Prop
  | [], F, S, K => K F S
  | o :: os, F, S, K =>
    match gd ops F o with
    | none => False
    | some false => PRl P r n H ops os (updO F o.dst (.sc undef)) S K
    | some true =>
      if byHand H o = true then PO P r n o F S (fun p S' => PRl P r n H ops os (updO F o.dst p) S' K) else
      match popI P F o with
      | some p => PRl P r n H ops os (updO F o.dst p) S K
      | none =>
        match popS P F S o with
        | some (p, S') => PRl P r n H ops os (updO F o.dst p) S' K
        | none => PO P r n o F S (fun p S' => PRl P r n H ops os (updO F o.dst p) S' K)

/-- A piece of code, said of pure values. -/
def PW (P : Program) (r : Option Nat) (n N : Nat) (c : Code) (Q : Exit → (Nat → PV) → Store → Prop) (F : Nat → PV) (S : Store) : Prop :=
  ∀ (C : Ctx) (w : World) (a : Act), St C S w N F a → c.wpIn (Fe r) n P (fun e a' w' => ∃ F' S' C', Q e F' S' ∧ St C' S' w' N F' a' ∧ a'.defers = a.defers ∧ Step C S w C' S' w') a w

section rules
variable {P : Program} {r : Option Nat} {n N : Nat} {Q : Exit → (Nat → PV) → Store → Prop} {F : Nat → PV} {S : Store}

theorem range_drop (k m : Nat) (h : k < m) : (List.range m).drop k = k :: (List.range m).drop (k + 1) := by
  rw [List.drop_eq_getElem_cons (by simpa using h)]
  simp

theorem put_defers (a : Act) (d : Option Nat) (v : Value) : (a.put d v).defers = a.defers := by cases d <;> rfl

theorem prl_sound {H : List Nat} {ops : Array Oper} {Q' : Exit → Act → World → Prop} (hN : ∀ o ∈ ops, ∀ d, o.dst = some d → d < N) {K : (Nat → PV) → Store → Prop} {C0 : Ctx} {S0 : Store} {w0 : World} {ds : List Deferred}
    (hQ : ∀ F' S' C' w' a', K F' S' → St C' S' w' N F' a' → a'.defers = ds → Step C0 S0 w0 C' S' w' → Q' .normal a' w') :
    ∀ (m k : Nat) (F : Nat → PV) (S : Store) (C : Ctx) (w : World) (a : Act), ops.size - k = m → PRl P r n H ops (ops.toList.drop k) F S K → St C S w N F a → a.defers = ds → Step C0 S0 w0 C S w →
      wpOpsIn (Fe r) n P ops Q' ((List.range ops.size).drop k) a w := by
  intro m
  induction m with
  | zero =>
    intro k F S C w a hm h st hd step
    have e1 : (List.range ops.size).drop k = [] := List.drop_eq_nil_of_le (by simp; omega)
    have e2 : ops.toList.drop k = [] := List.drop_eq_nil_of_le (by simp; omega)
    rw [e1]; rw [e2] at h
    exact hQ F S C w a h st hd step
  | succ m ih =>
    intro k F S C w a hm h st hd step
    have hk : k < ops.size := by omega
    rw [range_drop k _ hk]
    have e2 : ops.toList.drop k = ops[k] :: ops.toList.drop (k + 1) := by
      rw [List.drop_eq_getElem_cons (by simpa using hk)]; simp
    rw [e2] at h
    have hget : ops[k]? = some ops[k] := by simp
    have hdst : ∀ x, ops[k].dst = some x → x < N := hN _ (Array.getElem_mem hk)
    rw [wpOpsIn_cons]
    unfold wpOpIn
    rw [hget]
    dsimp only
    simp only [PRl] at h
    split at h
    · exact h.elim
    · rename_i hg
      rw [gd_sound st hg]
      simp only [Bool.false_eq_true, if_false]
      exact ⟨fun _ _ => trivial, ih (k + 1) _ _ C w _ (by omega) h (st.put (.refl _ _ _) st.sim hdst (.sc _)) (by rw [put_defers]; exact hd) step⟩
    · rename_i hg
      rw [gd_sound st hg]
      simp only [if_true]
      have go : PO P r n ops[k] F S (fun p S' => PRl P r n H ops (ops.toList.drop (k + 1)) (updO F ops[k].dst p) S' K) → Oper.wpIn (Fe r) n P ops[k] a w (wpOpsIn (Fe r) n P ops Q' ((List.range ops.size).drop (k + 1))) Q' := fun hpo =>
        hpo F (fun _ _ => rfl) C w a N st _ _ (fun v w' C' S' p hp hrel hs hstep => ih (k + 1) _ _ C' w' _ (by omega) hp (st.put hstep hs hdst hrel) (by rw [put_defers]; exact hd) (step.trans hstep))
      split at h
      · exact go h
      · split at h
        · rename_i p hp
          exact go (PO_I hp h)
        · split at h
          · rename_i p S' hp
            exact go (PO_S hp h)
          · exact go h

def dstsBelow (N : Nat) (ops : Array Oper) : Bool := ops.toList.all fun o => match o.dst with | some d => Nat.blt d N | none => true

theorem dstsBelow_spec {ops : Array Oper} (h : dstsBelow N ops = true) : ∀ o ∈ ops, ∀ d, o.dst = some d → d < N := by
  intro o ho d hd
  unfold dstsBelow at h
  rw [List.all_eq_true] at h
  have := h o (Array.mem_toList_iff.2 ho)
  rw [hd] at this
  simpa [Nat.blt_eq] using this

theorem pw_region {id : Nat} {ops : Array Oper} (H : List Nat) (hN : dstsBelow N ops = true) (h : PRl P r n H ops ops.toList F S (Q .normal)) : PW P r n N (.region id ops false) Q F S := by
  intro C w a st
  refine wpIn_region ?_
  have := prl_sound (H := H) (Q' := fun e a' w' => ∃ F' S' C', Q e F' S' ∧ St C' S' w' N F' a' ∧ a'.defers = a.defers ∧ Step C S w C' S' w') (dstsBelow_spec hN)
    (fun F' S' C' w' a' hk hst hd hstep => ⟨F', S', C', hk, hst, hd, hstep⟩) ops.size 0 F S C w a rfl (K := Q .normal) (by simpa using h) st rfl (.refl _ _ _)
  simpa using this

def thenQ (K : (Nat → PV) → Store → Prop) (Q : Exit → (Nat → PV) → Store → Prop) : Exit → (Nat → PV) → Store → Prop
  | .normal, F, S => K F S
  | e, F, S => Q e F S

theorem pw_mono {c : Code} {Q' : Exit → (Nat → PV) → Store → Prop} (h : PW P r n N c Q F S) (hq : ∀ e F S, Q e F S → Q' e F S) : PW P r n N c Q' F S := by
  intro C w a st
  exact wpIn_mono (h C w a st) fun e a' w' ⟨F', S', C', h1, h2⟩ => ⟨F', S', C', hq _ _ _ h1, h2⟩

theorem pw_seq {x y : Code} (h : PW P r n N x (thenQ (PW P r n N y Q) Q) F S) : PW P r n N (.seq x y) Q F S := by
  intro C w a st
  refine wpIn_seq (wpIn_mono (h C w a st) ?_)
  rintro e a' w' ⟨F', S', C', hq, hst, hd, hstep⟩
  cases e with
  | normal =>
    refine wpIn_mono (hq C' w' a' hst) ?_
    rintro e a'' w'' ⟨F2, S2, C2, h1, h2, h3, h4⟩
    exact ⟨F2, S2, C2, h1, h2, h3.trans hd, hstep.trans h4⟩
  | _ => exact ⟨F', S', C', hq, hst, hd, hstep⟩

theorem pw_skip (h : Q .normal F S) : PW P r n N .skip Q F S := fun C _ _ st => wpIn_skip ⟨F, S, C, h, st, rfl, .refl _ _ _⟩
theorem pw_exit {id : Nat} (h : Q (.exit id) F S) : PW P r n N (.exit id) Q F S := fun C _ _ st => wpIn_exit ⟨F, S, C, h, st, rfl, .refl _ _ _⟩
theorem pw_ret (h : Q .ret F S) : PW P r n N .ret Q F S := fun C _ _ st => wpIn_ret ⟨F, S, C, h, st, rfl, .refl _ _ _⟩

theorem pw_cond {c : Operand} {x y : Code} {t : Bool} (hc : ev F c = .sc (.bool t)) (h1 : t = true → PW P r n N x Q F S) (h2 : t = false → PW P r n N y Q F S) : PW P r n N (.cond c x y) Q F S := by
  intro C w a st
  have := st.ev c
  rw [hc] at this
  generalize hv : a.eval c = v at this
  cases this
  exact wpIn_cond_split hv (fun e => h1 e C w a st) (fun e => h2 e C w a st)

def inBlockQ (id : Nat) (Q : Exit → (Nat → PV) → Store → Prop) : Exit → (Nat → PV) → Store → Prop
  | .exit id', F, S => if id' = id then Q .normal F S else Q (.exit id') F S
  | e, F, S => Q e F S

theorem pw_block {id : Nat} {c : Code} (h : PW P r n N c (inBlockQ id Q) F S) : PW P r n N (.block id c) Q F S := by
  intro C w a st
  refine wpIn_block (wpIn_mono (h C w a st) ?_)
  rintro e a' w' ⟨F', S', C', hq, rest⟩
  cases e with
  | exit id' =>
    simp only [inBlockQ] at hq
    simp only [Exit.inBlock]
    split
    · rename_i he; rw [if_pos he] at hq; exact ⟨F', S', C', hq, rest⟩
    · rename_i he; rw [if_neg he] at hq; exact ⟨F', S', C', hq, rest⟩
  | _ => exact ⟨F', S', C', hq, rest⟩

/-- A loop: an invariant on pure values, and a measure. -/
theorem pw_loop {c : Code} (I : (Nat → PV) → Store → Nat → Prop) (m0 : Nat) (h0 : I F S m0) (round : ∀ m F S, I F S m → PW P r n N c (thenQ (fun F' S' => ∃ m', I F' S' m' ∧ m' < m) Q) F S) : PW P r n N (.loop c) Q F S := by
  intro C w a st b k cs hro hb hr
  have key : ∀ j F1 S1 C1 w1 a1, I F1 S1 j → St C1 S1 w1 N F1 a1 → a1.defers = a.defers → Step C S w C1 S1 w1 →
      ∃ e a' w', (∃ F' S' C', Q e F' S' ∧ St C' S' w' N F' a' ∧ a'.defers = a.defers ∧ Step C S w C' S' w') ∧ ArrivesIn (Machine.fenced P (Fe r)) P (lone (b.atR a1 (.code c :: .inLoop c :: k)) cs w1) b k cs e a' w' := by
    intro j
    induction j using Nat.strongRecOn with
    | _ j ih =>
      intro F1 S1 C1 w1 a1 hI st1 hd1 hstep1
      obtain ⟨e, a2, w2, ⟨F2, S2, C2, hq, st2, hd2, hstep2⟩, harr⟩ := round j F1 S1 hI C1 w1 a1 st1 b (.inLoop c :: k) cs hro hb hr
      cases e with
      | normal =>
        obtain ⟨m', hI', hlt⟩ := hq
        obtain ⟨e3, a3, w3, hq3, harr3⟩ := ih m' hlt F2 S2 C2 w2 a2 hI' st2 (hd2.trans hd1) (hstep1.trans hstep2)
        exact ⟨e3, a3, w3, hq3, .of_steps (StepsIn.trans harr (.one (fenced_calm hb hr rfl) stepR_inLoop)) harr3⟩
      | exit id => exact ⟨_, a2, w2, ⟨F2, S2, C2, hq, st2, hd2.trans hd1, hstep1.trans hstep2⟩, .pass (x := .inLoop c) rfl (fun _ _ => .inl (by simp)) harr⟩
      | goto l => exact ⟨_, a2, w2, ⟨F2, S2, C2, hq, st2, hd2.trans hd1, hstep1.trans hstep2⟩, .pass (x := .inLoop c) rfl (fun _ _ => .inl (by simp)) harr⟩
      | ret => exact ⟨_, a2, w2, ⟨F2, S2, C2, hq, st2, hd2.trans hd1, hstep1.trans hstep2⟩, .pass (x := .inLoop c) rfl (fun _ _ => .inl (by simp)) harr⟩
      | panic ch => exact ⟨_, a2, w2, ⟨F2, S2, C2, hq, st2, hd2.trans hd1, hstep1.trans hstep2⟩, .pass (x := .inLoop c) rfl (fun _ _ => .inl (by simp)) harr⟩
      | outgrown => exact ⟨_, a2, w2, ⟨F2, S2, C2, hq, st2, hd2.trans hd1, hstep1.trans hstep2⟩, .pass (x := .inLoop c) rfl (fun _ _ => .inl (by simp)) harr⟩
  obtain ⟨e, a', w', hq, harr⟩ := key m0 F S C w a h0 st rfl (.refl _ _ _)
  exact ⟨e, a', w', hq, .of_steps (.one (fenced_calm hb hr rfl) stepR_loop) harr⟩

end rules
end Go.Proofs.Ytdmmihkmcennpaa.Pv
