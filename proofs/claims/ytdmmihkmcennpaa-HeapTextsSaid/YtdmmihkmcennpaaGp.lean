/- Ghost layer, part 16: objects of a call's own, told by their places; a reckoner that makes and turns them. -/
import Derived.Test.YtdmmihkmcennpaaGo
namespace Go.Proofs.Ytdmmihkmcennpaa.Pv
open Go

/-- The store S below nx, and a call's own objects from nx on. -/
def ext (S : Store) (nx : Nat) (obs : List Ob) : Store := fun i => if i < nx then S i else obs.getD (i - nx) .dead

def DeadFrom (nx : Nat) (S : Store) : Prop := ∀ i, nx ≤ i → S i = .dead

section
variable {S : Store} {nx : Nat} {obs : List Ob}

theorem ext_old {i : Nat} (h : i < nx) : ext S nx obs i = S i := by simp [ext, h]
@[simp] theorem ext_at (k : Nat) : ext S nx obs (nx + k) = obs.getD k .dead := by
  simp only [ext]; rw [if_neg (by omega), Nat.add_sub_cancel_left]
@[simp] theorem ext_at0 : ext S nx obs nx = obs.getD 0 .dead := by simp [ext]
theorem ext_nil (h : DeadFrom nx S) : ext S nx [] = S := by
  funext i; simp only [ext]; split
  · rfl
  · rw [h i (by omega)]; rfl
theorem ext_set {id : Nat} (x : Ob) (h : nx ≤ id) (hl : id - nx < obs.length) : (ext S nx obs).set id x = ext S nx (obs.set (id - nx) x) := by
  funext i
  simp only [ext, Store.set]
  by_cases h1 : i = id
  · subst h1; rw [if_pos rfl, if_neg (by omega), List.getD_eq_getElem?_getD, List.getElem?_set_self hl]; rfl
  · rw [if_neg h1]
    by_cases h2 : i < nx
    · rw [if_pos h2, if_pos h2]
    · rw [if_neg h2, if_neg h2, List.getD_eq_getElem?_getD, List.getD_eq_getElem?_getD, List.getElem?_set_ne (by omega)]
theorem ext_push (x : Ob) : (ext S nx obs).set (nx + obs.length) x = ext S nx (obs ++ [x]) := by
  funext i
  simp only [ext, Store.set]
  by_cases h1 : i = nx + obs.length
  · subst h1; rw [if_pos rfl, if_neg (by omega), List.getD_eq_getElem?_getD, List.getElem?_append_right (by omega)]; simp
  · rw [if_neg h1]
    by_cases h2 : i < nx
    · rw [if_pos h2, if_pos h2]
    · rw [if_neg h2, if_neg h2, List.getD_eq_getElem?_getD, List.getD_eq_getElem?_getD]
      by_cases h3 : i - nx < obs.length
      · rw [List.getElem?_append_left h3]
      · rw [List.getElem?_eq_none (by omega), List.getElem?_eq_none (by simp; omega)]
theorem ext_set_old {i : Nat} (x : Ob) (h : i < nx) : (ext S nx obs).set i x = ext (S.set i x) nx obs := by
  funext j
  simp only [ext, Store.set]
  by_cases h1 : j = i
  · subst h1; rw [if_pos rfl, if_pos h, if_pos rfl]
  · rw [if_neg h1]
    by_cases h2 : j < nx
    · rw [if_pos h2, if_pos h2, if_neg h1]
    · rw [if_neg h2, if_neg h2]
theorem ext_new : ext S nx obs (nx + obs.length) = .dead := by simp
theorem ext_kill (more : List Ob) (o : Nat) : ext S nx obs o = ext S nx (obs ++ more) o ∨ ext S nx obs o = .dead := by
  simp only [ext]
  by_cases h2 : o < nx
  · rw [if_pos h2, if_pos h2]; exact .inl rfl
  · rw [if_neg h2, if_neg h2, List.getD_eq_getElem?_getD, List.getD_eq_getElem?_getD]
    by_cases h3 : o - nx < obs.length
    · rw [List.getElem?_append_left h3]; exact .inl rfl
    · rw [List.getElem?_eq_none (by omega)]; exact .inr rfl
theorem ext_kill0 (h : DeadFrom nx S) (o : Nat) : S o = ext S nx obs o ∨ S o = .dead := by
  simp only [ext]
  by_cases h2 : o < nx
  · rw [if_pos h2]; exact .inl rfl
  · exact .inr (h o (by omega))
theorem ext_dead : DeadFrom (nx + obs.length) (ext S nx obs) := by
  intro i hi
  simp only [ext]
  rw [if_neg (by omega), List.getD_eq_getElem?_getD, List.getElem?_eq_none (by omega)]; rfl
end

/-- A call, and that it is one that enters a body. -/
def Spec (P : Program) (f : FuncId) (args : List PV) (S : Store) (Q : PV → Store → Prop) : Prop := Enters P f ∧ PCalls P f args S Q

theorem Spec.mono {P : Program} {f : FuncId} {args : List PV} {S : Store} {Q Q' : PV → Store → Prop} (h : Spec P f args S Q) (hq : ∀ p S', Q p S' → Q' p S') : Spec P f args S Q' := ⟨h.1, h.2.mono hq⟩

/-- A call that turns nothing, and gives p. -/
def Pure (P : Program) (f : FuncId) (args : List PV) (p : PV) : Prop := ∀ S, Spec P f args S (fun q S' => q = p ∧ S' = S)

section
variable (P : Program) (r : Option Nat) (n nx : Nat)

/-- What append asks of types: the element's type, its cells and bytes. -/
def elemX (t : TypeId) : Option (TypeId × Nat × Nat) :=
  match P.underlying t with
  | some (.slice e) =>
    match Program.zeroOf P e with
    | some z =>
      match Program.bytesOf' P e with
      | some b => if P.cellsOf e ≠ 0 ∧ z.cells.size = P.cellsOf e ∧ b ≠ 0 then some (e, P.cellsOf e, b) else none
      | none => none
    | none => none
  | _ => none

/-- The operations that read and write objects: what must hold, what they give, the store then. -/
def memX (S : Store) (obs : List Ob) (F : Nat → PV) (o : Oper) : Option (Prop × PV × Store × List Ob) :=
  match o.op with
  | .load t x => match loadP P t (ext S nx obs) (ev F x) with | some p => some (True, p, S, obs) | none => none
  | .store t x y =>
    match ev F x with
    | .ptr id ver off =>
      match ext S nx obs id with
      | .cells v e cs =>
        if v = ver ∧ (ev F y).cells.length = P.cellsOf t ∧ P.cellsOf t ≠ 0 ∧ (ev F y).fit = true then
          (if nx ≤ id then some (off + (ev F y).cells.length ≤ cs.length, .sc undef, S, obs.set (id - nx) (.cells v e (splice cs off (ev F y).cells)))
           else some (off + (ev F y).cells.length ≤ cs.length, .sc undef, S.set id (.cells v e (splice cs off (ev F y).cells)), obs))
        else none
      | _ => none
    | _ => none
  | .call c =>
    match c.callee with
    | .builtin .append =>
      match c.args.toList, c.argTypes.toList with
      | [s, x], [t, t'] =>
        match ev F s with
        | .sl id ver sz 0 k =>
          match ext S nx obs id with
          | .cells v e cs =>
            match elemX P t with
            | some (e', sz', by_) =>
              match srcP (ext S nx obs) sz (ev F x) with
              | some (m, ds) =>
                if v = ver ∧ e' = e ∧ sz' = sz ∧ t' = t ∧ nx ≤ id then some (k * sz ≤ cs.length ∧ (k + m) * by_ ≤ 140737488355328, .sl id (ver + 1) sz 0 (k + m), S, obs.set (id - nx) (.cells (ver + 1) e (cs.take (k * sz) ++ ds))) else none
              | none => none
            | none => none
          | _ => none
        | _ => none
      | _, _ => none
    | _ => none
  | _ => none

/-- The operations that make an object: what must hold, what they give, the object (by its version). -/
def newX (S : Store) (obs : List Ob) (F : Nat → PV) (o : Oper) : Option (Prop × (Nat → PV) × (Nat → Ob)) :=
  match o.op with
  | .alloc t =>
    match Program.zeroOf P t with
    | some z => if z.cells.all (·.oneCell') = true then some (True, fun v => .ptr (nx + obs.length) v 0, fun v => .cells v t (zeroCellsOf z)) else none
    | none => none
  | .box t x => if (ev F x).fit = true then some (True, fun v => .ptr (nx + obs.length) v 0, fun v => .cells v t (ev F x).cells) else none
  | .makeSlice t l c =>
    match ev F l, ev F c with
    | .sc (.int _ a), .sc (.int _ b) =>
      match P.underlying t with
      | some (.slice e) =>
        match Program.zeroOf P e with
        | some z =>
          match Program.bytesOf' P e with
          | some by_ => if z.cells.all (·.oneCell') = true ∧ z.cells.size = P.cellsOf e ∧ P.cellsOf e ≠ 0 then
              some (0 ≤ a ∧ a ≤ b ∧ b ≤ 140737488355328 ∧ b.toNat * by_ ≤ 281474976710656, fun v => .sl (nx + obs.length) v (P.cellsOf e) 0 a.toNat, fun v => .cells v e (zerosP b.toNat z)) else none
          | none => none
        | none => none
      | _ => none
    | _, _ => none
  | .makeMap _ none => some (True, fun v => .mp (nx + obs.length) v, fun v => .map v [])
  | .call c =>
    match c.callee with
    | .builtin .append =>
      match c.args.toList, c.argTypes.toList with
      | [s, x], [t, t'] =>
        match ev F s with
        | .sc (.slice none 0 0) =>
          match elemX P t with
          | some (e, sz, by_) =>
            match srcP (ext S nx obs) sz (ev F x) with
            | some (m, ds) => if t' = t then some (m * by_ ≤ 140737488355328, fun v => .sl (nx + obs.length) v sz 0 m, fun v => .cells v e ds) else none
            | none => none
          | none => none
        | _ => none
      | _, _ => none
    | _ => none
  | _ => none

/-- Which function is called, and with what. -/
def calleeX (F : Nat → PV) (o : Oper) : Option (FuncId × List PV) :=
  match o.op with
  | .call c =>
    match c.callee with
    | .value x => match ev F x with | .fn (.func k) fs cs => some (k, fs ++ c.args.toList.map (ev F) ++ cs) | _ => none
    | _ => none
  | _ => none

/-- What is meant: the operations one behind the other. -/
def XS (ops : Array Oper) (K : (Nat → PV) → Store → List Ob → Prop) : List Oper → (Nat → PV) → Store → List Ob → Prop
  | [], F, S, obs => K F S obs
  | o :: os, F, S, obs =>
    match gd ops F o with
    | none => False
    | some false => XS ops K os (updO F o.dst (.sc undef)) S obs
    | some true => PO P r n o F (ext S nx obs) (fun p S' => ∃ S1 obs1, S' = ext S1 nx obs1 ∧ XS ops K os (updO F o.dst p) S1 obs1)

def gsl : List (Nat × Nat) → Nat → Option Nat
  | [], _ => none
  | (a, p) :: l, i => if i = a then some p else gsl l i

/-- A guard, told by a list of the slots that guards look at. -/
def gdD (D : List (Nat × Nat)) (F : Nat → PV) (o : Oper) : Option Bool :=
  match o.guard with
  | none => some true
  | some (j, want) =>
    match gsl D j with
    | none => some false
    | some d => match F d with
      | .sc v => match v with
        | .bool b => some (b == want)
        | _ => some false
      | _ => none

def guardsOk (ops : Array Oper) (D : List (Nat × Nat)) : Bool :=
  ops.toList.all fun o => match o.guard with
  | none => true
  | some (j, _) => decide ((ops[j]?).bind (·.dst) = gsl D j)

/-- How an operation is reckoned, X being the rest; what is left to the hand: calls (Gc), other operations (Gh). -/
def xrs (D : List (Nat × Nat)) (Gc : List Oper → (Nat → PV) → Store → List Ob → Option Nat → FuncId → List PV → Prop) (Gh : List Oper → (Nat → PV) → Store → List Ob → Oper → Prop) (X : (Nat → PV) → Store → List Ob → Prop)
    (o : Oper) (os : List Oper) (F : Nat → PV) (S : Store) (obs : List Ob) : Prop :=
  match gdD D F o with
  | none => False
  | some false => X (updO F o.dst (.sc undef)) S obs
  | some true =>
    match popI P F o with
    | some p => X (updO F o.dst p) S obs
    | none =>
      match memX P nx S obs F o with
      | some (A, p, S', obs') => A ∧ X (updO F o.dst p) S' obs'
      | none =>
        match newX P nx S obs F o with
        | some (A, pf, of) => A ∧ ∀ v, X (updO F o.dst (pf v)) S (obs ++ [of v])
        | none =>
          match calleeX F o with
          | some (f, args) => Gc os F S obs o.dst f args
          | none => Gh os F S obs o

def XR (D : List (Nat × Nat)) (K : (Nat → PV) → Store → List Ob → Prop) (Gc : List Oper → (Nat → PV) → Store → List Ob → Option Nat → FuncId → List PV → Prop) (Gh : List Oper → (Nat → PV) → Store → List Ob → Oper → Prop) :
    List Oper → (Nat → PV) → Store → List Ob → Prop
  | [], F, S, obs => K F S obs
  | o :: os, F, S, obs => xrs P nx D Gc Gh (XR D K Gc Gh os) o os F S obs
end

section
variable {P : Program} {r : Option Nat} {n nx N : Nat} {Q : Exit → (Nat → PV) → Store → Prop} {F : Nat → PV} {S : Store} {obs : List Ob}

theorem elemX_ok {t e : TypeId} {sz by_ : Nat} (h : elemX P t = some (e, sz, by_)) : ∃ z, ElemOk P t e z by_ ∧ sz = P.cellsOf e := by
  unfold elemX at h
  split at h
  · rename_i e0 ht
    split at h
    · rename_i z hz
      split at h
      · rename_i b hb
        split at h
        · rename_i hc; cases h; exact ⟨z, ⟨ht, hc.1, hz, hc.2.1, hb, hc.2.2⟩, rfl⟩
        · cases h
      · cases h
    · cases h
  · cases h

theorem po_mono {o : Oper} {K K' : PV → Store → Prop} (h : PO P r n o F S K) (hk : ∀ p S', K p S' → K' p S') : PO P r n o F S K' :=
  fun G hG C w a N st next Q' hn => h G hG C w a N st next Q' fun v w' C' S' p hp => hn v w' C' S' p (hk p S' hp)

theorem args2 {c : Call} {s x : Operand} {t t' : TypeId} (hc : c.callee = .builtin .append) (h1 : c.args.toList = [s, x]) (h2 : c.argTypes.toList = [t, t']) (ht : t' = t) : c = { callee := .builtin .append, args := #[s, x], argTypes := #[t, t] } := by
  subst ht
  have e1 : c.args = #[s, x] := by apply Array.toList_inj.1; simpa using h1
  have e2 : c.argTypes = #[t', t'] := by apply Array.toList_inj.1; simpa using h2
  cases c; simp_all

theorem memX_ok {o : Oper} {A : Prop} {p : PV} {S' : Store} {obs' : List Ob} {K : PV → Store → Prop} (h : memX P nx S obs F o = some (A, p, S', obs')) (hA : A) (hK : K p (ext S' nx obs')) : PO P r n o F (ext S nx obs) K := by
  unfold memX at h
  split at h
  · rename_i t x ho
    split at h
    · rename_i q hq; cases h
      exact PO_S (p := p) (S' := ext S nx obs) (by unfold popS; rw [ho]; simp only [hq, Option.map_some]) hK
    · cases h
  · rename_i t x y ho
    split at h
    · rename_i id ver off hx
      split at h
      · rename_i v e cs hs
        split at h
        · rename_i hc
          obtain ⟨c1, c2, c3, c4⟩ := hc
          have main : ∀ T, (off + (ev F y).cells.length ≤ cs.length) → (ext S nx obs).set id (.cells v e (splice cs off (ev F y).cells)) = T → K (.sc undef) T → PO P r n o F (ext S nx obs) K := by
            intro T hT e1 hK
            refine PO_S (p := .sc undef) (S' := T) ?_ hK
            unfold popS; rw [ho]
            simp only [storeP, hx, hs]
            rw [if_pos ⟨c1, c2, c3, hT, c4⟩, e1]; rfl
          split at h
          · rename_i hid
            cases h
            refine main _ hA (ext_set _ hid ?_) hK
            rcases Nat.lt_or_ge (id - nx) obs.length with q | q
            · exact q
            · exfalso
              simp only [ext] at hs
              rw [if_neg (by omega), List.getD_eq_getElem?_getD, List.getElem?_eq_none q] at hs
              cases hs
          · rename_i hid
            cases h
            exact main _ hA (ext_set_old _ (by omega)) hK
        · cases h
      · cases h
    · cases h
  · rename_i c ho
    split at h
    · rename_i hcal
      split at h
      · rename_i s x t t' h1 h2
        split at h
        · rename_i id ver sz k hsl
          split at h
          · rename_i v e cs hs
            split at h
            · rename_i e' sz' by_ hel
              split at h
              · rename_i m ds hsrc
                split at h
                · rename_i hc
                  obtain ⟨rfl, rfl, rfl, rfl, hid⟩ := hc
                  cases h
                  obtain ⟨z, hE, rfl⟩ := elemX_ok hel
                  obtain ⟨a1, a2⟩ := hA
                  have hlt : id - nx < obs.length := by
                    rcases Nat.lt_or_ge (id - nx) obs.length with q | q
                    · exact q
                    · exfalso
                      simp only [ext] at hs
                      rw [if_neg (by omega), List.getD_eq_getElem?_getD, List.getElem?_eq_none q] at hs
                      cases hs
                  have ha : k + m ≤ 140737488355328 := Nat.le_trans (Nat.le_mul_of_pos_right _ (Nat.pos_of_ne_zero hE.bpos)) a2
                  rw [args2 hcal h1 h2 rfl] at ho
                  exact po_append ho hE hsl hs a1 hsrc a2 ha (by rw [ext_set _ hid hlt]; exact hK)
                · cases h
              · cases h
            · cases h
          · cases h
        · cases h
      · cases h
    · cases h
  · cases h

theorem newX_ok {o : Oper} {A : Prop} {pf : Nat → PV} {of : Nat → Ob} {K : PV → Store → Prop} (h : newX P nx S obs F o = some (A, pf, of)) (hA : A) (hK : ∀ v, K (pf v) (ext S nx (obs ++ [of v]))) : PO P r n o F (ext S nx obs) K := by
  unfold newX at h
  split at h
  · rename_i t ho
    split at h
    · rename_i z hz
      split at h
      · rename_i h1; cases h
        exact po_alloc0 ho hz h1 (freshAt (X := fun id v => K (.ptr id v 0) ((ext S nx obs).set id (.cells v t (zeroCellsOf z)))) _ ext_new fun v => by rw [ext_push]; exact hK v)
      · cases h
    · cases h
  · rename_i t x ho
    split at h
    · rename_i h1; cases h
      exact po_box0 ho h1 (freshAt (X := fun id v => K (.ptr id v 0) ((ext S nx obs).set id (.cells v t (ev F x).cells))) _ ext_new fun v => by rw [ext_push]; exact hK v)
    · cases h
  · rename_i t l c ho
    split at h
    · rename_i k1 a k2 b hl hc
      split at h
      · rename_i e ht
        split at h
        · rename_i z hz
          split at h
          · rename_i by_ hby
            split at h
            · rename_i hcond
              obtain ⟨c1, c2, c3⟩ := hcond
              cases h
              obtain ⟨a1, a2, a3, a4⟩ := hA
              obtain ⟨a', rfl⟩ := Int.eq_ofNat_of_zero_le a1
              obtain ⟨b', rfl⟩ := Int.eq_ofNat_of_zero_le (Int.le_trans a1 a2)
              simp only [Int.toNat_natCast] at hK a4
              exact po_makeSlice0 ho ht hl hc hz c1 c2 c3 hby (by omega) (by omega) a4 (freshAt (X := fun id v => K (.sl id v (P.cellsOf e) 0 a') ((ext S nx obs).set id (.cells v e (zerosP b' z)))) _ ext_new fun v => by rw [ext_push]; exact hK v)
            · cases h
          · cases h
        · cases h
      · cases h
    · cases h
  · rename_i t ho
    cases h
    exact po_makeMap0 ho (freshAt (X := fun id v => K (.mp id v) ((ext S nx obs).set id (.map v []))) _ ext_new fun v => by rw [ext_push]; exact hK v)
  · rename_i c ho
    split at h
    · rename_i hcal
      split at h
      · rename_i s x t t' h1 h2
        split at h
        · rename_i hsl
          split at h
          · rename_i e sz by_ hel
            split at h
            · rename_i m ds hsrc
              split at h
              · rename_i hc
                cases h
                obtain ⟨z, hE, rfl⟩ := elemX_ok hel
                have ha : m ≤ 140737488355328 := Nat.le_trans (Nat.le_mul_of_pos_right _ (Nat.pos_of_ne_zero hE.bpos)) hA
                rw [args2 hcal h1 h2 hc] at ho
                exact po_append_nil0 ho hE hsl hsrc hA ha (freshAt (X := fun id v => K (.sl id v (P.cellsOf e) 0 m) ((ext S nx obs).set id (.cells v e ds))) _ ext_new fun v => by rw [ext_push]; exact hK v)
              · cases h
            · cases h
          · cases h
        · cases h
      · cases h
    · cases h
  · cases h

theorem calleeX_ok {o : Oper} {f : FuncId} {args : List PV} {K : PV → Store → Prop} (h : calleeX F o = some (f, args)) (hp : Spec P f args S K) : PO P r n o F S K := by
  unfold calleeX at h
  split at h
  · rename_i c ho
    split at h
    · rename_i x hcal
      split at h
      · rename_i k fs cs hx
        cases h
        exact po_call ho hcal hx hp.1 hp.2 fun _ _ h => h
      · cases h
    · cases h
  · cases h

theorem gdD_ok {ops : Array Oper} {D : List (Nat × Nat)} (h : guardsOk ops D = true) {o : Oper} (ho : o ∈ ops.toList) (F : Nat → PV) : gd ops F o = gdD D F o := by
  unfold guardsOk at h
  rw [List.all_eq_true] at h
  have := h o ho
  unfold gd gdD
  cases hg : o.guard with
  | none => rfl
  | some jw =>
    obtain ⟨j, want⟩ := jw
    rw [hg] at this
    simp only [decide_eq_true_eq] at this
    simp only [this]
    cases gsl D j with
    | none => rfl
    | some d =>
      simp only
      cases F d with
      | sc v => cases v <;> rfl
      | _ => rfl

theorem xs_of_xr {D : List (Nat × Nat)} {ops : Array Oper} (hD : guardsOk ops D = true) {K : (Nat → PV) → Store → List Ob → Prop} {Gc : List Oper → (Nat → PV) → Store → List Ob → Option Nat → FuncId → List PV → Prop} {Gh : List Oper → (Nat → PV) → Store → List Ob → Oper → Prop}
    (hc : ∀ os F S obs d f args, Gc os F S obs d f args → os <:+ ops.toList → Spec P f args (ext S nx obs) (fun p S' => ∃ S1 obs1, S' = ext S1 nx obs1 ∧ XS P r n nx ops K os (updO F d p) S1 obs1))
    (hh : ∀ os F S obs o, Gh os F S obs o → os <:+ ops.toList → PO P r n o F (ext S nx obs) (fun p S' => ∃ S1 obs1, S' = ext S1 nx obs1 ∧ XS P r n nx ops K os (updO F o.dst p) S1 obs1)) :
    ∀ (l : List Oper) (F : Nat → PV) (S : Store) (obs : List Ob), l <:+ ops.toList → XR P nx D K Gc Gh l F S obs → XS P r n nx ops K l F S obs
  | [], F, S, obs, _, h => h
  | o :: os, F, S, obs, hs, h => by
    have hs' : os <:+ ops.toList := (List.suffix_cons o os).trans hs
    unfold XR xrs at h
    rw [← gdD_ok hD (hs.subset (by simp)) F] at h
    unfold XS
    split at h
    · exact h.elim
    · exact xs_of_xr hD hc hh os _ _ _ hs' h
    · split at h
      · rename_i p hp
        exact PO_I hp ⟨S, obs, rfl, xs_of_xr hD hc hh os _ _ _ hs' h⟩
      · split at h
        · rename_i A p S' obs' hm
          exact memX_ok hm h.1 ⟨S', obs', rfl, xs_of_xr hD hc hh os _ _ _ hs' h.2⟩
        · split at h
          · rename_i A pf of hm
            exact newX_ok hm h.1 fun v => ⟨S, _, rfl, xs_of_xr hD hc hh os _ _ _ hs' (h.2 v)⟩
          · split at h
            · rename_i f args hf
              exact calleeX_ok hf (hc _ _ _ _ _ _ _ h hs')
            · exact hh _ _ _ _ _ h hs'

/-- The reckoning of a row of operations. -/
theorem xs_go {ops : Array Oper} {K : (Nat → PV) → Store → List Ob → Prop} {l : List Oper} {D : List (Nat × Nat)} (hs : l <:+ ops.toList) (hD : guardsOk ops D = true)
    (h : ∀ (Gc : List Oper → (Nat → PV) → Store → List Ob → Option Nat → FuncId → List PV → Prop) (Gh : List Oper → (Nat → PV) → Store → List Ob → Oper → Prop),
      (∀ os F S obs d f args, (os <:+ ops.toList → Spec P f args (ext S nx obs) (fun p S' => ∃ S1 obs1, S' = ext S1 nx obs1 ∧ XS P r n nx ops K os (updO F d p) S1 obs1)) → Gc os F S obs d f args) →
      (∀ os F S obs o, (os <:+ ops.toList → PO P r n o F (ext S nx obs) (fun p S' => ∃ S1 obs1, S' = ext S1 nx obs1 ∧ XS P r n nx ops K os (updO F o.dst p) S1 obs1)) → Gh os F S obs o) →
      ∀ X : List Oper → (Nat → PV) → Store → List Ob → Prop, (∀ F S obs, X [] F S obs = K F S obs) → (∀ o os F S obs, X (o :: os) F S obs = xrs P nx D Gc Gh (X os) o os F S obs) → X l F S obs) : XS P r n nx ops K l F S obs :=
  xs_of_xr hD (fun _ _ _ _ _ _ _ h => h) (fun _ _ _ _ _ h => h) l F S obs hs (h _ _ (fun _ _ _ _ _ _ _ h => h) (fun _ _ _ _ _ h => h) _ (fun _ _ _ => rfl) (fun _ _ _ _ _ => rfl))

theorem xs_sound {ops : Array Oper} {Q' : Exit → Act → World → Prop} (hN : ∀ o ∈ ops, ∀ d, o.dst = some d → d < N) {K : (Nat → PV) → Store → List Ob → Prop} {C0 : Ctx} {S0 : Store} {w0 : World} {ds : List Deferred}
    (hQ : ∀ F' S' obs' C' w' a', K F' S' obs' → St C' (ext S' nx obs') w' N F' a' → a'.defers = ds → Step C0 S0 w0 C' (ext S' nx obs') w' → Q' .normal a' w') :
    ∀ (m k : Nat) (F : Nat → PV) (S : Store) (obs : List Ob) (C : Ctx) (w : World) (a : Act), ops.size - k = m → XS P r n nx ops K (ops.toList.drop k) F S obs → St C (ext S nx obs) w N F a → a.defers = ds → Step C0 S0 w0 C (ext S nx obs) w →
      wpOpsIn (Fe r) n P ops Q' ((List.range ops.size).drop k) a w := by
  intro m
  induction m with
  | zero =>
    intro k F S obs C w a hm h st hd step
    have e1 : (List.range ops.size).drop k = [] := List.drop_eq_nil_of_le (by simp; omega)
    have e2 : ops.toList.drop k = [] := List.drop_eq_nil_of_le (by simp; omega)
    rw [e1]; rw [e2] at h
    exact hQ F S obs C w a h st hd step
  | succ m ih =>
    intro k F S obs C w a hm h st hd step
    have hk : k < ops.size := by omega
    rw [range_drop k _ hk]
    have e2 : ops.toList.drop k = ops[k] :: ops.toList.drop (k + 1) := by
      rw [List.drop_eq_getElem_cons (by simpa using hk)]; simp
    rw [e2] at h
    have hget : ops[k]? = some ops[k] := by simp
    have hdst : ∀ x, ops[k].dst = some x → x < N := hN _ (Array.getElem_mem hk)
    rw [wpOpsIn_cons]
    unfold wpOpIn
    rw [hget]
    dsimp only
    unfold XS at h
    split at h
    · exact h.elim
    · rename_i hg
      rw [gd_sound st hg]
      simp only [Bool.false_eq_true, if_false]
      exact ⟨fun _ _ => trivial, ih (k + 1) _ _ _ C w _ (by omega) h (st.put (.refl _ _ _) st.sim hdst (.sc _)) (by rw [put_defers]; exact hd) step⟩
    · rename_i hg
      rw [gd_sound st hg]
      simp only [if_true]
      refine h F (fun _ _ => rfl) C w a N st _ _ ?_
      rintro v w' C' S' p ⟨S1, obs1, rfl, hp⟩ hrel hs hstep
      exact ih (k + 1) _ _ _ C' w' _ (by omega) hp (st.put hstep hs hdst hrel) (by rw [put_defers]; exact hd) (step.trans hstep)

theorem pw_XS {id : Nat} {ops : Array Oper} (hN : dstsBelow N ops = true) (h : ∀ K : (Nat → PV) → Store → List Ob → Prop, (∀ F' S' obs', Q .normal F' (ext S' nx obs') → K F' S' obs') → XS P r n nx ops K ops.toList F S obs) : PW P r n N (.region id ops false) Q F (ext S nx obs) := by
  intro C w a st
  refine wpIn_region ?_
  have := xs_sound (Q' := fun e a' w' => ∃ F' S' C', Q e F' S' ∧ St C' S' w' N F' a' ∧ a'.defers = a.defers ∧ Step C (ext S nx obs) w C' S' w') (dstsBelow_spec hN)
    (fun F' S' obs' C' w' a' hk hst hd hstep => ⟨F', _, C', hk, hst, hd, hstep⟩) ops.size 0 F S obs C w a rfl (K := fun F' S' obs' => Q .normal F' (ext S' nx obs')) (by simpa using h _ fun _ _ _ h => h) st rfl (.refl _ _ _)
  simpa using this

/-- A region that draws no order. -/
theorem pw_N {id : Nat} {ops : Array Oper} (D : List (Nat × Nat)) (hN : dstsBelow N ops = true) (hD : guardsOk ops D = true)
    (h : ∀ (K : (Nat → PV) → Store → List Ob → Prop) (Gc : List Oper → (Nat → PV) → Store → List Ob → Option Nat → FuncId → List PV → Prop) (Gh : List Oper → (Nat → PV) → Store → List Ob → Oper → Prop),
      (∀ F' S' obs', Q .normal F' (ext S' nx obs') → K F' S' obs') →
      (∀ os F S obs d f args, (os <:+ ops.toList → Spec P f args (ext S nx obs) (fun p S' => ∃ S1 obs1, S' = ext S1 nx obs1 ∧ XS P r n nx ops K os (updO F d p) S1 obs1)) → Gc os F S obs d f args) →
      (∀ os F S obs o, (os <:+ ops.toList → PO P r n o F (ext S nx obs) (fun p S' => ∃ S1 obs1, S' = ext S1 nx obs1 ∧ XS P r n nx ops K os (updO F o.dst p) S1 obs1)) → Gh os F S obs o) →
      ∀ X : List Oper → (Nat → PV) → Store → List Ob → Prop, (∀ F S obs, X [] F S obs = K F S obs) → (∀ o os F S obs, X (o :: os) F S obs = xrs P nx D Gc Gh (X os) o os F S obs) → X ops.toList F S obs) : PW P r n N (.region id ops false) Q F (ext S nx obs) :=
  pw_XS hN fun K hK => xs_go (List.suffix_refl _) hD fun Gc Gh hc hh X h0 hX => h K Gc Gh hK hc hh X h0 hX

end
end Go.Proofs.Ytdmmihkmcennpaa.Pv
