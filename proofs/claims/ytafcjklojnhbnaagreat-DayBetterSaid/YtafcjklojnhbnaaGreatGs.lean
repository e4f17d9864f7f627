/- Ghost layer, part 16: objects of a call's own, told by their places; a reckoner that makes and turns them. -/
import Derived.Test.YtafcjklojnhbnaaGreatGo
import Derived.RangeFuncSeq
namespace Go.Proofs.YtafcjklojnhbnaaGreat.Pv
open Go

/-- The store S below nx, and a call's own objects from nx on. -/
def ext (S : Store) (nx : Nat) (obs : List Ob) : Store := fun i => if i < nx then S i else obs.getD (i - nx) .dead

def DeadFrom (nx : Nat) (S : Store) : Prop := ∀ i, nx ≤ i → S i = .dead

section
variable {S : Store} {nx : Nat} {obs : List Ob}

theorem ext_old {i : Nat} (h : i < nx) : ext S nx obs i = S i := by simp [ext, h]
@[simp] theorem ext_at (k : Nat) : ext S nx obs (nx + k) = obs.getD k .dead := by
  simp only [ext]; rw [if_neg (by omega), Nat.add_sub_cancel_left]
@[simp] theorem ext_at0 : ext S nx obs nx = obs.getD 0 .dead := by simp [ext]
theorem ext_nil (h : DeadFrom nx S) : ext S nx [] = S := by
  funext i; simp only [ext]; split
  · rfl
  · rw [h i (by omega)]; rfl
theorem ext_set {id : Nat} (x : Ob) (h : nx ≤ id) (hl : id - nx < obs.length) : (ext S nx obs).set id x = ext S nx (obs.set (id - nx) x) := by
  funext i
  simp only [ext, Store.set]
  by_cases h1 : i = id
  · subst h1; rw [if_pos rfl, if_neg (by omega), List.getD_eq_getElem?_getD, List.getElem?_set_self hl]; rfl
  · rw [if_neg h1]
    by_cases h2 : i < nx
    · rw [if_pos h2, if_pos h2]
    · rw [if_neg h2, if_neg h2, List.getD_eq_getElem?_getD, List.getD_eq_getElem?_getD, List.getElem?_set_ne (by omega)]
theorem ext_push (x : Ob) : (ext S nx obs).set (nx + obs.length) x = ext S nx (obs ++ [x]) := by
  funext i
  simp only [ext, Store.set]
  by_cases h1 : i = nx + obs.length
  · subst h1; rw [if_pos rfl, if_neg (by omega), List.getD_eq_getElem?_getD, List.getElem?_append_right (by omega)]; simp
  · rw [if_neg h1]
    by_cases h2 : i < nx
    · rw [if_pos h2, if_pos h2]
    · rw [if_neg h2, if_neg h2, List.getD_eq_getElem?_getD, List.getD_eq_getElem?_getD]
      by_cases h3 : i - nx < obs.length
      · rw [List.getElem?_append_left h3]
      · rw [List.getElem?_eq_none (by omega), List.getElem?_eq_none (by simp; omega)]
theorem ext_set_old {i : Nat} (x : Ob) (h : i < nx) : (ext S nx obs).set i x = ext (S.set i x) nx obs := by
  funext j
  simp only [ext, Store.set]
  by_cases h1 : j = i
  · subst h1; rw [if_pos rfl, if_pos h, if_pos rfl]
  · rw [if_neg h1]
    by_cases h2 : j < nx
    · rw [if_pos h2, if_pos h2, if_neg h1]
    · rw [if_neg h2, if_neg h2]
theorem ext_new : ext S nx obs (nx + obs.length) = .dead := by simp
theorem ext_kill (more : List Ob) (o : Nat) : ext S nx obs o = ext S nx (obs ++ more) o ∨ ext S nx obs o = .dead := by
  simp only [ext]
  by_cases h2 : o < nx
  · rw [if_pos h2, if_pos h2]; exact .inl rfl
  · rw [if_neg h2, if_neg h2, List.getD_eq_getElem?_getD, List.getD_eq_getElem?_getD]
    by_cases h3 : o - nx < obs.length
    · rw [List.getElem?_append_left h3]; exact .inl rfl
    · rw [List.getElem?_eq_none (by omega)]; exact .inr rfl
theorem ext_kill0 (h : DeadFrom nx S) (o : Nat) : S o = ext S nx obs o ∨ S o = .dead := by
  simp only [ext]
  by_cases h2 : o < nx
  · rw [if_pos h2]; exact .inl rfl
  · exact .inr (h o (by omega))
theorem ext_dead : DeadFrom (nx + obs.length) (ext S nx obs) := by
  intro i hi
  simp only [ext]
  rw [if_neg (by omega), List.getD_eq_getElem?_getD, List.getElem?_eq_none (by omega)]; rfl
end

/-- A call, and that it is one that enters a body. -/
def Spec (P : Program) (f : FuncId) (args : List PV) (S : Store) (Q : PV → Store → Prop) : Prop := Enters P f ∧ PCalls P f args S Q

/-- A call of which more is known of memory. -/
def SpecV (P : Program) (V : Ctx → Store → World → Prop) (f : FuncId) (args : List PV) (S : Store) (Q : PV → Store → Prop) : Prop := Enters P f ∧ PCallsV P V f args S Q

theorem Spec.v {P : Program} {V : Ctx → Store → World → Prop} {f : FuncId} {args : List PV} {S : Store} {Q : PV → Store → Prop} (h : Spec P f args S Q) : SpecV P V f args S Q := ⟨h.1, h.2.v⟩
theorem SpecV.mono {P : Program} {V : Ctx → Store → World → Prop} {f : FuncId} {args : List PV} {S : Store} {Q Q' : PV → Store → Prop} (h : SpecV P V f args S Q) (hq : ∀ p S', Q p S' → Q' p S') : SpecV P V f args S Q' := ⟨h.1, h.2.mono hq⟩

theorem Spec.mono {P : Program} {f : FuncId} {args : List PV} {S : Store} {Q Q' : PV → Store → Prop} (h : Spec P f args S Q) (hq : ∀ p S', Q p S' → Q' p S') : Spec P f args S Q' := ⟨h.1, h.2.mono hq⟩

/-- A call that turns nothing, and gives p. -/
def Pure (P : Program) (f : FuncId) (args : List PV) (p : PV) : Prop := ∀ S, Spec P f args S (fun q S' => q = p ∧ S' = S)

section
variable (P : Program) (r : Rd) (n nx : Nat)

/-- What append asks of types: the element's type, its cells and bytes. -/
def elemX (t : TypeId) : Option (TypeId × Nat × Nat) :=
  match P.underlying t with
  | some (.slice e) =>
    match Program.zeroOf P e with
    | some z =>
      match Program.bytesOf' P e with
      | some b => if P.cellsOf e ≠ 0 ∧ z.cells.size = P.cellsOf e ∧ b ≠ 0 then some (e, P.cellsOf e, b) else none
      | none => none
    | none => none
  | _ => none

/-- The operations that read and write objects: what must hold, what they give, the store then. -/
def memX (S : Store) (obs : List Ob) (F : Nat → PV) (o : Oper) : Option (Prop × PV × Store × List Ob) :=
  match o.op with
  | .load t x => match loadP P t (ext S nx obs) (ev F x) with | some p => some (True, p, S, obs) | none => none
  | .store t x y =>
    match ev F x with
    | .ptr id ver off =>
      match ext S nx obs id with
      | .cells v e cs =>
        if v = ver ∧ (ev F y).cells.length = P.cellsOf t ∧ P.cellsOf t ≠ 0 ∧ (ev F y).fit = true then
          (if nx ≤ id then some (off + (ev F y).cells.length ≤ cs.length, .sc undef, S, obs.set (id - nx) (.cells v e (splice cs off (ev F y).cells)))
           else some (off + (ev F y).cells.length ≤ cs.length, .sc undef, S.set id (.cells v e (splice cs off (ev F y).cells)), obs))
        else none
      | _ => none
    | _ => none
  | .call c =>
    match c.callee with
    | .builtin .append =>
      match c.args.toList, c.argTypes.toList with
      | [s, x], [t, t'] =>
        match ev F s with
        | .sl id ver sz 0 k =>
          match ext S nx obs id with
          | .cells v e cs =>
            match elemX P t with
            | some (e', sz', by_) =>
              match srcP (ext S nx obs) sz (ev F x) with
              | some (m, ds) =>
                if v = ver ∧ e' = e ∧ sz' = sz ∧ t' = t ∧ nx ≤ id then some (k * sz ≤ cs.length ∧ (k + m) * by_ ≤ 140737488355328, .sl id (ver + 1) sz 0 (k + m), S, obs.set (id - nx) (.cells (ver + 1) e (cs.take (k * sz) ++ ds))) else none
              | none => none
            | none => none
          | _ => none
        | _ => none
      | _, _ => none
    | _ => none
  | _ => none

/-- The operations that make an object: what must hold, what they give, the object (by its version). -/
def newX (S : Store) (obs : List Ob) (F : Nat → PV) (o : Oper) : Option (Prop × (Nat → PV) × (Nat → Ob)) :=
  match o.op with
  | .alloc t =>
    match Program.zeroOf P t with
    | some z => if z.cells.all (·.oneCell') = true then some (True, fun v => .ptr (nx + obs.length) v 0, fun v => .cells v t (zeroCellsOf z)) else none
    | none => none
  | .box t x => if (ev F x).fit = true then some (True, fun v => .ptr (nx + obs.length) v 0, fun v => .cells v t (ev F x).cells) else none
  | .makeSlice t l c =>
    match ev F l, ev F c with
    | .sc (.int _ a), .sc (.int _ b) =>
      match P.underlying t with
      | some (.slice e) =>
        match Program.zeroOf P e with
        | some z =>
          match Program.bytesOf' P e with
          | some by_ => if z.cells.all (·.oneCell') = true ∧ z.cells.size = P.cellsOf e ∧ P.cellsOf e ≠ 0 then
              some (0 ≤ a ∧ a ≤ b ∧ b ≤ 140737488355328 ∧ b.toNat * by_ ≤ 281474976710656, fun v => .sl (nx + obs.length) v (P.cellsOf e) 0 a.toNat, fun v => .cells v e (zerosP b.toNat z)) else none
          | none => none
        | none => none
      | _ => none
    | _, _ => none
  | .makeMap _ none => some (True, fun v => .mp (nx + obs.length) v, fun v => .map v [])
  | .call c =>
    match c.callee with
    | .builtin .append =>
      match c.args.toList, c.argTypes.toList with
      | [s, x], [t, t'] =>
        match ev F s with
        | .sc (.slice none 0 0) =>
          match elemX P t with
          | some (e, sz, by_) =>
            match srcP (ext S nx obs) sz (ev F x) with
            | some (m, ds) => if t' = t then some (m * by_ ≤ 140737488355328, fun v => .sl (nx + obs.length) v sz 0 m, fun v => .cells v e ds) else none
            | none => none
          | none => none
        | _ => none
      | _, _ => none
    | _ => none
  | _ => none

/-- Which function is called, and with what. -/
def calleeX (F : Nat → PV) (o : Oper) : Option (FuncId × List PV) :=
  match o.op with
  | .call c =>
    match c.callee with
    | .value x => match ev F x with | .fn (.func k) fs cs => some (k, fs ++ c.args.toList.map (ev F) ++ cs) | _ => none
    | _ => none
  | _ => none

/-- What is meant: the operations one behind the other. -/
def XS (ops : Array Oper) (K : (Nat → PV) → Store → List Ob → Prop) : List Oper → (Nat → PV) → Store → List Ob → Prop
  | [], F, S, obs => K F S obs
  | o :: os, F, S, obs =>
    match gd ops F o with
    | none => False
    | some false => XS ops K os (updO F o.dst (.sc undef)) S obs
    | some true => PO P r n o F (ext S nx obs) (fun p S' => ∃ S1 obs1, S' = ext S1 nx obs1 ∧ XS ops K os (updO F o.dst p) S1 obs1)

def gsl : List (Nat × Nat) → Nat → Option Nat
  | [], _ => none
  | (a, p) :: l, i => if i = a then some p else gsl l i

/-- A guard, told by a list of the slots that guards look at. -/
def gdD (D : List (Nat × Nat)) (F : Nat → PV) (o : Oper) : Option Bool :=
  match o.guard with
  | none => some true
  | some (j, want) =>
    match gsl D j with
    | none => some false
    | some d => match F d with
      | .sc v => match v with
        | .bool b => some (b == want)
        | _ => some false
      | _ => none

def guardsOk (ops : Array Oper) (D : List (Nat × Nat)) : Bool :=
  ops.toList.all fun o => match o.guard with
  | none => true
  | some (j, _) => decide ((ops[j]?).bind (·.dst) = gsl D j)

/-- How an operation is reckoned, X being the rest; what is left to the hand: calls (Gc), other operations (Gh). -/
def xrs (D : List (Nat × Nat)) (Gc : List Oper → (Nat → PV) → Store → List Ob → Option Nat → FuncId → List PV → Prop) (Gh : List Oper → (Nat → PV) → Store → List Ob → Oper → Prop) (X : (Nat → PV) → Store → List Ob → Prop)
    (o : Oper) (os : List Oper) (F : Nat → PV) (S : Store) (obs : List Ob) : Prop :=
  match gdD D F o with
  | none => False
  | some false => X (updO F o.dst (.sc undef)) S obs
  | some true =>
    match popI P F o with
    | some p => X (updO F o.dst p) S obs
    | none =>
      match memX P nx S obs F o with
      | some (A, p, S', obs') => A ∧ X (updO F o.dst p) S' obs'
      | none =>
        match newX P nx S obs F o with
        | some (A, pf, of) => A ∧ ∀ v, X (updO F o.dst (pf v)) S (obs ++ [of v])
        | none =>
          match calleeX F o with
          | some (f, args) => Gc os F S obs o.dst f args
          | none => Gh os F S obs o

def XR (D : List (Nat × Nat)) (K : (Nat → PV) → Store → List Ob → Prop) (Gc : List Oper → (Nat → PV) → Store → List Ob → Option Nat → FuncId → List PV → Prop) (Gh : List Oper → (Nat → PV) → Store → List Ob → Oper → Prop) :
    List Oper → (Nat → PV) → Store → List Ob → Prop
  | [], F, S, obs => K F S obs
  | o :: os, F, S, obs => xrs P nx D Gc Gh (XR D K Gc Gh os) o os F S obs
end

section
variable {P : Program} {r : Rd} {n nx N : Nat} {Q : Exit → (Nat → PV) → Store → Prop} {F : Nat → PV} {S : Store} {obs : List Ob}

theorem elemX_ok {t e : TypeId} {sz by_ : Nat} (h : elemX P t = some (e, sz, by_)) : ∃ z, ElemOk P t e z by_ ∧ sz = P.cellsOf e := by
  unfold elemX at h
  split at h
  · rename_i e0 ht
    split at h
    · rename_i z hz
      split at h
      · rename_i b hb
        split at h
        · rename_i hc; cases h; exact ⟨z, ⟨ht, hc.1, hz, hc.2.1, hb, hc.2.2⟩, rfl⟩
        · cases h
      · cases h
    · cases h
  · cases h

theorem po_mono {o : Oper} {K K' : PV → Store → Prop} (h : PO P r n o F S K) (hk : ∀ p S', K p S' → K' p S') : PO P r n o F S K' :=
  fun G hG C w a N st next Q' hn => h G hG C w a N st next Q' fun v w' C' S' p hp => hn v w' C' S' p (hk p S' hp)

theorem args2 {c : Call} {s x : Operand} {t t' : TypeId} (hc : c.callee = .builtin .append) (h1 : c.args.toList = [s, x]) (h2 : c.argTypes.toList = [t, t']) (ht : t' = t) : c = { callee := .builtin .append, args := #[s, x], argTypes := #[t, t] } := by
  subst ht
  have e1 : c.args = #[s, x] := by apply Array.toList_inj.1; simpa using h1
  have e2 : c.argTypes = #[t', t'] := by apply Array.toList_inj.1; simpa using h2
  cases c; simp_all

theorem memX_ok {o : Oper} {A : Prop} {p : PV} {S' : Store} {obs' : List Ob} {K : PV → Store → Prop} (h : memX P nx S obs F o = some (A, p, S', obs')) (hA : A) (hK : K p (ext S' nx obs')) : PO P r n o F (ext S nx obs) K := by
  unfold memX at h
  split at h
  · rename_i t x ho
    split at h
    · rename_i q hq; cases h
      exact PO_S (p := p) (S' := ext S nx obs) (by unfold popS; rw [ho]; simp only [hq, Option.map_some]) hK
    · cases h
  · rename_i t x y ho
    split at h
    · rename_i id ver off hx
      split at h
      · rename_i v e cs hs
        split at h
        · rename_i hc
          obtain ⟨c1, c2, c3, c4⟩ := hc
          have main : ∀ T, (off + (ev F y).cells.length ≤ cs.length) → (ext S nx obs).set id (.cells v e (splice cs off (ev F y).cells)) = T → K (.sc undef) T → PO P r n o F (ext S nx obs) K := by
            intro T hT e1 hK
            refine PO_S (p := .sc undef) (S' := T) ?_ hK
            unfold popS; rw [ho]
            simp only [storeP, hx, hs]
            rw [if_pos ⟨c1, c2, c3, hT, c4⟩, e1]; rfl
          split at h
          · rename_i hid
            cases h
            refine main _ hA (ext_set _ hid ?_) hK
            rcases Nat.lt_or_ge (id - nx) obs.length with q | q
            · exact q
            · exfalso
              simp only [ext] at hs
              rw [if_neg (by omega), List.getD_eq_getElem?_getD, List.getElem?_eq_none q] at hs
              cases hs
          · rename_i hid
            cases h
            exact main _ hA (ext_set_old _ (by omega)) hK
        · cases h
      · cases h
    · cases h
  · rename_i c ho
    split at h
    · rename_i hcal
      split at h
      · rename_i s x t t' h1 h2
        split at h
        · rename_i id ver sz k hsl
          split at h
          · rename_i v e cs hs
            split at h
            · rename_i e' sz' by_ hel
              split at h
              · rename_i m ds hsrc
                split at h
                · rename_i hc
                  obtain ⟨rfl, rfl, rfl, rfl, hid⟩ := hc
                  cases h
                  obtain ⟨z, hE, rfl⟩ := elemX_ok hel
                  obtain ⟨a1, a2⟩ := hA
                  have hlt : id - nx < obs.length := by
                    rcases Nat.lt_or_ge (id - nx) obs.length with q | q
                    · exact q
                    · exfalso
                      simp only [ext] at hs
                      rw [if_neg (by omega), List.getD_eq_getElem?_getD, List.getElem?_eq_none q] at hs
                      cases hs
                  have ha : k + m ≤ 140737488355328 := Nat.le_trans (Nat.le_mul_of_pos_right _ (Nat.pos_of_ne_zero hE.bpos)) a2
                  rw [args2 hcal h1 h2 rfl] at ho
                  exact po_append ho hE hsl hs a1 hsrc a2 ha (by rw [ext_set _ hid hlt]; exact hK)
                · cases h
              · cases h
            · cases h
          · cases h
        · cases h
      · cases h
    · cases h
  · cases h

theorem newX_ok {o : Oper} {A : Prop} {pf : Nat → PV} {of : Nat → Ob} {K : PV → Store → Prop} (h : newX P nx S obs F o = some (A, pf, of)) (hA : A) (hK : ∀ v, K (pf v) (ext S nx (obs ++ [of v]))) : PO P r n o F (ext S nx obs) K := by
  unfold newX at h
  split at h
  · rename_i t ho
    split at h
    · rename_i z hz
      split at h
      · rename_i h1; cases h
        exact po_alloc0 ho hz h1 (freshAt (X := fun id v => K (.ptr id v 0) ((ext S nx obs).set id (.cells v t (zeroCellsOf z)))) _ ext_new fun v => by rw [ext_push]; exact hK v)
      · cases h
    · cases h
  · rename_i t x ho
    split at h
    · rename_i h1; cases h
      exact po_box0 ho h1 (freshAt (X := fun id v => K (.ptr id v 0) ((ext S nx obs).set id (.cells v t (ev F x).cells))) _ ext_new fun v => by rw [ext_push]; exact hK v)
    · cases h
  · rename_i t l c ho
    split at h
    · rename_i k1 a k2 b hl hc
      split at h
      · rename_i e ht
        split at h
        · rename_i z hz
          split at h
          · rename_i by_ hby
            split at h
            · rename_i hcond
              obtain ⟨c1, c2, c3⟩ := hcond
              cases h
              obtain ⟨a1, a2, a3, a4⟩ := hA
              obtain ⟨a', rfl⟩ := Int.eq_ofNat_of_zero_le a1
              obtain ⟨b', rfl⟩ := Int.eq_ofNat_of_zero_le (Int.le_trans a1 a2)
              simp only [Int.toNat_natCast] at hK a4
              exact po_makeSlice0 ho ht hl hc hz c1 c2 c3 hby (by omega) (by omega) a4 (freshAt (X := fun id v => K (.sl id v (P.cellsOf e) 0 a') ((ext S nx obs).set id (.cells v e (zerosP b' z)))) _ ext_new fun v => by rw [ext_push]; exact hK v)
            · cases h
          · cases h
        · cases h
      · cases h
    · cases h
  · rename_i t ho
    cases h
    exact po_makeMap0 ho (freshAt (X := fun id v => K (.mp id v) ((ext S nx obs).set id (.map v []))) _ ext_new fun v => by rw [ext_push]; exact hK v)
  · rename_i c ho
    split at h
    · rename_i hcal
      split at h
      · rename_i s x t t' h1 h2
        split at h
        · rename_i hsl
          split at h
          · rename_i e sz by_ hel
            split at h
            · rename_i m ds hsrc
              split at h
              · rename_i hc
                cases h
                obtain ⟨z, hE, rfl⟩ := elemX_ok hel
                have ha : m ≤ 140737488355328 := Nat.le_trans (Nat.le_mul_of_pos_right _ (Nat.pos_of_ne_zero hE.bpos)) hA
                rw [args2 hcal h1 h2 hc] at ho
                exact po_append_nil0 ho hE hsl hsrc hA ha (freshAt (X := fun id v => K (.sl id v (P.cellsOf e) 0 m) ((ext S nx obs).set id (.cells v e ds))) _ ext_new fun v => by rw [ext_push]; exact hK v)
              · cases h
            · cases h
          · cases h
        · cases h
      · cases h
    · cases h
  · cases h

theorem calleeX_ok {o : Oper} {f : FuncId} {args : List PV} {K : PV → Store → Prop} (h : calleeX F o = some (f, args)) (hp : SpecV P r.V f args S K) : PO P r n o F S K := by
  unfold calleeX at h
  split at h
  · rename_i c ho
    split at h
    · rename_i x hcal
      split at h
      · rename_i k fs cs hx
        cases h
        exact po_callV ho hcal hx hp.1 hp.2 fun _ _ h => h
      · cases h
    · cases h
  · cases h

theorem gdD_ok {ops : Array Oper} {D : List (Nat × Nat)} (h : guardsOk ops D = true) {o : Oper} (ho : o ∈ ops.toList) (F : Nat → PV) : gd ops F o = gdD D F o := by
  unfold guardsOk at h
  rw [List.all_eq_true] at h
  have := h o ho
  unfold gd gdD
  cases hg : o.guard with
  | none => rfl
  | some jw =>
    obtain ⟨j, want⟩ := jw
    rw [hg] at this
    simp only [decide_eq_true_eq] at this
    simp only [this]
    cases gsl D j with
    | none => rfl
    | some d =>
      simp only
      cases F d with
      | sc v => cases v <;> rfl
      | _ => rfl

theorem xs_of_xr {D : List (Nat × Nat)} {ops : Array Oper} (hD : guardsOk ops D = true) {K : (Nat → PV) → Store → List Ob → Prop} {Gc : List Oper → (Nat → PV) → Store → List Ob → Option Nat → FuncId → List PV → Prop} {Gh : List Oper → (Nat → PV) → Store → List Ob → Oper → Prop}
    (hc : ∀ os F S obs d f args, Gc os F S obs d f args → os <:+ ops.toList → SpecV P r.V f args (ext S nx obs) (fun p S' => ∃ S1 obs1, S' = ext S1 nx obs1 ∧ XS P r n nx ops K os (updO F d p) S1 obs1))
    (hh : ∀ os F S obs o, Gh os F S obs o → os <:+ ops.toList → PO P r n o F (ext S nx obs) (fun p S' => ∃ S1 obs1, S' = ext S1 nx obs1 ∧ XS P r n nx ops K os (updO F o.dst p) S1 obs1)) :
    ∀ (l : List Oper) (F : Nat → PV) (S : Store) (obs : List Ob), l <:+ ops.toList → XR P nx D K Gc Gh l F S obs → XS P r n nx ops K l F S obs
  | [], F, S, obs, _, h => h
  | o :: os, F, S, obs, hs, h => by
    have hs' : os <:+ ops.toList := (List.suffix_cons o os).trans hs
    unfold XR xrs at h
    rw [← gdD_ok hD (hs.subset (by simp)) F] at h
    unfold XS
    split at h
    · exact h.elim
    · exact xs_of_xr hD hc hh os _ _ _ hs' h
    · split at h
      · rename_i p hp
        exact PO_I hp ⟨S, obs, rfl, xs_of_xr hD hc hh os _ _ _ hs' h⟩
      · split at h
        · rename_i A p S' obs' hm
          exact memX_ok hm h.1 ⟨S', obs', rfl, xs_of_xr hD hc hh os _ _ _ hs' h.2⟩
        · split at h
          · rename_i A pf of hm
            exact newX_ok hm h.1 fun v => ⟨S, _, rfl, xs_of_xr hD hc hh os _ _ _ hs' (h.2 v)⟩
          · split at h
            · rename_i f args hf
              exact calleeX_ok hf (hc _ _ _ _ _ _ _ h hs')
            · exact hh _ _ _ _ _ h hs'

/-- The reckoning of a row of operations. -/
theorem xs_go {ops : Array Oper} {K : (Nat → PV) → Store → List Ob → Prop} {l : List Oper} {D : List (Nat × Nat)} (hs : l <:+ ops.toList) (hD : guardsOk ops D = true)
    (h : ∀ (Gc : List Oper → (Nat → PV) → Store → List Ob → Option Nat → FuncId → List PV → Prop) (Gh : List Oper → (Nat → PV) → Store → List Ob → Oper → Prop),
      (∀ os F S obs d f args, (os <:+ ops.toList → SpecV P r.V f args (ext S nx obs) (fun p S' => ∃ S1 obs1, S' = ext S1 nx obs1 ∧ XS P r n nx ops K os (updO F d p) S1 obs1)) → Gc os F S obs d f args) →
      (∀ os F S obs o, (os <:+ ops.toList → PO P r n o F (ext S nx obs) (fun p S' => ∃ S1 obs1, S' = ext S1 nx obs1 ∧ XS P r n nx ops K os (updO F o.dst p) S1 obs1)) → Gh os F S obs o) →
      ∀ X : List Oper → (Nat → PV) → Store → List Ob → Prop, (∀ F S obs, X [] F S obs = K F S obs) → (∀ o os F S obs, X (o :: os) F S obs = xrs P nx D Gc Gh (X os) o os F S obs) → X l F S obs) : XS P r n nx ops K l F S obs :=
  xs_of_xr hD (fun _ _ _ _ _ _ _ h => h) (fun _ _ _ _ _ h => h) l F S obs hs (h _ _ (fun _ _ _ _ _ _ _ h => h) (fun _ _ _ _ _ h => h) _ (fun _ _ _ => rfl) (fun _ _ _ _ _ => rfl))

theorem xs_sound {ops : Array Oper} {Q' : Exit → Act → World → Prop} (hN : ∀ o ∈ ops, ∀ d, o.dst = some d → d < N) {K : (Nat → PV) → Store → List Ob → Prop} {C0 : Ctx} {S0 : Store} {w0 : World} {ds : List Deferred}
    (hQ : ∀ F' S' obs' C' w' a', K F' S' obs' → St r C' (ext S' nx obs') w' N F' a' → a'.defers = ds → Step C0 S0 w0 C' (ext S' nx obs') w' → Q' .normal a' w') :
    ∀ (m k : Nat) (F : Nat → PV) (S : Store) (obs : List Ob) (C : Ctx) (w : World) (a : Act), ops.size - k = m → XS P r n nx ops K (ops.toList.drop k) F S obs → St r C (ext S nx obs) w N F a → a.defers = ds → Step C0 S0 w0 C (ext S nx obs) w →
      wpOpsIn (Fe r) n P ops Q' ((List.range ops.size).drop k) a w := by
  intro m
  induction m with
  | zero =>
    intro k F S obs C w a hm h st hd step
    have e1 : (List.range ops.size).drop k = [] := List.drop_eq_nil_of_le (by simp; omega)
    have e2 : ops.toList.drop k = [] := List.drop_eq_nil_of_le (by simp; omega)
    rw [e1]; rw [e2] at h
    exact hQ F S obs C w a h st hd step
  | succ m ih =>
    intro k F S obs C w a hm h st hd step
    have hk : k < ops.size := by omega
    rw [range_drop k _ hk]
    have e2 : ops.toList.drop k = ops[k] :: ops.toList.drop (k + 1) := by
      rw [List.drop_eq_getElem_cons (by simpa using hk)]; simp
    rw [e2] at h
    have hget : ops[k]? = some ops[k] := by simp
    have hdst : ∀ x, ops[k].dst = some x → x < N := hN _ (Array.getElem_mem hk)
    rw [wpOpsIn_cons]
    unfold wpOpIn
    rw [hget]
    dsimp only
    unfold XS at h
    split at h
    · exact h.elim
    · rename_i hg
      rw [gd_sound st hg]
      simp only [Bool.false_eq_true, if_false]
      exact ⟨fun _ _ => trivial, ih (k + 1) _ _ _ C w _ (by omega) h (st.put (.refl _ _ _) st.sim hdst (.sc _)) (by rw [put_defers]; exact hd) step⟩
    · rename_i hg
      rw [gd_sound st hg]
      simp only [if_true]
      refine h F (fun _ _ => rfl) C w a N st _ _ ?_
      rintro v w' C' S' p ⟨S1, obs1, rfl, hp⟩ hrel hs hstep
      exact ih (k + 1) _ _ _ C' w' _ (by omega) hp (st.put hstep hs hdst hrel) (by rw [put_defers]; exact hd) (step.trans hstep)

theorem pw_XS {id : Nat} {ops : Array Oper} (hN : dstsBelow N ops = true) (h : ∀ K : (Nat → PV) → Store → List Ob → Prop, (∀ F' S' obs', Q .normal F' (ext S' nx obs') → K F' S' obs') → XS P r n nx ops K ops.toList F S obs) : PW P r n N (.region id ops false) Q F (ext S nx obs) := by
  intro C w a st
  refine wpIn_region ?_
  have := xs_sound (Q' := fun e a' w' => ∃ F' S' C', Q e F' S' ∧ St r C' S' w' N F' a' ∧ Defs w.heap.size a.defers C' S' w' a'.defers ∧ Step C (ext S nx obs) w C' S' w') (dstsBelow_spec hN)
    (fun F' S' obs' C' w' a' hk hst hd hstep => ⟨F', _, C', hk, hst, .of_eq hd, hstep⟩) ops.size 0 F S obs C w a rfl (K := fun F' S' obs' => Q .normal F' (ext S' nx obs')) (by simpa using h _ fun _ _ _ h => h) st rfl (.refl _ _ _)
  simpa using this

/-- A region that draws no order. -/
theorem pw_N {id : Nat} {ops : Array Oper} (D : List (Nat × Nat)) (hN : dstsBelow N ops = true) (hD : guardsOk ops D = true)
    (h : ∀ (K : (Nat → PV) → Store → List Ob → Prop) (Gc : List Oper → (Nat → PV) → Store → List Ob → Option Nat → FuncId → List PV → Prop) (Gh : List Oper → (Nat → PV) → Store → List Ob → Oper → Prop),
      (∀ F' S' obs', Q .normal F' (ext S' nx obs') → K F' S' obs') →
      (∀ os F S obs d f args, (os <:+ ops.toList → SpecV P r.V f args (ext S nx obs) (fun p S' => ∃ S1 obs1, S' = ext S1 nx obs1 ∧ XS P r n nx ops K os (updO F d p) S1 obs1)) → Gc os F S obs d f args) →
      (∀ os F S obs o, (os <:+ ops.toList → PO P r n o F (ext S nx obs) (fun p S' => ∃ S1 obs1, S' = ext S1 nx obs1 ∧ XS P r n nx ops K os (updO F o.dst p) S1 obs1)) → Gh os F S obs o) →
      ∀ X : List Oper → (Nat → PV) → Store → List Ob → Prop, (∀ F S obs, X [] F S obs = K F S obs) → (∀ o os F S obs, X (o :: os) F S obs = xrs P nx D Gc Gh (X os) o os F S obs) → X ops.toList F S obs) : PW P r n N (.region id ops false) Q F (ext S nx obs) :=
  pw_XS hN fun K hK => xs_go (List.suffix_refl _) hD fun Gc Gh hc hh X h0 hX => h K Gc Gh hK hc hh X h0 hX

end
end Go.Proofs.YtafcjklojnhbnaaGreat.Pv

/- Ghost layer, part 17: regions that draw their order, reckoned; frames as lists; loops, joints, the way in and out; what is finished becomes a list. -/
namespace Go.Proofs.YtafcjklojnhbnaaGreat.Pv
open Go

section
variable (P : Program) (nx : Nat)

/-- How a region that draws its order is reckoned, X being the rest; left to the hand: calls that turn nothing (Gp), calls (Gc), the rest (Gh). -/
def xdp (ops : Array Oper) (ids : Option (List Nat)) (S0 : Store) (Gp : Row → (Nat → PV) → Store → List Ob → Option Nat → FuncId → List PV → Prop) (X : (Nat → PV) → Store → List Ob → Prop) (i : Nat) (is : Row) (F : Nat → PV) (S : Store) (obs : List Ob) : Prop :=
  match ops[i]? with
  | none => False
  | some o =>
    match gd ops F o with
    | none => False
    | some false => X (updO F o.dst (.sc undef)) S obs
    | some true =>
      match popI P F o with
      | some p => X (updO F o.dst p) S obs
      | none =>
        match loadT P ids S0 F o with
        | some p => X (updO F o.dst p) S obs
        | none =>
          match calleeX F o with
          | some (f, args) => Gp is F S obs o.dst f args
          | none => False

def xda (ops : Array Oper) (ids : Option (List Nat)) (S0 : Store) (Gc : Row → (Nat → PV) → Store → List Ob → Option Nat → FuncId → List PV → Prop) (Gh : Row → (Nat → PV) → Store → List Ob → Oper → Prop) (X : (Nat → PV) → Store → List Ob → Prop) (i : Nat) (is : Row) (F : Nat → PV) (S : Store) (obs : List Ob) : Prop :=
  match ops[i]? with
  | none => False
  | some o =>
    match gd ops F o with
    | none => False
    | some false => X (updO F o.dst (.sc undef)) S obs
    | some true =>
      match memX P nx S obs F o with
      | some (A, p, S', obs') => A ∧ Agree ids S0 (ext S' nx obs') ∧ X (updO F o.dst p) S' obs'
      | none =>
        match newX P nx S obs F o with
        | some (A, pf, of) => A ∧ ∀ v, Agree ids S0 (ext S nx (obs ++ [of v])) ∧ X (updO F o.dst (pf v)) S (obs ++ [of v])
        | none =>
          match calleeX F o with
          | some (f, args) => Gc is F S obs o.dst f args
          | none => Gh is F S obs o

def XD (ops : Array Oper) (ids : Option (List Nat)) (S0 : Store) (K : (Nat → PV) → Store → List Ob → Prop) (Gp Gc : Row → (Nat → PV) → Store → List Ob → Option Nat → FuncId → List PV → Prop) (Gh : Row → (Nat → PV) → Store → List Ob → Oper → Prop) :
    Row → (Nat → PV) → Store → List Ob → Prop
  | .done, F, S, obs => K F S obs
  | .stop, _, _, _ => True
  | .pure i is, F, S, obs => xdp P ops ids S0 Gp (XD ops ids S0 K Gp Gc Gh is) i is F S obs
  | .alt i is more, F, S, obs => xda P nx ops ids S0 Gc Gh (XD ops ids S0 K Gp Gc Gh is) i is F S obs ∧ XD ops ids S0 K Gp Gc Gh more F S obs
end

def KX (nx : Nat) (K : (Nat → PV) → Store → List Ob → Prop) (F : Nat → PV) (T : Store) : Prop := ∃ S obs, T = ext S nx obs ∧ K F S obs

section
variable {P : Program} {r : Rd} {n nx N : Nat} {Q : Exit → (Nat → PV) → Store → Prop} {F : Nat → PV} {S : Store} {obs : List Ob}

theorem memX_popS {o : Oper} {A : Prop} {p : PV} {S' : Store} {obs' : List Ob} (h : memX P nx S obs F o = some (A, p, S', obs')) (hA : A) :
    popS P F (ext S nx obs) o = some (p, ext S' nx obs') ∨ popS P F (ext S nx obs) o = none := by
  unfold memX at h
  split at h
  · rename_i t x ho
    split at h
    · rename_i q hq; cases h
      left; unfold popS; rw [ho]; simp only [hq, Option.map_some]
    · cases h
  · rename_i t x y ho
    split at h
    · rename_i id ver off hx
      split at h
      · rename_i v e cs hs
        split at h
        · rename_i hc
          obtain ⟨c1, c2, c3, c4⟩ := hc
          have main : ∀ T, (off + (ev F y).cells.length ≤ cs.length) → (ext S nx obs).set id (.cells v e (splice cs off (ev F y).cells)) = T → popS P F (ext S nx obs) o = some (.sc undef, T) := by
            intro T hT e1
            unfold popS; rw [ho]
            simp only [storeP, hx, hs]
            rw [if_pos ⟨c1, c2, c3, hT, c4⟩, e1]; rfl
          left
          split at h
          · rename_i hid
            cases h
            refine main _ hA (ext_set _ hid ?_)
            rcases Nat.lt_or_ge (id - nx) obs.length with q | q
            · exact q
            · exfalso
              simp only [ext] at hs
              rw [if_neg (by omega), List.getD_eq_getElem?_getD, List.getElem?_eq_none q] at hs
              cases hs
          · rename_i hid
            cases h
            exact main _ hA (ext_set_old _ (by omega))
        · cases h
      · cases h
    · cases h
  · rename_i c ho
    right; unfold popS; rw [ho]
  · cases h

theorem newX_popS {o : Oper} {x : Prop × (Nat → PV) × (Nat → Ob)} (h : newX P nx S obs F o = some x) (T : Store) : popS P F T o = none := by
  unfold newX at h
  unfold popS
  cases ho : o.op <;> simp only [ho] at h ⊢ <;> first | rfl | cases h

theorem calleeX_popS {o : Oper} {x : FuncId × List PV} (h : calleeX F o = some x) (T : Store) : popS P F T o = none := by
  unfold calleeX at h
  unfold popS
  cases ho : o.op <;> simp only [ho] at h ⊢ <;> first | rfl | cases h

theorem px_of_xd {ops : Array Oper} {ids : Option (List Nat)} {S0 : Store} {K : (Nat → PV) → Store → List Ob → Prop} {Gp Gc : Row → (Nat → PV) → Store → List Ob → Option Nat → FuncId → List PV → Prop} {Gh : Row → (Nat → PV) → Store → List Ob → Oper → Prop}
    (hp : ∀ is F S obs d f args, Gp is F S obs d f args → ∃ p, Pure P f args p ∧ PX P r n ops ids S0 is (updO F d p) (ext S nx obs) (KX nx K))
    (hc : ∀ is F S obs d f args, Gc is F S obs d f args → SpecV P r.V f args (ext S nx obs) (fun p S' => Agree ids S0 S' ∧ PX P r n ops ids S0 is (updO F d p) S' (KX nx K)))
    (hh : ∀ is F S obs o, Gh is F S obs o → popS P F (ext S nx obs) o = none ∧ PO P r n o F (ext S nx obs) (fun p S' => Agree ids S0 S' ∧ PX P r n ops ids S0 is (updO F o.dst p) S' (KX nx K))) :
    ∀ (row : Row) (F : Nat → PV) (S : Store) (obs : List Ob), XD P nx ops ids S0 K Gp Gc Gh row F S obs → PX P r n ops ids S0 row F (ext S nx obs) (KX nx K)
  | .done, F, S, obs, h => ⟨S, obs, rfl, h⟩
  | .stop, _, _, _, _ => trivial
  | .pure i is, F, S, obs, h => by
    unfold XD xdp at h
    unfold PX
    cases ho : ops[i]? with
    | none => simp only [ho] at h
    | some o =>
      simp only [ho] at h ⊢
      cases hg : gd ops F o with
      | none => simp only [hg] at h
      | some b =>
        cases b with
        | false => simp only [hg] at h ⊢; exact px_of_xd hp hc hh is _ _ _ h
        | true =>
          simp only [hg] at h ⊢
          cases h1 : popI P F o with
          | some p => simp only [h1] at h ⊢; exact px_of_xd hp hc hh is _ _ _ h
          | none =>
            simp only [h1] at h ⊢
            cases h2 : loadT P ids S0 F o with
            | some p => simp only [h2] at h ⊢; exact px_of_xd hp hc hh is _ _ _ h
            | none =>
              simp only [h2] at h ⊢
              cases h3 : calleeX F o with
              | none => simp only [h3] at h
              | some fa =>
                obtain ⟨f, args⟩ := fa
                simp only [h3] at h
                obtain ⟨p, q1, q2⟩ := hp _ _ _ _ _ _ _ h
                exact ⟨p, fun S' _ => calleeX_ok h3 (q1 S').v, q2⟩
  | .alt i is more, F, S, obs, h => by
    unfold XD xda at h
    unfold PX
    obtain ⟨h, hmore⟩ := h
    refine ⟨?_, px_of_xd hp hc hh more _ _ _ hmore⟩
    cases ho : ops[i]? with
    | none => simp only [ho] at h
    | some o =>
      simp only [ho] at h ⊢
      cases hg : gd ops F o with
      | none => simp only [hg] at h
      | some b =>
        cases b with
        | false => simp only [hg] at h ⊢; exact px_of_xd hp hc hh is _ _ _ h
        | true =>
          simp only [hg] at h ⊢
          cases hm : memX P nx S obs F o with
          | some x =>
            obtain ⟨A, p, S', obs'⟩ := x
            simp only [hm] at h
            obtain ⟨hA, hag, h⟩ := h
            have key := px_of_xd hp hc hh is _ _ _ h
            rcases memX_popS hm hA with e | e
            · simp only [e]; exact ⟨hag, key⟩
            · simp only [e]; exact memX_ok hm hA ⟨hag, key⟩
          | none =>
            simp only [hm] at h
            cases hw : newX P nx S obs F o with
            | some x =>
              obtain ⟨A, pf, of⟩ := x
              simp only [hw] at h
              simp only [newX_popS hw]
              exact newX_ok hw h.1 fun v => ⟨(h.2 v).1, px_of_xd hp hc hh is _ _ _ (h.2 v).2⟩
            | none =>
              simp only [hw] at h
              cases hf : calleeX F o with
              | some fa =>
                obtain ⟨f, args⟩ := fa
                simp only [hf] at h
                simp only [calleeX_popS hf]
                exact calleeX_ok hf (hc _ _ _ _ _ _ _ h)
              | none =>
                simp only [hf] at h
                obtain ⟨e, h⟩ := hh _ _ _ _ _ h
                simp only [e]; exact h

/-- The reckoning of a row of a region that draws its order. -/
theorem px_go {ops : Array Oper} {ids : Option (List Nat)} {S0 : Store} {K : (Nat → PV) → Store → List Ob → Prop} {row : Row}
    (h : ∀ (Gp Gc : Row → (Nat → PV) → Store → List Ob → Option Nat → FuncId → List PV → Prop) (Gh : Row → (Nat → PV) → Store → List Ob → Oper → Prop),
      (∀ is F S obs d f args p, Pure P f args p → PX P r n ops ids S0 is (updO F d p) (ext S nx obs) (KX nx K) → Gp is F S obs d f args) →
      (∀ is F S obs d f args, SpecV P r.V f args (ext S nx obs) (fun p S' => Agree ids S0 S' ∧ PX P r n ops ids S0 is (updO F d p) S' (KX nx K)) → Gc is F S obs d f args) →
      (∀ is F S obs o, popS P F (ext S nx obs) o = none → PO P r n o F (ext S nx obs) (fun p S' => Agree ids S0 S' ∧ PX P r n ops ids S0 is (updO F o.dst p) S' (KX nx K)) → Gh is F S obs o) →
      ∀ X : Row → (Nat → PV) → Store → List Ob → Prop, (∀ F S obs, X .done F S obs = K F S obs) → (∀ F S obs, X .stop F S obs = True) → (∀ i is F S obs, X (.pure i is) F S obs = xdp P ops ids S0 Gp (X is) i is F S obs) →
      (∀ i is more F S obs, X (.alt i is more) F S obs = (xda P nx ops ids S0 Gc Gh (X is) i is F S obs ∧ X more F S obs)) → X row F S obs) : PX P r n ops ids S0 row F (ext S nx obs) (KX nx K) :=
  px_of_xd (Gp := fun is F S obs d f args => ∃ p, Pure P f args p ∧ PX P r n ops ids S0 is (updO F d p) (ext S nx obs) (KX nx K)) (Gh := fun is F S obs o => popS P F (ext S nx obs) o = none ∧ PO P r n o F (ext S nx obs) (fun p S' => Agree ids S0 S' ∧ PX P r n ops ids S0 is (updO F o.dst p) S' (KX nx K)))
    (fun _ _ _ _ _ _ _ h => h) (fun _ _ _ _ _ _ _ h => h) (fun _ _ _ _ _ h => h) row F S obs
    (h _ _ _ (fun _ _ _ _ _ _ _ p h1 h2 => ⟨p, h1, h2⟩) (fun _ _ _ _ _ _ _ h => h) (fun _ _ _ _ _ h1 h2 => ⟨h1, h2⟩) _ (fun _ _ _ => rfl) (fun _ _ _ => rfl) (fun _ _ _ _ _ => rfl) (fun _ _ _ _ _ _ => rfl))

/-- A region that draws its order. -/
theorem pw_Y {id : Nat} {ops : Array Oper} (ids : Option (List Nat)) (row : Row) (hm : P.follows .mixedOrders = true) (hN : dstsBelow N ops = true) (hR : regOk ops = true) (hrow : rowOk ops [] [] row = true)
    (h : ∀ (K : (Nat → PV) → Store → List Ob → Prop) (Gp Gc : Row → (Nat → PV) → Store → List Ob → Option Nat → FuncId → List PV → Prop) (Gh : Row → (Nat → PV) → Store → List Ob → Oper → Prop),
      (∀ F' S' obs', Q .normal F' (ext S' nx obs') → K F' S' obs') →
      (∀ is F' S' obs' d f args p, Pure P f args p → PX P r n ops ids (ext S nx obs) is (updO F' d p) (ext S' nx obs') (KX nx K) → Gp is F' S' obs' d f args) →
      (∀ is F' S' obs' d f args, SpecV P r.V f args (ext S' nx obs') (fun p T => Agree ids (ext S nx obs) T ∧ PX P r n ops ids (ext S nx obs) is (updO F' d p) T (KX nx K)) → Gc is F' S' obs' d f args) →
      (∀ is F' S' obs' o, popS P F' (ext S' nx obs') o = none → PO P r n o F' (ext S' nx obs') (fun p T => Agree ids (ext S nx obs) T ∧ PX P r n ops ids (ext S nx obs) is (updO F' o.dst p) T (KX nx K)) → Gh is F' S' obs' o) →
      ∀ X : Row → (Nat → PV) → Store → List Ob → Prop, (∀ F S obs, X .done F S obs = K F S obs) → (∀ F S obs, X .stop F S obs = True) → (∀ i is F' S' obs', X (.pure i is) F' S' obs' = xdp P ops ids (ext S nx obs) Gp (X is) i is F' S' obs') →
      (∀ i is more F' S' obs', X (.alt i is more) F' S' obs' = (xda P nx ops ids (ext S nx obs) Gc Gh (X is) i is F' S' obs' ∧ X more F' S' obs')) → X row F S obs) : PW P r n N (.region id ops true) Q F (ext S nx obs) := by
  refine pw_draw ids row hm hN hR hrow ?_
  have := px_go (P := P) (r := r) (n := n) (nx := nx) (ops := ops) (ids := ids) (S0 := ext S nx obs) (K := fun F' S' obs' => Q .normal F' (ext S' nx obs')) (row := row) (F := F) (S := S) (obs := obs) (fun Gp Gc Gh a b c X d e f g => h _ Gp Gc Gh (fun _ _ _ h => h) a b c X d e f g)
  have mono : ∀ (row : Row) (F : Nat → PV) (T : Store), PX P r n ops ids (ext S nx obs) row F T (KX nx fun F' S' obs' => Q .normal F' (ext S' nx obs')) → PX P r n ops ids (ext S nx obs) row F T (Q .normal) := by
    have e : (KX nx fun F' S' obs' => Q .normal F' (ext S' nx obs')) = fun F' T => (∃ S' obs', T = ext S' nx obs') ∧ Q .normal F' T := by
      funext F' T
      apply propext
      constructor
      · rintro ⟨S', obs', rfl, h⟩; exact ⟨⟨S', obs', rfl⟩, h⟩
      · rintro ⟨⟨S', obs', rfl⟩, h⟩; exact ⟨S', obs', rfl, h⟩
    intro row
    induction row with
    | done => intro F T h; rw [e] at h; exact h.2
    | stop => intro F T _; trivial
    | pure i is ih =>
      intro F T h
      unfold PX at h ⊢
      cases ho : ops[i]? with
      | none => simp only [ho] at h
      | some o =>
        simp only [ho] at h ⊢
        cases hg : gd ops F o with
        | none => simp only [hg] at h
        | some b =>
          cases b with
          | false => simp only [hg] at h ⊢; exact ih _ _ h
          | true =>
            simp only [hg] at h ⊢
            cases h1 : popI P F o with
            | some p => simp only [h1] at h ⊢; exact ih _ _ h
            | none =>
              simp only [h1] at h ⊢
              cases h2 : loadT P ids (ext S nx obs) F o with
              | some p => simp only [h2] at h ⊢; exact ih _ _ h
              | none => simp only [h2] at h ⊢; obtain ⟨p, q1, q2⟩ := h; exact ⟨p, q1, ih _ _ q2⟩
    | alt i is more ih1 ih2 =>
      intro F T h
      unfold PX at h ⊢
      refine ⟨?_, ih2 _ _ h.2⟩
      have h := h.1
      cases ho : ops[i]? with
      | none => simp only [ho] at h
      | some o =>
        simp only [ho] at h ⊢
        cases hg : gd ops F o with
        | none => simp only [hg] at h
        | some b =>
          cases b with
          | false => simp only [hg] at h ⊢; exact ih1 _ _ h
          | true =>
            simp only [hg] at h ⊢
            cases h1 : popS P F T o with
            | some p => simp only [h1] at h ⊢; exact ⟨h.1, ih1 _ _ h.2⟩
            | none => simp only [h1] at h ⊢; exact po_mono h fun p S' hq => ⟨hq.1, ih1 _ _ hq.2⟩
  exact mono row F _ this

/-! ### Frames, loops, joints -/

/-- A frame of which these slots are known. -/
def fr : List (Nat × PV) → Nat → PV
  | [], _ => .junk
  | (a, p) :: l, i => if i = a then p else fr l i

theorem fr_junk : ∀ (l : List (Nat × PV)) (i : Nat), (∀ x ∈ l, x.1 ≠ i) → fr l i = .junk
  | [], _, _ => rfl
  | (a, p) :: l, i, h => by
    unfold fr
    rw [if_neg (fun e => h (a, p) (by simp) e.symm)]
    exact fr_junk l i fun x hx => h x (by simp [hx])

theorem fr_of {l : List (Nat × PV)} (h : ∀ x ∈ l, F x.1 = x.2) (i : Nat) : fr l i = F i ∨ fr l i = .junk := by
  induction l with
  | nil => exact .inr rfl
  | cons x l ih =>
    obtain ⟨a, p⟩ := x
    unfold fr
    split
    · rename_i e; subst e; exact .inl (h (i, p) (by simp)).symm
    · exact ih fun x hx => h x (by simp [hx])

theorem pw_kill {c : Code} {T T' : Store} (hk : ∀ o, T' o = T o ∨ T' o = .dead) (h : PW P r n N c Q F T') : PW P r n N c Q F T :=
  pw_ghost (fun C w a st => by
    obtain ⟨k1, k2⟩ := st.sim.kill hk
    exact ⟨C, ⟨k1, st.size, fun i => (st.fr i).mono k2, r.keep k2 st.v⟩, k2⟩) h

/-- Only these slots, and these objects, are told of any more. -/
theorem pw_to {c : Code} (L : List (Nat × PV)) {more : List Ob} (hL : ∀ x ∈ L, F x.1 = x.2) (h : PW P r n N c Q (fr L) (ext S nx obs)) : PW P r n N c Q F (ext S nx (obs ++ more)) :=
  pw_forget (F' := fr L) (fr_of hL) (pw_kill (ext_kill more) h)

/-- A place in the code: what is known there, by a state. -/
def At {σ : Type} (nx : Nat) (I : σ → Prop) (L : σ → List (Nat × PV)) (B : σ → Store) (T : σ → List Ob) (F : Nat → PV) (S : Store) : Prop :=
  ∃ s more, I s ∧ (∀ x ∈ L s, F x.1 = x.2) ∧ S = ext (B s) nx (T s ++ more)

theorem at_mk {σ : Type} {I : σ → Prop} {L : σ → List (Nat × PV)} {B : σ → Store} {T : σ → List Ob} (s : σ) (more : List Ob) (hI : I s) (hL : ∀ x ∈ L s, F x.1 = x.2) (hB : B s = S) (hT : T s ++ more = obs) : At nx I L B T F (ext S nx obs) :=
  ⟨s, more, hI, hL, by rw [hB, hT]⟩

/-- Ways meet. -/
theorem pw_join {σ : Type} (I : σ → Prop) (L : σ → List (Nat × PV)) (B : σ → Store) (T : σ → List Ob) {x y : Code} {S0 : Store} (h1 : PW P r n N x (thenQ (At nx I L B T) Q) F S0) (h2 : ∀ s, I s → PW P r n N y Q (fr (L s)) (ext (B s) nx (T s))) : PW P r n N (.seq x y) Q F S0 := by
  refine pw_seq (pw_mono h1 ?_)
  intro e F' S' hq
  cases e with
  | normal =>
    obtain ⟨s, more, hI, hL, rfl⟩ := hq
    exact pw_to (L s) hL (h2 s hI)
  | _ => exact hq

/-- What a round must end in. -/
def Again {σ : Type} (nx : Nat) (I : σ → Prop) (L : σ → List (Nat × PV)) (B : σ → Store) (T : σ → List Ob) (μ : σ → Nat) (m : Nat) (F : Nat → PV) (S : Store) : Prop :=
  ∃ s more, I s ∧ μ s < m ∧ (∀ x ∈ L s, F x.1 = x.2) ∧ S = ext (B s) nx (T s ++ more)

theorem again_mk {σ : Type} {I : σ → Prop} {L : σ → List (Nat × PV)} {B : σ → Store} {T : σ → List Ob} {μ : σ → Nat} {m : Nat} (s : σ) (more : List Ob) (hI : I s) (hm : μ s < m) (hL : ∀ x ∈ L s, F x.1 = x.2) (hB : B s = S) (hT : T s ++ more = obs) :
    Again nx I L B T μ m F (ext S nx obs) := ⟨s, more, hI, hm, hL, by rw [hB, hT]⟩

theorem pw_loopB {σ : Type} (I : σ → Prop) (L : σ → List (Nat × PV)) (B : σ → Store) (T : σ → List Ob) (μ : σ → Nat) {c : Code} {S0 : Store} (h0 : At nx I L B T F S0)
    (round : ∀ s, I s → PW P r n N c (thenQ (Again nx I L B T μ (μ s)) Q) (fr (L s)) (ext (B s) nx (T s))) : PW P r n N (.loop c) Q F S0 := by
  obtain ⟨s0, more0, hI0, hL0, rfl⟩ := h0
  refine pw_loop (fun F' S' m => ∃ s more, I s ∧ m = μ s ∧ (∀ x ∈ L s, F' x.1 = x.2) ∧ S' = ext (B s) nx (T s ++ more)) (μ s0) ⟨s0, more0, hI0, rfl, hL0, rfl⟩ ?_
  rintro m F1 S1 ⟨s, more, hI, rfl, hL, rfl⟩
  refine pw_to (L s) hL (pw_mono (round s hI) ?_)
  intro e F' S' hq
  cases e with
  | normal =>
    obtain ⟨s', more', h1, h2, h3, h4⟩ := hq
    exact ⟨μ s', ⟨s', more', h1, rfl, h3, h4⟩, h2⟩
  | _ => exact hq

/-- A loop that turns only the call's own objects. -/
theorem pw_loopL {σ : Type} (I : σ → Prop) (L : σ → List (Nat × PV)) (T : σ → List Ob) (μ : σ → Nat) (s0 : σ) {c : Code} (more : List Ob) (hI : I s0) (hL : ∀ x ∈ L s0, F x.1 = x.2) (hT : T s0 ++ more = obs)
    (round : ∀ s, I s → PW P r n N c (thenQ (Again nx I L (fun _ => S) T μ (μ s)) Q) (fr (L s)) (ext S nx (T s))) : PW P r n N (.loop c) Q F (ext S nx obs) :=
  pw_loopB I L (fun _ => S) T μ (at_mk s0 more hI hL rfl hT) round

/-! ### In and out -/

theorem spec_enter {f : FuncId} {fn : Func} {c : Code} {rs : List ResultVar} {args : List PV} {Q : PV → Store → Prop} (hf : P.funcs[f]? = some fn) (hname : (fn.name == "runtime.NumGoroutine") = false) (hb : fn.body = some c) (hN : fn.ntmps = N) (hrs : fn.results.toList = rs) (hargs : args.length ≤ N)
    (h : ∀ nx, DeadFrom nx S → PW P nor 0 N c (retQ P rs Q) (frame0 args) (ext S nx [])) : Spec P f args S Q := by
  refine ⟨enters_of hf hname hb, ?_⟩
  intro C w vs hS
  have hd : DeadFrom C.next S := fun i hi => by
    cases hs : S i with
    | dead => rfl
    | cells v e cs => have := hS.lt i (by rw [hs]; simp); omega
    | map v es => have := hS.lt i (by rw [hs]; simp); omega
  have := h C.next hd
  rw [ext_nil hd] at this
  exact pcalls_of_pw hf hb hN hrs hargs this C w vs hS

theorem spec_at {f : FuncId} {fn : Func} {c : Code} {rs : List ResultVar} {args : List PV} {Q : PV → Store → Prop} (hd : DeadFrom nx S) (hf : P.funcs[f]? = some fn) (hname : (fn.name == "runtime.NumGoroutine") = false) (hb : fn.body = some c) (hN : fn.ntmps = N) (hrs : fn.results.toList = rs) (hargs : args.length ≤ N)
    (h : PW P nor 0 N c (retQ P rs Q) (frame0 args) (ext S nx [])) : Spec P f args S Q := by
  refine ⟨enters_of hf hname hb, ?_⟩
  rw [ext_nil hd] at h
  exact pcalls_of_pw hf hb hN hrs hargs h

theorem pure_enter {f : FuncId} {fn : Func} {c : Code} {rs : List ResultVar} {args : List PV} {v : PV} (hf : P.funcs[f]? = some fn) (hname : (fn.name == "runtime.NumGoroutine") = false) (hb : fn.body = some c) (hN : fn.ntmps = N) (hrs : fn.results.toList = rs) (hargs : args.length ≤ N)
    (h : ∀ S nx, DeadFrom nx S → PW P nor 0 N c (retQ P rs (fun p S' => p = v ∧ S' = S)) (frame0 args) (ext S nx [])) : Pure P f args v :=
  fun S => spec_enter hf hname hb hN hrs hargs (h S)

theorem ret_pure {rs : List ResultVar} {v : PV} {ps : List PV} (hd : DeadFrom nx S) (h1 : resL P F (ext S nx obs) rs = some ps) (h2 : oneOf ps = v) :
    ∃ ps S', resL P F (ext S nx obs) rs = some ps ∧ (oneOf ps = v ∧ S' = S) ∧ ∀ o, S' o = ext S nx obs o ∨ S' o = .dead :=
  ⟨ps, S, h1, ⟨h2, rfl⟩, ext_kill0 hd⟩

theorem keep_one (hd : DeadFrom nx S) {j : Nat} {x : Ob} (hj : obs[j]? = some x) (o : Nat) : S.set (nx + j) x o = ext S nx obs o ∨ S.set (nx + j) x o = .dead := by
  by_cases ho : o = nx + j
  · subst ho; rw [Store.set_same, ext_at, List.getD_eq_getElem?_getD, hj]; exact .inl rfl
  · rw [Store.set_other _ _ _ _ ho]; exact ext_kill0 hd o

/-! ### Slices -/

/-- A nil slice becomes an object of the call's own. -/
theorem pw_nilX {c : Code} (d e sz : Nat) (hF : F d = .sc (.slice none 0 0)) (h : ∀ v, PW P r n N c Q (upd F d (.sl (nx + obs.length) v sz 0 0)) (ext S nx (obs ++ [.cells v e []]))) : PW P r n N c Q F (ext S nx obs) :=
  pw_nil0 d e sz hF (freshAt (X := fun id v => PW P r n N c Q (upd F d (.sl id v sz 0 0)) ((ext S nx obs).set id (.cells v e []))) _ ext_new fun v => by rw [ext_push]; exact h v)

theorem pw_nilObX {c : Code} {ver e0 : Nat} {cs : List PV} (j i e sz : Nat) (hj : obs[j]? = some (.cells ver e0 cs)) (hi : cs[i]? = some (.sc (.slice none 0 0)))
    (h : ∀ v, PW P r n N c Q F (ext S nx (obs.set j (.cells ver e0 (cs.set i (.sl (nx + obs.length) v sz 0 0))) ++ [.cells v e []]))) : PW P r n N c Q F (ext S nx obs) := by
  have hjl : j < obs.length := (List.getElem?_eq_some_iff.1 hj).1
  refine pw_nilOb0 (o := nx + j) i e sz (by rw [ext_at, List.getD_eq_getElem?_getD, hj]; rfl) hi (freshAt (X := fun id v => PW P r n N c Q F (((ext S nx obs).set id (.cells v e [])).set (nx + j) (.cells ver e0 (cs.set i (.sl id v sz 0 0))))) _ ext_new fun v => ?_)
  rw [ext_push, ext_set _ (by omega) (by simp; omega), Nat.add_sub_cancel_left, List.set_append_left _ _ hjl]
  exact h v

theorem pw_nil_lst {c : Code} {T : Store} (d : Nat) (hF : F d = .sc (.slice none 0 0)) (h : PW P r n N c Q (upd F d (.lst 0 [])) T) : PW P r n N c Q F T :=
  pw_ghost (fun C w a st => ⟨C, ⟨st.sim, st.size, fun i => by
    by_cases hi : i = d
    · subst hi
      rw [upd_same]
      have := st.fr i
      rw [hF] at this
      generalize a.tmps.getD i undef = v at this
      cases this
      exact .lst0
    · rw [upd_other _ _ _ _ hi]; exact st.fr i, st.v⟩, .refl _ _ _⟩) h

/-- A slice that is finished becomes a list. -/
def frzP (id ver : Nat) (cs : List PV) (p : PV) : PV :=
  match p with
  | .sl o v sz 0 k => if o = id ∧ v = ver ∧ k * sz = cs.length then .lst k cs else .sl o v sz 0 k
  | p => p

def frzO (id ver : Nat) (cs : List PV) (x : Ob) : Ob :=
  match x with
  | .cells v e ds => .cells v e (ds.map (frzP id ver cs))
  | x => x

theorem frzO_ver (id ver : Nat) (cs : List PV) (x : Ob) : (frzO id ver cs x).ver = x.ver := by cases x <;> rfl

theorem frz_rel {C : Ctx} {S T : Store} {w : World} {id ver e : Nat} {cs : List PV} (hS : Sim C S w) (hid : S id = .cells ver e cs) (hT : T id = .dead) (hTS : ∀ o, T o ≠ .dead → S o ≠ .dead) (st : Step C S w C T w) {p : PV} {u : Value}
    (h : Rel C S w p u) : Rel C T w (frzP id ver cs p) u := by
  unfold frzP
  split
  · rename_i o v sz k
    split
    · rename_i hc
      obtain ⟨rfl, rfl, hk⟩ := hc
      cases h with
      | sl h1 h2 h3 =>
        obtain ⟨ad, cap, rfl, q1, q2, q3, q4⟩ := h1
        have hnM : ∀ b k', C.loc o = some (b, k') → ¬ C.M T b := by
          rintro b k' hl ⟨i, k2, hi, hl2⟩
          by_cases hoi : i = o
          · subst hoi; exact hi hT
          · exact hoi (hS.dist i o b k2 k' (hTS i hi) (by rw [hid]; simp) hl2 hl)
        rcases (h3 v (by rw [hid]; rfl)).2 rfl with ⟨z1, z2, _, z4⟩ | ⟨b, k', ad', cap', z1, z2, z3, z4⟩
        · subst z2
          have : cs = [] := List.eq_nil_of_length_eq_zero (by omega)
          subst this
          cases z4
          exact .lst0
        · cases z2
          rcases hS.cells o v e cs hid with ⟨hn, _⟩ | ⟨b2, kk, c, g1, g2, g3, g4, g5, g6⟩
          · rw [hn] at z1; cases z1
          · rw [g1] at z1; cases z1
            obtain ⟨rfl, _⟩ := z3 rfl
            exact .lst1 q1 q2 g2 (hnM _ _ g1) (fun _ => by omega) (fun j v hj hv => g5 j v hj (by simpa using hv)) (fun j p v hp hv => (g6 j p v hp (by simpa using hv)).mono st)
    · exact h.mono st
  · exact h.mono st

theorem pw_frz {c : Code} (j : Nat) {ver e : Nat} {cs : List PV} (hj : obs[j]? = some (.cells ver e cs)) (h : PW P r n N c Q (fun i => frzP (nx + j) ver cs (F i)) (ext S nx ((obs.map (frzO (nx + j) ver cs)).set j .dead))) : PW P r n N c Q F (ext S nx obs) := by
  have hjl : j < obs.length := (List.getElem?_eq_some_iff.1 hj).1
  refine pw_ghost (F' := fun i => frzP (nx + j) ver cs (F i)) (S' := ext S nx ((obs.map (frzO (nx + j) ver cs)).set j .dead)) (fun C w a st => ?_) h
  have hid : ext S nx obs (nx + j) = .cells ver e cs := by rw [ext_at, List.getD_eq_getElem?_getD, hj]; rfl
  have hT : ext S nx ((obs.map (frzO (nx + j) ver cs)).set j .dead) (nx + j) = .dead := by rw [ext_at, List.getD_eq_getElem?_getD, List.getElem?_set_self (by simpa using hjl)]; rfl
  -- what stands under each number
  have hat : ∀ o, ext S nx ((obs.map (frzO (nx + j) ver cs)).set j .dead) o = .dead ∨ (o < nx ∧ ext S nx ((obs.map (frzO (nx + j) ver cs)).set j .dead) o = ext S nx obs o) ∨ (nx ≤ o ∧ ext S nx ((obs.map (frzO (nx + j) ver cs)).set j .dead) o = frzO (nx + j) ver cs (ext S nx obs o)) := by
    intro o
    by_cases ho : o < nx
    · exact .inr (.inl ⟨ho, by rw [ext_old ho, ext_old ho]⟩)
    · by_cases hoj : o = nx + j
      · subst hoj; exact .inl hT
      · refine .inr (.inr ⟨by omega, ?_⟩)
        simp only [ext]
        rw [if_neg ho, if_neg ho, List.getD_eq_getElem?_getD, List.getD_eq_getElem?_getD, List.getElem?_set_ne (by omega), List.getElem?_map]
        cases obs[o - nx]? <;> rfl
  generalize hTT : ext S nx ((obs.map (frzO (nx + j) ver cs)).set j .dead) = T at *
  generalize hSS : ext S nx obs = S1 at *
  have hver : ∀ o v, (T o).ver = some v → (S1 o).ver = some v := by
    intro o v hv
    rcases hat o with q | ⟨_, q⟩ | ⟨_, q⟩
    · rw [q] at hv; cases hv
    · rw [q] at hv; exact hv
    · rw [q, frzO_ver] at hv; exact hv
  have hne : ∀ o, T o ≠ .dead → S1 o ≠ .dead := by
    intro o ho hd
    rcases hat o with q | ⟨_, q⟩ | ⟨_, q⟩
    · exact ho q
    · exact ho (q.trans hd)
    · rw [hd] at q; exact ho q
  have hM : ∀ b, C.M T b → C.M S1 b := fun b ⟨o, k, ho, hl⟩ => ⟨o, k, hne o ho, hl⟩
  have hstep : Step C S1 w C T w := ⟨rfl, ⟨rfl, Nat.le_refl _⟩, rfl, Nat.le_refl _, Nat.le_refl _, Nat.le_refl _, fun b _ hb => ⟨rfl, fun h => hb (hM b h)⟩, fun o v1 hv => .inr ⟨v1, hver o v1 hv, Nat.le_refl _, fun _ => rfl⟩⟩
  have hrel : ∀ {p u}, Rel C S1 w p u → Rel C T w (frzP (nx + j) ver cs p) u := fun h => frz_rel st.sim hid hT hne hstep h
  refine ⟨C, ⟨⟨fun o ho => st.sim.lt o (hne o ho), fun o v hv => st.sim.clk o v (hver o v hv), fun o o' b k k' ho ho' => st.sim.dist o o' b k k' (hne o ho) (hne o' ho'), ?_, ?_⟩, st.size, fun i => hrel (st.fr i), r.keep hstep st.v⟩, hstep⟩
  · intro o v e' ds ho
    rcases hat o with q | ⟨_, q⟩ | ⟨_, q⟩
    · rw [q] at ho; cases ho
    · rw [q] at ho
      rcases st.sim.cells o v e' ds ho with hn | ⟨b, k, c, h1, h2, h3, h4, h5, h6⟩
      · exact .inl hn
      · exact .inr ⟨b, k, c, h1, h2, h3, h4, h5, fun i p u hp hu => (h6 i p u hp hu).mono hstep⟩
    · rw [q] at ho
      cases hs : S1 o with
      | dead => rw [hs] at ho; cases ho
      | map v es => rw [hs] at ho; cases ho
      | cells v2 e2 ds2 =>
        rw [hs] at ho
        cases ho
        rcases st.sim.cells o _ _ ds2 hs with ⟨h1, h2⟩ | ⟨b, k, c, h1, h2, h3, h4, h5, h6⟩
        · exact .inl ⟨h1, by rw [h2]; rfl⟩
        · refine .inr ⟨b, k, c, h1, h2, h3, by simpa using h4, fun i v hi hv => h5 i v (by simpa using hi) hv, fun i p u hp hu => ?_⟩
          rw [List.getElem?_map] at hp
          obtain ⟨p0, hp0, rfl⟩ := Option.map_eq_some_iff.1 hp
          exact hrel (h6 i p0 u hp0 hu)
  · intro o v es ho
    have hs : S1 o = .map v es := by
      rcases hat o with q | ⟨_, q⟩ | ⟨_, q⟩
      · rw [q] at ho; cases ho
      · rw [q] at ho; exact ho
      · rw [q] at ho
        cases hs : S1 o with
        | dead => rw [hs] at ho; cases ho
        | map v es => rw [hs] at ho; exact ho
        | cells v2 e2 ds2 => rw [hs] at ho; cases ho
    obtain ⟨b, k, ms, cl, h1, h2, h3, h4⟩ := st.sim.maps o v es hs
    exact ⟨b, k, ms, cl, h1, h2, h3, fun i x m hx hm => ⟨(h4 i x m hx hm).1, (h4 i x m hx hm).2.mono hstep⟩⟩

end
end Go.Proofs.YtafcjklojnhbnaaGreat.Pv

/- Ghost layer, part 18: what the reckoning rewrites with, once more. -/
namespace Go.Proofs.YtafcjklojnhbnaaGreat.Pv
open Go

attribute [simp] pstr eqF gsl gdD xrs xdp xda memX newX calleeX elemX fr frzP frzO

/-- Integers and truth values, as they stand in a frame. -/
abbrev I (x : Int) : PV := .sc (.int .i64 x)
abbrev B (b : Bool) : PV := .sc (.bool b)

def PV.nosl : PV → Bool
  | .sl _ _ _ _ _ => false
  | _ => true

/-- How a type's values lie in cells. -/
class Enc (α : Type) where
  enc : α → List PV
  sz : Nat
  len : ∀ x, (enc x).length = sz
  nosl : ∀ x, (enc x).all PV.nosl = true

theorem frz_nosl (id v : Nat) (cs : List PV) (p : PV) (h : p.nosl = true) : frzP id v cs p = p := by
  cases p <;> first | rfl | cases h
@[simp] theorem frz_flat {α : Type} [Enc α] (id v : Nat) (cs : List PV) (l : List α) : (l.flatMap Enc.enc).map (frzP id v cs) = l.flatMap Enc.enc := by
  rw [List.map_congr_left (g := fun p => p), List.map_id']
  intro p hp
  obtain ⟨x, _, hx⟩ := List.mem_flatMap.1 hp
  exact frz_nosl _ _ _ _ (List.all_eq_true.1 (Enc.nosl x) p hx)

/-- A list whose elements take sz cells each. -/
abbrev L {α : Type} [Enc α] (l : List α) : PV := .lst l.length (l.flatMap Enc.enc)

theorem flat_length {α : Type} [Enc α] (l : List α) : (l.flatMap Enc.enc).length = l.length * Enc.sz α := flat_len Enc.enc _ Enc.len l
theorem flat_take' {α : Type} [Enc α] (l : List α) : (l.flatMap Enc.enc).take (l.length * Enc.sz α) = l.flatMap Enc.enc := by
  rw [flat_take Enc.enc _ Enc.len, List.take_length]
theorem flat_dr {α : Type} [Enc α] {l : List α} {k : Nat} (h : k < l.length) : (l.flatMap Enc.enc).drop (k * Enc.sz α) = Enc.enc l[k] ++ (l.drop (k + 1)).flatMap Enc.enc := flat_at Enc.enc _ Enc.len l k h

instance : Enc Int := ⟨fun x => [I x], 1, fun _ => rfl, fun _ => rfl⟩
@[simp] theorem enc_int (x : Int) : Enc.enc x = [I x] := rfl
@[simp high] theorem flen_int (l : List Int) : (l.flatMap Enc.enc).length = l.length := (flat_length l).trans (Nat.mul_one _)
@[simp high] theorem ftake_int (l : List Int) : (l.flatMap Enc.enc).take l.length = l.flatMap Enc.enc := List.take_of_length_le (Nat.le_of_eq (flen_int l))

/-- What stands at a place of a list. -/
theorem el {α : Type} [Enc α] (n : Nat) (hn : Enc.sz α = n) (l : List α) (k : Nat) (h : k < l.length) :
    ∃ s tl, l[k]? = some s ∧ l.drop k = s :: l.drop (k + 1) ∧ l.take (k + 1) = l.take k ++ [s] ∧ (∀ j, j ≤ n → (l.flatMap Enc.enc).drop (k * n + j) = (Enc.enc s).drop j ++ tl) ∧ (l.flatMap Enc.enc).drop (k * n) = Enc.enc s ++ tl := by
  subst hn
  have h0 := flat_dr h
  refine ⟨l[k], (l.drop (k + 1)).flatMap Enc.enc, List.getElem?_eq_getElem h, List.drop_eq_getElem_cons h, by rw [List.take_succ_eq_append_getElem h], fun j hj => ?_, h0⟩
  rw [← List.drop_drop, h0, List.drop_append_of_le_length (by rw [Enc.len]; exact hj)]

theorem el1 {α : Type} [Enc α] (hn : Enc.sz α = 1) (l : List α) (k : Nat) (h : k < l.length) :
    ∃ s tl, l[k]? = some s ∧ l.drop k = s :: l.drop (k + 1) ∧ l.take (k + 1) = l.take k ++ [s] ∧ (l.flatMap Enc.enc).drop k = Enc.enc s ++ tl := by
  obtain ⟨s, tl, a1, a2, a3, _, e0⟩ := el 1 hn l k h
  exact ⟨s, tl, a1, a2, a3, by rw [← e0, Nat.mul_one]⟩

theorem pw_ct {P : Program} {r : Rd} {n N : Nat} {Q : Exit → (Nat → PV) → Store → Prop} {F : Nat → PV} {S : Store} {c : Operand} {x y : Code} (hc : ev F c = .sc (.bool true)) (h : PW P r n N x Q F S) : PW P r n N (.cond c x y) Q F S :=
  pw_cond hc (fun _ => h) (fun e => nomatch e)
theorem pw_cf {P : Program} {r : Rd} {n N : Nat} {Q : Exit → (Nat → PV) → Store → Prop} {F : Nat → PV} {S : Store} {c : Operand} {x y : Code} (hc : ev F c = .sc (.bool false)) (h : PW P r n N y Q F S) : PW P r n N (.cond c x y) Q F S :=
  pw_cond hc (fun e => nomatch e) (fun _ => h)

theorem wr (x : Int) (h1 : -9223372036854775808 ≤ x) (h2 : x ≤ 9223372036854775807) : IntKind.i64.wrap x = x := wrap64 x h1 h2
theorem wrN (k : Nat) (h : k < 9223372036854775807) : IntKind.i64.wrap ((k : Int) + 1) = ((k + 1 : Nat) : Int) := by rw [wrap64 _ (by omega) (by omega)]; omega

/-- Into the range of int. -/
abbrev W (x : Int) : Int := IntKind.i64.wrap x
@[simp] theorem W_zero : W 0 = 0 := rfl
theorem W_add (a b : Int) : W (W a + b) = W (a + b) := by simp only [W, IntKind.wrap_i64]; omega
theorem W_add' (a b : Int) : W (a + W b) = W (a + b) := by simp only [W, IntKind.wrap_i64]; omega
theorem W_sub (a b : Int) : W (W a - b) = W (a - b) := by simp only [W, IntKind.wrap_i64]; omega
theorem W_sub' (a b : Int) : W (a - W b) = W (a - b) := by simp only [W, IntKind.wrap_i64]; omega
theorem W_neg (a : Int) : W (- W a) = W (- a) := by simp only [W, IntKind.wrap_i64]; omega
theorem W_W (a : Int) : W (W a) = W a := by simp only [W, IntKind.wrap_i64]; omega

/-- What is given as an object of one's own may be taken for a list. -/
theorem own_pure {P : Program} {f : FuncId} {args : List PV} {sz k e : Nat} {cs : List PV} (j : Nat)
    (h : ∀ S nx, DeadFrom nx S → Spec P f args S (fun p S' => ∃ v, p = .sl (nx + j) v sz 0 k ∧ S' = S.set (nx + j) (.cells v e cs))) (hk : k * sz = cs.length) : Pure P f args (.lst k cs) := by
  intro S
  refine ⟨(h (fun _ => .dead) 0 (fun _ _ => rfl)).1, ?_⟩
  intro C w vs hS hl hr
  have hd : DeadFrom C.next S := fun i hi => by
    cases hs : S i with
    | dead => rfl
    | cells v e cs => have := hS.lt i (by rw [hs]; simp); omega
    | map v es => have := hS.lt i (by rw [hs]; simp); omega
  refine ((h S C.next hd).2 C w vs hS hl hr).mono ?_
  rintro e' w' ⟨p, u, S', C', rfl, ⟨v, rfl, rfl⟩, hrel, hsim, hstep⟩
  have hdj := hd (C.next + j) (by omega)
  have hkk : ∀ o, S o = S.set (C.next + j) (.cells v e cs) o ∨ S o = .dead := by
    intro o
    by_cases ho : o = C.next + j
    · subst ho; exact .inr hdj
    · exact .inl (Store.set_other _ _ _ _ ho).symm
  obtain ⟨k1, k2⟩ := hsim.kill hkk
  refine ⟨.lst k cs, u, S, C', rfl, ⟨rfl, rfl⟩, ?_, k1, hstep.trans k2⟩
  have := frz_rel hsim (Store.set_same _ _ _) hdj (fun o ho => by
    rcases hkk o with q | q
    · rw [← q]; exact ho
    · exact absurd q ho) k2 hrel
  simpa [frzP, hk] using this

theorem ext_push1 {S : Store} {nx : Nat} {obs : List Ob} (x : Ob) : (ext S nx obs).set (nx + obs.length + 1) x = ext S nx (obs ++ [.dead, x]) := by
  have e : ext S nx obs = ext S nx (obs ++ [.dead]) := by
    funext i
    simp only [ext]
    split
    · rfl
    · rw [List.getD_eq_getElem?_getD, List.getD_eq_getElem?_getD]
      by_cases h3 : i - nx < obs.length
      · rw [List.getElem?_append_left h3]
      · rw [List.getElem?_eq_none (by omega)]
        by_cases h4 : i - nx = obs.length
        · rw [List.getElem?_append_right (by omega), h4]; simp
        · rw [List.getElem?_eq_none (by simp; omega)]
  rw [e]
  have := ext_push (S := S) (nx := nx) (obs := obs ++ [.dead]) x
  simpa [Nat.add_assoc] using this

/-- A nil slice in an object's cell is an empty list. -/
theorem pw_nilC {P : Program} {r : Rd} {n nx N : Nat} {Q : Exit → (Nat → PV) → Store → Prop} {F : Nat → PV} {S : Store} {obs : List Ob} {c : Code} {ver e0 : Nat} {cs : List PV} (j i : Nat) (hj : obs[j]? = some (.cells ver e0 cs)) (hi : cs[i]? = some (.sc (.slice none 0 0)))
    (h : PW P r n N c Q F (ext S nx (obs.set j (.cells ver e0 (cs.set i (.lst 0 [])))))) : PW P r n N c Q F (ext S nx obs) := by
  have hjl : j < obs.length := (List.getElem?_eq_some_iff.1 hj).1
  refine pw_ghost (F' := F) (S' := ext S nx (obs.set j (.cells ver e0 (cs.set i (.lst 0 []))))) (fun C w a st => ?_) h
  have hs : ext S nx obs (nx + j) = .cells ver e0 cs := by rw [ext_at, List.getD_eq_getElem?_getD, hj]; rfl
  have := st.sim.relabel (cs' := cs.set i (.lst 0 [])) hs (by simp) (by
    intro k p' hp'
    rw [List.getElem?_set] at hp'
    split at hp'
    · rename_i hij
      subst hij
      split at hp'
      · cases hp'
        refine .inr ⟨_, hi, fun v hv => ?_⟩
        cases hv
        exact .lst0
      · cases hp'
    · exact .inl hp')
  rw [ext_set _ (by omega) (by omega), Nat.add_sub_cancel_left] at this
  exact ⟨C, ⟨this.1, st.size, fun k => (st.fr k).mono this.2, r.keep this.2 st.v⟩, this.2⟩

/-- Ways meet ahead of what follows. -/
theorem pw_joinK {P : Program} {r : Rd} {n nx N : Nat} {Q Q2 : Exit → (Nat → PV) → Store → Prop} {F : Nat → PV} {σ : Type} (I : σ → Prop) (L : σ → List (Nat × PV)) (B : σ → Store) (T : σ → List Ob) {x y : Code} {S0 : Store}
    (h1 : PW P r n N x (thenQ (At nx I L B T) Q) F S0) (h2 : ∀ s, I s → PW P r n N y Q2 (fr (L s)) (ext (B s) nx (T s))) : PW P r n N x (thenQ (PW P r n N y Q2) Q) F S0 := by
  refine pw_mono h1 ?_
  intro e F' S' hq
  cases e with
  | normal =>
    obtain ⟨s, more, hI, hL, rfl⟩ := hq
    exact pw_to (L s) hL (h2 s hI)
  | _ => exact hq

theorem pw_drop {P : Program} {r : Rd} {n nx N : Nat} {Q : Exit → (Nat → PV) → Store → Prop} {F : Nat → PV} {S : Store} {obs : List Ob} {c : Code} (obs' more : List Ob) (he : obs = obs' ++ more) (h : PW P r n N c Q F (ext S nx obs')) : PW P r n N c Q F (ext S nx obs) := by subst he; exact pw_kill (ext_kill more) h

/-- What follows is shown once; each way goes on to it. -/
theorem pw_cutK {P : Program} {r : Rd} {n nx N : Nat} {Q Q2 : Exit → (Nat → PV) → Store → Prop} {F : Nat → PV} {σ : Type} (I : σ → Prop) (L : σ → List (Nat × PV)) (B : σ → Store) (T : σ → List Ob) {x y : Code} {S0 : Store}
    (h1 : (∀ s more F' S' obs', I s → (∀ z ∈ L s, F' z.1 = z.2) → B s = S' → T s ++ more = obs' → PW P r n N y Q2 F' (ext S' nx obs')) → PW P r n N x (thenQ (PW P r n N y Q2) Q) F S0)
    (h2 : ∀ s, I s → PW P r n N y Q2 (fr (L s)) (ext (B s) nx (T s))) : PW P r n N x (thenQ (PW P r n N y Q2) Q) F S0 :=
  h1 fun s more F' S' obs' hI hL hB hT => by subst hB; subst hT; exact pw_to (L s) hL (h2 s hI)

/-- Whatever stands for p stands for q. -/
def Wk (p q : PV) : Prop := ∀ (C : Ctx) (S : Store) (w : World) (v : Value), Rel C S w p v → Rel C S w q v
theorem Wk.rfl {p : PV} : Wk p p := fun _ _ _ _ h => h
theorem Wk.nil : Wk (.sc (.slice none 0 0)) (.lst 0 []) := fun _ _ _ _ h => by cases h; exact .lst0

inductive WkL : List PV → List PV → Prop where
  | nil : WkL [] []
  | cons {p q : PV} {l m : List PV} (h : Wk p q) (t : WkL l m) : WkL (p :: l) (q :: m)

theorem WkL.rfl : ∀ {l : List PV}, WkL l l
  | [] => .nil
  | _ :: _ => .cons Wk.rfl WkL.rfl
theorem WkL.len {l m : List PV} (h : WkL l m) : l.length = m.length := by induction h <;> simp_all
theorem WkL.at {l m : List PV} (h : WkL l m) : ∀ (i : Nat) (q : PV), m[i]? = some q → ∃ p, l[i]? = some p ∧ Wk p q := by
  induction h with
  | nil => intro i q hq; cases hq
  | cons h t ih =>
    intro i q hq
    cases i with
    | zero => simp at hq; subst hq; exact ⟨_, by simp, h⟩
    | succ i => simpa using ih i q (by simpa using hq)
theorem Wk.agg {cs ds : List PV} (h : WkL cs ds) : Wk (.agg cs) (.agg ds) := by
  intro C S w v hr
  cases hr with
  | agg hl h1 h2 =>
    refine .agg (h.len ▸ hl) h1 fun i q v hq hv => ?_
    obtain ⟨p, hp, hw⟩ := h.at i q hq
    exact hw _ _ _ _ (h2 i p v hp hv)
theorem Wk.lst {n : Nat} {cs ds : List PV} (h : WkL cs ds) : Wk (.lst n cs) (.lst n ds) := by
  intro C S w v hr
  cases hr with
  | lst0 => cases h; exact .lst0
  | lst1 hn hm hb hM hs h1 h2 =>
    refine .lst1 hn hm hb hM (fun hne => ?_) (fun i v hi hv => h1 i v (by rw [h.len]; exact hi) hv) fun i q v hq hv => ?_
    · rw [← h.len]; exact hs (by intro e; subst e; cases h; exact hne _root_.rfl)
    · obtain ⟨p, hp, hw⟩ := h.at i q hq
      exact hw _ _ _ _ (h2 i p v hp hv)

theorem spec_wk {P : Program} {f : FuncId} {args args' : List PV} {S : Store} {Q : PV → Store → Prop} (hw : WkL args args') (h : Spec P f args' S Q) : Spec P f args S Q := by
  refine ⟨h.1, fun C w vs hS hl hr => h.2 C w vs hS (hw.len ▸ hl) fun i q v hq hv => ?_⟩
  obtain ⟨p, hp, hk⟩ := hw.at i q hq
  exact hk _ _ _ _ (hr i p v hp hv)
theorem pure_wk {P : Program} {f : FuncId} {args args' : List PV} {v : PV} (hw : WkL args args') (h : Pure P f args' v) : Pure P f args v := fun S => spec_wk hw (h S)

end Go.Proofs.YtafcjklojnhbnaaGreat.Pv

/- Ghost layer, part 19: iterators, and loops over them; what is finished becomes constant, pointers and captured ones too. -/
namespace Go.Proofs.YtafcjklojnhbnaaGreat.Pv
open Go

/-! ### Blocks that hold neither cells nor a map -/

theorem keep_put {w : World} {D : Nat} {x y : Obj} (hD : w.heap[D]? = some x) (b : Nat) (o : Obj) (hb : w.heap[b]? = some o) (ho : o ≠ x) : (w.putObj D y).heap[b]? = some o := by
  rw [World.putObj_heap_other (by rintro rfl; rw [hD] at hb; cases hb; exact ho rfl)]; exact hb

/-- An object that holds neither cells nor a map. -/
def Obj.odd (x : Obj) : Prop := (∀ c e f, x ≠ .cells c e f) ∧ (∀ m k, x ≠ .map m k)

theorem odd_loop (r : Loop) : Obj.odd (.loop r) := ⟨fun _ _ _ e => (by cases e), fun _ _ e => (by cases e)⟩

theorem rel_put {C : Ctx} {S : Store} {w : World} {D : Nat} {x y : Obj} (hD : w.heap[D]? = some x) (hx : Obj.odd x) {p : PV} {v : Value} (hr : Rel C S w p v) : Rel C S (w.putObj D y) p v := by
  have hne := keep_put (y := y) hD
  induction hr with
  | junk v => exact .junk v
  | sc v => exact .sc v
  | agg hl h1 _ ih => exact .agg hl h1 ih
  | tup hl _ ih => exact .tup hl ih
  | lst0 => exact .lst0
  | lst1 hn hm hb hM' hs h1 _ ih => exact .lst1 hn hm (hne _ _ hb (fun e => hx.1 _ _ _ e.symm)) hM' hs h1 ih
  | ip hb hM' hs h1 _ ih => exact .ip (hne _ _ hb (fun e => hx.1 _ _ _ e.symm)) hM' hs h1 ih
  | ptr h1 ho h => exact .ptr h1 ho h
  | sl h1 ho h => exact .sl h1 ho h
  | fn hf hc _ _ ih ih' => exact .fn hf hc ih ih'
  | ifc _ ih => exact .ifc ih
  | mp h1 ho h => exact .mp h1 ho h

theorem Sim.put {C : Ctx} {S : Store} {w : World} (h : Sim C S w) {D : Nat} {x y : Obj} (hD : w.heap[D]? = some x) (hx : Obj.odd x) : Sim C S (w.putObj D y) := by
  have hne := keep_put (y := y) hD
  refine ⟨h.lt, h.clk, h.dist, ?_, ?_⟩
  · intro o ver e cs hs
    rcases h.cells o ver e cs hs with hn | ⟨b, k, c, h1, h2, h3, h4, h5, h6⟩
    · exact .inl hn
    · exact .inr ⟨b, k, c, h1, hne _ _ h2 (fun e => hx.1 _ _ _ e.symm), h3, h4, h5, fun i p v hp hv => rel_put hD hx (h6 i p v hp hv)⟩
  · intro o ver es hs
    obtain ⟨b, k, ms, cl, h1, h2, h3, h4⟩ := h.maps o ver es hs
    exact ⟨b, k, ms, cl, h1, hne _ _ h2 (fun e => hx.2 _ _ e.symm), h3, fun i e m he hm => ⟨(h4 i e m he hm).1, rel_put hD hx (h4 i e m he hm).2⟩⟩

/-- A block that turns and turns back. -/
theorem Step.around {C1 C2 C3 : Ctx} {S1 S2 S3 : Store} {w1 w2 w3 : World} {l : Nat} {o0 o1 : Obj} (s1 : Step C1 S1 w1 C2 S2 w2) (s2 : Step C2 S2 (w2.putObj l o1) C3 S3 w3) (hl : w1.heap[l]? = some o0) (hM : ¬ C1.M S1 l) :
    Step C1 S1 w1 C3 S3 (w3.putObj l o0) := by
  have hlt := lt_of_heap hl
  have z1 := s1.size
  have z2 := s2.size
  simp only [World.putObj_size] at z2
  refine ⟨s2.os.trans s1.os, ⟨s2.tape.1.trans s1.tape.1, Nat.le_trans s1.tape.2 s2.tape.2⟩, s2.output.trans s1.output, by simp; omega, Nat.le_trans s1.next s2.next, Nat.le_trans s1.clock s2.clock, fun b hb hbM => ?_, ?_⟩
  · obtain ⟨k1, k2⟩ := s1.blocks b hb hbM
    obtain ⟨j1, j2⟩ := s2.blocks b (by simp; omega) k2
    refine ⟨?_, j2⟩
    by_cases e : b = l
    · subst e; rw [World.putObj_heap_same (by omega), hl]
    · rw [World.putObj_heap_other e, j1, World.putObj_heap_other e, k1]
  · intro o v1 hv
    rcases s2.vers o v1 hv with q | ⟨v0, a, b, c⟩
    · have h1 := s1.next
      have h2 := s1.clock
      exact .inl (q.imp (Nat.le_trans h1) (Nat.le_trans h2))
    · rcases s1.vers o v0 a with q | ⟨u, a', b', c'⟩
      · exact .inl (q.imp id (fun x => Nat.le_trans x b))
      · exact .inr ⟨u, a', Nat.le_trans b' b, fun e => (c (by omega)).trans (c' (by omega))⟩

/-- A block above all that was there may turn. -/
theorem Step.beyond {C C' : Ctx} {S S' : Store} {w w' : World} {l : Nat} (o : Obj) (h : Step C S w C' S' w') (hl : w.heap.size ≤ l) : Step C S w C' S' (w'.putObj l o) :=
  ⟨h.os, h.tape, h.output, by simpa using h.size, h.next, h.clock, fun b hb hM => by
    obtain ⟨k1, k2⟩ := h.blocks b hb hM
    exact ⟨by rw [World.putObj_heap_other (by omega)]; exact k1, k2⟩, h.vers⟩

/-! ### Iterators -/

/-- A call of yield (of the loop l): it gives true, and turns the store so. -/
def PYield (P : Program) (V : Ctx → Store → World → Prop) (l : Nat) (args : List PV) (S : Store) (Q : Store → Prop) : Prop :=
  ∀ (C : Ctx) (w : World) (vs : Array Value), Sim C S w → V C S w → args.length = vs.size → (∀ (i : Nat) (c : PV) (v : Value), args[i]? = some c → vs[i]? = some v → Rel C S w c v) →
    YieldAt (Fe nor) 0 P l vs w fun e w' => ∃ S' C', e = .returned (.bool true) ∧ Q S' ∧ Sim C' S' w' ∧ Step C S w C' S' w'

/-- yield. -/
abbrev yld (l : Nat) : PV := .sc (.func (.yield l) #[] #[])

/-- A function that, with what it has captured, hands these to yield, one by one. -/
def Iter (P : Program) (k : FuncId) (caps : List PV) (xs : List (List PV)) : Prop :=
  Enters P k ∧ ∀ (l : Nat) (V : Ctx → Store → World → Prop) (_ : ∀ {C C' : Ctx} {S S' : Store} {w w' : World}, Step C S w C' S' w' → V C S w → V C' S' w') (m : Nat) (J : Nat → Store → Prop), (∀ i A, J i A → DeadFrom m A) →
    (∀ i A obs x, xs[i]? = some x → J i A → PYield P V l x (ext A m obs) (fun T => ∃ A', J (i + 1) A' ∧ T = ext A' m obs)) →
    ∀ A, J 0 A → PCallsV P V k (yld l :: caps) A (fun _ T => J xs.length T)

section
variable {P : Program} {n nx N : Nat} {Q : Exit → (Nat → PV) → Store → Prop} {F : Nat → PV} {S : Store} {obs : List Ob}

theorem po_yield {V : Ctx → Store → World → Prop} {keep : ∀ {C C' : Ctx} {S S' : Store} {w w' : World}, Step C S w C' S' w' → V C S w → V C' S' w'} {o : Oper} {c : Call} {x : Operand} {l : Nat} {K : PV → Store → Prop} {R : Store → Prop}
    (ho : o.op = .call c) (hc : c.callee = .value x) (hx : ev F x = yld l) (h : PYield P V l (c.args.toList.map (ev F)) S R) (hK : ∀ S', R S' → K (.sc (.bool true)) S') : PO P ⟨none, V, keep⟩ 0 o F S K := by
  intro G hG C w a N st next Q' hnext
  have hxo : x ∈ o.op.operands := by simp [ho, Op.operands, Call.operands, hc]
  have hxG : ev G x = yld l := (hG x hxo).trans hx
  have hmap : c.args.toList.map (ev F) = c.args.toList.map (ev G) := List.map_congr_left fun y hy => (hG y (by simp only [ho, Op.operands, Call.operands, Array.mem_append]; exact .inr (Array.mem_toList_iff.1 hy))).symm
  rw [hmap] at h
  have hrel := st.ev x
  rw [hxG] at hrel
  generalize hv : a.eval x = v at hrel
  cases hrel
  have hlist := relList (l := c.args.toList) st.ev
  simp only [Array.toArray_toList] at hlist
  obtain ⟨fn, tmps, assign, body, hy, hR⟩ := h C w (c.args.map a.eval) st.sim st.v hlist.1 hlist.2
  have hrun : (execOp a.eval o).run P w = .ok (.round l fn tmps assign body) w := by
    unfold execOp
    simp only [ho, resolve, hc, hv, Deferred.ofValue, Sem.run_bind, Sem.run_pure, Result.andThen_ok, invoke]
    have : (#[] : Array Value) ++ c.args.map a.eval = c.args.map a.eval := by simp
    rw [this]
    exact hy
  refine wpIn_of_run (x := .round l fn tmps assign body) (w' := w) (by intro c' hc'; rw [ho] at hc'; cases hc') hrun ?_
  rw [Oper.uponIn_round]
  refine ⟨fun hd => (by cases hd), hR.mono ?_⟩
  rintro e w' ⟨S', C', rfl, hq, hs, hst⟩
  exact hnext _ w' C' S' _ (hK _ hq) (.sc _) hs hst

/-- The way into an iterator. -/
theorem iter_enter {f : FuncId} {fn : Func} {c : Code} {rs : List ResultVar} {caps : List PV} {xs : List (List PV)} (hf : P.funcs[f]? = some fn) (hname : (fn.name == "runtime.NumGoroutine") = false) (hb : fn.body = some c) (hN : fn.ntmps = N) (hrs : fn.results.toList = rs) (hargs : caps.length + 1 ≤ N)
    (h : ∀ (l : Nat) (V : Ctx → Store → World → Prop) (keep : ∀ {C C' : Ctx} {S S' : Store} {w w' : World}, Step C S w C' S' w' → V C S w → V C' S' w') (nx : Nat) (J : Nat → Store → Prop), (∀ i A, J i A → DeadFrom nx A) →
      (∀ i A obs x, xs[i]? = some x → J i A → PYield P V l x (ext A nx obs) (fun T => ∃ A', J (i + 1) A' ∧ T = ext A' nx obs)) →
      ∀ A, J 0 A → PW P ⟨none, V, keep⟩ 0 N c (retQ P rs (fun _ T => J xs.length T)) (frame0 (yld l :: caps)) (ext A nx [])) : Iter P f caps xs := by
  refine ⟨enters_of hf hname hb, fun l V keep m J hJ hY A hA => ?_⟩
  have := h l V keep m J hJ hY A hA
  rw [ext_nil (hJ 0 A hA)] at this
  exact pcallsV_of_pw hf hb hN hrs (by simpa using hargs) this

theorem ret_iter {rs : List ResultVar} {ps : List PV} {J : Store → Prop} {A : Store} (hd : DeadFrom nx A) (h1 : resL P F (ext A nx obs) rs = some ps) (hJ : J A) :
    ∃ ps S', resL P F (ext A nx obs) rs = some ps ∧ J S' ∧ ∀ o, S' o = ext A nx obs o ∨ S' o = .dead := ⟨ps, A, h1, hJ, ext_kill0 hd⟩

/-- A frame some slots of which are set. -/
def setF (F : Nat → PV) : List Nat → List PV → Nat → PV
  | p :: ps, x :: xs => setF (upd F p x) ps xs
  | _, _ => F

theorem setF_rel {C : Ctx} {w : World} : ∀ (ps : List Nat) (vs : List Value) (xs : List PV) (F : Nat → PV) (t : Array Value), t.size = N → (∀ p ∈ ps, p < N) → xs.length = vs.length → (∀ i, Rel C S w (F i) (t.getD i undef)) →
    (∀ (i : Nat) (c : PV) (v : Value), xs[i]? = some c → vs[i]? = some v → Rel C S w c v) →
    ((ps.zip vs).foldl (fun t (p, v) => t.setIfInBounds p v) t).size = N ∧ ∀ i, Rel C S w (setF F ps xs i) (((ps.zip vs).foldl (fun t (p, v) => t.setIfInBounds p v) t).getD i undef)
  | [], _, _, F, t, hz, _, _, hF, _ => ⟨hz, hF⟩
  | p :: ps, [], [], F, t, hz, _, _, hF, _ => ⟨hz, hF⟩
  | p :: ps, v :: vs, x :: xs, F, t, hz, hp, hl, hF, hx => by
    refine setF_rel ps vs xs (upd F p x) (t.setIfInBounds p v) (by simp [hz]) (fun q hq => hp q (by simp [hq])) (by simpa using hl) (fun i => ?_) fun i c v hc hv => hx (i + 1) c v (by simpa using hc) (by simpa using hv)
    have hpl : p < t.size := by rw [hz]; exact hp p (by simp)
    simp only [upd, Array.getD_eq_getD_getElem?]
    rw [Array.getElem?_setIfInBounds]
    by_cases h : i = p
    · subst h; simp [hpl]; exact hx 0 x v rfl rfl
    · rw [if_neg h, if_neg (fun e => h e.symm), ← Array.getD_eq_getD_getElem?]; exact hF i

/-- In a round of the loop l. -/
def ird (l : Nat) : Rd := ⟨some l, fun _ _ _ => True, fun _ _ => trivial⟩

/-- What a round must end in. -/
def rndQ {σ : Type} (nx : Nat) (I : Nat → σ → Prop) (B : σ → Store) (T : σ → List Ob) (i : Nat) (more : List Ob) : Exit → (Nat → PV) → Store → Prop
  | .normal, _, S => ∃ s extra, I i s ∧ S = ext (B s) nx (T s ++ more ++ extra)
  | _, _, _ => False

theorem rnd_mk {σ : Type} {I : Nat → σ → Prop} {B : σ → Store} {T : σ → List Ob} {i : Nat} {more : List Ob} (s : σ) (extra : List Ob) (hI : I i s) (hB : B s = S) (hT : T s ++ more ++ extra = obs) : rndQ nx I B T i more .normal F (ext S nx obs) := ⟨s, extra, hI, by rw [hB, hT]⟩

theorem ext_ext {k : Nat} (obs more : List Ob) (hk : k = nx + obs.length) : ext (ext S nx obs) k more = ext S nx (obs ++ more) := by
  subst hk
  funext i
  simp only [ext]
  by_cases h1 : i < nx
  · rw [if_pos (by omega), if_pos h1, if_pos h1]
  · rw [if_neg h1, if_neg h1, List.getD_eq_getElem?_getD, List.getD_eq_getElem?_getD, List.getD_eq_getElem?_getD]
    by_cases h2 : i < nx + obs.length
    · rw [if_pos h2, List.getElem?_append_left (by omega)]
    · rw [if_neg h2, List.getElem?_append_right (by omega), Nat.sub_sub]

/-- A loop over an iterator whose rounds all go on. -/
theorem pw_rangeFunc {V : Ctx → Store → World → Prop} {keep : ∀ {C C' : Ctx} {S S' : Store} {w w' : World}, Step C S w C' S' w' → V C S w → V C' S' w'} {g : Operand} {ps : Array Tmp} {assign body : Code} {k : FuncId} {caps : List PV} {xs : List (List PV)} {σ : Type}
    (I : Nat → σ → Prop) (L : List (Nat × PV)) (B : σ → Store) (T : σ → List Ob) (s0 : σ)
    (hit : Iter P k caps xs) (hg : ev F g = .fn (.func k) [] caps) (hps : ∀ x ∈ xs, x.length = ps.size) (hpN : ∀ p ∈ ps.toList, p < N) (hL : ∀ x ∈ L, F x.1 = x.2) (h0 : I 0 s0) (hB : B s0 = S) (hT : T s0 = obs) (hl : ∀ i s, I i s → (T s).length = obs.length)
    (round : ∀ l i s more x, I i s → xs[i]? = some x → PW P (ird l) 0 N assign (thenQ (PW P (ird l) 0 N body (rndQ nx I B T (i + 1) more)) (fun _ _ _ => False)) (setF (fr L) ps.toList x) (ext (B s) nx (T s ++ more)))
    (done : ∀ s, I xs.length s → Q .normal F (ext (B s) nx (T s))) : PW P ⟨none, V, keep⟩ 0 N (.rangeFunc g ps assign body) Q F (ext S nx obs) := by
  intro C w a st
  refine wpIn_rangeFunc ?_
  intro fn hfn
  obtain ⟨rec, hrec⟩ : ∃ rec : LoopState → Option Code → Loop, rec = fun st pe => { state := st, pending := pe, fn, tmps := a.tmps, params := ps, assign, body, defers := w.heap.size } := ⟨_, rfl⟩
  obtain ⟨k1, j1, m1⟩ := st.sim.alloc (.deferred (some []))
  obtain ⟨k2, j2, m2⟩ := k1.alloc (.loop (rec .ready none))
  rw [World.size_alloc] at m2
  obtain ⟨W1, hW1⟩ : ∃ W1, (w.alloc (.deferred (some []))).alloc (.loop (rec .ready none)) = W1 := ⟨_, rfl⟩
  rw [hW1] at k2 j2
  have hL1 : W1.heap[w.heap.size + 1]? = some (.loop (rec .ready none)) := by
    rw [← hW1]; have := heap_alloc_new' (w.alloc (.deferred (some []))) (.loop (rec .ready none)); rwa [World.size_alloc] at this
  have hK1 : W1.heap[w.heap.size]? = some (.deferred (some [])) := by
    rw [← hW1, heap_alloc_lt _ _ _ (by simp)]; exact heap_alloc_new' w _
  have step1 : Step C (ext S nx obs) w C (ext S nx obs) W1 := j1.trans j2
  -- what is known all the while
  obtain ⟨V0, hV0⟩ : ∃ V0 : Ctx → Store → World → Prop, ∀ C' S' w', V0 C' S' w' ↔ w'.heap[w.heap.size + 1]? = some (.loop (rec .ready none)) ∧ w'.heap[w.heap.size]? = some (.deferred (some [])) ∧ ¬ C'.M S' (w.heap.size + 1) ∧ ¬ C'.M S' w.heap.size ∧ Step C (ext S nx obs) w C' S' w' := ⟨_, fun _ _ _ => Iff.rfl⟩
  have keep0 : ∀ {C1 C2 : Ctx} {S1 S2 : Store} {w1 w2 : World}, Step C1 S1 w1 C2 S2 w2 → V0 C1 S1 w1 → V0 C2 S2 w2 := by
    intro C1 C2 S1 S2 w1 w2 hst hv
    obtain ⟨a1, a2, a3, a4, a5⟩ := (hV0 _ _ _).1 hv
    obtain ⟨b1, b2⟩ := hst.blocks _ (lt_of_heap a1) a3
    obtain ⟨c1, c2⟩ := hst.blocks _ (lt_of_heap a2) a4
    exact (hV0 _ _ _).2 ⟨b1.trans a1, c1.trans a2, b2, c2, a5.trans hst⟩
  have hV1 : V0 C (ext S nx obs) W1 := (hV0 _ _ _).2 ⟨hL1, hK1, m2, m1, step1⟩
  have hge := st.ev g
  rw [hg] at hge
  generalize hgv : a.eval g = gv at hge
  cases hge with
  | fn hfl hcl hrf hrc =>
  rename_i fv lb
  obtain rfl : fv = #[] := Array.eq_empty_of_size_eq_zero hfl.symm
  have hJd : ∀ i A, (∃ s, I i s ∧ A = ext (B s) nx (T s)) → DeadFrom (nx + obs.length) A := by
    rintro i A ⟨s, hs, rfl⟩
    rw [← hl i s hs]; exact ext_dead
  have hYY : ∀ i A more x, xs[i]? = some x → (∃ s, I i s ∧ A = ext (B s) nx (T s)) → PYield P V0 (w.heap.size + 1) x (ext A (nx + obs.length) more) (fun T' => ∃ A', (∃ s, I (i + 1) s ∧ A' = ext (B s) nx (T s)) ∧ T' = ext A' (nx + obs.length) more) := by
    rintro i A more x hx ⟨s, hs, rfl⟩
    rw [ext_ext _ _ (by rw [hl i s hs])]
    intro C1 w1 vs hS1 hv1 hlen hrel
    obtain ⟨a1, a2, a3, a4, a5⟩ := (hV0 _ _ _).1 hv1
    have hxp := hps x (List.mem_of_getElem? hx)
    have hy := run_yield (P := P) (args := vs) a1 (by rw [hrec]; simp only; omega)
    rw [hrec] at hy
    simp only at hy
    have hsz := setF_rel (N := N) (S := ext (B s) nx (T s ++ more)) (C := C1) (w := w1) ps.toList vs.toList x (fr L) a.tmps st.size hpN (by simpa using hlen) (fun i => by
      rcases fr_of hL i with e | e
      · rw [e]; exact (st.fr i).mono a5
      · rw [e]; exact .junk _) (by simpa using hrel)
    have hfold : (ps.zip vs).foldl (fun tmps (t, a) => tmps.setIfInBounds t a) a.tmps = (ps.toList.zip vs.toList).foldl (fun t (p, v) => t.setIfInBounds p v) a.tmps := by
      rw [← Array.foldl_toList, Array.toList_zip]
    rw [hfold] at hy
    refine ⟨fn, _, assign, body, hy, roundIn_of_wpIn trivial ?_⟩
    have hst1 : St (ird (w.heap.size + 1)) C1 (ext (B s) nx (T s ++ more)) w1 N (setF (fr L) ps.toList x) { tmps := (ps.toList.zip vs.toList).foldl (fun t (p, v) => t.setIfInBounds p v) a.tmps, defers := [] } := ⟨hS1, hsz.1, hsz.2, trivial⟩
    refine wpIn_mono (round (w.heap.size + 1) i s more x hs hx C1 w1 _ hst1) ?_
    rintro e a3' w2 ⟨F2, S2, C2, hq, st2, hd2, step2⟩
    cases e with
    | normal =>
      have e2 := step2.blocks _ (lt_of_heap a1) a3
      have hl2 := e2.1.trans a1
      refine ⟨_, run_beginRound hl2 (by rw [hrec]), ?_⟩
      have sim2 := st2.sim.put (y := .loop { rec .ready none with state := .busy }) hl2 (odd_loop _)
      refine wpIn_mono (hq C2 _ _ ⟨sim2, st2.size, fun j => rel_put hl2 (odd_loop _) (st2.fr j), trivial⟩) ?_
      rintro e a4' w3 ⟨F3, S3, C3, hq3, st3, hd3, step3⟩
      cases e with
      | normal =>
        obtain ⟨s', extra, hs', rfl⟩ := hq3
        have hl2b : (w2.putObj (w.heap.size + 1) (.loop { rec .ready none with state := .busy })).heap[w.heap.size + 1]? = some (.loop { rec .ready none with state := .busy }) := World.putObj_heap_same (lt_of_heap hl2)
        have e3 := step3.blocks (w.heap.size + 1) (lt_of_heap hl2b) e2.2
        have hl3 := e3.1.trans hl2b
        have hend := run_endRound (P := P) none hl3
        have hkill := ext_kill (S := B s') (nx := nx) (obs := T s' ++ more) extra
        obtain ⟨q1, q2⟩ := st3.sim.kill hkill
        have hrr : ({ { rec .ready none with state := LoopState.busy } with state := if (none : Option Code).isNone then .ready else .done, pending := none } : Loop) = rec .ready none := by rw [hrec]; rfl
        rw [hrr] at hend
        refine ⟨_, _, hend, _, C3, rfl, ⟨_, ⟨s', hs', rfl⟩, by rw [ext_ext _ _ (by rw [hl _ s' hs'])]⟩, ?_, ?_⟩
        · exact q1.put hl3 (odd_loop _)
        · have st4 := step2.around (step3.trans q2) a1 a3
          exact st4
      | _ => exact hq3.elim
    | _ => exact hq.elim
  have hC2 := hit.2 (w.heap.size + 1) V0 keep0 (nx + obs.length) (fun i A => ∃ s, I i s ∧ A = ext (B s) nx (T s)) hJd hYY (ext S nx obs) ⟨s0, h0, by rw [hB, hT]⟩ C W1 (#[.func (.yield (w.heap.size + 1)) #[] #[]] ++ lb) k2 hV1 (by simp [hcl]; omega) (by
    intro i c v hc hv
    cases i with
    | zero =>
      rw [Array.getElem?_append_left (by simp)] at hv
      simp at hc hv; subst hc; subst hv; exact .sc _
    | succ i =>
      rw [Array.getElem?_append_right (by simp)] at hv
      exact (hrc i c v (by simpa using hc) (by simpa using hv)).mono step1)
  refine ⟨w.heap.size + 1, [{ target := .collected w.heap.size, args := #[] }], W1, { target := .fn (.func k) lb, args := #[.func (.yield (w.heap.size + 1)) #[] #[]] }, W1, k,
    #[.func (.yield (w.heap.size + 1)) #[] #[]] ++ lb, W1, ?_, ?_, ?_, ?_, fun hd => (by cases hd), ?_⟩
  · rw [← hW1, hrec]; exact run_enterLoop_outer _ _ _ _ _
  · simp only [resolve, hgv]
    simp [go_sem]
  · intro f' _; trivial
  · simp only [invoke]; exact hit.1 _ _
  refine (calls_in (r := ⟨none, V, keep⟩) hC2).mono ?_
  rintro e w' ⟨p, v, S', C', rfl, ⟨s, hs, rfl⟩, _, hsim, hst⟩
  obtain ⟨a1, a2, a3, a4, a5⟩ := (hV0 _ _ _).1 (keep0 hst hV1)
  have hend := run_endLoop (P := P) a1 (by rw [hrec]; simp)
  have hpn : (rec .ready none).pending = none := by rw [hrec]
  rw [hpn] at hend
  have a6 := fun o => a5.beyond (l := w.heap.size + 1) o (by omega)
  refine ⟨none, _, hend, F, _, C', done s hs, ⟨hsim.put a1 (odd_loop _), st.size, fun i => (st.fr i).mono (a6 _), keep (a6 _) st.v⟩, ⟨[{ target := .collected w.heap.size, args := #[] }], rfl, ⟨_, Nat.le_refl _, rfl, ?_, a4, by simp⟩, trivial⟩, a6 _⟩
  rw [World.putObj_heap_other (by omega)]; exact a2

end

/-! ### What is finished becomes constant -/

def frq1 (id ver : Nat) (cs : List PV) (p : PV) : PV :=
  match p with
  | .sl o v sz 0 k => if o = id ∧ v = ver ∧ k * sz = cs.length then .lst k cs else .sl o v sz 0 k
  | .ptr o v off => if o = id ∧ v = ver ∧ off ≤ cs.length then .ip (cs.drop off) else .ptr o v off
  | p => p

def frqP (id ver : Nat) (cs : List PV) (p : PV) : PV :=
  match p with
  | .fn f fs cap => .fn f (fs.map (frq1 id ver cs)) (cap.map (frq1 id ver cs))
  | p => frq1 id ver cs p

def frqO (id ver : Nat) (cs : List PV) (x : Ob) : Ob :=
  match x with
  | .cells v e ds => .cells v e (ds.map (frqP id ver cs))
  | x => x

theorem frqO_ver (id ver : Nat) (cs : List PV) (x : Ob) : (frqO id ver cs x).ver = x.ver := by cases x <;> rfl

theorem frq1_rel {C : Ctx} {S T : Store} {w : World} {id ver e : Nat} {cs : List PV} (hS : Sim C S w) (hid : S id = .cells ver e cs) (hT : T id = .dead) (hTS : ∀ o, T o ≠ .dead → S o ≠ .dead) (st : Step C S w C T w) {p : PV} {u : Value}
    (h : Rel C S w p u) : Rel C T w (frq1 id ver cs p) u := by
  unfold frq1
  split
  · rename_i o v sz k
    split
    · rename_i hc
      obtain ⟨rfl, rfl, hk⟩ := hc
      cases h with
      | sl h1 h2 h3 =>
        obtain ⟨ad, cap, rfl, q1, q2, q3, q4⟩ := h1
        have hnM : ∀ b k', C.loc o = some (b, k') → ¬ C.M T b := by
          rintro b k' hl ⟨i, k2, hi, hl2⟩
          by_cases hoi : i = o
          · subst hoi; exact hi hT
          · exact hoi (hS.dist i o b k2 k' (hTS i hi) (by rw [hid]; simp) hl2 hl)
        rcases (h3 v (by rw [hid]; rfl)).2 rfl with ⟨z1, z2, _, z4⟩ | ⟨b, k', ad', cap', z1, z2, z3, z4⟩
        · subst z2
          have : cs = [] := List.eq_nil_of_length_eq_zero (by omega)
          subst this
          cases z4
          exact .lst0
        · cases z2
          rcases hS.cells o v e cs hid with ⟨hn, _⟩ | ⟨b2, kk, c, g1, g2, g3, g4, g5, g6⟩
          · rw [hn] at z1; cases z1
          · rw [g1] at z1; cases z1
            obtain ⟨rfl, _⟩ := z3 rfl
            exact .lst1 q1 q2 g2 (hnM _ _ g1) (fun _ => by omega) (fun j v hj hv => g5 j v hj (by simpa using hv)) (fun j p v hp hv => (g6 j p v hp (by simpa using hv)).mono st)
    · exact h.mono st
  · rename_i o v off
    split
    · rename_i hc
      obtain ⟨rfl, rfl, hk⟩ := hc
      cases h with
      | ptr h1 h2 h3 =>
        obtain ⟨b, k', z1, z2⟩ := (h3 v (by rw [hid]; rfl)).2 rfl
        have hnM : ¬ C.M T b := by
          rintro ⟨i, k2, hi, hl2⟩
          by_cases hoi : i = o
          · subst hoi; exact hi hT
          · exact hoi (hS.dist i o b k2 k' (hTS i hi) (by rw [hid]; simp) hl2 z1)
        rcases hS.cells o v e cs hid with ⟨hn, _⟩ | ⟨b2, kk, c, g1, g2, g3, g4, g5, g6⟩
        · rw [hn] at z1; cases z1
        · rw [g1] at z1; cases z1
          subst z2
          refine .ip g2 hnM (fun _ => by simp; omega) (fun j v hj hv => g5 (off + j) v (by simp at hj; omega) hv) (fun j p v hp hv => ?_)
          rw [List.getElem?_drop] at hp
          exact (g6 (off + j) p v hp hv).mono st
    · exact h.mono st
  · exact h.mono st

theorem frq_rel {C : Ctx} {S T : Store} {w : World} {id ver e : Nat} {cs : List PV} (hS : Sim C S w) (hid : S id = .cells ver e cs) (hT : T id = .dead) (hTS : ∀ o, T o ≠ .dead → S o ≠ .dead) (st : Step C S w C T w) {p : PV} {u : Value}
    (h : Rel C S w p u) : Rel C T w (frqP id ver cs p) u := by
  unfold frqP
  split
  · cases h with
    | fn hf hc h1 h2 =>
      refine .fn (by simpa using hf) (by simpa using hc) (fun i c v hc hv => ?_) (fun i c v hc hv => ?_)
      · rw [List.getElem?_map] at hc
        obtain ⟨c0, hc0, rfl⟩ := Option.map_eq_some_iff.1 hc
        exact frq1_rel hS hid hT hTS st (h1 i c0 v hc0 hv)
      · rw [List.getElem?_map] at hc
        obtain ⟨c0, hc0, rfl⟩ := Option.map_eq_some_iff.1 hc
        exact frq1_rel hS hid hT hTS st (h2 i c0 v hc0 hv)
  · exact frq1_rel hS hid hT hTS st h

section
variable {P : Program} {r : Rd} {n nx N : Nat} {Q : Exit → (Nat → PV) → Store → Prop} {F : Nat → PV} {S : Store} {obs : List Ob}

theorem pw_frq {c : Code} (j : Nat) {ver e : Nat} {cs : List PV} (hj : obs[j]? = some (.cells ver e cs)) (h : PW P r n N c Q (fun i => frqP (nx + j) ver cs (F i)) (ext S nx ((obs.map (frqO (nx + j) ver cs)).set j .dead))) : PW P r n N c Q F (ext S nx obs) := by
  have hjl : j < obs.length := (List.getElem?_eq_some_iff.1 hj).1
  refine pw_ghost (F' := fun i => frqP (nx + j) ver cs (F i)) (S' := ext S nx ((obs.map (frqO (nx + j) ver cs)).set j .dead)) (fun C w a st => ?_) h
  have hid : ext S nx obs (nx + j) = .cells ver e cs := by rw [ext_at, List.getD_eq_getElem?_getD, hj]; rfl
  have hT : ext S nx ((obs.map (frqO (nx + j) ver cs)).set j .dead) (nx + j) = .dead := by rw [ext_at, List.getD_eq_getElem?_getD, List.getElem?_set_self (by simpa using hjl)]; rfl
  -- what stands under each number
  have hat : ∀ o, ext S nx ((obs.map (frqO (nx + j) ver cs)).set j .dead) o = .dead ∨ (o < nx ∧ ext S nx ((obs.map (frqO (nx + j) ver cs)).set j .dead) o = ext S nx obs o) ∨ (nx ≤ o ∧ ext S nx ((obs.map (frqO (nx + j) ver cs)).set j .dead) o = frqO (nx + j) ver cs (ext S nx obs o)) := by
    intro o
    by_cases ho : o < nx
    · exact .inr (.inl ⟨ho, by rw [ext_old ho, ext_old ho]⟩)
    · by_cases hoj : o = nx + j
      · subst hoj; exact .inl hT
      · refine .inr (.inr ⟨by omega, ?_⟩)
        simp only [ext]
        rw [if_neg ho, if_neg ho, List.getD_eq_getElem?_getD, List.getD_eq_getElem?_getD, List.getElem?_set_ne (by omega), List.getElem?_map]
        cases obs[o - nx]? <;> rfl
  generalize hTT : ext S nx ((obs.map (frqO (nx + j) ver cs)).set j .dead) = T at *
  generalize hSS : ext S nx obs = S1 at *
  have hver : ∀ o v, (T o).ver = some v → (S1 o).ver = some v := by
    intro o v hv
    rcases hat o with q | ⟨_, q⟩ | ⟨_, q⟩
    · rw [q] at hv; cases hv
    · rw [q] at hv; exact hv
    · rw [q, frqO_ver] at hv; exact hv
  have hne : ∀ o, T o ≠ .dead → S1 o ≠ .dead := by
    intro o ho hd
    rcases hat o with q | ⟨_, q⟩ | ⟨_, q⟩
    · exact ho q
    · exact ho (q.trans hd)
    · rw [hd] at q; exact ho q
  have hM : ∀ b, C.M T b → C.M S1 b := fun b ⟨o, k, ho, hl⟩ => ⟨o, k, hne o ho, hl⟩
  have hstep : Step C S1 w C T w := ⟨rfl, ⟨rfl, Nat.le_refl _⟩, rfl, Nat.le_refl _, Nat.le_refl _, Nat.le_refl _, fun b _ hb => ⟨rfl, fun h => hb (hM b h)⟩, fun o v1 hv => .inr ⟨v1, hver o v1 hv, Nat.le_refl _, fun _ => rfl⟩⟩
  have hrel : ∀ {p u}, Rel C S1 w p u → Rel C T w (frqP (nx + j) ver cs p) u := fun h => frq_rel st.sim hid hT hne hstep h
  refine ⟨C, ⟨⟨fun o ho => st.sim.lt o (hne o ho), fun o v hv => st.sim.clk o v (hver o v hv), fun o o' b k k' ho ho' => st.sim.dist o o' b k k' (hne o ho) (hne o' ho'), ?_, ?_⟩, st.size, fun i => hrel (st.fr i), r.keep hstep st.v⟩, hstep⟩
  · intro o v e' ds ho
    rcases hat o with q | ⟨_, q⟩ | ⟨_, q⟩
    · rw [q] at ho; cases ho
    · rw [q] at ho
      rcases st.sim.cells o v e' ds ho with hn | ⟨b, k, c, h1, h2, h3, h4, h5, h6⟩
      · exact .inl hn
      · exact .inr ⟨b, k, c, h1, h2, h3, h4, h5, fun i p u hp hu => (h6 i p u hp hu).mono hstep⟩
    · rw [q] at ho
      cases hs : S1 o with
      | dead => rw [hs] at ho; cases ho
      | map v es => rw [hs] at ho; cases ho
      | cells v2 e2 ds2 =>
        rw [hs] at ho
        cases ho
        rcases st.sim.cells o _ _ ds2 hs with ⟨h1, h2⟩ | ⟨b, k, c, h1, h2, h3, h4, h5, h6⟩
        · exact .inl ⟨h1, by rw [h2]; rfl⟩
        · refine .inr ⟨b, k, c, h1, h2, h3, by simpa using h4, fun i v hi hv => h5 i v (by simpa using hi) hv, fun i p u hp hu => ?_⟩
          rw [List.getElem?_map] at hp
          obtain ⟨p0, hp0, rfl⟩ := Option.map_eq_some_iff.1 hp
          exact hrel (h6 i p0 u hp0 hu)
  · intro o v es ho
    have hs : S1 o = .map v es := by
      rcases hat o with q | ⟨_, q⟩ | ⟨_, q⟩
      · rw [q] at ho; cases ho
      · rw [q] at ho; exact ho
      · rw [q] at ho
        cases hs : S1 o with
        | dead => rw [hs] at ho; cases ho
        | map v es => rw [hs] at ho; exact ho
        | cells v2 e2 ds2 => rw [hs] at ho; cases ho
    obtain ⟨b, k, ms, cl, h1, h2, h3, h4⟩ := st.sim.maps o v es hs
    exact ⟨b, k, ms, cl, h1, h2, h3, fun i x m hx hm => ⟨(h4 i x m hx hm).1, (h4 i x m hx hm).2.mono hstep⟩⟩

end

/-- A struct of one slice that is given as an object of one's own may be taken for one of a list. -/
theorem own_pureA {P : Program} {f : FuncId} {args : List PV} {sz k e : Nat} {cs : List PV} (j : Nat)
    (h : ∀ S nx, DeadFrom nx S → Spec P f args S (fun p S' => ∃ v, p = .agg [.sl (nx + j) v sz 0 k] ∧ S' = S.set (nx + j) (.cells v e cs))) (hk : k * sz = cs.length) : Pure P f args (.agg [.lst k cs]) := by
  intro S
  refine ⟨(h (fun _ => .dead) 0 (fun _ _ => rfl)).1, ?_⟩
  intro C w vs hS hl hr
  have hd : DeadFrom C.next S := fun i hi => by
    cases hs : S i with
    | dead => rfl
    | cells v e cs => have := hS.lt i (by rw [hs]; simp); omega
    | map v es => have := hS.lt i (by rw [hs]; simp); omega
  refine ((h S C.next hd).2 C w vs hS hl hr).mono ?_
  rintro e' w' ⟨p, u, S', C', rfl, ⟨v, rfl, rfl⟩, hrel, hsim, hstep⟩
  have hdj := hd (C.next + j) (by omega)
  have hkk : ∀ o, S o = S.set (C.next + j) (.cells v e cs) o ∨ S o = .dead := by
    intro o
    by_cases ho : o = C.next + j
    · subst ho; exact .inr hdj
    · exact .inl (Store.set_other _ _ _ _ ho).symm
  obtain ⟨k1, k2⟩ := hsim.kill hkk
  refine ⟨.agg [.lst k cs], u, S, C', rfl, ⟨rfl, rfl⟩, ?_, k1, hstep.trans k2⟩
  cases hrel with
  | agg hl2 h1 h2 =>
    refine .agg (by simpa using hl2) h1 fun i c v' hc hv => ?_
    cases i with
    | succ i => simp at hc
    | zero =>
      simp at hc; subst hc
      have := frz_rel hsim (Store.set_same _ _ _) hdj (fun o ho => by
        rcases hkk o with q | q
        · rw [← q]; exact ho
        · exact absurd q ho) k2 (h2 0 _ v' rfl hv)
      simpa [frzP, hk] using this

theorem ext_deads {S : Store} {nx : Nat} {obs : List Ob} (k : Nat) : ext S nx obs = ext S nx (obs ++ List.replicate k .dead) := by
  funext i
  simp only [ext]
  split
  · rfl
  · rw [List.getD_eq_getElem?_getD, List.getD_eq_getElem?_getD]
    by_cases h3 : i - nx < obs.length
    · rw [List.getElem?_append_left h3]
    · rw [List.getElem?_eq_none (by omega), List.getElem?_append_right (by omega), List.getElem?_replicate]
      split <;> rfl
theorem ext_pushK {S : Store} {nx : Nat} {obs : List Ob} (k : Nat) (x : Ob) : (ext S nx obs).set (nx + obs.length + k) x = ext S nx (obs ++ List.replicate k .dead ++ [x]) := by
  rw [ext_deads k]
  have := ext_push (S := S) (nx := nx) (obs := obs ++ List.replicate k .dead) x
  simpa [Nat.add_assoc] using this
theorem WkL.app {a b c d : List PV} (h : WkL a b) (k : WkL c d) : WkL (a ++ c) (b ++ d) := by
  induction h with
  | nil => exact k
  | cons h t ih => exact .cons h ih

/-- An object's cells, told otherwise. -/
theorem pw_wkO {P : Program} {r : Rd} {n nx N : Nat} {Q : Exit → (Nat → PV) → Store → Prop} {F : Nat → PV} {S : Store} {obs : List Ob} {c : Code} {ver e : Nat} {cs : List PV} (j : Nat) (cs' : List PV) (hj : obs[j]? = some (.cells ver e cs)) (hw : WkL cs cs')
    (h : PW P r n N c Q F (ext S nx (obs.set j (.cells ver e cs')))) : PW P r n N c Q F (ext S nx obs) := by
  have hjl : j < obs.length := (List.getElem?_eq_some_iff.1 hj).1
  refine pw_ghost (F' := F) (S' := ext S nx (obs.set j (.cells ver e cs'))) (fun C w a st => ?_) h
  have hs : ext S nx obs (nx + j) = .cells ver e cs := by rw [ext_at, List.getD_eq_getElem?_getD, hj]; rfl
  have := st.sim.relabel (cs' := cs') hs hw.len.symm (by
    intro k p' hp'
    obtain ⟨p, hp, hk⟩ := hw.at k p' hp'
    exact .inr ⟨p, hp, fun v hv => hk _ _ _ _ hv⟩)
  rw [ext_set _ (by omega) (by omega), Nat.add_sub_cancel_left] at this
  exact ⟨C, ⟨this.1, st.size, fun k => (st.fr k).mono this.2, r.keep this.2 st.v⟩, this.2⟩

theorem wk_replicate (p q : PV) (h : Wk p q) : ∀ n : Nat, WkL (List.replicate n p) (List.replicate n q)
  | 0 => .nil
  | n + 1 => .cons h (wk_replicate p q h n)

/-- A call that turns nothing, and gives something of which R holds. -/
def RSpec (P : Program) (f : FuncId) (args : List PV) (R : PV → Prop) : Prop := ∀ S, Spec P f args S (fun q S' => R q ∧ S' = S)

theorem rspec_enter {P : Program} {N : Nat} {f : FuncId} {fn : Func} {c : Code} {rs : List ResultVar} {args : List PV} {R : PV → Prop} (hf : P.funcs[f]? = some fn) (hname : (fn.name == "runtime.NumGoroutine") = false) (hb : fn.body = some c) (hN : fn.ntmps = N) (hrs : fn.results.toList = rs) (hargs : args.length ≤ N)
    (h : ∀ S nx, DeadFrom nx S → PW P nor 0 N c (retQ P rs (fun p S' => R p ∧ S' = S)) (frame0 args) (ext S nx [])) : RSpec P f args R :=
  fun S => spec_enter hf hname hb hN hrs hargs (h S)

theorem ret_rel {P : Program} {nx : Nat} {F : Nat → PV} {S : Store} {obs : List Ob} {rs : List ResultVar} {R : PV → Prop} {ps : List PV} (hd : DeadFrom nx S) (h1 : resL P F (ext S nx obs) rs = some ps) (h2 : R (oneOf ps)) :
    ∃ ps S', resL P F (ext S nx obs) rs = some ps ∧ (R (oneOf ps) ∧ S' = S) ∧ ∀ o, S' o = ext S nx obs o ∨ S' o = .dead :=
  ⟨ps, S, h1, ⟨h2, rfl⟩, ext_kill0 hd⟩

theorem Pure.rspec {P : Program} {f : FuncId} {args : List PV} {v : PV} {R : PV → Prop} (h : Pure P f args v) (hR : R v) : RSpec P f args R := fun S => (h S).mono fun _ _ ⟨e, e'⟩ => ⟨e ▸ hR, e'⟩
theorem RSpec.mono {P : Program} {f : FuncId} {args : List PV} {R R' : PV → Prop} (h : RSpec P f args R) (hR : ∀ p, R p → R' p) : RSpec P f args R' := fun S => (h S).mono fun _ _ ⟨e, e'⟩ => ⟨hR _ e, e'⟩

/-- Of an object's cells fewer are told of. -/
theorem Sim.few {C : Ctx} {S : Store} {w : World} (h : Sim C S w) {o ver e : Nat} {cs : List PV} (hs : S o = .cells ver e cs) (m : Nat) : Sim C (S.set o (.cells ver e (cs.take m))) w ∧ Step C S w C (S.set o (.cells ver e (cs.take m))) w := by
  have hne : ∀ i, S.set o (.cells ver e (cs.take m)) i ≠ .dead → S i ≠ .dead := by
    intro i hi
    by_cases q : i = o
    · subst q; rw [hs]; simp
    · rw [Store.set_other _ _ _ _ q] at hi; exact hi
  have hver : ∀ i, (S.set o (.cells ver e (cs.take m)) i).ver = (S i).ver := by
    intro i
    by_cases q : i = o
    · subst q; rw [Store.set_same, hs]; rfl
    · rw [Store.set_other _ _ _ _ q]
  have st : Step C S w C (S.set o (.cells ver e (cs.take m))) w := ⟨rfl, ⟨rfl, Nat.le_refl _⟩, rfl, Nat.le_refl _, Nat.le_refl _, Nat.le_refl _, fun b _ hM => ⟨rfl, fun ⟨i, k, hi, hl⟩ => hM ⟨i, k, hne i hi, hl⟩⟩,
    fun i v1 hv => .inr ⟨v1, by rw [← hver]; exact hv, Nat.le_refl _, fun _ => rfl⟩⟩
  refine ⟨⟨fun i hi => h.lt i (hne i hi), fun i v hv => h.clk i v (by rw [← hver]; exact hv), fun i i' b k k' hi hi' => h.dist i i' b k k' (hne i hi) (hne i' hi'), ?_, ?_⟩, st⟩
  · intro i v' e' ds hi
    by_cases q : i = o
    · subst q
      rw [Store.set_same] at hi
      cases hi
      rcases h.cells i _ _ _ hs with ⟨h1, h2⟩ | ⟨b, k, c, h1, h2, h3, h4, h5, h6⟩
      · exact .inl ⟨h1, by rw [h2]; simp⟩
      · refine .inr ⟨b, k, c, h1, h2, h3, by simp; omega, fun j v hj hv => h5 j v (by simp at hj; omega) hv, fun j p v hp hv => ?_⟩
        rw [List.getElem?_take] at hp
        split at hp
        · exact (h6 j p v hp hv).mono st
        · cases hp
    · rw [Store.set_other _ _ _ _ q] at hi
      rcases h.cells i _ _ _ hi with hn | ⟨b, k, c, h1, h2, h3, h4, h5, h6⟩
      · exact .inl hn
      · exact .inr ⟨b, k, c, h1, h2, h3, h4, h5, fun j p v hp hv => (h6 j p v hp hv).mono st⟩
  · intro i v es hi
    by_cases q : i = o
    · subst q; rw [Store.set_same] at hi; cases hi
    · rw [Store.set_other _ _ _ _ q] at hi
      obtain ⟨b, k, ms, cl, h1, h2, h3, h4⟩ := h.maps i v es hi
      exact ⟨b, k, ms, cl, h1, h2, h3, fun j x m hx hm => ⟨(h4 j x m hx hm).1, (h4 j x m hx hm).2.mono st⟩⟩

theorem pw_few {P : Program} {r : Rd} {n nx N : Nat} {Q : Exit → (Nat → PV) → Store → Prop} {F : Nat → PV} {S : Store} {obs : List Ob} {c : Code} {ver e : Nat} {cs : List PV} (j m : Nat) (hj : obs[j]? = some (.cells ver e cs))
    (h : PW P r n N c Q F (ext S nx (obs.set j (.cells ver e (cs.take m))))) : PW P r n N c Q F (ext S nx obs) := by
  have hjl : j < obs.length := (List.getElem?_eq_some_iff.1 hj).1
  refine pw_ghost (F' := F) (S' := ext S nx (obs.set j (.cells ver e (cs.take m)))) (fun C w a st => ?_) h
  have hs : ext S nx obs (nx + j) = .cells ver e cs := by rw [ext_at, List.getD_eq_getElem?_getD, hj]; rfl
  have := st.sim.few hs m
  rw [ext_set _ (by omega) (by omega), Nat.add_sub_cancel_left] at this
  exact ⟨C, ⟨this.1, st.size, fun k => (st.fr k).mono this.2, r.keep this.2 st.v⟩, this.2⟩

@[simp] theorem getD_app {α : Type} (l m : List α) (k : Nat) (d : α) : (l ++ m).getD (l.length + k) d = m.getD k d := by
  rw [List.getD_eq_getElem?_getD, List.getD_eq_getElem?_getD, List.getElem?_append_right (by omega), Nat.add_sub_cancel_left]
@[simp] theorem getD_app0 {α : Type} (l m : List α) (d : α) : (l ++ m).getD l.length d = m.getD 0 d := getD_app l m 0 d
@[simp] theorem set_app {α : Type} (l m : List α) (k : Nat) (x : α) : (l ++ m).set (l.length + k) x = l ++ m.set k x := by
  rw [List.set_append_right _ _ (by omega), Nat.add_sub_cancel_left]
@[simp] theorem set_app0 {α : Type} (l m : List α) (x : α) : (l ++ m).set l.length x = l ++ m.set 0 x := set_app l m 0 x

@[simp low] theorem int_bne (a b : Int) : (a != b) = !decide (a = b) := rfl

attribute [simp] frq1 frqP frqO setF

end Go.Proofs.YtafcjklojnhbnaaGreat.Pv

