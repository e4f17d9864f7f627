/- Ghost layer, part 5: building structs and slices; slicing; the rest of what turns nothing. -/
import Derived.Test.YtdmmihkmcennpaaGd
namespace Go.Proofs.Ytdmmihkmcennpaa.Pv
open Go

def RelL (C : Ctx) (S : Store) (w : World) (cs : List PV) (vs : Array Value) : Prop :=
  cs.length = vs.size ∧ (∀ (i : Nat) (v : Value), vs[i]? = some v → v.oneCell' = true) ∧ ∀ (i : Nat) (c : PV) (v : Value), cs[i]? = some c → vs[i]? = some v → Rel C S w c v

theorem RelL.mono {C C' : Ctx} {S S' : Store} {w w' : World} (st : Step C S w C' S' w') {cs : List PV} {vs : Array Value} (h : RelL C S w cs vs) : RelL C' S' w' cs vs :=
  ⟨h.1, h.2.1, fun i c v hc hv => (h.2.2 i c v hc hv).mono st⟩

theorem fold_set (l : List Value) : ∀ (k off : Nat) (cells : Array Value), off + k + l.length ≤ cells.size →
    ((l.zipIdx k).foldl (fun cs x => cs.setIfInBounds (off + x.2) x.1) cells).size = cells.size ∧
    ∀ i, ((l.zipIdx k).foldl (fun cs x => cs.setIfInBounds (off + x.2) x.1) cells)[i]? = if off + k ≤ i ∧ i < off + k + l.length then l[i - (off + k)]? else cells[i]? := by
  induction l with
  | nil => intro k off cells _; exact ⟨rfl, fun i => by rw [if_neg (by simp only [List.length_nil]; omega)]; rfl⟩
  | cons x xs ih =>
    intro k off cells h
    simp only [List.length_cons] at h
    simp only [List.zipIdx_cons, List.foldl_cons]
    obtain ⟨h1, h2⟩ := ih (k + 1) off (cells.setIfInBounds (off + k) x) (by simp; omega)
    refine ⟨by rw [h1]; simp, fun i => ?_⟩
    rw [h2 i]
    simp only [List.length_cons]
    by_cases hi : i = off + k
    · subst hi
      rw [if_neg (by omega), if_pos (by omega)]
      have : off + k < cells.size := by omega
      simp [this]
    · by_cases hin : off + k ≤ i ∧ i < off + k + (xs.length + 1)
      · rw [if_pos (by omega), if_pos hin]
        have : i - (off + k) = (i - (off + (k + 1))) + 1 := by omega
        rw [this, List.getElem?_cons_succ]
      · rw [if_neg (by omega), if_neg hin]
        rw [Array.getElem?_setIfInBounds, if_neg (by omega)]

/-- May the value lie in cells? -/
def PV.fit : PV → Bool
  | .agg _ => true
  | p => p.one

def fillP (place : Nat → Option (Nat × Nat)) (cells : List PV) : List (Nat × PV) → Option (List PV)
  | [] => some cells
  | (i, p) :: rest =>
    match place i with
    | none => none
    | some (off, size) =>
      if p.cells.length = size ∧ off + size ≤ cells.length ∧ p.fit = true then fillP place (cells.take off ++ p.cells ++ cells.drop (off + size)) rest else none

theorem Rel.cells' {C : Ctx} {S : Store} {w : World} {p : PV} {v : Value} (h : Rel C S w p v) (h1 : p.fit = true) : RelL C S w p.cells v.cells := by
  cases p with
  | agg cs => cases h with | agg hl h1 h2 => exact ⟨hl, h1, h2⟩
  | junk => cases h1
  | tup => cases h1
  | sc v => exact h.cells (by simp [PV.cells]; exact h1)
  | _ => exact h.cells (by simp [PV.cells, PV.one])

theorem fillP_sound {C : Ctx} {S : Store} {w : World} {place : Nat → Option (Nat × Nat)} (F : Operand → PV) (ρ : Operand → Value) (hρ : ∀ x, Rel C S w (F x) (ρ x)) :
    ∀ (parts : List (Nat × Operand)) (cs : List PV) (vs : Array Value) (cs' : List PV), RelL C S w cs vs → fillP place cs (parts.map fun x => (x.1, F x.2)) = some cs' →
      ∃ vs', Instr.fill place vs (parts.map fun x => (x.1, ρ x.2)) = some vs' ∧ RelL C S w cs' vs' := by
  intro parts
  induction parts with
  | nil => intro cs vs cs' h hf; cases hf; exact ⟨vs, rfl, h⟩
  | cons x xs ih =>
    intro cs vs cs' h hf
    obtain ⟨i, x⟩ := x
    simp only [List.map_cons, fillP] at hf
    split at hf
    · cases hf
    · rename_i off size hp
      split at hf
      · rename_i hc
        obtain ⟨hc1, hc2, hc3⟩ := hc
        have hr := (hρ x).cells' hc3
        obtain ⟨hl, h1, h2⟩ := h
        obtain ⟨gl, g1, g2⟩ := hr
        obtain ⟨s1, s2⟩ := fold_set (ρ x).cells.toList 0 off vs (by simp; omega)
        simp only [Nat.add_zero, Array.length_toList] at s1 s2
        refine Exists.imp (fun vs' => And.imp_left fun e => ?_) (ih _ (((ρ x).cells.toList.zipIdx 0).foldl (fun cs x => cs.setIfInBounds (off + x.2) x.1) vs) cs' ?_ hf)
        · have hsz : (F x).cells.length = (ρ x).cells.size := gl
          simp only [List.map_cons, Instr.fill, hp]
          rw [if_neg (by simp only [Bool.or_eq_true, decide_eq_true_eq]; omega)]
          rw [← e]
          congr 1
          rw [← Array.foldl_toList, Array.toList_zipIdx]
        · refine ⟨?_, ?_, ?_⟩
          · rw [s1]; simp; omega
          · intro j v hv
            rw [s2 j] at hv
            split at hv
            · exact g1 _ v (by rw [← Array.getElem?_toList]; exact hv)
            · exact h1 j v hv
          · intro j c v hc' hv
            rw [s2 j] at hv
            split at hv
            · rename_i hj
              rw [List.append_assoc, List.getElem?_append_right (by simp; omega), List.length_take, Nat.min_eq_left (by omega), List.getElem?_append_left (by omega)] at hc'
              exact g2 (j - off) c v hc' (by rw [← Array.getElem?_toList]; exact hv)
            · rename_i hj
              by_cases hlt : j < off
              · rw [List.append_assoc, List.getElem?_append_left (by simp; omega), List.getElem?_take_of_lt hlt] at hc'
                exact h2 j c v hc' hv
              · rw [List.getElem?_append_right (by simp; omega), List.length_append, List.length_take, Nat.min_eq_left (by omega), List.getElem?_drop] at hc'
                have : off + size + (j - (off + (F x).cells.length)) = j := by omega
                rw [this] at hc'
                exact h2 j c v hc' hv
      · cases hf

def Program.zeroOf (P : Program) (t : TypeId) : Option Value := (P.info? t).bind (·.zero)

theorem run_zeroValue {P : Program} {t : TypeId} {z : Value} (h : Program.zeroOf P t = some z) (w : World) : (zeroValue t).run P w = .ok z w := by
  unfold zeroValue typeInfo
  unfold Program.zeroOf at h
  cases hi : P.info? t with
  | none => simp [hi] at h
  | some i => simp [hi] at h; simp [hi, h]

def zeroCellsOf (z : Value) : List PV := z.cells.toList.map .sc

theorem relL_zero {C : Ctx} {S : Store} {w : World} {z : Value} (h : z.cells.all (·.oneCell') = true) : RelL C S w (zeroCellsOf z) z.cells := by
  refine ⟨by simp [zeroCellsOf], ?_, ?_⟩
  · intro i v hv
    rw [Array.all_eq_true_iff_forall_mem] at h
    exact h v (Array.mem_of_getElem? hv)
  · intro i c v hc hv
    simp only [zeroCellsOf, List.getElem?_map, Array.getElem?_toList, hv, Option.map_some, Option.some.injEq] at hc
    subst hc; exact .sc v

/-- Where a struct's fields lie. -/
def placesP (P : Program) (t : TypeId) : Nat → Option (Nat × Nat) := fun i =>
  match P.underlying t with
  | some (.struct fs) =>
    match fs[i]? with
    | some f => some (f.offset, P.cellsOf f.type)
    | none => none
  | some (.array _ e) => some (i * P.cellsOf e, P.cellsOf e)
  | _ => none

/-- Is every part of the type known? -/
def knownP (P : Program) (t : TypeId) : Bool :=
  match P.underlying t with
  | some (.struct fs) => fs.all fun f => (P.info? f.type).isSome
  | some (.array _ e) => (P.info? e).isSome
  | _ => false

def buildP (P : Program) (t : TypeId) (parts : List (Nat × PV)) : Option PV :=
  match Program.zeroOf P t with
  | none => none
  | some z => if z.cells.all (·.oneCell') = true ∧ knownP P t = true then (fillP (placesP P t) (zeroCellsOf z) parts).map .agg else none

theorem run_sizeOf_some {P : Program} {t : TypeId} (h : (P.info? t).isSome = true) (w : World) : (sizeOf t).run P w = .ok (P.cellsOf t) w := by
  unfold sizeOf typeInfo Program.cellsOf
  cases hi : P.info? t with
  | none => simp [hi] at h
  | some i => simp [hi]

theorem run_mapM_places {P : Program} {w : World} : ∀ (l : List Field), (∀ f ∈ l, (P.info? f.type).isSome = true) →
    (l.mapM fun f => (do pure (f.offset, ← sizeOf f.type) : Sem (Nat × Nat))).run P w = .ok (l.map fun f => (f.offset, P.cellsOf f.type)) w := by
  intro l
  induction l with
  | nil => intro _; simp
  | cons f fs ih =>
    intro h
    simp only [List.mapM_cons, Sem.run_bind, run_sizeOf_some (h f (by simp)), Result.andThen_ok, Sem.run_pure, ih (fun g hg => h g (by simp [hg])), List.map_cons]

theorem buildP_sound {P : Program} {C : Ctx} {S : Store} {w : World} {t : TypeId} {parts : List (Nat × Operand)} {p : PV} (F : Operand → PV) (ρ : Operand → Value) (hρ : ∀ x, Rel C S w (F x) (ρ x))
    (h : buildP P t (parts.map fun x => (x.1, F x.2)) = some p) : ∃ r, (Instr.build t (parts.map fun x => (x.1, ρ x.2)).toArray).run P w = .ok r w ∧ Rel C S w p r := by
  unfold buildP at h
  split at h
  · cases h
  · rename_i z hz
    split at h
    · rename_i hc
      obtain ⟨hone, hk⟩ := hc
      obtain ⟨cs', hf, rfl⟩ := Option.map_eq_some_iff.1 h
      obtain ⟨vs', hv, hr⟩ := fillP_sound F ρ hρ parts _ _ _ (relL_zero hone) hf
      refine ⟨.agg vs', ?_, .agg hr.1 hr.2.1 hr.2.2⟩
      unfold Instr.build
      simp only [Sem.run_bind, run_zeroValue hz, Result.andThen_ok]
      unfold knownP at hk
      unfold placesP at hv
      cases ht : P.underlying t with
      | none => rw [ht] at hk; cases hk
      | some d =>
        rw [ht] at hk hv
        cases d with
        | struct fs =>
          simp only at hk hv
          simp only [run_underlying ht, Result.andThen_ok, Sem.run_bind]
          have hm := run_mapM_places (P := P) (w := w) fs.toList (fun f hf => by
            rw [Array.all_eq_true_iff_forall_mem] at hk
            exact hk f (Array.mem_toList_iff.1 hf))
          have hm' : (fs.mapM fun f => (do pure (f.offset, ← sizeOf f.type) : Sem (Nat × Nat))).run P w = .ok (fs.map fun f => (f.offset, P.cellsOf f.type)) w := by
            rw [← Array.toArray_toList (xs := fs), List.mapM_toArray]
            simp only [Sem.run_map, hm, Result.andThen_ok]
            congr 1
            apply Array.toList_inj.1
            simp
          rw [hm']
          simp only [Result.andThen_ok]
          have hpl : (fun (x : Nat) => (fs.map fun (f : Field) => (f.offset, P.cellsOf f.type))[x]?) = (fun i => match fs[i]? with | some (f : Field) => some (f.offset, P.cellsOf f.type) | none => none) := by
            funext i
            rw [Array.getElem?_map]
            cases fs[i]? <;> rfl
          rw [hpl, hv]
          rfl
        | array n e =>
          simp only at hk hv
          simp only [run_underlying ht, Result.andThen_ok, Sem.run_bind, run_sizeOf_some hk]
          rw [hv]
          rfl
        | _ => cases hk
    · cases h

/-- Zeros, again and again. -/
def zerosP (n : Nat) (z : Value) : List PV := (List.range (n * z.cells.size)).map fun i => .sc (z.cells[i % z.cells.size]!)

theorem relL_zeros {C : Ctx} {S : Store} {w : World} {z : Value} (h : z.cells.all (·.oneCell') = true) (n : Nat) :
    RelL C S w (zerosP n z) ((Array.range (n * z.cells.size)).map (z.cells[· % z.cells.size]!)) := by
  refine ⟨by simp [zerosP], ?_, ?_⟩
  · intro i v hv
    rw [Array.getElem?_map, Option.map_eq_some_iff] at hv
    obtain ⟨j, hj, rfl⟩ := hv
    have hlt : j < n * z.cells.size := by
      obtain ⟨h1, h2⟩ := Array.getElem?_eq_some_iff.1 hj
      simp at h1 h2; omega
    have hp : 0 < z.cells.size := by
      rcases Nat.eq_zero_or_pos z.cells.size with e | e
      · rw [e] at hlt; omega
      · exact e
    have hm : j % z.cells.size < z.cells.size := Nat.mod_lt _ hp
    rw [getElem!_pos z.cells _ hm]
    rw [Array.all_eq_true] at h
    exact h _ hm
  · intro i c v hc hv
    rw [Array.getElem?_map, Option.map_eq_some_iff] at hv
    obtain ⟨j, hj, rfl⟩ := hv
    obtain ⟨h1, h2⟩ := Array.getElem?_eq_some_iff.1 hj
    simp at h1 h2
    subst h2
    simp only [zerosP, List.getElem?_map, List.getElem?_range h1, Option.map_some, Option.some.injEq] at hc
    subst hc; exact .sc _

/-- The cells of a slice that is written out. -/
def litP (P : Program) (e : TypeId) (len : Nat) (parts : List (Nat × PV)) : Option (List PV) :=
  match Program.zeroOf P e with
  | none => none
  | some z => if z.cells.all (·.oneCell') = true ∧ z.cells.size = P.cellsOf e ∧ P.cellsOf e ≠ 0 ∧ len * P.cellsOf e ≤ 2 ^ 24 then
      fillP (fun i => some (i * P.cellsOf e, P.cellsOf e)) (zerosP len z) parts else none

theorem litP_sound {P : Program} {C : Ctx} {S : Store} {w : World} {t e : TypeId} {len : Nat} {parts : List (Nat × Operand)} {cs : List PV} (ht : P.underlying t = some (.slice e)) (F : Operand → PV) (ρ : Operand → Value)
    (hρ : ∀ x, Rel C S w (F x) (ρ x)) (h : litP P e len (parts.map fun x => (x.1, F x.2)) = some cs) :
    ∃ vs, (Instr.buildSlice t len (parts.map fun x => (x.1, ρ x.2)).toArray).run P w = .ok (.slice (some ⟨w.heap.size, 0, none⟩) len len) (w.alloc (.cells vs e)) ∧ RelL C S w cs vs ∧ vs.size = len * P.cellsOf e := by
  unfold litP at h
  split at h
  · cases h
  · rename_i z hz
    split at h
    · rename_i hc
      obtain ⟨hone, hsz, h0, h24⟩ := hc
      obtain ⟨vs', hv, hr⟩ := fillP_sound F ρ hρ parts _ _ _ (relL_zeros hone len) h
      have hlen : ∀ (l : List (Nat × PV)) (a b : List PV) (pl : Nat → Option (Nat × Nat)), fillP pl a l = some b → b.length = a.length := by
        intro l
        induction l with
        | nil => intro a b pl hh; cases hh; rfl
        | cons x xs ih =>
          intro a b pl hh
          obtain ⟨i, x⟩ := x
          simp only [fillP] at hh
          split at hh
          · cases hh
          · split at hh
            · rename_i hc
              obtain ⟨hc1, hc2, hc3⟩ := hc
              rw [ih _ _ _ hh]; simp; omega
            · cases hh
      refine ⟨vs', ?_, hr, ?_⟩
      · unfold Instr.buildSlice
        simp only [Sem.run_bind, run_underlying ht, Result.andThen_ok, run_sizeOf' h0]
        rw [if_neg (by omega)]
        by_cases hl0 : len * P.cellsOf e = 0
        · have hlen0 : len = 0 := by
            rcases Nat.mul_eq_zero.1 hl0 with h | h
            · exact h
            · exact absurd h h0
          subst hlen0
          simp only [Nat.zero_mul, Array.range_zero', Array.map_empty] at hv
          simp only [Nat.zero_mul, if_true, Sem.run_pure, Result.andThen_ok, Sem.run_bind, Array.range_zero', Array.map_empty]
          rw [hv]
          simp [newRow]
        · rw [if_neg hl0]
          simp only [Sem.run_bind, run_zeroValue hz, Result.andThen_ok, Sem.run_pure]
          rw [← hsz] at hv ⊢
          rw [hv]
          simp [newRow]
      · rw [← hr.1, hlen _ _ _ _ h]; simp [zerosP, hsz]
    · cases h

end Go.Proofs.Ytdmmihkmcennpaa.Pv
