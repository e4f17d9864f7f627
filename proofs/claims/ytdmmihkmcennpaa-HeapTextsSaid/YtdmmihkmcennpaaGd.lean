/- Ghost layer, part 4: operations on addresses, slices, structs. -/
import Derived.Test.YtdmmihkmcennpaaGc
namespace Go.Proofs.Ytdmmihkmcennpaa.Pv
open Go

def indexP (P : Program) (t : TypeId) (x i : PV) : Option PV :=
  match i with
  | .sc (.int _ n) =>
    match P.underlying t with
    | some (.slice e) =>
      match x with
      | .lst len cs => if (0 ≤ n ∧ n < (len : Int)) ∧ P.cellsOf e ≠ 0 then some (.ip (cs.drop (n.toNat * P.cellsOf e))) else none
      | .sl o ver _ off len => if (0 ≤ n ∧ n < (len : Int)) ∧ P.cellsOf e ≠ 0 then some (.ptr o ver (off + n.toNat * P.cellsOf e)) else none
      | _ => none
    | some (.array len e) =>
      match x with
      | .ip cs => if (0 ≤ n ∧ n < (len : Int)) ∧ P.cellsOf e ≠ 0 then some (.ip (cs.drop (n.toNat * P.cellsOf e))) else none
      | .ptr o ver off => if (0 ≤ n ∧ n < (len : Int)) ∧ P.cellsOf e ≠ 0 then some (.ptr o ver (off + n.toNat * P.cellsOf e)) else none
      | _ => none
    | _ => none
  | _ => none

theorem run_sizeOf' {P : Program} {t : TypeId} (h : P.cellsOf t ≠ 0) (w : World) : (sizeOf t).run P w = .ok (P.cellsOf t) w := by
  unfold sizeOf typeInfo
  unfold Program.cellsOf at h ⊢
  cases hi : P.info? t with
  | none => simp [hi] at h
  | some i => simp [hi]

theorem run_sizeOf {P : Program} {t : TypeId} {d : TypeDesc} (h : P.underlying t = some d) (w : World) : (sizeOf t).run P w = .ok (P.cellsOf t) w := by
  unfold sizeOf typeInfo Program.cellsOf
  unfold Program.underlying at h
  cases hi : P.info? t with
  | none => simp [hi] at h
  | some i => simp [hi]

theorem rel_drop {C : Ctx} {S : Store} {w : World} {c : Array Value} {o k : Nat} {cs : List PV} (hs : cs ≠ [] → o + cs.length ≤ c.size)
    (h1 : ∀ (i : Nat) (v : Value), i < cs.length → c[o + i]? = some v → v.oneCell' = true)
    (h : ∀ (i : Nat) (p : PV) (v : Value), cs[i]? = some p → c[o + i]? = some v → Rel C S w p v) :
    (cs.drop k ≠ [] → (o + k) + (cs.drop k).length ≤ c.size) ∧ (∀ (i : Nat) (v : Value), i < (cs.drop k).length → c[(o + k) + i]? = some v → v.oneCell' = true) ∧
    ∀ (i : Nat) (p : PV) (v : Value), (cs.drop k)[i]? = some p → c[(o + k) + i]? = some v → Rel C S w p v := by
  refine ⟨fun hne => ?_, fun i v hi hv => ?_, fun i p v hp hv => ?_⟩
  · have hk : k < cs.length := by
      rcases Nat.lt_or_ge k cs.length with h | h
      · exact h
      · exact absurd (List.drop_eq_nil_of_le h) hne
    have := hs (by intro e; rw [e] at hk; simp at hk)
    rw [List.length_drop]; omega
  · rw [List.length_drop] at hi
    exact h1 (k + i) v (by omega) (by rw [← Nat.add_assoc]; exact hv)
  · rw [List.getElem?_drop] at hp
    exact h (k + i) p v hp (by rw [← Nat.add_assoc]; exact hv)

theorem Addr.add_plain (b o n : Nat) : Addr.add ⟨b, o, none⟩ n = ⟨b, o + n, none⟩ := Addr.add_lit b o n

theorem indexP_sound {P : Program} {C : Ctx} {S : Store} {w : World} {t : TypeId} {x i p : PV} {u v : Value} 
    (h : indexP P t x i = some p) (hu : Rel C S w x u) (hv : Rel C S w i v) : ∃ r, (Instr.indexAt t u v).run P w = .ok r w ∧ Rel C S w p r := by
  unfold indexP at h
  split at h
  · cases hv
    rename_i k n
    split at h
    · rename_i e ht
      split at h
      · rename_i len cs
        split at h
        · rename_i hn
          obtain ⟨hn, hz⟩ := hn
          cases h
          cases hu with
          | lst0 => simp only [Int.natCast_zero] at hn; omega
          | lst1 hn' hm hb hM hs h1 hr =>
            obtain ⟨g1, g2, g3⟩ := rel_drop (k := n.toNat * P.cellsOf e) hs h1 hr
            refine ⟨_, ?_, .ip hb hM g1 g2 g3⟩
            simp [Instr.indexAt, asIntOf, run_underlying ht, hn, run_sizeOf' hz, Addr.add_plain]
        · cases h
      · rename_i o ver sz off len
        split at h
        · rename_i hn
          obtain ⟨hn, hz⟩ := hn
          cases h
          cases hu with
          | sl h1 h2 h3 =>
            obtain ⟨a, cap, rfl, k1, k2, k3, k4⟩ := h1
            obtain ⟨b, f, rfl⟩ := k4 (by omega)
            refine ⟨_, by simp [Instr.indexAt, asIntOf, run_underlying ht, hn, run_sizeOf' hz, Addr.add_plain]; rfl, .ptr ⟨_, rfl⟩ h2 fun v0 hv0 => ?_⟩
            obtain ⟨g1, g2⟩ := h3 v0 hv0
            refine ⟨g1, fun hq => ?_⟩
            rcases g2 hq with ⟨_, g, _⟩ | ⟨b', k', a', cap', q1, q2, q3, q4⟩
            · omega
            · have := q4 (by omega)
              cases q2
              cases this
              exact ⟨_, _, q1, rfl⟩
        · cases h
      · cases h
    · rename_i len e ht
      split at h
      · rename_i cs
        split at h
        · rename_i hn
          obtain ⟨hn, hz⟩ := hn
          cases h
          cases hu with
          | ip hb hM hs h1 hr =>
            obtain ⟨g1, g2, g3⟩ := rel_drop (k := n.toNat * P.cellsOf e) hs h1 hr
            refine ⟨_, ?_, .ip hb hM g1 g2 g3⟩
            simp [Instr.indexAt, asIntOf, run_underlying ht, hn, run_sizeOf' hz, Addr.add_plain, Instr.sureAddr]
        · cases h
      · rename_i o ver off
        split at h
        · rename_i hn
          obtain ⟨hn, hz⟩ := hn
          cases h
          cases hu with
          | ptr h1 h2 h3 =>
            obtain ⟨a, rfl⟩ := h1
            refine ⟨_, by simp [Instr.indexAt, asIntOf, run_underlying ht, hn, run_sizeOf' hz, Instr.sureAddr]; rfl, .ptr ⟨_, rfl⟩ h2 fun v0 hv0 => ?_⟩
            obtain ⟨g1, g2⟩ := h3 v0 hv0
            refine ⟨g1, fun hq => ?_⟩
            obtain ⟨b, k', q1, q2⟩ := g2 hq
            cases q2
            exact ⟨_, _, q1, by rw [Addr.add_plain]⟩
        · cases h
      · cases h
    · cases h
  · cases h

def fieldP (P : Program) (t : TypeId) (x : PV) (f : Nat) : Option PV :=
  match P.underlying t with
  | some (.struct fs) =>
    match fs[f]? with
    | some fd =>
      if P.cellsOf fd.type = 0 then none else
      match x with
      | .ip cs => some (.ip (cs.drop fd.offset))
      | .ptr o ver off => some (.ptr o ver (off + fd.offset))
      | _ => none
    | none => none
  | _ => none

theorem fieldP_sound {P : Program} {C : Ctx} {S : Store} {w : World} {t : TypeId} {x p : PV} {f : Nat} {u : Value} (h : fieldP P t x f = some p) (hu : Rel C S w x u) :
    ∃ r, (Instr.fieldAt t u f).run P w = .ok r w ∧ Rel C S w p r := by
  unfold fieldP at h
  split at h
  · rename_i fs ht
    split at h
    · rename_i fd hf
      split at h
      · cases h
      · rename_i hz
        have hsz := run_sizeOf' hz w
        split at h
        · cases h
          cases hu with
          | ip hb hM hs h1 hr =>
            obtain ⟨g1, g2, g3⟩ := rel_drop (k := fd.offset) hs h1 hr
            refine ⟨_, ?_, .ip hb hM g1 g2 g3⟩
            simp [Instr.fieldAt, run_underlying ht, hf, Instr.sureAddr, fieldPlace, hsz, hz, Addr.add_plain]
        · cases h
          cases hu with
          | ptr h1 h2 h3 =>
            obtain ⟨a, rfl⟩ := h1
            refine ⟨_, by simp [Instr.fieldAt, run_underlying ht, hf, Instr.sureAddr, fieldPlace, hsz, hz]; rfl, .ptr ⟨_, rfl⟩ h2 fun v0 hv0 => ?_⟩
            obtain ⟨g1, g2⟩ := h3 v0 hv0
            refine ⟨g1, fun hq => ?_⟩
            obtain ⟨b, k', q1, q2⟩ := g2 hq
            cases q2
            exact ⟨_, _, q1, by rw [Addr.add_plain]⟩
        · cases h
    · cases h
  · cases h

theorem extract_self (c : Array Value) (o : Nat) : c.extract o o = #[] := by
  apply Array.eq_empty_of_size_eq_zero
  simp only [Array.size_extract]; omega

/-- A load from what nobody will write. -/
theorem run_loadCellsFrom {P : Program} {w : World} {b o : Nat} {c : Array Value} {e : TypeId} {fz : Nat × Nat} (hb : w.heap[b]? = some (.cells c e fz)) :
    ∀ (n i : Nat) (acc : Array Value), o + i + n ≤ c.size → (loadCellsFrom ⟨b, o, none⟩ i n acc).run P w = .ok (acc ++ c.extract (o + i) (o + i + n)) w := by
  intro n
  induction n with
  | zero =>
    intro i acc h
    simp only [loadCellsFrom, Sem.run_pure, Nat.add_zero]
    rw [extract_self, Array.append_empty]
  | succ n ih =>
    intro i acc h
    have hc : w.cell? ⟨b, o + i, none⟩ = some (c[o + i]'(by omega)) := by
      simp [World.cell?, hb]
    unfold loadCellsFrom
    simp only [Sem.run_bind, run_load, Addr.add_plain, hc, Result.andThen_ok]
    rw [ih (i + 1) _ (by omega)]
    congr 1
    apply Array.ext
    · simp only [Array.size_append, Array.size_push, Array.size_extract]; omega
    · intro j h1 h2
      simp only [Array.getElem_append, Array.getElem_push, Array.getElem_extract, Array.size_push]
      by_cases q1 : j < acc.size
      · have : j < acc.size + 1 := by omega
        simp [q1, this]
      · by_cases q2 : j = acc.size
        · subst q2; simp
        · have : ¬ j < acc.size + 1 := by omega
          simp only [q1, this, dite_false]
          congr 1
          omega

theorem run_isAgg {P : Program} {t : TypeId} {d : TypeDesc} (h : P.underlying t = some d) (w : World) : (isAgg t).run P w = .ok (isAgg' (P.underlying t)) w := by
  unfold isAgg
  rw [h]
  simp only [Sem.run_bind, run_underlying h, Result.andThen_ok]
  cases d <;> rfl

theorem run_loadVar {P : Program} {C : Ctx} {S : Store} {w : World} {b o : Nat} {c : Array Value} {e : TypeId} {fz : Nat × Nat} {t : TypeId} {cs : List PV} {p : PV} {d : TypeDesc} (hd : P.underlying t = some d)
    (hb : w.heap[b]? = some (.cells c e fz)) (hs : cs ≠ [] → o + cs.length ≤ c.size)
    (h1 : ∀ (i : Nat) (v : Value), i < cs.length → c[o + i]? = some v → v.oneCell' = true)
    (h : ∀ (i : Nat) (q : PV) (v : Value), cs[i]? = some q → c[o + i]? = some v → Rel C S w q v) (hp : partP P t cs = some p) :
    ∃ r, (loadVar t ⟨b, o, none⟩).run P w = .ok r w ∧ Rel C S w p r := by
  unfold partP at hp
  unfold loadVar
  simp only [Sem.run_bind, run_isAgg hd, Result.andThen_ok]
  cases hg : isAgg' (P.underlying t)
  · simp only [hg, Bool.false_eq_true, if_false] at hp ⊢
    cases cs with
    | nil => cases hp
    | cons q qs =>
      cases hp
      have := hs (by simp)
      simp only [List.length_cons] at this
      have hc : w.cell? ⟨b, o, none⟩ = some (c[o]'(by omega)) := by simp [World.cell?, hb]
      refine ⟨c[o]'(by omega), by simp [run_load, hc], ?_⟩
      exact h 0 p _ rfl (by simp)
  · simp only [hg, if_true] at hp ⊢
    split at hp
    · rename_i hz
      cases hp
      refine ⟨.agg (c.extract o (o + P.cellsOf t)), ?_, ?_⟩
      · simp only [Sem.run_bind, run_sizeOf hd, Result.andThen_ok, loadCells]
        by_cases h0 : P.cellsOf t = 0
        · simp [h0, loadCellsFrom, extract_self]
        · have hne : cs ≠ [] := by intro e; rw [e] at hz; simp at hz; exact h0 hz
          have := hs hne
          have hr := run_loadCellsFrom (P := P) (o := o) hb (P.cellsOf t) 0 #[] (by omega)
          simp only [Nat.add_zero] at hr
          simp [hr]
      · by_cases h0 : P.cellsOf t = 0
        · rw [h0, Nat.add_zero, extract_self]
          refine .agg (by simp) ?_ ?_
          · intro i v hv; simp at hv
          · intro i c v hc; simp at hc
        have hne : cs ≠ [] := by intro e; rw [e] at hz; simp at hz; exact h0 hz
        have := hs hne
        have hx : ∀ (i : Nat) (v : Value), (c.extract o (o + P.cellsOf t))[i]? = some v → i < P.cellsOf t ∧ c[o + i]? = some v := by
          intro i v hv
          rw [Array.getElem?_extract] at hv
          split at hv
          · exact ⟨by omega, hv⟩
          · cases hv
        refine .agg (by simp; omega) ?_ ?_
        · intro i v hv
          obtain ⟨x1, x2⟩ := hx i v hv
          exact h1 i v (by omega) x2
        · intro i q v hq hv
          obtain ⟨x1, x2⟩ := hx i v hv
          rw [List.getElem?_take_of_lt x1] at hq
          exact h i q v hq x2
    · cases hp

/-- A part of a value. -/
theorem run_part {P : Program} {C : Ctx} {S : Store} {w : World} {t : TypeId} {d : TypeDesc} (hd : P.underlying t = some d) {cs : List PV} {vs : Array Value} {o : Nat} {p : PV} (hl : cs.length = vs.size)
    (h1 : ∀ (i : Nat) (v : Value), vs[i]? = some v → v.oneCell' = true) (h : ∀ (i : Nat) (c : PV) (v : Value), cs[i]? = some c → vs[i]? = some v → Rel C S w c v)
    (hp : partP P t (cs.drop o) = some p) : ∃ r, (part t vs o).run P w = .ok r w ∧ Rel C S w p r := by
  unfold partP at hp
  unfold part
  simp only [Sem.run_bind, run_isAgg hd, Result.andThen_ok]
  cases hg : isAgg' (P.underlying t)
  · simp only [hg, Bool.false_eq_true, if_false] at hp ⊢
    rw [List.head?_drop] at hp
    have ho : o < cs.length := (List.getElem?_eq_some_iff.1 hp).1
    have hv : vs[o]? = some (vs[o]'(by omega)) := by simp
    exact ⟨_, by simp [hv], h o p _ hp hv⟩
  · simp only [hg, if_true] at hp ⊢
    split at hp
    · rename_i hz
      cases hp
      rw [List.length_drop] at hz
      refine ⟨.agg (vs.extract o (o + P.cellsOf t)), by simp [run_sizeOf hd], ?_⟩
      by_cases h0 : P.cellsOf t = 0
      · rw [h0, Nat.add_zero, extract_self]
        refine .agg (by simp) ?_ ?_
        · intro i v hv; simp at hv
        · intro i c v hc; simp at hc
      have hx : ∀ (i : Nat) (v : Value), (vs.extract o (o + P.cellsOf t))[i]? = some v → i < P.cellsOf t ∧ vs[o + i]? = some v := by
        intro i v hv
        rw [Array.getElem?_extract] at hv
        split at hv
        · exact ⟨by omega, hv⟩
        · cases hv
      refine .agg (by simp; omega) ?_ ?_
      · intro i v hv
        exact h1 _ v (hx i v hv).2
      · intro i q v hq hv
        obtain ⟨x1, x2⟩ := hx i v hv
        rw [List.getElem?_take_of_lt x1, List.getElem?_drop] at hq
        exact h (o + i) q v hq x2
    · cases hp

end Go.Proofs.Ytdmmihkmcennpaa.Pv
