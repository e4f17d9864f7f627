/- From a walk over the ghost store to a row. -/
import Derived.Test.YtafcjklojnhbnaaGreatTy
import Derived.Test.YtafcjklojnhbnaaGreatRows
import Derived.ProofKit
namespace Go.Proofs.YtafcjklojnhbnaaGreat.Pv
open Go Go.ChangeShapes Go.WideShapes Go.ChangeAt Go.RowKit
set_option maxRecDepth 100000

def S0 : Store := fun _ => .dead
def C0 : Ctx := ⟨fun _ => none, 0, 0⟩

theorem sim0 (w : World) : Sim C0 S0 w :=
  ⟨fun _ h => absurd rfl h, (fun _ _ h => by cases h), fun _ _ _ _ _ h => absurd rfl h, (fun _ _ _ _ h => by cases h), (fun _ _ _ h => by cases h)⟩

theorem notM0 (b : Nat) : ¬ C0.M S0 b := by rintro ⟨o, k, h, _⟩; exact h rfl

theorem below_of_step {C' : Ctx} {S' : Store} {w w' : World} (h : Step C0 S0 w C' S' w') : Below w.heap.size w w' :=
  ⟨h.os, h.tape.1, h.output, h.size, fun b hb => (h.blocks b hb (notM0 b)).1⟩

/-- What is read of a type is a plain value of α. -/
def Opens (P : Program) (w : World) (t : TypeId) (α : Type) [Enc α] (Ok : α → Prop) : Prop :=
  ∀ (H : Type) (enc : TypeId × Value → H) (fuel : Nat) (cs : List Value) (x : DataW H × List MemPlace), DataW.trod enc P w 0 (fun _ => true) true fuel t cs = some x → ∃ a : α, Ok a ∧ RelL C0 S0 w (Enc.enc a) cs.toArray

section
variable {P : Program} {w : World}

theorem relL_one {p : PV} {v : Value} (h : Rel C0 S0 w p v) (h1 : v.oneCell' = true) : RelL C0 S0 w [p] #[v] := by
  refine ⟨rfl, fun i u hu => ?_, fun i q u hq hu => ?_⟩
  · match i with
    | 0 => cases hu; exact h1
    | i + 1 => cases hu
  · match i with
    | 0 => cases hq; cases hu; exact h
    | i + 1 => cases hq

theorem opens_int {t : TypeId} (ht : P.underlying t = some (.int .i64)) : Opens P w t Int I64 := by
  intro H enc fuel cs x h
  cases fuel with
  | zero => cases h
  | succ n =>
    unfold DataW.trod at h
    rw [ht] at h
    match cs, h with
    | [.int k z], h =>
      simp only at h
      split at h
      · rename_i hk
        obtain ⟨rfl, hw⟩ := hk
        refine ⟨z, ?_, relL_one (.sc _) rfl⟩
        unfold Lit.wf at hw
        simp only [Bool.and_eq_true, decide_eq_true_eq] at hw
        exact hw
      · cases h

theorem opens_u64 {t : TypeId} (ht : P.underlying t = some (.int .u64)) : Opens P w t Nat (· < 2 ^ 64) := by
  intro H enc fuel cs x h
  cases fuel with
  | zero => cases h
  | succ n =>
    unfold DataW.trod at h
    rw [ht] at h
    match cs, h with
    | [.int k z], h =>
      simp only at h
      split at h
      · rename_i hk
        obtain ⟨rfl, hw⟩ := hk
        unfold Lit.wf at hw
        simp only [Bool.and_eq_true, decide_eq_true_eq] at hw
        have h0 : 0 ≤ z := hw.1
        have h1 : z ≤ 18446744073709551615 := hw.2
        obtain ⟨m, rfl⟩ := Int.eq_ofNat_of_zero_le h0
        exact ⟨m, by omega, relL_one (.sc _) rfl⟩
      · cases h

theorem opens_bool {t : TypeId} (ht : P.underlying t = some .bool) : Opens P w t Bool (fun _ => True) := by
  intro H enc fuel cs x h
  cases fuel with
  | zero => cases h
  | succ n =>
    unfold DataW.trod at h
    rw [ht] at h
    match cs, h with
    | [.bool b], h => exact ⟨b, trivial, relL_one (.sc _) rfl⟩

theorem relL_at {cs : List PV} {vs : List Value} (h : RelL C0 S0 w cs vs.toArray) : cs.length = vs.length ∧ (∀ (i : Nat) (v : Value), vs[i]? = some v → v.oneCell' = true) ∧ ∀ (i : Nat) (p : PV) (v : Value), cs[i]? = some p → vs[i]? = some v → Rel C0 S0 w p v := by
  obtain ⟨h1, h2, h3⟩ := h
  simp only [List.size_toArray, List.getElem?_toArray] at h1 h2 h3
  exact ⟨h1, h2, h3⟩

theorem mem_all {α : Type} {Q : Nat → α → Prop} : ∀ (n : Nat), (∀ i, i < n → ∃ a, Q i a) → ∃ l : List α, l.length = n ∧ ∀ (i : Nat) (a : α), l[i]? = some a → Q i a
  | 0, _ => ⟨[], rfl, fun i a h => nomatch h⟩
  | n + 1, h => by
    obtain ⟨l, hl, hq⟩ := mem_all n fun i hi => h i (by omega)
    obtain ⟨a, ha⟩ := h n (by omega)
    refine ⟨l ++ [a], by simp [hl], fun i b hb => ?_⟩
    by_cases hi : i < n
    · rw [List.getElem?_append_left (by omega)] at hb; exact hq i b hb
    · by_cases he : i = n
      · subst he; rw [List.getElem?_append_right (by omega), hl] at hb; simp at hb; subst hb; exact ha
      · rw [List.getElem?_eq_none (by simp; omega)] at hb; cases hb

theorem flat_get {α : Type} [Enc α] (l : List α) (i j : Nat) (hj : j < Enc.sz α) {a : α} (hi : l[i]? = some a) : (l.flatMap Enc.enc)[i * Enc.sz α + j]? = (Enc.enc a)[j]? := by
  have hlt := (List.getElem?_eq_some_iff.1 hi).1
  have := flat_dr hlt
  have e : (l.flatMap Enc.enc)[i * Enc.sz α + j]? = ((l.flatMap Enc.enc).drop (i * Enc.sz α))[j]? := by rw [List.getElem?_drop]
  rw [e, this, List.getElem?_append_left (by rw [Enc.len]; exact hj)]
  rw [(List.getElem?_eq_some_iff.1 hi).2]

theorem opens_list {t e : TypeId} {α : Type} [Enc α] {Ok : α → Prop} (ht : P.underlying t = some (.slice e)) (hsz : P.cellsOf e = Enc.sz α) (h0 : Enc.sz α ≠ 0) (he : Opens P w e α Ok) : Opens P w t (List α) (fun l => l.length ≤ 9223372036854775807 ∧ ∀ a ∈ l, Ok a) := by
  intro H enc fuel cs x h
  rcases DataW.trod_slice ht h with ⟨rfl, _⟩ | ⟨a, len, cap, elems, rest, n, _, rfl, rfl, hb, hl, hm, hlen, hel, hsp, hns⟩
  · exact ⟨[], ⟨by simp, by simp⟩, relL_one .lst0 rfl⟩
  have key : ∀ i, i < len → ∃ z : α, Ok z ∧ ∃ vs : List Value, w.cells? 0 (a.add (i * P.cellsOf e)) (P.cellsOf e) = some vs ∧ RelL C0 S0 w (Enc.enc z) vs.toArray := by
    intro i hi
    have h1 := hel i hi
    have h2 : elems[i]? = some (elems[i]'(by omega)) := by simp
    rw [h2, Option.bind_eq_some_iff] at h1
    obtain ⟨vs, hv, hx⟩ := h1
    obtain ⟨z, hz, hr⟩ := he H enc n vs _ hx
    exact ⟨z, hz, vs, hv, hr⟩
  obtain ⟨zs, hzl, hz⟩ := mem_all len key
  have hml : len ≤ 9223372036854775807 := by unfold maxLen at hm; omega
  refine ⟨zs, ⟨by omega, fun z hzm => ?_⟩, ?_⟩
  · obtain ⟨i, hi⟩ := List.getElem?_of_mem hzm
    exact (hz i z hi).1
  refine relL_one (p := L zs) (v := .slice (some a) len cap) ?_ rfl
  rcases Nat.eq_zero_or_pos len with hl0 | hl0
  · subst hl0
    have : zs = [] := List.eq_nil_of_length_eq_zero hzl
    subst this
    exact .lst0
  -- the block
  obtain ⟨b, off, spot⟩ := a
  have first := hz 0 _ (List.getElem?_eq_getElem (by omega : 0 < zs.length))
  obtain ⟨_, vs0, hv0, hr0⟩ := first
  obtain ⟨_, hvl, hvc⟩ := World.cells?_some hv0
  have hblk : ∃ c e' fz, w.heap[b]? = some (.cells c e' fz) ∧ spot = none := by
    have h1 := hvc 0 (by omega)
    have hs0 : vs0[0]? = some (vs0[0]'(by omega)) := by simp
    rw [hs0] at h1
    unfold World.cell? at h1
    have q1 : (((⟨b, off, spot⟩ : Addr).add (0 * P.cellsOf e)).add 0).block = b := by unfold Addr.add; split <;> simp_all
    have q3 : spot ≠ none → (((⟨b, off, spot⟩ : Addr).add (0 * P.cellsOf e)).add 0).spot ≠ none := by intro hs; simp [Addr.add, hs]
    rw [q1] at h1
    split at h1
    · rename_i c e' fz hbb
      refine ⟨c, e', fz, hbb, ?_⟩
      cases hsp' : spot with
      | none => rfl
      | some s =>
        have := q3 (by rw [hsp']; simp)
        rw [hsp'] at this h1
        split at h1
        · cases h1
        · rename_i hns'
          exfalso
          cases hq : (((⟨b, off, some s⟩ : Addr).add (0 * P.cellsOf e)).add 0).spot with
          | none => exact this hq
          | some s2 => rw [hq] at hns'; exact hns' rfl
    · cases h1
  obtain ⟨c, e', fz, hbb, rfl⟩ := hblk
  have cellAt : ∀ i j, i < len → j < Enc.sz α → ∃ z v, zs[i]? = some z ∧ c[off + (i * Enc.sz α + j)]? = some v ∧ v.oneCell' = true ∧ ∃ p, (Enc.enc z)[j]? = some p ∧ Rel C0 S0 w p v := by
    intro i j hi hj
    have hzi : zs[i]? = some (zs[i]'(by omega)) := by simp
    obtain ⟨_, vs, hv, hr⟩ := hz i _ hzi
    obtain ⟨_, hvl, hvc⟩ := World.cells?_some hv
    obtain ⟨r1, r2, r3⟩ := relL_at hr
    rw [Enc.len] at r1
    have hvj : vs[j]? = some (vs[j]'(by omega)) := by simp
    have h1 := hvc j (by omega)
    rw [hvj, Addr.add_plain, Addr.add_plain] at h1
    unfold World.cell? at h1
    simp only [hbb] at h1
    rw [if_neg (by simp)] at h1
    refine ⟨_, _, hzi, ?_, r2 j _ hvj, ?_⟩
    · rw [hsz, Nat.add_assoc] at h1; exact h1
    · have hp : (Enc.enc (zs[i]'(by omega)))[j]? = some ((Enc.enc (zs[i]'(by omega)))[j]'(by rw [Enc.len]; exact hj)) := by simp
      exact ⟨_, hp, r3 j _ _ hp hvj⟩
  have split : ∀ i, i < len * Enc.sz α → i / Enc.sz α < len ∧ i % Enc.sz α < Enc.sz α ∧ i / Enc.sz α * Enc.sz α + i % Enc.sz α = i := by
    intro i hi
    refine ⟨Nat.div_lt_of_lt_mul (by rw [Nat.mul_comm]; exact hi), Nat.mod_lt _ (Nat.pos_of_ne_zero h0), ?_⟩
    rw [Nat.mul_comm]; exact Nat.div_add_mod i _
  have hfl : (zs.flatMap Enc.enc).length = len * Enc.sz α := by rw [flat_length, hzl]
  have hcell : ∀ i, i < len * Enc.sz α → ∃ v, c[off + i]? = some v ∧ v.oneCell' = true ∧ ∃ p, (zs.flatMap Enc.enc)[i]? = some p ∧ Rel C0 S0 w p v := by
    intro i hi
    obtain ⟨s1, s2, s3⟩ := split i hi
    obtain ⟨z, v, g1, g2, g3, p, g4, g5⟩ := cellAt _ _ s1 s2
    rw [s3] at g2
    refine ⟨v, g2, g3, p, ?_, g5⟩
    rw [← s3, flat_get zs _ _ s2 g1]; exact g4
  rw [← hzl] at hl ⊢
  refine .lst1 hl (by unfold maxN; omega) hbb (notM0 b) (fun _ => ?_) (fun i v hi hv => ?_) (fun i p v hp hv => ?_)
  · have hpos : 0 < len * Enc.sz α := Nat.mul_pos hl0 (Nat.pos_of_ne_zero h0)
    obtain ⟨v, hv, _⟩ := hcell (len * Enc.sz α - 1) (by omega)
    have := (Array.getElem?_eq_some_iff.1 hv).1
    rw [hfl]; omega
  · rw [hfl] at hi
    obtain ⟨v', hv', h1, _⟩ := hcell i hi
    rw [hv] at hv'; cases hv'; exact h1
  · have hi : i < len * Enc.sz α := by have := (List.getElem?_eq_some_iff.1 hp).1; rw [hfl] at this; exact this
    obtain ⟨v', hv', _, p', hp', hr⟩ := hcell i hi
    rw [hv] at hv'; cases hv'
    rw [hp] at hp'; cases hp'; exact hr

/-- A struct's fields. -/
theorem trod_fields {t : TypeId} {fs : Array Field} {H : Type} {enc : TypeId × Value → H} {fuel : Nat} {cs : List Value} {x : DataW H × List MemPlace} (ht : P.underlying t = some (.struct fs)) (h : DataW.trod enc P w 0 (fun _ => true) true fuel t cs = some x) :
    cs.length = P.cellsOf t ∧ ∃ n, ∀ (i : Nat) (f : Field), fs[i]? = some f → ∃ y, DataW.trod enc P w 0 (fun _ => true) true n f.type ((cs.drop f.offset).take (P.cellsOf f.type)) = some y := by
  cases fuel with
  | zero => cases h
  | succ n =>
    unfold DataW.trod at h
    rw [ht] at h
    simp only at h
    split at h
    · rename_i hl
      refine ⟨hl, n, fun i f hf => ?_⟩
      obtain ⟨ys, hy, _⟩ := Option.map_eq_some_iff.1 h
      have hlen := mapM_some_length hy
      have hi : i < ys.length := by
        have := (Array.getElem?_eq_some_iff.1 hf).1
        rw [hlen]; simpa using this
      have := mapM_some_get hy i f (by rw [Array.getElem?_toList]; exact hf)
      rw [List.getElem?_eq_getElem hi] at this
      exact ⟨_, this⟩
    · cases h

theorem relL_app {cs ds : List PV} {vs us : List Value} (h : RelL C0 S0 w cs vs.toArray) (k : RelL C0 S0 w ds us.toArray) : RelL C0 S0 w (cs ++ ds) (vs ++ us).toArray := by
  have := relL_append h k []
  simp only [List.append_nil] at this
  obtain ⟨a1, a2⟩ := relL_at h
  obtain ⟨b1, b2⟩ := relL_at k
  exact ⟨by simp [a1, b1], fun i v hv => this.2.1 i v (by have := (Array.getElem?_eq_some_iff.1 hv).1; simp at this; simp; omega) (by simpa using hv), fun i p v hp hv => this.2.2 i p v hp (by simpa using hv)⟩

end

/-- The row's end: nothing that was there has turned. -/
theorem post_of_below {H : Type} {enc : TypeId × Value → H} {P : Program} {f : Func} {s : ChangeSpec} {apart fresh handsOn again : Bool} {W W' : World} {args : Array Value} {v : Value} {ds gs : List (DataW H)} {before pa pv : List MemPlace}
    (hW : DataW.Whole enc P f.params.toList s.vars apart W args.toList ds gs before)
    (hres : ∀ (b : Nat) (sp : Nat → Bool) (hd : Bool), DataW.TrodAll enc P W' b sp hd f.resultTypes.toList (v.resultList f.resultTypes.size) (s.fn H (ds ++ gs)).results [])
    (hargs : ∀ sp : Nat → Bool, (∀ p ∈ before, sp p.block = true) → DataW.TrodAll enc P W' 0 sp true f.params.toList args.toList (s.fn H (ds ++ gs)).args pa)
    (hvars : ∀ sp : Nat → Bool, (∀ p ∈ before, sp p.block = true) → DataW.TrodVars enc P W' sp s.vars (s.fn H (ds ++ gs)).vars pv)
    (hps : before = pa ++ pv) (hb : Below W.heap.size W W')
    (hok : ∀ (j : Nat) (t : TypeId) (r : Value), f.resultTypes[j]? = some t → (v.resultList f.resultTypes.size)[j]? = some r → Value.okWide P W' .any 0 t r) :
    s.post enc P f apart fresh handsOn again W args v W' := by
  have hold : ∀ p ∈ before, (fun b => decide (b < W.heap.size)) p.block = true := fun p hp => by simpa using hW.lt p hp
  have hlt := hW.lt
  refine ⟨ds, gs, before, [], pa, pv, hW, hres _ _ _, hargs _ hold, hvars _ hold, hb.frame _, fun _ => ?_⟩
  obtain ⟨_, _, _, _, _, hz, hn⟩ := hW
  refine ⟨hok, _, _, ([] ++ pa) ++ pv, ⟨[] ++ pa, pv, trodAll_append (hargs _ (fun _ _ => rfl)) (hres _ _ _), hvars _ (fun _ _ => rfl), rfl, ?_, ?_⟩, ?_⟩
  · intro b off hp
    have hp' : MemPlace.cell b off ∈ before := by rw [hps]; simpa using hp
    rw [hb.frozen (hlt _ hp')]
    exact hz b off hp'
  · intro ha
    have := hn ha
    rw [hps] at this
    simpa using this
  · intro p hp _
    rw [hps]
    simpa using hp

/-- A struct that came in. -/
theorem rel_agg {P : Program} {w : World} {t : TypeId} {α : Type} [Enc α] {Ok : α → Prop} (h : Opens P w t α Ok) {H : Type} {enc : TypeId × Value → H} {vs : Array Value} {d : DataW H} {p : List MemPlace} (ht : DataW.Trod enc P w 0 (fun _ => true) true t (.agg vs) d p) :
    ∃ a : α, Ok a ∧ Rel C0 S0 w (.agg (Enc.enc a)) (.agg vs) := by
  obtain ⟨fuel, hf⟩ := ht
  obtain ⟨a, ha, hr⟩ := h H enc fuel _ _ hf
  refine ⟨a, ha, ?_⟩
  have e : (Value.agg vs).cells.toList.toArray = vs := by simp [Value.cells]
  rw [e] at hr
  exact .agg hr.1 hr.2.1 hr.2.2

/-- A value of one cell that came in. -/
theorem rel_cell {P : Program} {w : World} {t : TypeId} {α : Type} [Enc α] {Ok : α → Prop} (h : Opens P w t α Ok) {H : Type} {enc : TypeId × Value → H} {v : Value} {d : DataW H} {p : List MemPlace} (hv : v.cells = #[v]) (ht : DataW.Trod enc P w 0 (fun _ => true) true t v d p) :
    ∃ a : α, Ok a ∧ ∀ q, (Enc.enc a)[0]? = some q → Rel C0 S0 w q v := by
  obtain ⟨fuel, hf⟩ := ht
  obtain ⟨a, ha, hr⟩ := h H enc fuel _ _ hf
  refine ⟨a, ha, fun q hq => ?_⟩
  rw [hv] at hr
  exact hr.2.2 0 q v hq rfl

end Go.Proofs.YtafcjklojnhbnaaGreat.Pv
