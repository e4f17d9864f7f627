/- Ghost layer, part 6: all operations that turn nothing, in one function; and that the model's do just that. -/
import Derived.Test.YtdmmihkmcennpaaGe
namespace Go.Proofs.Ytdmmihkmcennpaa.Pv
open Go

def boundP (d : Nat) (x : Option PV) : Option Nat :=
  match x with
  | none => some d
  | some (.sc (.int _ n)) => if 0 ≤ n then some n.toNat else none
  | _ => none

/-- A bound of the model's, as a pure one. -/
theorem boundP_sound {P : Program} {C : Ctx} {S : Store} {w : World} {d b y : Nat} {x : Option PV} {u : Option Value} (h : boundP d x = some b) (hx : ∀ p, x = some p → ∃ v, u = some v ∧ Rel C S w p v) (hn : x = none → u = none)
    (hb : b ≤ y) (code : BoundsCode) : (u = none ∧ b = d) ∨ ∃ v, u = some v ∧ (Instr.sliceBound v y code).run P w = .ok b w := by
  unfold boundP at h
  split at h
  · cases h; exact .inl ⟨hn rfl, rfl⟩
  · split at h
    · rename_i k n hk
      cases h
      obtain ⟨v, hv, hr⟩ := hx _ rfl
      cases hr
      refine .inr ⟨_, hv, ?_⟩
      simp only [Instr.sliceBound, asIntOf, Sem.run_bind, Sem.run_pure, Result.andThen_ok]
      rw [if_pos ⟨hk, by omega⟩]
      rfl
    · cases h
  · cases h

def sliceP (P : Program) (t : TypeId) (x : PV) (lo hi mx : Option PV) : Option PV :=
  match boundP 0 lo with
  | none => none
  | some l =>
    match x with
    | .lst n cs =>
      match P.underlying t, boundP n hi, boundP n mx with
      | some (.slice e), some h, some m =>
        if l ≤ h ∧ h ≤ m ∧ m ≤ n ∧ P.cellsOf e ≠ 0 ∧ (mx.isSome = true → hi.isSome = true) then some (.lst (h - l) ((cs.drop (l * P.cellsOf e)).take ((h - l) * P.cellsOf e))) else none
      | _, _, _ => none
    | .sl o ver sz off n =>
      match P.underlying t, boundP n hi with
      | some (.slice e), some h => if l ≤ h ∧ h ≤ n ∧ P.cellsOf e ≠ 0 ∧ sz = P.cellsOf e ∧ mx.isSome = false then some (.sl o ver sz (off + l * sz) (h - l)) else none
      | _, _ => none
    | .sc (.string s) =>
      match P.underlying t, boundP s.size hi with
      | some .string, some h => if l ≤ h ∧ h ≤ s.size ∧ mx.isSome = false then some (.sc (.string (s.extract l h))) else none
      | _, _ => none
    | _ => none

theorem sliceBounds_sound {P : Program} {C : Ctx} {S : Store} {w : World} {n cap l h m : Nat} {lo hi mx : Option PV} {ulo uhi umx : Option Value} (isSlice : Bool) (hl : boundP 0 lo = some l) (hh : boundP n hi = some h)
    (hm : boundP cap mx = some m) (h1 : l ≤ h) (h2 : h ≤ m) (h3 : m ≤ cap) (hmh : mx.isSome = true → hi.isSome = true)
    (rlo : (∀ p, lo = some p → ∃ v, ulo = some v ∧ Rel C S w p v) ∧ (lo = none → ulo = none)) (rhi : (∀ p, hi = some p → ∃ v, uhi = some v ∧ Rel C S w p v) ∧ (hi = none → uhi = none))
    (rmx : (∀ p, mx = some p → ∃ v, umx = some v ∧ Rel C S w p v) ∧ (mx = none → umx = none)) :
    (Instr.sliceBounds isSlice n cap ulo uhi umx).run P w = .ok (l, h, m) w := by
  unfold Instr.sliceBounds
  have hM : ∀ code, (umx = none ∧ m = cap) ∨ ∃ v, umx = some v ∧ (Instr.sliceBound v cap code).run P w = .ok m w := fun code => boundP_sound hm rmx.1 rmx.2 h3 code
  have hH : ∀ y code, h ≤ y → (uhi = none ∧ h = n) ∨ ∃ v, uhi = some v ∧ (Instr.sliceBound v y code).run P w = .ok h w := fun y code hy => boundP_sound hh rhi.1 rhi.2 hy code
  have hL : ∀ code, (ulo = none ∧ l = 0) ∨ ∃ v, ulo = some v ∧ (Instr.sliceBound v h code).run P w = .ok l w := fun code => boundP_sound hl rlo.1 rlo.2 h1 code
  have low : ∀ code, (match ulo with | some v => (do let l ← Instr.sliceBound v h code; pure (l, h, m)) | none => (do let l ← pure 0; pure (l, h, m)) : Sem (Nat × Nat × Nat)).run P w = .ok (l, h, m) w := by
    intro code
    rcases hL code with ⟨rfl, rfl⟩ | ⟨v, rfl, hv⟩
    · rfl
    · simp only [Sem.run_bind, hv, Result.andThen_ok, Sem.run_pure]
  rcases hM (if isSlice then .slice3Acap else .slice3Alen) with ⟨rfl, rfl⟩ | ⟨vm, rfl, hvm⟩
  · rcases hH m (if isSlice then .sliceAcap else .sliceAlen) h2 with ⟨rfl, rfl⟩ | ⟨vh, rfl, hvh⟩
    · exact low _
    · simp only [pure_bind]
      rw [Sem.run_bind, hvh]
      exact low _
  · rcases hH m .slice3B h2 with ⟨rfl, rfl⟩ | ⟨vh, rfl, hvh⟩
    · have : hi.isSome = true := hmh (by
        cases hq : mx with
        | none => have := rmx.2 hq; cases this
        | some _ => rfl)
      cases hq : hi with
      | none => rw [hq] at this; cases this
      | some p => obtain ⟨v, e, _⟩ := rhi.1 p hq; cases e
    · simp only
      rw [Sem.run_bind, hvm]
      simp only [Result.andThen_ok]
      rw [Sem.run_bind, hvh]
      exact low _

theorem boundP_le {n b : Nat} {x : Option PV} (y : Nat) (h : boundP n x = some b) : x ≠ none → boundP y x = some b := by
  intro hx
  unfold boundP at h ⊢
  split at h
  · exact absurd rfl hx
  · exact h
  · cases h

theorem aux1 {hb l n : Nat} (h : hb ≤ n) (hne : hb - l ≠ 0) : n ≠ 0 := by omega
theorem aux2 {hb l n cap : Nat} (h : hb ≤ n) (k : n ≤ cap) (hne : hb - l ≠ 0) : ¬ cap = l := by omega

theorem sliceP_sound {P : Program} {C : Ctx} {S : Store} {w : World} {t : TypeId} {x p : PV} {lo hi mx : Option PV} {u : Value} {ulo uhi umx : Option Value} (h : sliceP P t x lo hi mx = some p) (hu : Rel C S w x u)
    (rlo : (∀ p, lo = some p → ∃ v, ulo = some v ∧ Rel C S w p v) ∧ (lo = none → ulo = none)) (rhi : (∀ p, hi = some p → ∃ v, uhi = some v ∧ Rel C S w p v) ∧ (hi = none → uhi = none))
    (rmx : (∀ p, mx = some p → ∃ v, umx = some v ∧ Rel C S w p v) ∧ (mx = none → umx = none)) : ∃ r, (Instr.sliceAt t u ulo uhi umx).run P w = .ok r w ∧ Rel C S w p r := by
  unfold sliceP at h
  split at h
  · cases h
  rename_i l hl
  split at h
  · rename_i n cs
    split at h
    · rename_i e hb m ht hh hm
      split at h
      · rename_i hc
        obtain ⟨c1, c2, c3, c4, c5⟩ := hc
        cases h
        have sz := run_sizeOf' c4 w
        have main : ∀ (a : Option Addr) (cap : Nat), n ≤ cap → ∃ m', hb ≤ m' ∧ (Instr.sliceAt t (.slice a n cap) ulo uhi umx).run P w = .ok (.slice (if m' = l then a else a.map (·.add (l * P.cellsOf e))) (hb - l) (m' - l)) w := by
          intro a cap hcap
          cases hq : mx with
          | none =>
            have hm2 : boundP cap (none : Option PV) = some cap := rfl
            have := sliceBounds_sound (P := P) true hl hh (hq ▸ hm2 : boundP cap mx = some cap) c1 (by omega) (Nat.le_refl _) c5 rlo rhi rmx
            refine ⟨cap, by omega, ?_⟩
            simp only [Instr.sliceAt, Sem.run_bind, run_underlying ht, Result.andThen_ok, Instr.slice, this, sz, Sem.run_pure]
          | some pm =>
            have hm2 := boundP_le cap hm (by rw [hq]; simp)
            have := sliceBounds_sound (P := P) (n := n) (cap := cap) true hl hh hm2 c1 c2 (by omega) c5 rlo rhi rmx
            refine ⟨m, by omega, ?_⟩
            simp only [Instr.sliceAt, Sem.run_bind, run_underlying ht, Result.andThen_ok, Instr.slice, this, sz, Sem.run_pure]
        cases hu with
        | lst0 =>
          obtain ⟨m', hm', hr⟩ := main _ _ (Nat.zero_le _)
          have : hb - l = 0 := by omega
          refine ⟨_, hr, ?_⟩
          rw [this]
          simp only [List.drop_nil, List.take_nil]
          exact .lst0
        | lst1 hn hmm hbl hM hs h1 hr =>
          rename_i cap b o c ee fz
          obtain ⟨m', hm', hrr⟩ := main _ _ hn
          refine ⟨_, hrr, ?_⟩
          obtain ⟨g1, g2, g3⟩ := rel_drop (k := l * P.cellsOf e) hs h1 hr
          by_cases hml : m' = l
          · have : hb - l = 0 := by omega
            rw [this]
            simp only [Nat.zero_mul, List.take_zero]
            exact .lst0
          · rw [if_neg hml]
            simp only [Option.map_some, Addr.add_plain]
            refine .lst1 (by omega) (by omega) hbl hM (fun hne => ?_) (fun i v hi hv => ?_) (fun i q v hq hv => ?_)
            · have := g1 (by intro e0; rw [e0] at hne; simp at hne)
              simp only [List.length_take]; omega
            · simp only [List.length_take] at hi
              exact g2 i v (by omega) hv
            · by_cases hlt : i < (hb - l) * P.cellsOf e
              · rw [List.getElem?_take_of_lt hlt] at hq
                exact g3 i q v hq hv
              · rw [List.getElem?_eq_none (by simp; omega)] at hq; cases hq
      · cases h
    · cases h
  · rename_i o ver sz off n
    split at h
    · rename_i e hb ht hh
      split at h
      · rename_i hc
        obtain ⟨c1, c2, c3, rfl, c5⟩ := hc
        cases h
        have hmx : mx = none := by cases mx with | none => rfl | some _ => cases c5
        cases hu with
        | sl h1 h2 h3 =>
          obtain ⟨a, cap, rfl, k1, k2, k3, k4⟩ := h1
          have hm2 : boundP cap mx = some cap := by rw [hmx]; rfl
          have hsb := sliceBounds_sound (P := P) (n := n) (cap := cap) true hl hh hm2 c1 (by omega) (Nat.le_refl _) (by rw [hmx]; simp) rlo rhi rmx
          refine ⟨.slice (if cap = l then a else a.map (·.add (l * P.cellsOf e))) (hb - l) (cap - l), ?_, ?_⟩
          · simp only [Instr.sliceAt, Sem.run_bind, run_underlying ht, Result.andThen_ok, Instr.slice, hsb, run_sizeOf' c3, Sem.run_pure]
          · have e1 : hb - l ≤ cap - l := by omega
            have e2 : hb - l ≤ maxN := Nat.le_trans (Nat.sub_le _ _) (Nat.le_trans c2 k2)
            have e3 : cap - l ≤ maxLen := Nat.le_trans (Nat.sub_le _ _) k3
            clear hsb hm2
            refine .sl ⟨_, _, rfl, e1, e2, e3, fun hne => ?_⟩ h2 fun v0 hv0 => ?_
            · obtain ⟨b, f, rfl⟩ := k4 (aux1 c2 hne)
              rw [if_neg (aux2 c2 k1 hne)]
              exact ⟨_, _, by simp [Addr.add_plain]; exact ⟨rfl, rfl⟩⟩
            · obtain ⟨g1, g2⟩ := h3 v0 hv0
              refine ⟨g1, fun hq => ?_⟩
              rcases g2 hq with ⟨q1, q2, q3, q4⟩ | ⟨b, k', a', cap', q1, q2, q3, q4⟩
              · subst q2
                have hl0 : l = 0 := by omega
                have hb0 : hb = 0 := by omega
                subst hl0; subst hb0
                cases q4
                exact .inl ⟨q1, rfl, by omega, by simp⟩
              · cases q2
                refine .inr ⟨b, k', _, _, q1, rfl, fun hoff => ?_, fun hne => ?_⟩
                · have hl0 : l = 0 := by
                    rcases Nat.eq_zero_or_pos l with h | h
                    · exact h
                    · have : 0 < l * P.cellsOf e := Nat.mul_pos h (Nat.pos_of_ne_zero c3)
                      omega
                  subst hl0
                  obtain ⟨z1, z2⟩ := q3 (by omega)
                  subst z1
                  refine ⟨?_, by simpa using z2⟩
                  by_cases hc0 : cap = 0
                  · simp [hc0]
                  · simp [hc0, Addr.add_plain]
                · have := q4 (aux1 c2 hne)
                  subst this
                  rw [if_neg (aux2 c2 k1 hne)]
                  simp [Addr.add_plain]
      · cases h
    · cases h
  · rename_i s
    split at h
    · rename_i hb ht hh
      split at h
      · rename_i hc
        obtain ⟨c1, c2, c5⟩ := hc
        cases h
        have hmx : mx = none := by cases mx with | none => rfl | some _ => cases c5
        have humx : umx = none := rmx.2 hmx
        subst humx
        cases hu
        have hm2 : boundP s.size mx = some s.size := by rw [hmx]; rfl
        have hsb := sliceBounds_sound (P := P) (n := s.size) (cap := s.size) (umx := none) false hl hh hm2 c1 c2 (Nat.le_refl _) (by rw [hmx]; simp) rlo rhi rmx
        refine ⟨_, ?_, .sc _⟩
        simp [Instr.sliceAt, run_underlying ht, Instr.slice, hsb]
      · cases h
    · cases h
  · cases h

end Go.Proofs.Ytdmmihkmcennpaa.Pv
