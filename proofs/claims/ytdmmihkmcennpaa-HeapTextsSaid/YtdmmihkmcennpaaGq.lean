/- Ghost layer, part 17: regions that draw their order, reckoned; frames as lists; loops, joints, the way in and out; what is finished becomes a list. -/
import Derived.Test.YtdmmihkmcennpaaGp
namespace Go.Proofs.Ytdmmihkmcennpaa.Pv
open Go

section
variable (P : Program) (nx : Nat)

/-- How a region that draws its order is reckoned, X being the rest; left to the hand: calls that turn nothing (Gp), calls (Gc), the rest (Gh). -/
def xdp (ops : Array Oper) (ids : Option (List Nat)) (S0 : Store) (Gp : Row → (Nat → PV) → Store → List Ob → Option Nat → FuncId → List PV → Prop) (X : (Nat → PV) → Store → List Ob → Prop) (i : Nat) (is : Row) (F : Nat → PV) (S : Store) (obs : List Ob) : Prop :=
  match ops[i]? with
  | none => False
  | some o =>
    match gd ops F o with
    | none => False
    | some false => X (updO F o.dst (.sc undef)) S obs
    | some true =>
      match popI P F o with
      | some p => X (updO F o.dst p) S obs
      | none =>
        match loadT P ids S0 F o with
        | some p => X (updO F o.dst p) S obs
        | none =>
          match calleeX F o with
          | some (f, args) => Gp is F S obs o.dst f args
          | none => False

def xda (ops : Array Oper) (ids : Option (List Nat)) (S0 : Store) (Gc : Row → (Nat → PV) → Store → List Ob → Option Nat → FuncId → List PV → Prop) (Gh : Row → (Nat → PV) → Store → List Ob → Oper → Prop) (X : (Nat → PV) → Store → List Ob → Prop) (i : Nat) (is : Row) (F : Nat → PV) (S : Store) (obs : List Ob) : Prop :=
  match ops[i]? with
  | none => False
  | some o =>
    match gd ops F o with
    | none => False
    | some false => X (updO F o.dst (.sc undef)) S obs
    | some true =>
      match memX P nx S obs F o with
      | some (A, p, S', obs') => A ∧ Agree ids S0 (ext S' nx obs') ∧ X (updO F o.dst p) S' obs'
      | none =>
        match newX P nx S obs F o with
        | some (A, pf, of) => A ∧ ∀ v, Agree ids S0 (ext S nx (obs ++ [of v])) ∧ X (updO F o.dst (pf v)) S (obs ++ [of v])
        | none =>
          match calleeX F o with
          | some (f, args) => Gc is F S obs o.dst f args
          | none => Gh is F S obs o

def XD (ops : Array Oper) (ids : Option (List Nat)) (S0 : Store) (K : (Nat → PV) → Store → List Ob → Prop) (Gp Gc : Row → (Nat → PV) → Store → List Ob → Option Nat → FuncId → List PV → Prop) (Gh : Row → (Nat → PV) → Store → List Ob → Oper → Prop) :
    Row → (Nat → PV) → Store → List Ob → Prop
  | .done, F, S, obs => K F S obs
  | .stop, _, _, _ => True
  | .pure i is, F, S, obs => xdp P ops ids S0 Gp (XD ops ids S0 K Gp Gc Gh is) i is F S obs
  | .alt i is more, F, S, obs => xda P nx ops ids S0 Gc Gh (XD ops ids S0 K Gp Gc Gh is) i is F S obs ∧ XD ops ids S0 K Gp Gc Gh more F S obs
end

def KX (nx : Nat) (K : (Nat → PV) → Store → List Ob → Prop) (F : Nat → PV) (T : Store) : Prop := ∃ S obs, T = ext S nx obs ∧ K F S obs

section
variable {P : Program} {r : Option Nat} {n nx N : Nat} {Q : Exit → (Nat → PV) → Store → Prop} {F : Nat → PV} {S : Store} {obs : List Ob}

theorem memX_popS {o : Oper} {A : Prop} {p : PV} {S' : Store} {obs' : List Ob} (h : memX P nx S obs F o = some (A, p, S', obs')) (hA : A) :
    popS P F (ext S nx obs) o = some (p, ext S' nx obs') ∨ popS P F (ext S nx obs) o = none := by
  unfold memX at h
  split at h
  · rename_i t x ho
    split at h
    · rename_i q hq; cases h
      left; unfold popS; rw [ho]; simp only [hq, Option.map_some]
    · cases h
  · rename_i t x y ho
    split at h
    · rename_i id ver off hx
      split at h
      · rename_i v e cs hs
        split at h
        · rename_i hc
          obtain ⟨c1, c2, c3, c4⟩ := hc
          have main : ∀ T, (off + (ev F y).cells.length ≤ cs.length) → (ext S nx obs).set id (.cells v e (splice cs off (ev F y).cells)) = T → popS P F (ext S nx obs) o = some (.sc undef, T) := by
            intro T hT e1
            unfold popS; rw [ho]
            simp only [storeP, hx, hs]
            rw [if_pos ⟨c1, c2, c3, hT, c4⟩, e1]; rfl
          left
          split at h
          · rename_i hid
            cases h
            refine main _ hA (ext_set _ hid ?_)
            rcases Nat.lt_or_ge (id - nx) obs.length with q | q
            · exact q
            · exfalso
              simp only [ext] at hs
              rw [if_neg (by omega), List.getD_eq_getElem?_getD, List.getElem?_eq_none q] at hs
              cases hs
          · rename_i hid
            cases h
            exact main _ hA (ext_set_old _ (by omega))
        · cases h
      · cases h
    · cases h
  · rename_i c ho
    right; unfold popS; rw [ho]
  · cases h

theorem newX_popS {o : Oper} {x : Prop × (Nat → PV) × (Nat → Ob)} (h : newX P nx S obs F o = some x) (T : Store) : popS P F T o = none := by
  unfold newX at h
  unfold popS
  cases ho : o.op <;> simp only [ho] at h ⊢ <;> first | rfl | cases h

theorem calleeX_popS {o : Oper} {x : FuncId × List PV} (h : calleeX F o = some x) (T : Store) : popS P F T o = none := by
  unfold calleeX at h
  unfold popS
  cases ho : o.op <;> simp only [ho] at h ⊢ <;> first | rfl | cases h

theorem px_of_xd {ops : Array Oper} {ids : Option (List Nat)} {S0 : Store} {K : (Nat → PV) → Store → List Ob → Prop} {Gp Gc : Row → (Nat → PV) → Store → List Ob → Option Nat → FuncId → List PV → Prop} {Gh : Row → (Nat → PV) → Store → List Ob → Oper → Prop}
    (hp : ∀ is F S obs d f args, Gp is F S obs d f args → ∃ p, Pure P f args p ∧ PX P r n ops ids S0 is (updO F d p) (ext S nx obs) (KX nx K))
    (hc : ∀ is F S obs d f args, Gc is F S obs d f args → Spec P f args (ext S nx obs) (fun p S' => Agree ids S0 S' ∧ PX P r n ops ids S0 is (updO F d p) S' (KX nx K)))
    (hh : ∀ is F S obs o, Gh is F S obs o → popS P F (ext S nx obs) o = none ∧ PO P r n o F (ext S nx obs) (fun p S' => Agree ids S0 S' ∧ PX P r n ops ids S0 is (updO F o.dst p) S' (KX nx K))) :
    ∀ (row : Row) (F : Nat → PV) (S : Store) (obs : List Ob), XD P nx ops ids S0 K Gp Gc Gh row F S obs → PX P r n ops ids S0 row F (ext S nx obs) (KX nx K)
  | .done, F, S, obs, h => ⟨S, obs, rfl, h⟩
  | .stop, _, _, _, _ => trivial
  | .pure i is, F, S, obs, h => by
    unfold XD xdp at h
    unfold PX
    cases ho : ops[i]? with
    | none => simp only [ho] at h
    | some o =>
      simp only [ho] at h ⊢
      cases hg : gd ops F o with
      | none => simp only [hg] at h
      | some b =>
        cases b with
        | false => simp only [hg] at h ⊢; exact px_of_xd hp hc hh is _ _ _ h
        | true =>
          simp only [hg] at h ⊢
          cases h1 : popI P F o with
          | some p => simp only [h1] at h ⊢; exact px_of_xd hp hc hh is _ _ _ h
          | none =>
            simp only [h1] at h ⊢
            cases h2 : loadT P ids S0 F o with
            | some p => simp only [h2] at h ⊢; exact px_of_xd hp hc hh is _ _ _ h
            | none =>
              simp only [h2] at h ⊢
              cases h3 : calleeX F o with
              | none => simp only [h3] at h
              | some fa =>
                obtain ⟨f, args⟩ := fa
                simp only [h3] at h
                obtain ⟨p, q1, q2⟩ := hp _ _ _ _ _ _ _ h
                exact ⟨p, fun S' _ => calleeX_ok h3 (q1 S'), q2⟩
  | .alt i is more, F, S, obs, h => by
    unfold XD xda at h
    unfold PX
    obtain ⟨h, hmore⟩ := h
    refine ⟨?_, px_of_xd hp hc hh more _ _ _ hmore⟩
    cases ho : ops[i]? with
    | none => simp only [ho] at h
    | some o =>
      simp only [ho] at h ⊢
      cases hg : gd ops F o with
      | none => simp only [hg] at h
      | some b =>
        cases b with
        | false => simp only [hg] at h ⊢; exact px_of_xd hp hc hh is _ _ _ h
        | true =>
          simp only [hg] at h ⊢
          cases hm : memX P nx S obs F o with
          | some x =>
            obtain ⟨A, p, S', obs'⟩ := x
            simp only [hm] at h
            obtain ⟨hA, hag, h⟩ := h
            have key := px_of_xd hp hc hh is _ _ _ h
            rcases memX_popS hm hA with e | e
            · simp only [e]; exact ⟨hag, key⟩
            · simp only [e]; exact memX_ok hm hA ⟨hag, key⟩
          | none =>
            simp only [hm] at h
            cases hw : newX P nx S obs F o with
            | some x =>
              obtain ⟨A, pf, of⟩ := x
              simp only [hw] at h
              simp only [newX_popS hw]
              exact newX_ok hw h.1 fun v => ⟨(h.2 v).1, px_of_xd hp hc hh is _ _ _ (h.2 v).2⟩
            | none =>
              simp only [hw] at h
              cases hf : calleeX F o with
              | some fa =>
                obtain ⟨f, args⟩ := fa
                simp only [hf] at h
                simp only [calleeX_popS hf]
                exact calleeX_ok hf (hc _ _ _ _ _ _ _ h)
              | none =>
                simp only [hf] at h
                obtain ⟨e, h⟩ := hh _ _ _ _ _ h
                simp only [e]; exact h

/-- The reckoning of a row of a region that draws its order. -/
theorem px_go {ops : Array Oper} {ids : Option (List Nat)} {S0 : Store} {K : (Nat → PV) → Store → List Ob → Prop} {row : Row}
    (h : ∀ (Gp Gc : Row → (Nat → PV) → Store → List Ob → Option Nat → FuncId → List PV → Prop) (Gh : Row → (Nat → PV) → Store → List Ob → Oper → Prop),
      (∀ is F S obs d f args p, Pure P f args p → PX P r n ops ids S0 is (updO F d p) (ext S nx obs) (KX nx K) → Gp is F S obs d f args) →
      (∀ is F S obs d f args, Spec P f args (ext S nx obs) (fun p S' => Agree ids S0 S' ∧ PX P r n ops ids S0 is (updO F d p) S' (KX nx K)) → Gc is F S obs d f args) →
      (∀ is F S obs o, popS P F (ext S nx obs) o = none → PO P r n o F (ext S nx obs) (fun p S' => Agree ids S0 S' ∧ PX P r n ops ids S0 is (updO F o.dst p) S' (KX nx K)) → Gh is F S obs o) →
      ∀ X : Row → (Nat → PV) → Store → List Ob → Prop, (∀ F S obs, X .done F S obs = K F S obs) → (∀ F S obs, X .stop F S obs = True) → (∀ i is F S obs, X (.pure i is) F S obs = xdp P ops ids S0 Gp (X is) i is F S obs) →
      (∀ i is more F S obs, X (.alt i is more) F S obs = (xda P nx ops ids S0 Gc Gh (X is) i is F S obs ∧ X more F S obs)) → X row F S obs) : PX P r n ops ids S0 row F (ext S nx obs) (KX nx K) :=
  px_of_xd (Gp := fun is F S obs d f args => ∃ p, Pure P f args p ∧ PX P r n ops ids S0 is (updO F d p) (ext S nx obs) (KX nx K)) (Gh := fun is F S obs o => popS P F (ext S nx obs) o = none ∧ PO P r n o F (ext S nx obs) (fun p S' => Agree ids S0 S' ∧ PX P r n ops ids S0 is (updO F o.dst p) S' (KX nx K)))
    (fun _ _ _ _ _ _ _ h => h) (fun _ _ _ _ _ _ _ h => h) (fun _ _ _ _ _ h => h) row F S obs
    (h _ _ _ (fun _ _ _ _ _ _ _ p h1 h2 => ⟨p, h1, h2⟩) (fun _ _ _ _ _ _ _ h => h) (fun _ _ _ _ _ h1 h2 => ⟨h1, h2⟩) _ (fun _ _ _ => rfl) (fun _ _ _ => rfl) (fun _ _ _ _ _ => rfl) (fun _ _ _ _ _ _ => rfl))

/-- A region that draws its order. -/
theorem pw_Y {id : Nat} {ops : Array Oper} (ids : Option (List Nat)) (row : Row) (hm : P.follows .mixedOrders = true) (hN : dstsBelow N ops = true) (hR : regOk ops = true) (hrow : rowOk ops [] [] row = true)
    (h : ∀ (K : (Nat → PV) → Store → List Ob → Prop) (Gp Gc : Row → (Nat → PV) → Store → List Ob → Option Nat → FuncId → List PV → Prop) (Gh : Row → (Nat → PV) → Store → List Ob → Oper → Prop),
      (∀ F' S' obs', Q .normal F' (ext S' nx obs') → K F' S' obs') →
      (∀ is F' S' obs' d f args p, Pure P f args p → PX P r n ops ids (ext S nx obs) is (updO F' d p) (ext S' nx obs') (KX nx K) → Gp is F' S' obs' d f args) →
      (∀ is F' S' obs' d f args, Spec P f args (ext S' nx obs') (fun p T => Agree ids (ext S nx obs) T ∧ PX P r n ops ids (ext S nx obs) is (updO F' d p) T (KX nx K)) → Gc is F' S' obs' d f args) →
      (∀ is F' S' obs' o, popS P F' (ext S' nx obs') o = none → PO P r n o F' (ext S' nx obs') (fun p T => Agree ids (ext S nx obs) T ∧ PX P r n ops ids (ext S nx obs) is (updO F' o.dst p) T (KX nx K)) → Gh is F' S' obs' o) →
      ∀ X : Row → (Nat → PV) → Store → List Ob → Prop, (∀ F S obs, X .done F S obs = K F S obs) → (∀ F S obs, X .stop F S obs = True) → (∀ i is F' S' obs', X (.pure i is) F' S' obs' = xdp P ops ids (ext S nx obs) Gp (X is) i is F' S' obs') →
      (∀ i is more F' S' obs', X (.alt i is more) F' S' obs' = (xda P nx ops ids (ext S nx obs) Gc Gh (X is) i is F' S' obs' ∧ X more F' S' obs')) → X row F S obs) : PW P r n N (.region id ops true) Q F (ext S nx obs) := by
  refine pw_draw ids row hm hN hR hrow ?_
  have := px_go (P := P) (r := r) (n := n) (nx := nx) (ops := ops) (ids := ids) (S0 := ext S nx obs) (K := fun F' S' obs' => Q .normal F' (ext S' nx obs')) (row := row) (F := F) (S := S) (obs := obs) (fun Gp Gc Gh a b c X d e f g => h _ Gp Gc Gh (fun _ _ _ h => h) a b c X d e f g)
  have mono : ∀ (row : Row) (F : Nat → PV) (T : Store), PX P r n ops ids (ext S nx obs) row F T (KX nx fun F' S' obs' => Q .normal F' (ext S' nx obs')) → PX P r n ops ids (ext S nx obs) row F T (Q .normal) := by
    have e : (KX nx fun F' S' obs' => Q .normal F' (ext S' nx obs')) = fun F' T => (∃ S' obs', T = ext S' nx obs') ∧ Q .normal F' T := by
      funext F' T
      apply propext
      constructor
      · rintro ⟨S', obs', rfl, h⟩; exact ⟨⟨S', obs', rfl⟩, h⟩
      · rintro ⟨⟨S', obs', rfl⟩, h⟩; exact ⟨S', obs', rfl, h⟩
    intro row
    induction row with
    | done => intro F T h; rw [e] at h; exact h.2
    | stop => intro F T _; trivial
    | pure i is ih =>
      intro F T h
      unfold PX at h ⊢
      cases ho : ops[i]? with
      | none => simp only [ho] at h
      | some o =>
        simp only [ho] at h ⊢
        cases hg : gd ops F o with
        | none => simp only [hg] at h
        | some b =>
          cases b with
          | false => simp only [hg] at h ⊢; exact ih _ _ h
          | true =>
            simp only [hg] at h ⊢
            cases h1 : popI P F o with
            | some p => simp only [h1] at h ⊢; exact ih _ _ h
            | none =>
              simp only [h1] at h ⊢
              cases h2 : loadT P ids (ext S nx obs) F o with
              | some p => simp only [h2] at h ⊢; exact ih _ _ h
              | none => simp only [h2] at h ⊢; obtain ⟨p, q1, q2⟩ := h; exact ⟨p, q1, ih _ _ q2⟩
    | alt i is more ih1 ih2 =>
      intro F T h
      unfold PX at h ⊢
      refine ⟨?_, ih2 _ _ h.2⟩
      have h := h.1
      cases ho : ops[i]? with
      | none => simp only [ho] at h
      | some o =>
        simp only [ho] at h ⊢
        cases hg : gd ops F o with
        | none => simp only [hg] at h
        | some b =>
          cases b with
          | false => simp only [hg] at h ⊢; exact ih1 _ _ h
          | true =>
            simp only [hg] at h ⊢
            cases h1 : popS P F T o with
            | some p => simp only [h1] at h ⊢; exact ⟨h.1, ih1 _ _ h.2⟩
            | none => simp only [h1] at h ⊢; exact po_mono h fun p S' hq => ⟨hq.1, ih1 _ _ hq.2⟩
  exact mono row F _ this

/-! ### Frames, loops, joints -/

/-- A frame of which these slots are known. -/
def fr : List (Nat × PV) → Nat → PV
  | [], _ => .junk
  | (a, p) :: l, i => if i = a then p else fr l i

theorem fr_junk : ∀ (l : List (Nat × PV)) (i : Nat), (∀ x ∈ l, x.1 ≠ i) → fr l i = .junk
  | [], _, _ => rfl
  | (a, p) :: l, i, h => by
    unfold fr
    rw [if_neg (fun e => h (a, p) (by simp) e.symm)]
    exact fr_junk l i fun x hx => h x (by simp [hx])

theorem fr_of {l : List (Nat × PV)} (h : ∀ x ∈ l, F x.1 = x.2) (i : Nat) : fr l i = F i ∨ fr l i = .junk := by
  induction l with
  | nil => exact .inr rfl
  | cons x l ih =>
    obtain ⟨a, p⟩ := x
    unfold fr
    split
    · rename_i e; subst e; exact .inl (h (i, p) (by simp)).symm
    · exact ih fun x hx => h x (by simp [hx])

theorem pw_kill {c : Code} {T T' : Store} (hk : ∀ o, T' o = T o ∨ T' o = .dead) (h : PW P r n N c Q F T') : PW P r n N c Q F T :=
  pw_ghost (fun C w a st => by
    obtain ⟨k1, k2⟩ := st.sim.kill hk
    exact ⟨C, ⟨k1, st.size, fun i => (st.fr i).mono k2⟩, k2⟩) h

/-- Only these slots, and these objects, are told of any more. -/
theorem pw_to {c : Code} (L : List (Nat × PV)) {more : List Ob} (hL : ∀ x ∈ L, F x.1 = x.2) (h : PW P r n N c Q (fr L) (ext S nx obs)) : PW P r n N c Q F (ext S nx (obs ++ more)) :=
  pw_forget (F' := fr L) (fr_of hL) (pw_kill (ext_kill more) h)

/-- A place in the code: what is known there, by a state. -/
def At {σ : Type} (nx : Nat) (I : σ → Prop) (L : σ → List (Nat × PV)) (B : σ → Store) (T : σ → List Ob) (F : Nat → PV) (S : Store) : Prop :=
  ∃ s more, I s ∧ (∀ x ∈ L s, F x.1 = x.2) ∧ S = ext (B s) nx (T s ++ more)

theorem at_mk {σ : Type} {I : σ → Prop} {L : σ → List (Nat × PV)} {B : σ → Store} {T : σ → List Ob} (s : σ) (more : List Ob) (hI : I s) (hL : ∀ x ∈ L s, F x.1 = x.2) (hB : B s = S) (hT : T s ++ more = obs) : At nx I L B T F (ext S nx obs) :=
  ⟨s, more, hI, hL, by rw [hB, hT]⟩

/-- Ways meet. -/
theorem pw_join {σ : Type} (I : σ → Prop) (L : σ → List (Nat × PV)) (B : σ → Store) (T : σ → List Ob) {x y : Code} {S0 : Store} (h1 : PW P r n N x (thenQ (At nx I L B T) Q) F S0) (h2 : ∀ s, I s → PW P r n N y Q (fr (L s)) (ext (B s) nx (T s))) : PW P r n N (.seq x y) Q F S0 := by
  refine pw_seq (pw_mono h1 ?_)
  intro e F' S' hq
  cases e with
  | normal =>
    obtain ⟨s, more, hI, hL, rfl⟩ := hq
    exact pw_to (L s) hL (h2 s hI)
  | _ => exact hq

/-- What a round must end in. -/
def Again {σ : Type} (nx : Nat) (I : σ → Prop) (L : σ → List (Nat × PV)) (B : σ → Store) (T : σ → List Ob) (μ : σ → Nat) (m : Nat) (F : Nat → PV) (S : Store) : Prop :=
  ∃ s more, I s ∧ μ s < m ∧ (∀ x ∈ L s, F x.1 = x.2) ∧ S = ext (B s) nx (T s ++ more)

theorem again_mk {σ : Type} {I : σ → Prop} {L : σ → List (Nat × PV)} {B : σ → Store} {T : σ → List Ob} {μ : σ → Nat} {m : Nat} (s : σ) (more : List Ob) (hI : I s) (hm : μ s < m) (hL : ∀ x ∈ L s, F x.1 = x.2) (hB : B s = S) (hT : T s ++ more = obs) :
    Again nx I L B T μ m F (ext S nx obs) := ⟨s, more, hI, hm, hL, by rw [hB, hT]⟩

theorem pw_loopB {σ : Type} (I : σ → Prop) (L : σ → List (Nat × PV)) (B : σ → Store) (T : σ → List Ob) (μ : σ → Nat) {c : Code} {S0 : Store} (h0 : At nx I L B T F S0)
    (round : ∀ s, I s → PW P r n N c (thenQ (Again nx I L B T μ (μ s)) Q) (fr (L s)) (ext (B s) nx (T s))) : PW P r n N (.loop c) Q F S0 := by
  obtain ⟨s0, more0, hI0, hL0, rfl⟩ := h0
  refine pw_loop (fun F' S' m => ∃ s more, I s ∧ m = μ s ∧ (∀ x ∈ L s, F' x.1 = x.2) ∧ S' = ext (B s) nx (T s ++ more)) (μ s0) ⟨s0, more0, hI0, rfl, hL0, rfl⟩ ?_
  rintro m F1 S1 ⟨s, more, hI, rfl, hL, rfl⟩
  refine pw_to (L s) hL (pw_mono (round s hI) ?_)
  intro e F' S' hq
  cases e with
  | normal =>
    obtain ⟨s', more', h1, h2, h3, h4⟩ := hq
    exact ⟨μ s', ⟨s', more', h1, rfl, h3, h4⟩, h2⟩
  | _ => exact hq

/-- A loop that turns only the call's own objects. -/
theorem pw_loopL {σ : Type} (I : σ → Prop) (L : σ → List (Nat × PV)) (T : σ → List Ob) (μ : σ → Nat) (s0 : σ) {c : Code} (more : List Ob) (hI : I s0) (hL : ∀ x ∈ L s0, F x.1 = x.2) (hT : T s0 ++ more = obs)
    (round : ∀ s, I s → PW P r n N c (thenQ (Again nx I L (fun _ => S) T μ (μ s)) Q) (fr (L s)) (ext S nx (T s))) : PW P r n N (.loop c) Q F (ext S nx obs) :=
  pw_loopB I L (fun _ => S) T μ (at_mk s0 more hI hL rfl hT) round

/-! ### In and out -/

theorem spec_enter {f : FuncId} {fn : Func} {c : Code} {rs : List ResultVar} {args : List PV} {Q : PV → Store → Prop} (hf : P.funcs[f]? = some fn) (hname : (fn.name == "runtime.NumGoroutine") = false) (hb : fn.body = some c) (hN : fn.ntmps = N) (hrs : fn.results.toList = rs) (hargs : args.length ≤ N)
    (h : ∀ nx, DeadFrom nx S → PW P none 0 N c (retQ P rs Q) (frame0 args) (ext S nx [])) : Spec P f args S Q := by
  refine ⟨enters_of hf hname hb, ?_⟩
  intro C w vs hS
  have hd : DeadFrom C.next S := fun i hi => by
    cases hs : S i with
    | dead => rfl
    | cells v e cs => have := hS.lt i (by rw [hs]; simp); omega
    | map v es => have := hS.lt i (by rw [hs]; simp); omega
  have := h C.next hd
  rw [ext_nil hd] at this
  exact pcalls_of_pw hf hb hN hrs hargs this C w vs hS

theorem spec_at {f : FuncId} {fn : Func} {c : Code} {rs : List ResultVar} {args : List PV} {Q : PV → Store → Prop} (hd : DeadFrom nx S) (hf : P.funcs[f]? = some fn) (hname : (fn.name == "runtime.NumGoroutine") = false) (hb : fn.body = some c) (hN : fn.ntmps = N) (hrs : fn.results.toList = rs) (hargs : args.length ≤ N)
    (h : PW P none 0 N c (retQ P rs Q) (frame0 args) (ext S nx [])) : Spec P f args S Q := by
  refine ⟨enters_of hf hname hb, ?_⟩
  rw [ext_nil hd] at h
  exact pcalls_of_pw hf hb hN hrs hargs h

theorem pure_enter {f : FuncId} {fn : Func} {c : Code} {rs : List ResultVar} {args : List PV} {v : PV} (hf : P.funcs[f]? = some fn) (hname : (fn.name == "runtime.NumGoroutine") = false) (hb : fn.body = some c) (hN : fn.ntmps = N) (hrs : fn.results.toList = rs) (hargs : args.length ≤ N)
    (h : ∀ S nx, DeadFrom nx S → PW P none 0 N c (retQ P rs (fun p S' => p = v ∧ S' = S)) (frame0 args) (ext S nx [])) : Pure P f args v :=
  fun S => spec_enter hf hname hb hN hrs hargs (h S)

theorem ret_pure {rs : List ResultVar} {v : PV} {ps : List PV} (hd : DeadFrom nx S) (h1 : resL P F (ext S nx obs) rs = some ps) (h2 : oneOf ps = v) :
    ∃ ps S', resL P F (ext S nx obs) rs = some ps ∧ (oneOf ps = v ∧ S' = S) ∧ ∀ o, S' o = ext S nx obs o ∨ S' o = .dead :=
  ⟨ps, S, h1, ⟨h2, rfl⟩, ext_kill0 hd⟩

theorem keep_one (hd : DeadFrom nx S) {j : Nat} {x : Ob} (hj : obs[j]? = some x) (o : Nat) : S.set (nx + j) x o = ext S nx obs o ∨ S.set (nx + j) x o = .dead := by
  by_cases ho : o = nx + j
  · subst ho; rw [Store.set_same, ext_at, List.getD_eq_getElem?_getD, hj]; exact .inl rfl
  · rw [Store.set_other _ _ _ _ ho]; exact ext_kill0 hd o

/-! ### Slices -/

/-- A nil slice becomes an object of the call's own. -/
theorem pw_nilX {c : Code} (d e sz : Nat) (hF : F d = .sc (.slice none 0 0)) (h : ∀ v, PW P r n N c Q (upd F d (.sl (nx + obs.length) v sz 0 0)) (ext S nx (obs ++ [.cells v e []]))) : PW P r n N c Q F (ext S nx obs) :=
  pw_nil0 d e sz hF (freshAt (X := fun id v => PW P r n N c Q (upd F d (.sl id v sz 0 0)) ((ext S nx obs).set id (.cells v e []))) _ ext_new fun v => by rw [ext_push]; exact h v)

theorem pw_nilObX {c : Code} {ver e0 : Nat} {cs : List PV} (j i e sz : Nat) (hj : obs[j]? = some (.cells ver e0 cs)) (hi : cs[i]? = some (.sc (.slice none 0 0)))
    (h : ∀ v, PW P r n N c Q F (ext S nx (obs.set j (.cells ver e0 (cs.set i (.sl (nx + obs.length) v sz 0 0))) ++ [.cells v e []]))) : PW P r n N c Q F (ext S nx obs) := by
  have hjl : j < obs.length := (List.getElem?_eq_some_iff.1 hj).1
  refine pw_nilOb0 (o := nx + j) i e sz (by rw [ext_at, List.getD_eq_getElem?_getD, hj]; rfl) hi (freshAt (X := fun id v => PW P r n N c Q F (((ext S nx obs).set id (.cells v e [])).set (nx + j) (.cells ver e0 (cs.set i (.sl id v sz 0 0))))) _ ext_new fun v => ?_)
  rw [ext_push, ext_set _ (by omega) (by simp; omega), Nat.add_sub_cancel_left, List.set_append_left _ _ hjl]
  exact h v

theorem pw_nil_lst {c : Code} {T : Store} (d : Nat) (hF : F d = .sc (.slice none 0 0)) (h : PW P r n N c Q (upd F d (.lst 0 [])) T) : PW P r n N c Q F T :=
  pw_ghost (fun C w a st => ⟨C, ⟨st.sim, st.size, fun i => by
    by_cases hi : i = d
    · subst hi
      rw [upd_same]
      have := st.fr i
      rw [hF] at this
      generalize a.tmps.getD i undef = v at this
      cases this
      exact .lst0
    · rw [upd_other _ _ _ _ hi]; exact st.fr i⟩, .refl _ _ _⟩) h

/-- A slice that is finished becomes a list. -/
def frzP (id ver : Nat) (cs : List PV) (p : PV) : PV :=
  match p with
  | .sl o v sz 0 k => if o = id ∧ v = ver ∧ k * sz = cs.length then .lst k cs else .sl o v sz 0 k
  | p => p

def frzO (id ver : Nat) (cs : List PV) (x : Ob) : Ob :=
  match x with
  | .cells v e ds => .cells v e (ds.map (frzP id ver cs))
  | x => x

theorem frzO_ver (id ver : Nat) (cs : List PV) (x : Ob) : (frzO id ver cs x).ver = x.ver := by cases x <;> rfl

theorem frz_rel {C : Ctx} {S T : Store} {w : World} {id ver e : Nat} {cs : List PV} (hS : Sim C S w) (hid : S id = .cells ver e cs) (hT : T id = .dead) (hTS : ∀ o, T o ≠ .dead → S o ≠ .dead) (st : Step C S w C T w) {p : PV} {u : Value}
    (h : Rel C S w p u) : Rel C T w (frzP id ver cs p) u := by
  unfold frzP
  split
  · rename_i o v sz k
    split
    · rename_i hc
      obtain ⟨rfl, rfl, hk⟩ := hc
      cases h with
      | sl h1 h2 h3 =>
        obtain ⟨ad, cap, rfl, q1, q2, q3, q4⟩ := h1
        have hnM : ∀ b k', C.loc o = some (b, k') → ¬ C.M T b := by
          rintro b k' hl ⟨i, k2, hi, hl2⟩
          by_cases hoi : i = o
          · subst hoi; exact hi hT
          · exact hoi (hS.dist i o b k2 k' (hTS i hi) (by rw [hid]; simp) hl2 hl)
        rcases (h3 v (by rw [hid]; rfl)).2 rfl with ⟨z1, z2, _, z4⟩ | ⟨b, k', ad', cap', z1, z2, z3, z4⟩
        · subst z2
          have : cs = [] := List.eq_nil_of_length_eq_zero (by omega)
          subst this
          cases z4
          exact .lst0
        · cases z2
          rcases hS.cells o v e cs hid with ⟨hn, _⟩ | ⟨b2, kk, c, g1, g2, g3, g4, g5, g6⟩
          · rw [hn] at z1; cases z1
          · rw [g1] at z1; cases z1
            obtain ⟨rfl, _⟩ := z3 rfl
            exact .lst1 q1 q2 g2 (hnM _ _ g1) (fun _ => by omega) (fun j v hj hv => g5 j v hj (by simpa using hv)) (fun j p v hp hv => (g6 j p v hp (by simpa using hv)).mono st)
    · exact h.mono st
  · exact h.mono st

theorem pw_frz {c : Code} (j : Nat) {ver e : Nat} {cs : List PV} (hj : obs[j]? = some (.cells ver e cs)) (h : PW P r n N c Q (fun i => frzP (nx + j) ver cs (F i)) (ext S nx ((obs.map (frzO (nx + j) ver cs)).set j .dead))) : PW P r n N c Q F (ext S nx obs) := by
  have hjl : j < obs.length := (List.getElem?_eq_some_iff.1 hj).1
  refine pw_ghost (F' := fun i => frzP (nx + j) ver cs (F i)) (S' := ext S nx ((obs.map (frzO (nx + j) ver cs)).set j .dead)) (fun C w a st => ?_) h
  have hid : ext S nx obs (nx + j) = .cells ver e cs := by rw [ext_at, List.getD_eq_getElem?_getD, hj]; rfl
  have hT : ext S nx ((obs.map (frzO (nx + j) ver cs)).set j .dead) (nx + j) = .dead := by rw [ext_at, List.getD_eq_getElem?_getD, List.getElem?_set_self (by simpa using hjl)]; rfl
  -- what stands under each number
  have hat : ∀ o, ext S nx ((obs.map (frzO (nx + j) ver cs)).set j .dead) o = .dead ∨ (o < nx ∧ ext S nx ((obs.map (frzO (nx + j) ver cs)).set j .dead) o = ext S nx obs o) ∨ (nx ≤ o ∧ ext S nx ((obs.map (frzO (nx + j) ver cs)).set j .dead) o = frzO (nx + j) ver cs (ext S nx obs o)) := by
    intro o
    by_cases ho : o < nx
    · exact .inr (.inl ⟨ho, by rw [ext_old ho, ext_old ho]⟩)
    · by_cases hoj : o = nx + j
      · subst hoj; exact .inl hT
      · refine .inr (.inr ⟨by omega, ?_⟩)
        simp only [ext]
        rw [if_neg ho, if_neg ho, List.getD_eq_getElem?_getD, List.getD_eq_getElem?_getD, List.getElem?_set_ne (by omega), List.getElem?_map]
        cases obs[o - nx]? <;> rfl
  generalize hTT : ext S nx ((obs.map (frzO (nx + j) ver cs)).set j .dead) = T at *
  generalize hSS : ext S nx obs = S1 at *
  have hver : ∀ o v, (T o).ver = some v → (S1 o).ver = some v := by
    intro o v hv
    rcases hat o with q | ⟨_, q⟩ | ⟨_, q⟩
    · rw [q] at hv; cases hv
    · rw [q] at hv; exact hv
    · rw [q, frzO_ver] at hv; exact hv
  have hne : ∀ o, T o ≠ .dead → S1 o ≠ .dead := by
    intro o ho hd
    rcases hat o with q | ⟨_, q⟩ | ⟨_, q⟩
    · exact ho q
    · exact ho (q.trans hd)
    · rw [hd] at q; exact ho q
  have hM : ∀ b, C.M T b → C.M S1 b := fun b ⟨o, k, ho, hl⟩ => ⟨o, k, hne o ho, hl⟩
  have hstep : Step C S1 w C T w := ⟨rfl, rfl, rfl, Nat.le_refl _, Nat.le_refl _, Nat.le_refl _, fun b _ hb => ⟨rfl, fun h => hb (hM b h)⟩, fun o v1 hv => .inr ⟨v1, hver o v1 hv, Nat.le_refl _, fun _ => rfl⟩⟩
  have hrel : ∀ {p u}, Rel C S1 w p u → Rel C T w (frzP (nx + j) ver cs p) u := fun h => frz_rel st.sim hid hT hne hstep h
  refine ⟨C, ⟨⟨fun o ho => st.sim.lt o (hne o ho), fun o v hv => st.sim.clk o v (hver o v hv), fun o o' b k k' ho ho' => st.sim.dist o o' b k k' (hne o ho) (hne o' ho'), ?_, ?_⟩, st.size, fun i => hrel (st.fr i)⟩, hstep⟩
  · intro o v e' ds ho
    rcases hat o with q | ⟨_, q⟩ | ⟨_, q⟩
    · rw [q] at ho; cases ho
    · rw [q] at ho
      rcases st.sim.cells o v e' ds ho with hn | ⟨b, k, c, h1, h2, h3, h4, h5, h6⟩
      · exact .inl hn
      · exact .inr ⟨b, k, c, h1, h2, h3, h4, h5, fun i p u hp hu => (h6 i p u hp hu).mono hstep⟩
    · rw [q] at ho
      cases hs : S1 o with
      | dead => rw [hs] at ho; cases ho
      | map v es => rw [hs] at ho; cases ho
      | cells v2 e2 ds2 =>
        rw [hs] at ho
        cases ho
        rcases st.sim.cells o _ _ ds2 hs with ⟨h1, h2⟩ | ⟨b, k, c, h1, h2, h3, h4, h5, h6⟩
        · exact .inl ⟨h1, by rw [h2]; rfl⟩
        · refine .inr ⟨b, k, c, h1, h2, h3, by simpa using h4, fun i v hi hv => h5 i v (by simpa using hi) hv, fun i p u hp hu => ?_⟩
          rw [List.getElem?_map] at hp
          obtain ⟨p0, hp0, rfl⟩ := Option.map_eq_some_iff.1 hp
          exact hrel (h6 i p0 u hp0 hu)
  · intro o v es ho
    have hs : S1 o = .map v es := by
      rcases hat o with q | ⟨_, q⟩ | ⟨_, q⟩
      · rw [q] at ho; cases ho
      · rw [q] at ho; exact ho
      · rw [q] at ho
        cases hs : S1 o with
        | dead => rw [hs] at ho; cases ho
        | map v es => rw [hs] at ho; exact ho
        | cells v2 e2 ds2 => rw [hs] at ho; cases ho
    obtain ⟨b, k, ms, cl, h1, h2, h3, h4⟩ := st.sim.maps o v es hs
    exact ⟨b, k, ms, cl, h1, h2, h3, fun i x m hx hm => ⟨(h4 i x m hx hm).1, (h4 i x m hx hm).2.mono hstep⟩⟩

end
end Go.Proofs.Ytdmmihkmcennpaa.Pv
