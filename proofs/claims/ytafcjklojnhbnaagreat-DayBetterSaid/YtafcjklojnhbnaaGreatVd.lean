/- Rows in order, merged by their least heads: plain. -/
import Derived.Test.YtafcjklojnhbnaaGreatHa
import Derived.Test.YtafcjklojnhbnaaGreatIb
import Derived.Test.YtafcjklojnhbnaaGreatHk
import Derived.Test.YtafcjklojnhbnaaGreatSr
namespace Go.Proofs.YtafcjklojnhbnaaGreat.Hp
section
variable {α : Type} {lt : α → α → Bool}

def Sd (lt : α → α → Bool) (l : List α) : Prop := l.Pairwise fun a b => lt a b = true

theorem flatten_set (rows : List (List α)) (i : Nat) (y : α) (tl : List α) (h : rows[i]? = some (y :: tl)) : rows.flatten.Perm (y :: (rows.set i tl).flatten) := by
  induction rows generalizing i with
  | nil => simp at h
  | cons r rows ih =>
    cases i with
    | zero =>
      simp at h; subst h
      simp
    | succ i =>
      simp only [List.getElem?_cons_succ] at h
      have := ih i h
      simp only [List.flatten_cons, List.set_cons_succ]
      exact (this.append_left r).trans List.perm_middle

theorem merge_step (H : Str lt) {P : List α} (hP : Sd lt P) {rows : List (List α)} (hr : ∀ r ∈ rows, Sd lt r) {k : Nat} (hp : rows.flatten.Perm (P.drop k)) {i : Nat} {y : α} {tl : List α} (hi : rows[i]? = some (y :: tl))
    (hmin : ∀ (j : Nat) z tz, rows[j]? = some (z :: tz) → j ≠ i → lt y z = true) :
    P[k]? = some y ∧ (rows.set i tl).flatten.Perm (P.drop (k + 1)) ∧ ∀ r ∈ rows.set i tl, Sd lt r := by
  have hfs := flatten_set rows i y tl hi
  have hsi : Sd lt (y :: tl) := hr _ (List.mem_of_getElem? hi)
  -- y is the least of what is left
  have hle : ∀ z ∈ rows.flatten, z = y ∨ lt y z = true := by
    intro z hz
    obtain ⟨r, hrm, hzr⟩ := List.mem_flatten.1 hz
    obtain ⟨j, hj⟩ := List.mem_iff_getElem?.1 hrm
    by_cases e : j = i
    · subst e
      rw [hi] at hj
      cases hj
      rcases List.mem_cons.1 hzr with e | e
      · exact .inl e
      · exact .inr ((List.pairwise_cons.1 hsi).1 z e)
    · cases r with
      | nil => cases hzr
      | cons a ar =>
        have h1 := hmin j a ar hj e
        rcases List.mem_cons.1 hzr with e2 | e2
        · exact .inr (e2 ▸ h1)
        · exact .inr (H.tr _ _ _ h1 ((List.pairwise_cons.1 (hr _ hrm)).1 z e2))
  have hyP : y ∈ P.drop k := hp.subset (hfs.symm.subset List.mem_cons_self)
  cases hd : P.drop k with
  | nil => rw [hd] at hyP; cases hyP
  | cons x rest =>
    have hPd : Sd lt (x :: rest) := by rw [← hd]; exact List.Pairwise.sublist (List.drop_sublist k P) hP
    have hx : x = y := by
      rw [hd] at hyP
      rcases List.mem_cons.1 hyP with e | e
      · exact e.symm
      · have h1 := (List.pairwise_cons.1 hPd).1 y e
        rcases hle x (hp.symm.subset (by rw [hd]; exact List.mem_cons_self)) with h | h
        · exact h
        · have := H.tr _ _ _ h1 h; rw [H.irr] at this; cases this
    subst hx
    have hk : P[k]? = some x := by
      have : (P.drop k)[0]? = some x := by rw [hd]; rfl
      rwa [List.getElem?_drop, Nat.add_zero] at this
    have hd1 : P.drop (k + 1) = rest := by
      have : P.drop (k + 1) = (P.drop k).drop 1 := by rw [List.drop_drop]
      rw [this, hd]; rfl
    refine ⟨hk, ?_, fun r hrm => ?_⟩
    · rw [hd1]
      rw [hd] at hp
      exact List.Perm.cons_inv (hfs.symm.trans hp)
    · rcases List.mem_or_eq_of_mem_set hrm with h | h
      · exact hr r h
      · rw [h]; exact (List.pairwise_cons.1 hsi).2

/-- Where all rows are empty, nothing is left. -/
theorem merge_end {P : List α} {rows : List (List α)} {k : Nat} (hp : rows.flatten.Perm (P.drop k)) (hk : k ≤ P.length) (h0 : ∀ r ∈ rows, r = []) : k = P.length := by
  have : rows.flatten = [] := List.flatten_eq_nil_iff.2 h0
  rw [this] at hp
  have := hp.length_eq
  simp at this
  omega

theorem sd_nodup (H : Str lt) {l : List α} (h : Sd lt l) : l.Nodup := List.Pairwise.imp (fun {a b} hab e => by rw [e, H.irr] at hab; cases hab) h
theorem sd_eq (H : Str lt) : ∀ {a b : List α}, a.Perm b → Sd lt a → Sd lt b → a = b
  | [], b, h, _, _ => by rw [List.nil_perm.1 h]
  | x :: a, [], h, _, _ => by cases List.perm_nil.1 h
  | x :: a, y :: b, h, ha, hb => by
    have ha' := List.pairwise_cons.1 ha
    have hb' := List.pairwise_cons.1 hb
    have e : x = y := by
      rcases List.mem_cons.1 (h.subset (List.mem_cons_self)) with e | hx
      · exact e
      · rcases List.mem_cons.1 (h.symm.subset (List.mem_cons_self)) with e | hy
        · exact e.symm
        · have := H.tr _ _ _ (ha'.1 y hy) (hb'.1 x hx)
          rw [H.irr] at this; cases this
    subst e
    rw [sd_eq H (List.Perm.cons_inv h) ha'.2 hb'.2]

/-- A thing put in, found from the end. -/
theorem sd_put (H : Str lt) {l : List α} (h : Sd lt l) {p : α} (hn : p ∉ l) {k : Nat} (h1 : ∀ (j : Nat) z, k ≤ j → l[j]? = some z → lt p z = true) (h2 : k = 0 ∨ ∃ z, l[k - 1]? = some z ∧ lt p z = false) : Sd lt (l.take k ++ p :: l.drop k) := by
  unfold Sd at *
  rw [List.pairwise_append]
  have hb : ∀ a ∈ l.take k, lt a p = true := by
    intro a ha
    rcases h2 with h2 | ⟨z, hz, hz2⟩
    · subst h2; simp at ha
    · obtain ⟨j, hj⟩ := List.mem_iff_getElem?.1 ha
      rw [List.getElem?_take] at hj
      split at hj
      · rename_i hjk
        have hzp : lt z p = true := by
          cases e : lt z p with
          | true => rfl
          | false => exact absurd (H.tot _ _ hz2 e) fun e => hn (e ▸ List.mem_of_getElem? hz)
        by_cases e : j = k - 1
        · subst e; rw [hz] at hj; cases hj; exact hzp
        · obtain ⟨hj1, rfl⟩ := List.getElem?_eq_some_iff.1 hj
          obtain ⟨hk1, rfl⟩ := List.getElem?_eq_some_iff.1 hz
          exact H.tr _ _ _ (List.pairwise_iff_getElem.1 h j (k - 1) hj1 hk1 (by omega)) hzp
      · cases hj
  have ha : ∀ a ∈ l.drop k, lt p a = true := by
    intro a ha
    obtain ⟨j, hj⟩ := List.mem_iff_getElem?.1 ha
    rw [List.getElem?_drop] at hj
    exact h1 _ a (by omega) hj
  refine ⟨List.Pairwise.sublist (List.take_sublist k l) h, List.pairwise_cons.2 ⟨ha, List.Pairwise.sublist (List.drop_sublist k l) h⟩, fun a h3 b h4 => ?_⟩
  rcases List.mem_cons.1 h4 with rfl | h4
  · exact hb a h3
  · exact H.tr _ _ _ (hb a h3) (ha b h4)
theorem put_perm (l : List α) (p : α) (k : Nat) : (l.take k ++ p :: l.drop k).Perm (p :: l) := by
  refine List.perm_middle.trans ?_
  rw [List.take_append_drop]

theorem sd_sort (H : Str lt) (l : List α) (hn : l.Nodup) : Sd lt (l.mergeSort fun x y => !lt y x) := by
  have h1 : (l.mergeSort fun x y => !lt y x).Pairwise fun a b => (!lt b a) = true := by
    refine List.pairwise_mergeSort ?_ ?_ _
    · intro a b c h1 h2
      simp only [Bool.not_eq_true'] at *
      cases e : lt c a with
      | false => rfl
      | true =>
        exfalso
        cases e2 : lt b c with
        | true => have := H.tr _ _ _ e2 e; rw [h1] at this; cases this
        | false => have e3 := H.tot _ _ e2 h2; rw [← e3, h1] at e; cases e
    · intro a b
      simp only [Bool.or_eq_true, Bool.not_eq_true']
      cases e : lt b a with
      | false => exact .inl rfl
      | true =>
        refine .inr ?_
        cases e2 : lt a b with
        | false => rfl
        | true => have := H.tr _ _ _ e e2; rw [H.irr] at this; cases this
  have h2 := List.Pairwise.and h1 ((List.mergeSort_perm l _).nodup_iff.2 hn)
  refine List.Pairwise.imp ?_ h2
  rintro a b ⟨h3, h4⟩
  cases e : lt a b with
  | true => rfl
  | false => exact absurd (H.tot _ _ e (by simpa using h3)) h4
end

end Go.Proofs.YtafcjklojnhbnaaGreat.Hp

/- Savings: what it is to join two customers' ways; pairs in their order. Plain. -/
namespace Go.Proofs.YtafcjklojnhbnaaGreat.Pv
open Go Hp

def savZ (x : Inst) (a b : Int) : Int := arc x (a + 1) 0 + arc x 0 (b + 1) - arc x (a + 1) (b + 1)

theorem wayS_app (x : Inst) : ∀ (l : List Int) (k u v : Int) (m : List Int), wayS x k (l ++ u :: v :: m) = wayS x k (l ++ [u]) + wayS x 0 (v :: m) - savZ x u v
  | [], k, u, v, m => by
    have e : wayS x 0 (v :: m) = arc x 0 (v + 1) + wayS x (v + 1) m := rfl
    rw [e]
    simp only [List.nil_append, wayS, savZ]
    omega
  | y :: l, k, u, v, m => by
    simp only [List.cons_append, wayS]
    rw [wayS_app x l (y + 1) u v m]
    have e : wayS x 0 (v :: m) = arc x 0 (v + 1) + wayS x (v + 1) m := rfl
    omega

theorem wayZ_cut (x : Inst) (all : List Int) (k : Nat) (u v : Int) (hu : all[k]? = some u) (hv : all[k + 1]? = some v) : wayZ x all = wayZ x (all.take (k + 1)) + wayZ x (all.drop (k + 1)) - savZ x u v := by
  have e1 : all.take (k + 1) = all.take k ++ [u] := by
    rw [List.take_add_one, hu]; rfl
  have e2 : all.drop (k + 1) = v :: all.drop (k + 2) := by
    obtain ⟨h, rfl⟩ := List.getElem?_eq_some_iff.1 hv
    exact List.drop_eq_getElem_cons h
  have e3 : all = all.take k ++ u :: v :: all.drop (k + 2) := by
    conv => lhs; rw [← List.take_append_drop (k + 1) all, e1, e2]
    simp
  have hw : ∀ l : List Int, l ≠ [] → wayZ x l = wayS x 0 l := fun l h => by unfold wayZ; rw [if_neg h]
  rw [hw all (by rw [e3]; simp), hw (all.take (k + 1)) (by rw [e1]; simp), hw (all.drop (k + 1)) (by rw [e2]; simp)]
  conv => lhs; rw [e3, wayS_app]
  rw [e1, e2]

structure Pr where
  a : Int
  b : Int
  s : Int
deriving DecidableEq

def plt (p q : Pr) : Bool := if p.s = q.s then (if p.a = q.a then decide (p.b < q.b) else decide (p.a < q.a)) else decide (q.s < p.s)

theorem plt_str : Str plt := by
  refine ⟨fun a => by simp [plt], fun a b c h1 h2 => ?_, fun a b h1 h2 => ?_⟩
  · unfold plt at *
    split at h1 <;> split at h2 <;> split <;> (try split at h1) <;> (try split at h2) <;> (try split) <;> simp only [decide_eq_true_eq] at * <;> omega
  · obtain ⟨a1, a2, a3⟩ := a
    obtain ⟨b1, b2, b3⟩ := b
    unfold plt at *
    simp only at *
    split at h1 <;> split at h2 <;> (try split at h1) <;> (try split at h2) <;> simp only [decide_eq_false_iff_not] at * <;> simp only [Pr.mk.injEq] <;> omega

/-- A customer's pairs, and all pairs of a row of customers. -/
def prsOf (x : Inst) (c : List Int) (a : Int) : List Pr := (c.filter fun b => decide (b ≠ a)).map fun b => ⟨a, b, savZ x a b⟩
def prsAll (x : Inst) (c : List Int) : List Pr := c.flatMap (prsOf x c)
/-- .. in their order. -/
def pairsP (x : Inst) (c : List Int) : List Pr := (prsAll x c).mergeSort fun p q => !plt q p

theorem prsAll_mem {x : Inst} {c : List Int} {p : Pr} : p ∈ prsAll x c ↔ p.a ∈ c ∧ p.b ∈ c ∧ p.b ≠ p.a ∧ p.s = savZ x p.a p.b := by
  unfold prsAll prsOf
  simp only [List.mem_flatMap, List.mem_map, List.mem_filter, decide_eq_true_eq]
  constructor
  · rintro ⟨a, ha, b, ⟨hb, hne⟩, rfl⟩; exact ⟨ha, hb, hne, rfl⟩
  · rintro ⟨ha, hb, hne, hs⟩; exact ⟨p.a, ha, p.b, ⟨hb, hne⟩, by rw [← hs]⟩

theorem prsAll_nodup {x : Inst} {c : List Int} (h : c.Nodup) : (prsAll x c).Nodup := by
  unfold prsAll
  unfold List.Nodup
  rw [List.pairwise_flatMap]
  refine ⟨fun a ha => ?_, ?_⟩
  · unfold prsOf
    refine List.Pairwise.map _ ?_ (List.Pairwise.filter _ h)
    intro u v huv e
    exact huv (congrArg Pr.b e)
  · refine List.Pairwise.imp ?_ h
    intro a b hab
    intro p hp q hq e
    subst e
    unfold prsOf at hp hq
    obtain ⟨u, _, rfl⟩ := List.mem_map.1 hp
    obtain ⟨v, _, e⟩ := List.mem_map.1 hq
    exact hab (congrArg Pr.a e).symm

theorem pairsP_sd {x : Inst} {c : List Int} (h : c.Nodup) : Sd plt (pairsP x c) := sd_sort plt_str _ (prsAll_nodup h)
theorem pairsP_perm (x : Inst) (c : List Int) : (pairsP x c).Perm (prsAll x c) := List.mergeSort_perm _ _
theorem pairsP_len {x : Inst} {c : List Int} (h : c.Nodup) : (pairsP x c).length = c.length * (c.length - 1) := by
  rw [(pairsP_perm x c).length_eq]
  unfold prsAll
  rw [List.length_flatMap]
  have : c.map (fun a => (prsOf x c a).length) = c.map fun _ => c.length - 1 := by
    refine List.map_congr_left fun a ha => ?_
    unfold prsOf
    rw [List.length_map]
    have := List.Nodup.erase_eq_filter h a
    have h2 := List.length_erase_of_mem ha
    rw [this] at h2
    rw [← h2]
    congr 1
    refine List.filter_congr fun b _ => ?_
    by_cases e : b = a <;> simp [e]
  rw [this, List.map_const', List.sum_replicate_nat]

/-- The order of the customers is nothing to it. -/
theorem pairsP_of {x : Inst} {c : List Int} (h : c.Nodup) {l : List Pr} (hp : l.Perm (prsAll x c)) (hs : Sd plt l) : l = pairsP x c :=
  sd_eq plt_str (hp.trans (pairsP_perm x c).symm) hs (pairsP_sd h)
theorem prsAll_perm {x : Inst} {c d : List Int} (hc : c.Nodup) (hd : d.Nodup) (h : c.Perm d) : (prsAll x c).Perm (prsAll x d) := by
  refine (List.perm_ext_iff_of_nodup (prsAll_nodup hc) (prsAll_nodup hd)).2 fun p => ?_
  rw [prsAll_mem, prsAll_mem, h.mem_iff, h.mem_iff]
theorem pairsP_perm_eq {x : Inst} {c d : List Int} (hc : c.Nodup) (hd : d.Nodup) (h : c.Perm d) : pairsP x c = pairsP x d :=
  pairsP_of hd ((pairsP_perm x c).trans (prsAll_perm hc hd h)) (pairsP_sd hc)

end Go.Proofs.YtafcjklojnhbnaaGreat.Pv

/- The heads of rows, as things of a heap. Plain. -/
namespace Go.Proofs.YtafcjklojnhbnaaGreat.Pv
open Go Hp

def headsI : Nat → List (List Pr) → Its Int
  | _, [] => []
  | i, [] :: rows => headsI (i + 1) rows
  | i, (p :: _) :: rows => ((i : Int), -p.s) :: headsI (i + 1) rows

theorem headsI_mem : ∀ (rows : List (List Pr)) (i : Nat) (x : Int × Int), x ∈ headsI i rows ↔ ∃ (k : Nat) (p : Pr) (tl : List Pr), rows[k]? = some (p :: tl) ∧ x = (((i + k : Nat) : Int), -p.s)
  | [], i, x => by simp [headsI]
  | [] :: rows, i, x => by
    rw [headsI, headsI_mem rows (i + 1) x]
    constructor
    · rintro ⟨k, p, tl, h, rfl⟩
      exact ⟨k + 1, p, tl, by simpa using h, by rw [show i + 1 + k = i + (k + 1) by omega]⟩
    · rintro ⟨k, p, tl, h, rfl⟩
      match k with
      | 0 => simp at h
      | k + 1 => exact ⟨k, p, tl, by simpa using h, by rw [show i + 1 + k = i + (k + 1) by omega]⟩
  | (q :: ql) :: rows, i, x => by
    rw [headsI, List.mem_cons, headsI_mem rows (i + 1) x]
    constructor
    · rintro (rfl | ⟨k, p, tl, h, rfl⟩)
      · exact ⟨0, q, ql, rfl, rfl⟩
      · exact ⟨k + 1, p, tl, by simpa using h, by rw [show i + 1 + k = i + (k + 1) by omega]⟩
    · rintro ⟨k, p, tl, h, rfl⟩
      match k with
      | 0 => simp at h; obtain ⟨rfl, rfl⟩ := h; exact .inl rfl
      | k + 1 => exact .inr ⟨k, p, tl, by simpa using h, by rw [show i + 1 + k = i + (k + 1) by omega]⟩

theorem headsI_set : ∀ (rows : List (List Pr)) (i k : Nat) (p : Pr) (tl : List Pr), k < rows.length → (headsI i (rows.set k (p :: tl))).Perm ((((i + k : Nat) : Int), -p.s) :: headsI i (rows.set k []))
  | [], _, _, _, _, h => by simp at h
  | r :: rows, i, 0, p, tl, _ => by simp [headsI]
  | [] :: rows, i, k + 1, p, tl, h => by
    have := headsI_set rows (i + 1) k p tl (by simpa using h)
    simp only [List.set_cons_succ, headsI]
    rwa [show i + 1 + k = i + (k + 1) by omega] at this
  | (q :: ql) :: rows, i, k + 1, p, tl, h => by
    have := headsI_set rows (i + 1) k p tl (by simpa using h)
    simp only [List.set_cons_succ, headsI]
    rw [show i + 1 + k = i + (k + 1) by omega] at this
    exact (this.cons _).trans (.swap _ _ _)

theorem headsI_out {rows : List (List Pr)} {k : Nat} {p : Pr} {tl : List Pr} (h : rows[k]? = some (p :: tl)) : (headsI 0 rows).Perm ((((k : Nat) : Int), -p.s) :: headsI 0 (rows.set k [])) := by
  obtain ⟨hk, e⟩ := List.getElem?_eq_some_iff.1 h
  have := headsI_set rows 0 k p tl hk
  rwa [Nat.zero_add, ← e, List.set_getElem_self] at this

theorem headsI_len : ∀ (rows : List (List Pr)) (i : Nat), (headsI i rows).length ≤ rows.length
  | [], _ => by simp [headsI]
  | [] :: rows, i => by have := headsI_len rows (i + 1); simp only [headsI, List.length_cons]; omega
  | (q :: ql) :: rows, i => by have := headsI_len rows (i + 1); simp only [headsI, List.length_cons]; omega

/-- What holds of the rows all the while: c are the customers. -/
structure Rows' (c : List Int) (rows : List (List Pr)) : Prop where
  len : rows.length = c.length
  a : ∀ (i : Nat) r, rows[i]? = some r → ∀ p ∈ r, c[i]? = some p.a

/-- The heap's first thing is the least pair that is left. -/
theorem heads_least {c : List Int} (hc : c.Pairwise (· < ·)) {rows : List (List Pr)} (hr : Rows' c rows) {x : Int × Int} {r : Its Int} (hs : SortedI (x :: r)) (hp : (headsI 0 rows).Perm (x :: r)) :
    ∃ (i : Nat) (y : Pr) (tl : List Pr), x = ((i : Int), -y.s) ∧ rows[i]? = some (y :: tl) ∧ r.Perm (headsI 0 (rows.set i [])) ∧ ∀ (j : Nat) z tz, rows[j]? = some (z :: tz) → j ≠ i → plt y z = true := by
  obtain ⟨i, y, tl, hi, ex⟩ := (headsI_mem rows 0 x).1 (hp.symm.subset List.mem_cons_self)
  rw [Nat.zero_add] at ex
  subst ex
  refine ⟨i, y, tl, rfl, hi, (List.Perm.cons_inv ((headsI_out hi).symm.trans hp)).symm, fun j z tz hj hne => ?_⟩
  have hz : (((j : Nat) : Int), -z.s) ∈ headsI 0 rows := (headsI_mem rows 0 _).2 ⟨j, z, tz, hj, by rw [Nat.zero_add]⟩
  rcases List.mem_cons.1 (hp.subset hz) with e | e
  · have : (j : Int) = i := congrArg Prod.fst e
    exact absurd (by omega) hne
  · have h1 := (List.pairwise_cons.1 hs).1 _ e
    have ay := hr.a i _ hi y (by simp)
    have az := hr.a j _ hj z (by simp)
    unfold ilt il ltI at h1
    simp only at h1
    unfold plt
    by_cases e2 : -y.s = -z.s
    · rw [if_pos e2] at h1
      rw [if_pos (by omega)]
      have hij : i < j := by simp at h1; omega
      obtain ⟨k1, e3⟩ := List.getElem?_eq_some_iff.1 ay
      obtain ⟨k2, e4⟩ := List.getElem?_eq_some_iff.1 az
      have := List.pairwise_iff_getElem.1 hc i j k1 k2 hij
      rw [e3, e4] at this
      rw [if_neg (by omega)]
      simpa using this
    · rw [if_neg e2] at h1
      rw [if_neg (by omega)]
      simp at h1
      simp; omega

end Go.Proofs.YtafcjklojnhbnaaGreat.Pv

/- A customer's row of pairs, sorted by places. Plain. -/
namespace Go.Proofs.YtafcjklojnhbnaaGreat.Pv
open Go Hp

def negS (l : List Pr) : List Int := l.map fun p => -p.s
def getP (l : List Pr) (i : Int) : Pr := l.getD i.toNat ⟨0, 0, 0⟩
def rowP (x : Inst) (c : List Int) (a : Int) : List Pr := (sortI (negS (prsOf x c a))).map (getP (prsOf x c a))

theorem sortI_perm (l : List Int) : (sortI l).Perm ((List.range l.length).map fun i : Nat => (i : Int)) := by
  have h := (sortF_items l).map (·.1)
  rw [List.map_map, List.map_map] at h
  exact h

theorem get_perm (l : List Pr) : ((sortI (negS l)).map (getP l)).Perm l := by
  refine ((sortI_perm _).map _).trans ?_
  have : ((List.range (negS l).length).map fun i : Nat => (i : Int)).map (getP l) = l := by
    rw [List.map_map]
    apply List.ext_getElem
    · simp [negS]
    · intro i h1 h2
      simp [getP, List.getD_eq_getElem?_getD, h2]
  rw [this]

theorem get_sd {l : List Pr} (h : ∀ (i j : Nat) p q, i < j → l[i]? = some p → l[j]? = some q → p.a = q.a ∧ p.b < q.b) : Sd plt ((sortI (negS l)).map (getP l)) := by
  have hs := sortF_sorted (negS l)
  unfold sortI
  rw [List.map_map]
  unfold SortedI at hs
  rw [List.pairwise_map] at hs
  unfold Sd
  rw [List.pairwise_map]
  refine List.Pairwise.imp ?_ hs
  intro i j hij
  have hn : (negS l).length = l.length := by simp [negS]
  have hi : i.val < l.length := by have := i.isLt; omega
  have hj : j.val < l.length := by have := j.isLt; omega
  have gi : l[i.val]? = some l[i.val] := List.getElem?_eq_getElem hi
  have gj : l[j.val]? = some l[j.val] := List.getElem?_eq_getElem hj
  have wi : (negS l).getD i.val 0 = -(l[i.val]).s := by simp [negS, List.getD_eq_getElem?_getD, hi]
  have wj : (negS l).getD j.val 0 = -(l[j.val]).s := by simp [negS, List.getD_eq_getElem?_getD, hj]
  have pi : getP l (i.val : Int) = l[i.val] := by simp [getP, List.getD_eq_getElem?_getD, hi]
  have pj : getP l (j.val : Int) = l[j.val] := by simp [getP, List.getD_eq_getElem?_getD, hj]
  simp only [Function.comp, pi, pj]
  unfold ilt il itW ltI at hij
  rw [wi, wj] at hij
  simp only at hij
  generalize l[i.val] = p at *
  generalize l[j.val] = q at *
  unfold plt
  by_cases e : -p.s = -q.s
  · rw [if_pos e] at hij
    have hlt : i.val < j.val := by simp at hij; omega
    obtain ⟨h1, h2⟩ := h i.val j.val p q hlt gi gj
    rw [if_pos (by omega), if_pos h1]
    simpa using h2
  · rw [if_neg e] at hij
    rw [if_neg (by omega)]
    simp at hij
    simp; omega

theorem prsOf_asc {x : Inst} {c : List Int} (hc : c.Pairwise (· < ·)) (a : Int) : ∀ (i j : Nat) p q, i < j → (prsOf x c a)[i]? = some p → (prsOf x c a)[j]? = some q → p.a = q.a ∧ p.b < q.b := by
  have h : (prsOf x c a).Pairwise fun p q => p.a = q.a ∧ p.b < q.b := by
    unfold prsOf
    rw [List.pairwise_map]
    exact List.Pairwise.imp (fun h => ⟨rfl, h⟩) (List.Pairwise.filter _ hc)
  intro i j p q hij hp hq
  obtain ⟨h1, rfl⟩ := List.getElem?_eq_some_iff.1 hp
  obtain ⟨h2, rfl⟩ := List.getElem?_eq_some_iff.1 hq
  exact List.pairwise_iff_getElem.1 h i j h1 h2 hij

theorem rowP_perm (x : Inst) (c : List Int) (a : Int) : (rowP x c a).Perm (prsOf x c a) := get_perm _
theorem rowP_sd {x : Inst} {c : List Int} (hc : c.Pairwise (· < ·)) (a : Int) : Sd plt (rowP x c a) := get_sd (prsOf_asc hc a)

/-- The rows at the beginning. -/
theorem rows_begin {x : Inst} {c : List Int} (hc : c.Pairwise (· < ·)) : Rows' c (c.map (rowP x c)) ∧ (∀ r ∈ c.map (rowP x c), Sd plt r) ∧ (c.map (rowP x c)).flatten.Perm (pairsP x c) := by
  refine ⟨⟨by simp, fun i r hr p hp => ?_⟩, fun r hr => ?_, ?_⟩
  · rw [List.getElem?_map] at hr
    obtain ⟨a, ha, rfl⟩ := Option.map_eq_some_iff.1 hr
    have := (rowP_perm x c a).subset hp
    unfold prsOf at this
    obtain ⟨b, _, rfl⟩ := List.mem_map.1 this
    exact ha
  · obtain ⟨a, _, rfl⟩ := List.mem_map.1 hr
    exact rowP_sd hc a
  · refine List.Perm.trans ?_ (pairsP_perm x c).symm
    unfold prsAll
    rw [← List.flatMap_def]
    have main : ∀ l : List Int, (l.flatMap (rowP x c)).Perm (l.flatMap (prsOf x c)) := by
      intro l
      induction l with
      | nil => exact .refl _
      | cons a l ih => simp only [List.flatMap_cons]; exact (rowP_perm x c a).append ih
    exact main c

/-- A round: the least pair goes, its row is shorter. -/
theorem rows_round {x : Inst} {c : List Int} (hc : c.Pairwise (· < ·)) {rows : List (List Pr)} {k : Nat} (h1 : Rows' c rows) (h2 : ∀ r ∈ rows, Sd plt r) (h3 : rows.flatten.Perm ((pairsP x c).drop k)) {it : Int × Int} {r : Its Int} (hs : SortedI (it :: r)) (hp : (headsI 0 rows).Perm (it :: r)) :
    ∃ (i : Nat) (y : Pr) (tl : List Pr), it = ((i : Int), -y.s) ∧ rows[i]? = some (y :: tl) ∧ r.Perm (headsI 0 (rows.set i [])) ∧ (pairsP x c)[k]? = some y ∧ Rows' c (rows.set i tl) ∧ (∀ r ∈ rows.set i tl, Sd plt r) ∧ (rows.set i tl).flatten.Perm ((pairsP x c).drop (k + 1)) := by
  have hn : c.Nodup := List.Pairwise.imp (fun h e => by omega) hc
  obtain ⟨i, y, tl, e1, e2, e3, e4⟩ := heads_least hc h1 hs hp
  obtain ⟨m1, m2, m3⟩ := merge_step plt_str (pairsP_sd hn) h2 h3 e2 e4
  refine ⟨i, y, tl, e1, e2, e3, m1, ⟨by rw [List.length_set]; exact h1.len, fun j r hr p hpr => ?_⟩, m3, m2⟩
  rw [List.getElem?_set] at hr
  split at hr
  · rename_i e
    subst e
    split at hr
    · cases hr
      exact h1.a i _ e2 p (List.mem_cons_of_mem _ hpr)
    · cases hr
  · exact h1.a j r hr p hpr

end Go.Proofs.YtafcjklojnhbnaaGreat.Pv

