/- A part of the proof of the statement that the last text of this claim proves; no condition is added. Packed by a program of the prover. -/
import Derived.Test.YtafcjklojnhbnaaGreatT3
namespace Go.Proofs.YtafcjklojnhbnaaGreat.Hp
section
variable {α : Type} {lt : α → α → Bool}
def Sd (lt : α → α → Bool) (l : List α) : Prop := l.Pairwise fun a b => lt a b = true
theorem flatten_set (rows : List (List α)) (i : Nat) (y : α) (tl : List α) (h : rows[i]? = some (y :: tl)) : rows.flatten.Perm (y :: (rows.set i tl).flatten) := by
  induction rows generalizing i with
  | nil => simp at h
  | cons r rows ih =>
    cases i with
    | zero =>
      simp at h; subst h
      simp
    | succ i =>
      simp only [List.getElem?_cons_succ] at h
      have := ih i h
      simp only [List.flatten_cons, List.set_cons_succ]
      exact (this.append_left r).trans List.perm_middle
theorem merge_step (H : Str lt) {P : List α} (hP : Sd lt P) {rows : List (List α)} (hr : ∀ r ∈ rows, Sd lt r) {k : Nat} (hp : rows.flatten.Perm (P.drop k)) {i : Nat} {y : α} {tl : List α} (hi : rows[i]? = some (y :: tl))
    (hmin : ∀ (j : Nat) z tz, rows[j]? = some (z :: tz) → j ≠ i → lt y z = true) :
    P[k]? = some y ∧ (rows.set i tl).flatten.Perm (P.drop (k + 1)) ∧ ∀ r ∈ rows.set i tl, Sd lt r := by
  have hfs := flatten_set rows i y tl hi
  have hsi : Sd lt (y :: tl) := hr _ (List.mem_of_getElem? hi)
  -- y is the least of what is left
  have hle : ∀ z ∈ rows.flatten, z = y ∨ lt y z = true := by
    intro z hz
    obtain ⟨r, hrm, hzr⟩ := List.mem_flatten.1 hz
    obtain ⟨j, hj⟩ := List.mem_iff_getElem?.1 hrm
    by_cases e : j = i
    · subst e
      rw [hi] at hj
      cases hj
      rcases List.mem_cons.1 hzr with e | e
      · exact .inl e
      · exact .inr ((List.pairwise_cons.1 hsi).1 z e)
    · cases r with
      | nil => cases hzr
      | cons a ar =>
        have h1 := hmin j a ar hj e
        rcases List.mem_cons.1 hzr with e2 | e2
        · exact .inr (e2 ▸ h1)
        · exact .inr (H.tr _ _ _ h1 ((List.pairwise_cons.1 (hr _ hrm)).1 z e2))
  have hyP : y ∈ P.drop k := hp.subset (hfs.symm.subset List.mem_cons_self)
  cases hd : P.drop k with
  | nil => rw [hd] at hyP; cases hyP
  | cons x rest =>
    have hPd : Sd lt (x :: rest) := by rw [← hd]; exact List.Pairwise.sublist (List.drop_sublist k P) hP
    have hx : x = y := by
      rw [hd] at hyP
      rcases List.mem_cons.1 hyP with e | e
      · exact e.symm
      · have h1 := (List.pairwise_cons.1 hPd).1 y e
        rcases hle x (hp.symm.subset (by rw [hd]; exact List.mem_cons_self)) with h | h
        · exact h
        · have := H.tr _ _ _ h1 h; rw [H.irr] at this; cases this
    subst hx
    have hk : P[k]? = some x := by
      have : (P.drop k)[0]? = some x := by rw [hd]; rfl
      rwa [List.getElem?_drop, Nat.add_zero] at this
    have hd1 : P.drop (k + 1) = rest := by
      have : P.drop (k + 1) = (P.drop k).drop 1 := by rw [List.drop_drop]
      rw [this, hd]; rfl
    refine ⟨hk, ?_, fun r hrm => ?_⟩
    · rw [hd1]
      rw [hd] at hp
      exact List.Perm.cons_inv (hfs.symm.trans hp)
    · rcases List.mem_or_eq_of_mem_set hrm with h | h
      · exact hr r h
      · rw [h]; exact (List.pairwise_cons.1 hsi).2
theorem merge_end {P : List α} {rows : List (List α)} {k : Nat} (hp : rows.flatten.Perm (P.drop k)) (hk : k ≤ P.length) (h0 : ∀ r ∈ rows, r = []) : k = P.length := by
  have : rows.flatten = [] := List.flatten_eq_nil_iff.2 h0
  rw [this] at hp
  have := hp.length_eq
  simp at this
  omega
theorem sd_eq (H : Str lt) : ∀ {a b : List α}, a.Perm b → Sd lt a → Sd lt b → a = b
  | [], b, h, _, _ => by rw [List.nil_perm.1 h]
  | x :: a, [], h, _, _ => by cases List.perm_nil.1 h
  | x :: a, y :: b, h, ha, hb => by
    have ha' := List.pairwise_cons.1 ha
    have hb' := List.pairwise_cons.1 hb
    have e : x = y := by
      rcases List.mem_cons.1 (h.subset (List.mem_cons_self)) with e | hx
      · exact e
      · rcases List.mem_cons.1 (h.symm.subset (List.mem_cons_self)) with e | hy
        · exact e.symm
        · have := H.tr _ _ _ (ha'.1 y hy) (hb'.1 x hx)
          rw [H.irr] at this; cases this
    subst e
    rw [sd_eq H (List.Perm.cons_inv h) ha'.2 hb'.2]
theorem sd_put (H : Str lt) {l : List α} (h : Sd lt l) {p : α} (hn : p ∉ l) {k : Nat} (h1 : ∀ (j : Nat) z, k ≤ j → l[j]? = some z → lt p z = true) (h2 : k = 0 ∨ ∃ z, l[k - 1]? = some z ∧ lt p z = false) : Sd lt (l.take k ++ p :: l.drop k) := by
  unfold Sd at *
  rw [List.pairwise_append]
  have hb : ∀ a ∈ l.take k, lt a p = true := by
    intro a ha
    rcases h2 with h2 | ⟨z, hz, hz2⟩
    · subst h2; simp at ha
    · obtain ⟨j, hj⟩ := List.mem_iff_getElem?.1 ha
      rw [List.getElem?_take] at hj
      split at hj
      · rename_i hjk
        have hzp : lt z p = true := by
          cases e : lt z p with
          | true => rfl
          | false => exact absurd (H.tot _ _ hz2 e) fun e => hn (e ▸ List.mem_of_getElem? hz)
        by_cases e : j = k - 1
        · subst e; rw [hz] at hj; cases hj; exact hzp
        · obtain ⟨hj1, rfl⟩ := List.getElem?_eq_some_iff.1 hj
          obtain ⟨hk1, rfl⟩ := List.getElem?_eq_some_iff.1 hz
          exact H.tr _ _ _ (List.pairwise_iff_getElem.1 h j (k - 1) hj1 hk1 (by omega)) hzp
      · cases hj
  have ha : ∀ a ∈ l.drop k, lt p a = true := by
    intro a ha
    obtain ⟨j, hj⟩ := List.mem_iff_getElem?.1 ha
    rw [List.getElem?_drop] at hj
    exact h1 _ a (by omega) hj
  refine ⟨List.Pairwise.sublist (List.take_sublist k l) h, List.pairwise_cons.2 ⟨ha, List.Pairwise.sublist (List.drop_sublist k l) h⟩, fun a h3 b h4 => ?_⟩
  rcases List.mem_cons.1 h4 with rfl | h4
  · exact hb a h3
  · exact H.tr _ _ _ (hb a h3) (ha b h4)
theorem put_perm (l : List α) (p : α) (k : Nat) : (l.take k ++ p :: l.drop k).Perm (p :: l) := by
  refine List.perm_middle.trans ?_
  rw [List.take_append_drop]
theorem sd_sort (H : Str lt) (l : List α) (hn : l.Nodup) : Sd lt (l.mergeSort fun x y => !lt y x) := by
  have h1 : (l.mergeSort fun x y => !lt y x).Pairwise fun a b => (!lt b a) = true := by
    refine List.pairwise_mergeSort ?_ ?_ _
    · intro a b c h1 h2
      simp only [Bool.not_eq_true'] at *
      cases e : lt c a with
      | false => rfl
      | true =>
        exfalso
        cases e2 : lt b c with
        | true => have := H.tr _ _ _ e2 e; rw [h1] at this; cases this
        | false => have e3 := H.tot _ _ e2 h2; rw [← e3, h1] at e; cases e
    · intro a b
      simp only [Bool.or_eq_true, Bool.not_eq_true']
      cases e : lt b a with
      | false => exact .inl rfl
      | true =>
        refine .inr ?_
        cases e2 : lt a b with
        | false => rfl
        | true => have := H.tr _ _ _ e e2; rw [H.irr] at this; cases this
  have h2 := List.Pairwise.and h1 ((List.mergeSort_perm l _).nodup_iff.2 hn)
  refine List.Pairwise.imp ?_ h2
  rintro a b ⟨h3, h4⟩
  cases e : lt a b with
  | true => rfl
  | false => exact absurd (H.tot _ _ e (by simpa using h3)) h4
end
end Go.Proofs.YtafcjklojnhbnaaGreat.Hp
namespace Go.Proofs.YtafcjklojnhbnaaGreat.Pv
open Go Hp
def savZ (x : Inst) (a b : Int) : Int := arc x (a + 1) 0 + arc x 0 (b + 1) - arc x (a + 1) (b + 1)
theorem wayS_app (x : Inst) : ∀ (l : List Int) (k u v : Int) (m : List Int), wayS x k (l ++ u :: v :: m) = wayS x k (l ++ [u]) + wayS x 0 (v :: m) - savZ x u v
  | [], k, u, v, m => by
    have e : wayS x 0 (v :: m) = arc x 0 (v + 1) + wayS x (v + 1) m := rfl
    rw [e]
    simp only [List.nil_append, wayS, savZ]
    omega
  | y :: l, k, u, v, m => by
    simp only [List.cons_append, wayS]
    rw [wayS_app x l (y + 1) u v m]
    have e : wayS x 0 (v :: m) = arc x 0 (v + 1) + wayS x (v + 1) m := rfl
    omega
theorem wayZ_cut (x : Inst) (all : List Int) (k : Nat) (u v : Int) (hu : all[k]? = some u) (hv : all[k + 1]? = some v) : wayZ x all = wayZ x (all.take (k + 1)) + wayZ x (all.drop (k + 1)) - savZ x u v := by
  have e1 : all.take (k + 1) = all.take k ++ [u] := by
    rw [List.take_add_one, hu]; rfl
  have e2 : all.drop (k + 1) = v :: all.drop (k + 2) := by
    obtain ⟨h, rfl⟩ := List.getElem?_eq_some_iff.1 hv
    exact List.drop_eq_getElem_cons h
  have e3 : all = all.take k ++ u :: v :: all.drop (k + 2) := by
    conv => lhs; rw [← List.take_append_drop (k + 1) all, e1, e2]
    simp
  have hw : ∀ l : List Int, l ≠ [] → wayZ x l = wayS x 0 l := fun l h => by unfold wayZ; rw [if_neg h]
  rw [hw all (by rw [e3]; simp), hw (all.take (k + 1)) (by rw [e1]; simp), hw (all.drop (k + 1)) (by rw [e2]; simp)]
  conv => lhs; rw [e3, wayS_app]
  rw [e1, e2]
structure Pr where
  a : Int
  b : Int
  s : Int
deriving DecidableEq
def plt (p q : Pr) : Bool := if p.s = q.s then (if p.a = q.a then decide (p.b < q.b) else decide (p.a < q.a)) else decide (q.s < p.s)
theorem plt_str : Str plt := by
  refine ⟨fun a => by simp [plt], fun a b c h1 h2 => ?_, fun a b h1 h2 => ?_⟩
  · unfold plt at *
    split at h1 <;> split at h2 <;> split <;> (try split at h1) <;> (try split at h2) <;> (try split) <;> simp only [decide_eq_true_eq] at * <;> omega
  · obtain ⟨a1, a2, a3⟩ := a
    obtain ⟨b1, b2, b3⟩ := b
    unfold plt at *
    simp only at *
    split at h1 <;> split at h2 <;> (try split at h1) <;> (try split at h2) <;> simp only [decide_eq_false_iff_not] at * <;> simp only [Pr.mk.injEq] <;> omega
def prsOf (x : Inst) (c : List Int) (a : Int) : List Pr := (c.filter fun b => decide (b ≠ a)).map fun b => ⟨a, b, savZ x a b⟩
def prsAll (x : Inst) (c : List Int) : List Pr := c.flatMap (prsOf x c)
def pairsP (x : Inst) (c : List Int) : List Pr := (prsAll x c).mergeSort fun p q => !plt q p
theorem prsAll_mem {x : Inst} {c : List Int} {p : Pr} : p ∈ prsAll x c ↔ p.a ∈ c ∧ p.b ∈ c ∧ p.b ≠ p.a ∧ p.s = savZ x p.a p.b := by
  unfold prsAll prsOf
  simp only [List.mem_flatMap, List.mem_map, List.mem_filter, decide_eq_true_eq]
  constructor
  · rintro ⟨a, ha, b, ⟨hb, hne⟩, rfl⟩; exact ⟨ha, hb, hne, rfl⟩
  · rintro ⟨ha, hb, hne, hs⟩; exact ⟨p.a, ha, p.b, ⟨hb, hne⟩, by rw [← hs]⟩
theorem prsAll_nodup {x : Inst} {c : List Int} (h : c.Nodup) : (prsAll x c).Nodup := by
  unfold prsAll
  unfold List.Nodup
  rw [List.pairwise_flatMap]
  refine ⟨fun a ha => ?_, ?_⟩
  · unfold prsOf
    refine List.Pairwise.map _ ?_ (List.Pairwise.filter _ h)
    intro u v huv e
    exact huv (congrArg Pr.b e)
  · refine List.Pairwise.imp ?_ h
    intro a b hab
    intro p hp q hq e
    subst e
    unfold prsOf at hp hq
    obtain ⟨u, _, rfl⟩ := List.mem_map.1 hp
    obtain ⟨v, _, e⟩ := List.mem_map.1 hq
    exact hab (congrArg Pr.a e).symm
theorem pairsP_sd {x : Inst} {c : List Int} (h : c.Nodup) : Sd plt (pairsP x c) := sd_sort plt_str _ (prsAll_nodup h)
theorem pairsP_perm (x : Inst) (c : List Int) : (pairsP x c).Perm (prsAll x c) := List.mergeSort_perm _ _
theorem pairsP_len {x : Inst} {c : List Int} (h : c.Nodup) : (pairsP x c).length = c.length * (c.length - 1) := by
  rw [(pairsP_perm x c).length_eq]
  unfold prsAll
  rw [List.length_flatMap]
  have : c.map (fun a => (prsOf x c a).length) = c.map fun _ => c.length - 1 := by
    refine List.map_congr_left fun a ha => ?_
    unfold prsOf
    rw [List.length_map]
    have := List.Nodup.erase_eq_filter h a
    have h2 := List.length_erase_of_mem ha
    rw [this] at h2
    rw [← h2]
    congr 1
    refine List.filter_congr fun b _ => ?_
    by_cases e : b = a <;> simp [e]
  rw [this, List.map_const', List.sum_replicate_nat]
theorem pairsP_of {x : Inst} {c : List Int} (h : c.Nodup) {l : List Pr} (hp : l.Perm (prsAll x c)) (hs : Sd plt l) : l = pairsP x c :=
  sd_eq plt_str (hp.trans (pairsP_perm x c).symm) hs (pairsP_sd h)
theorem prsAll_perm {x : Inst} {c d : List Int} (hc : c.Nodup) (hd : d.Nodup) (h : c.Perm d) : (prsAll x c).Perm (prsAll x d) := by
  refine (List.perm_ext_iff_of_nodup (prsAll_nodup hc) (prsAll_nodup hd)).2 fun p => ?_
  rw [prsAll_mem, prsAll_mem, h.mem_iff, h.mem_iff]
theorem pairsP_perm_eq {x : Inst} {c d : List Int} (hc : c.Nodup) (hd : d.Nodup) (h : c.Perm d) : pairsP x c = pairsP x d :=
  pairsP_of hd ((pairsP_perm x c).trans (prsAll_perm hc hd h)) (pairsP_sd hc)
open Go Hp
def headsI : Nat → List (List Pr) → Its Int
  | _, [] => []
  | i, [] :: rows => headsI (i + 1) rows
  | i, (p :: _) :: rows => ((i : Int), -p.s) :: headsI (i + 1) rows
theorem headsI_mem : ∀ (rows : List (List Pr)) (i : Nat) (x : Int × Int), x ∈ headsI i rows ↔ ∃ (k : Nat) (p : Pr) (tl : List Pr), rows[k]? = some (p :: tl) ∧ x = (((i + k : Nat) : Int), -p.s)
  | [], i, x => by simp [headsI]
  | [] :: rows, i, x => by
    rw [headsI, headsI_mem rows (i + 1) x]
    constructor
    · rintro ⟨k, p, tl, h, rfl⟩
      exact ⟨k + 1, p, tl, by simpa using h, by rw [show i + 1 + k = i + (k + 1) by omega]⟩
    · rintro ⟨k, p, tl, h, rfl⟩
      match k with
      | 0 => simp at h
      | k + 1 => exact ⟨k, p, tl, by simpa using h, by rw [show i + 1 + k = i + (k + 1) by omega]⟩
  | (q :: ql) :: rows, i, x => by
    rw [headsI, List.mem_cons, headsI_mem rows (i + 1) x]
    constructor
    · rintro (rfl | ⟨k, p, tl, h, rfl⟩)
      · exact ⟨0, q, ql, rfl, rfl⟩
      · exact ⟨k + 1, p, tl, by simpa using h, by rw [show i + 1 + k = i + (k + 1) by omega]⟩
    · rintro ⟨k, p, tl, h, rfl⟩
      match k with
      | 0 => simp at h; obtain ⟨rfl, rfl⟩ := h; exact .inl rfl
      | k + 1 => exact .inr ⟨k, p, tl, by simpa using h, by rw [show i + 1 + k = i + (k + 1) by omega]⟩
theorem headsI_set : ∀ (rows : List (List Pr)) (i k : Nat) (p : Pr) (tl : List Pr), k < rows.length → (headsI i (rows.set k (p :: tl))).Perm ((((i + k : Nat) : Int), -p.s) :: headsI i (rows.set k []))
  | [], _, _, _, _, h => by simp at h
  | r :: rows, i, 0, p, tl, _ => by simp [headsI]
  | [] :: rows, i, k + 1, p, tl, h => by
    have := headsI_set rows (i + 1) k p tl (by simpa using h)
    simp only [List.set_cons_succ, headsI]
    rwa [show i + 1 + k = i + (k + 1) by omega] at this
  | (q :: ql) :: rows, i, k + 1, p, tl, h => by
    have := headsI_set rows (i + 1) k p tl (by simpa using h)
    simp only [List.set_cons_succ, headsI]
    rw [show i + 1 + k = i + (k + 1) by omega] at this
    exact (this.cons _).trans (.swap _ _ _)
theorem headsI_out {rows : List (List Pr)} {k : Nat} {p : Pr} {tl : List Pr} (h : rows[k]? = some (p :: tl)) : (headsI 0 rows).Perm ((((k : Nat) : Int), -p.s) :: headsI 0 (rows.set k [])) := by
  obtain ⟨hk, e⟩ := List.getElem?_eq_some_iff.1 h
  have := headsI_set rows 0 k p tl hk
  rwa [Nat.zero_add, ← e, List.set_getElem_self] at this
theorem headsI_len : ∀ (rows : List (List Pr)) (i : Nat), (headsI i rows).length ≤ rows.length
  | [], _ => by simp [headsI]
  | [] :: rows, i => by have := headsI_len rows (i + 1); simp only [headsI, List.length_cons]; omega
  | (q :: ql) :: rows, i => by have := headsI_len rows (i + 1); simp only [headsI, List.length_cons]; omega
structure Rows' (c : List Int) (rows : List (List Pr)) : Prop where
  len : rows.length = c.length
  a : ∀ (i : Nat) r, rows[i]? = some r → ∀ p ∈ r, c[i]? = some p.a
theorem heads_least {c : List Int} (hc : c.Pairwise (· < ·)) {rows : List (List Pr)} (hr : Rows' c rows) {x : Int × Int} {r : Its Int} (hs : SortedI (x :: r)) (hp : (headsI 0 rows).Perm (x :: r)) :
    ∃ (i : Nat) (y : Pr) (tl : List Pr), x = ((i : Int), -y.s) ∧ rows[i]? = some (y :: tl) ∧ r.Perm (headsI 0 (rows.set i [])) ∧ ∀ (j : Nat) z tz, rows[j]? = some (z :: tz) → j ≠ i → plt y z = true := by
  obtain ⟨i, y, tl, hi, ex⟩ := (headsI_mem rows 0 x).1 (hp.symm.subset List.mem_cons_self)
  rw [Nat.zero_add] at ex
  subst ex
  refine ⟨i, y, tl, rfl, hi, (List.Perm.cons_inv ((headsI_out hi).symm.trans hp)).symm, fun j z tz hj hne => ?_⟩
  have hz : (((j : Nat) : Int), -z.s) ∈ headsI 0 rows := (headsI_mem rows 0 _).2 ⟨j, z, tz, hj, by rw [Nat.zero_add]⟩
  rcases List.mem_cons.1 (hp.subset hz) with e | e
  · have : (j : Int) = i := congrArg Prod.fst e
    exact absurd (by omega) hne
  · have h1 := (List.pairwise_cons.1 hs).1 _ e
    have ay := hr.a i _ hi y (by simp)
    have az := hr.a j _ hj z (by simp)
    unfold ilt il ltI at h1
    simp only at h1
    unfold plt
    by_cases e2 : -y.s = -z.s
    · rw [if_pos e2] at h1
      rw [if_pos (by omega)]
      have hij : i < j := by simp at h1; omega
      obtain ⟨k1, e3⟩ := List.getElem?_eq_some_iff.1 ay
      obtain ⟨k2, e4⟩ := List.getElem?_eq_some_iff.1 az
      have := List.pairwise_iff_getElem.1 hc i j k1 k2 hij
      rw [e3, e4] at this
      rw [if_neg (by omega)]
      simpa using this
    · rw [if_neg e2] at h1
      rw [if_neg (by omega)]
      simp at h1
      simp; omega
open Go Hp
def negS (l : List Pr) : List Int := l.map fun p => -p.s
def getP (l : List Pr) (i : Int) : Pr := l.getD i.toNat ⟨0, 0, 0⟩
def rowP (x : Inst) (c : List Int) (a : Int) : List Pr := (sortI (negS (prsOf x c a))).map (getP (prsOf x c a))
theorem sortI_perm (l : List Int) : (sortI l).Perm ((List.range l.length).map fun i : Nat => (i : Int)) := by
  have h := (sortF_items l).map (·.1)
  rw [List.map_map, List.map_map] at h
  exact h
theorem get_perm (l : List Pr) : ((sortI (negS l)).map (getP l)).Perm l := by
  refine ((sortI_perm _).map _).trans ?_
  have : ((List.range (negS l).length).map fun i : Nat => (i : Int)).map (getP l) = l := by
    rw [List.map_map]
    apply List.ext_getElem
    · simp [negS]
    · intro i h1 h2
      simp [getP, List.getD_eq_getElem?_getD, h2]
  rw [this]
theorem get_sd {l : List Pr} (h : ∀ (i j : Nat) p q, i < j → l[i]? = some p → l[j]? = some q → p.a = q.a ∧ p.b < q.b) : Sd plt ((sortI (negS l)).map (getP l)) := by
  have hs := sortF_sorted (negS l)
  unfold sortI
  rw [List.map_map]
  unfold SortedI at hs
  rw [List.pairwise_map] at hs
  unfold Sd
  rw [List.pairwise_map]
  refine List.Pairwise.imp ?_ hs
  intro i j hij
  have hn : (negS l).length = l.length := by simp [negS]
  have hi : i.val < l.length := by have := i.isLt; omega
  have hj : j.val < l.length := by have := j.isLt; omega
  have gi : l[i.val]? = some l[i.val] := List.getElem?_eq_getElem hi
  have gj : l[j.val]? = some l[j.val] := List.getElem?_eq_getElem hj
  have wi : (negS l).getD i.val 0 = -(l[i.val]).s := by simp [negS, List.getD_eq_getElem?_getD, hi]
  have wj : (negS l).getD j.val 0 = -(l[j.val]).s := by simp [negS, List.getD_eq_getElem?_getD, hj]
  have pi : getP l (i.val : Int) = l[i.val] := by simp [getP, List.getD_eq_getElem?_getD, hi]
  have pj : getP l (j.val : Int) = l[j.val] := by simp [getP, List.getD_eq_getElem?_getD, hj]
  simp only [Function.comp, pi, pj]
  unfold ilt il itW ltI at hij
  rw [wi, wj] at hij
  simp only at hij
  generalize l[i.val] = p at *
  generalize l[j.val] = q at *
  unfold plt
  by_cases e : -p.s = -q.s
  · rw [if_pos e] at hij
    have hlt : i.val < j.val := by simp at hij; omega
    obtain ⟨h1, h2⟩ := h i.val j.val p q hlt gi gj
    rw [if_pos (by omega), if_pos h1]
    simpa using h2
  · rw [if_neg e] at hij
    rw [if_neg (by omega)]
    simp at hij
    simp; omega
theorem prsOf_asc {x : Inst} {c : List Int} (hc : c.Pairwise (· < ·)) (a : Int) : ∀ (i j : Nat) p q, i < j → (prsOf x c a)[i]? = some p → (prsOf x c a)[j]? = some q → p.a = q.a ∧ p.b < q.b := by
  have h : (prsOf x c a).Pairwise fun p q => p.a = q.a ∧ p.b < q.b := by
    unfold prsOf
    rw [List.pairwise_map]
    exact List.Pairwise.imp (fun h => ⟨rfl, h⟩) (List.Pairwise.filter _ hc)
  intro i j p q hij hp hq
  obtain ⟨h1, rfl⟩ := List.getElem?_eq_some_iff.1 hp
  obtain ⟨h2, rfl⟩ := List.getElem?_eq_some_iff.1 hq
  exact List.pairwise_iff_getElem.1 h i j h1 h2 hij
theorem rowP_perm (x : Inst) (c : List Int) (a : Int) : (rowP x c a).Perm (prsOf x c a) := get_perm _
theorem rowP_sd {x : Inst} {c : List Int} (hc : c.Pairwise (· < ·)) (a : Int) : Sd plt (rowP x c a) := get_sd (prsOf_asc hc a)
theorem rows_begin {x : Inst} {c : List Int} (hc : c.Pairwise (· < ·)) : Rows' c (c.map (rowP x c)) ∧ (∀ r ∈ c.map (rowP x c), Sd plt r) ∧ (c.map (rowP x c)).flatten.Perm (pairsP x c) := by
  refine ⟨⟨by simp, fun i r hr p hp => ?_⟩, fun r hr => ?_, ?_⟩
  · rw [List.getElem?_map] at hr
    obtain ⟨a, ha, rfl⟩ := Option.map_eq_some_iff.1 hr
    have := (rowP_perm x c a).subset hp
    unfold prsOf at this
    obtain ⟨b, _, rfl⟩ := List.mem_map.1 this
    exact ha
  · obtain ⟨a, _, rfl⟩ := List.mem_map.1 hr
    exact rowP_sd hc a
  · refine List.Perm.trans ?_ (pairsP_perm x c).symm
    unfold prsAll
    rw [← List.flatMap_def]
    have main : ∀ l : List Int, (l.flatMap (rowP x c)).Perm (l.flatMap (prsOf x c)) := by
      intro l
      induction l with
      | nil => exact .refl _
      | cons a l ih => simp only [List.flatMap_cons]; exact (rowP_perm x c a).append ih
    exact main c
theorem rows_round {x : Inst} {c : List Int} (hc : c.Pairwise (· < ·)) {rows : List (List Pr)} {k : Nat} (h1 : Rows' c rows) (h2 : ∀ r ∈ rows, Sd plt r) (h3 : rows.flatten.Perm ((pairsP x c).drop k)) {it : Int × Int} {r : Its Int} (hs : SortedI (it :: r)) (hp : (headsI 0 rows).Perm (it :: r)) :
    ∃ (i : Nat) (y : Pr) (tl : List Pr), it = ((i : Int), -y.s) ∧ rows[i]? = some (y :: tl) ∧ r.Perm (headsI 0 (rows.set i [])) ∧ (pairsP x c)[k]? = some y ∧ Rows' c (rows.set i tl) ∧ (∀ r ∈ rows.set i tl, Sd plt r) ∧ (rows.set i tl).flatten.Perm ((pairsP x c).drop (k + 1)) := by
  have hn : c.Nodup := List.Pairwise.imp (fun h e => by omega) hc
  obtain ⟨i, y, tl, e1, e2, e3, e4⟩ := heads_least hc h1 hs hp
  obtain ⟨m1, m2, m3⟩ := merge_step plt_str (pairsP_sd hn) h2 h3 e2 e4
  refine ⟨i, y, tl, e1, e2, e3, m1, ⟨by rw [List.length_set]; exact h1.len, fun j r hr p hpr => ?_⟩, m3, m2⟩
  rw [List.getElem?_set] at hr
  split at hr
  · rename_i e
    subst e
    split at hr
    · cases hr
      exact h1.a i _ e2 p (List.mem_cons_of_mem _ hpr)
    · cases hr
  · exact h1.a j r hr p hpr
open Go Hp
instance : Inhabited Pr := ⟨⟨0, 0, 0⟩⟩
instance : Enc Pr := ⟨fun p => [I p.a, I p.b, I p.s], 3, fun _ => rfl, fun _ => rfl⟩
@[simp] theorem enc_pr (p : Pr) : Enc.enc p = [I p.a, I p.b, I p.s] := rfl
@[simp high] theorem flen_pr (l : List Pr) : (l.flatMap Enc.enc).length = l.length * 3 := flat_length l
@[simp high] theorem ftake_pr (l : List Pr) : (l.flatMap Enc.enc).take (l.length * 3) = l.flatMap Enc.enc := flat_take' l
def ArcOk (x : Inst) : Prop := ∀ a b, 0 ≤ arc x a b ∧ arc x a b ≤ 2147483648
theorem savZ_le {x : Inst} (h : ArcOk x) (a b : Int) : -2147483648 ≤ savZ x a b ∧ savZ x a b ≤ 4294967296 := by
  have h1 := h (a + 1) 0
  have h2 := h 0 (b + 1)
  have h3 := h (a + 1) (b + 1)
  unfold savZ
  omega
set_option maxRecDepth 20000 in
theorem savesP_ok (x : Inst) (a b : Int) (hx : ArcOk x) (ha : small a) (hb : small b) : Pure Tryz.prog 143 [.agg (instL x), I a, I b] (I (savZ x a b)) := by
  have w1 := small_wr ha
  have w2 := small_wr hb
  have h1 := hx (a + 1) 0
  have h2 := hx 0 (b + 1)
  have h3 := hx (a + 1) (b + 1)
  have w3 : IntKind.i64.wrap (arc x (a + 1) 0 + arc x 0 (b + 1)) = arc x (a + 1) 0 + arc x 0 (b + 1) := wr _ (by omega) (by omega)
  have w4 : IntKind.i64.wrap (arc x (a + 1) 0 + arc x 0 (b + 1) - arc x (a + 1) (b + 1)) = savZ x a b := wr _ (by omega) (by omega)
  refine pwe Tryz.func143 Tryz.ntmps143 Tryz.results143 fun S nx hd => ?_
  repeat refine pw_seq ?_
  refine pwn ?_
  intro v0
  repeat refine pw_seq ?_
  refine pwY none (Row.pures [0, 1, 2, 3, 4, 5, 6, 7, 8, 9, 10, 11, 12, 13, 14, 15, 16] .done) mixed (jn4 w1 w2 w3 w4) ?_
  refine pwP (arcP_ok _ _ _) (jn4 w1 w2 w3 w4) ?_
  refine pwP (arcP_ok _ _ _) (jn4 w1 w2 w3 w4) ?_
  refine pwP (arcP_ok _ _ _) (jn4 w1 w2 w3 w4) ?_
  intros
  repeat refine pw_seq ?_
  exact pw_ret (ret_pure hd rfl rfl)
set_option maxRecDepth 20000 in
theorem savesR_ok (x : Inst) (a b : Int) (hx : ArcOk x) (ha : small a) (hb : small b) : Pure Tryz.prog 101 [.agg (instL x), I a, I b] (I (savZ x a b)) := by
  have w1 := small_wr ha
  have w2 := small_wr hb
  have h1 := hx (a + 1) 0
  have h2 := hx 0 (b + 1)
  have h3 := hx (a + 1) (b + 1)
  have w3 : IntKind.i64.wrap (arc x (a + 1) 0 + arc x 0 (b + 1)) = arc x (a + 1) 0 + arc x 0 (b + 1) := wr _ (by omega) (by omega)
  have w4 : IntKind.i64.wrap (arc x (a + 1) 0 + arc x 0 (b + 1) - arc x (a + 1) (b + 1)) = savZ x a b := wr _ (by omega) (by omega)
  refine pwe Tryz.func101 Tryz.ntmps101 Tryz.results101 fun S nx hd => ?_
  repeat refine pw_seq ?_
  refine pwn ?_
  intro v0
  repeat refine pw_seq ?_
  refine pwY none (Row.pures [0, 1, 2, 3, 4, 5, 6, 7, 8, 9, 10, 11, 12, 13, 14, 15, 16] .done) mixed (jn4 w1 w2 w3 w4) ?_
  refine pwP (arcR_ok _ _ _) (jn4 w1 w2 w3 w4) ?_
  refine pwP (arcR_ok _ _ _) (jn4 w1 w2 w3 w4) ?_
  refine pwP (arcR_ok _ _ _) (jn4 w1 w2 w3 w4) ?_
  intros
  repeat refine pw_seq ?_
  exact pw_ret (ret_pure hd rfl rfl)
set_option maxRecDepth 20000 in
theorem aheadR_ok (p q : Pr) : Pure Tryz.prog 102 [.agg (Enc.enc p), .agg (Enc.enc q)] (B (plt p q)) := by
  refine pwe Tryz.func102 Tryz.ntmps102 Tryz.results102 fun S nx hd => ?_
  repeat refine pw_seq ?_
  refine pwn ?_
  intro v0 v1
  repeat refine pw_seq ?_
  refine pwn ?_
  intros
  by_cases h1 : p.s = q.s
  · repeat refine pw_seq ?_
    refine pw_cf (by simp [h1]) ?_
    refine pw_skip ?_
    repeat refine pw_seq ?_
    refine pwn ?_
    intros
    by_cases h2 : p.a = q.a
    · repeat refine pw_seq ?_
      refine pw_cf (by simp [h2]) ?_
      refine pw_skip ?_
      repeat refine pw_seq ?_
      refine pwn ?_
      intros
      repeat refine pw_seq ?_
      exact pw_ret (ret_pure hd rfl (by simp [plt, h1, h2]))
    · repeat refine pw_seq ?_
      refine pw_ct (by simp [h2]) ?_
      repeat refine pw_seq ?_
      refine pwn ?_
      intros
      repeat refine pw_seq ?_
      exact pw_ret (ret_pure hd rfl (by simp [plt, h1, h2]))
  · repeat refine pw_seq ?_
    refine pw_ct (by simp [h1]) ?_
    repeat refine pw_seq ?_
    refine pwn ?_
    intros
    repeat refine pw_seq ?_
    exact pw_ret (ret_pure hd rfl (by simp [plt, h1]))
open Go
theorem arr2 {vs : Array Value} (h : 2 = vs.size) : ∃ u v, vs = #[u, v] := by
  match vs, h with
  | ⟨[u, v]⟩, _ => exact ⟨u, v, rfl⟩
theorem rel_nils {C : Ctx} {S : Store} {w : World} {v : Value} (h : Rel C S w (.sc (.slice none 0 0)) v) : v = .slice none 0 0 := by cases h; rfl
theorem growS_ok (n : Nat) (h0 : 0 < n) (hn : n ≤ 1048576) (S : Store) (nx : Nat) (hd : DeadFrom nx S) :
    Spec Tryz.prog 74 [.sc (.slice none 0 0), I n] S (fun p S' => ∃ v, p = .sl nx v 2 0 0 ∧ S' = S.set nx (.cells v 43 [])) := by
  refine ⟨enters_of Tryz.func74 (by rfl) rfl, ?_⟩
  intro C w vs hS hl hr
  obtain ⟨u, v, rfl⟩ := arr2 hl
  obtain rfl := rel_nils (hr 0 _ u rfl rfl)
  obtain rfl := rel_int (hr 1 _ v rfl rfl)
  obtain ⟨i0, hi0⟩ := Option.isSome_iff_exists.1 i43
  have hz := z43
  have hc := c43
  have hb := b43
  simp only [Program.zeroOf, Program.cellsOf, Program.bytesOf', hi0, Option.bind_some, Option.map_some, Option.getD_some, Option.some.injEq] at hz hc hb
  refine (Tryz.slices_Grow_stop i0 _ hi0 hz (by omega) n w h0 (by rw [hb]; omega) (by omega)).mono ?_
  rintro e w' ⟨rfl, rfl⟩
  have hfr : Fresh C S nx C.clock := .clock C (hd nx (Nat.le_refl _))
  obtain ⟨d1, d2⟩ := hS.drew
  obtain ⟨t1, t2⟩ := d1.object' hfr 43 ((#[] : Array Value) ++ Builtin.zeroCells (Value.agg #[.int .i64 0, .int .i64 0]).cells (0 + n - 0) ++ Builtin.zeroCells (Value.agg #[.int .i64 0, .int .i64 0]).cells (grownCap w (0 + n) 0 43 - (0 + n))) [] (by simp) (fun i v hi => by simp at hi) (fun i p v hp => by simp at hp)
  have hge := grownCap_ge w (0 + n) 0 43
  simp only [Nat.zero_add] at hge
  refine ⟨_, _, _, _, rfl, ⟨C.clock, rfl, rfl⟩, rel_newsl C S w _ _ _ _ _ _ _ _ rfl (Nat.zero_le _) (Nat.zero_le _) (grownCap_le_maxLen w _ _ _ (by unfold maxLen; omega)) ?_, t1, d2.trans t2⟩
  simp only [Array.size_append, size_zeroCells]
  simp [Value.cells]
  omega
set_option maxRecDepth 20000 in
theorem concat_ok (ls : List (List Stop)) (hls : ls.length ≤ 1048576) (h0 : 0 < ls.flatten.length) (hn : ls.flatten.length ≤ 1048576) : Pure Tryz.prog 45 [L ls] (L ls.flatten) := by
  refine pwe Tryz.func45 Tryz.ntmps45 Tryz.results45 fun S nx hd => ?_
  repeat refine pw_seq ?_
  refine pwn ?_
  intros
  repeat refine pw_seq ?_
  refine pwn ?_
  intros
  repeat refine pw_seq ?_
  refine pwn ?_
  intros
  repeat refine pw_seq ?_
  refine pw_block (pw_loopL (fun s : Nat × Nat => s.1 ≤ ls.length ∧ s.2 = (ls.take s.1).flatten.length) (fun (k, n) => [(0, L ls), (3, I (n : Int)), (9, L ls), (10, I ls.length), (11, I k)]) (fun _ => []) (fun s => ls.length - s.1) (0, 0) [] ⟨by simp, by simp⟩ (by simp) (by simp) ?_)
  rintro ⟨k, n⟩ ⟨hk, ho⟩
  simp only at hk ho ⊢
  repeat refine pw_seq ?_
  refine pwn ?_
  intros
  repeat refine pw_seq ?_
  refine pw_cond rfl (fun hc => ?_) (fun hc => ?_)
  · simp at hc
    obtain ⟨t, tl, a1, a2, a3, e0⟩ := el1 rfl ls k hc
    have hs1 : (ls.take (k + 1)).flatten.length = n + t.length := by rw [a3, ho]; simp
    have hs2 : (ls.take (k + 1)).flatten.length ≤ ls.flatten.length := by
      conv => rhs; rw [← List.take_append_drop (k + 1) ls, List.flatten_append, List.length_append]
      omega
    have w1 : IntKind.i64.wrap ((n : Int) + (t.length : Nat)) = (n : Int) + (t.length : Nat) := wr _ (by omega) (by omega)
    have w2 : ¬ ((n : Int) + (t.length : Nat) < 0) := by omega
    refine pw_skip (pw_seq (pw_block ?_))
    repeat refine pw_seq ?_
    refine pwN [] (jn2 e0 hc) ?_
    intros
    repeat refine pw_seq ?_
    refine pwN [] w1 ?_
    intros
    repeat refine pw_seq ?_
    refine pwN [] w2 ?_
    intros
    repeat refine pw_seq ?_
    refine pw_cf rfl ?_
    refine pw_skip ?_
    repeat refine pw_seq ?_
    refine pwn ?_
    intros
    exact again_mk (k + 1, n + t.length) [] ⟨hc, hs1.symm⟩ (by simp; omega) (by simp [wrN k (by omega)]) rfl (by simp)
  · simp at hc
    obtain rfl : k = ls.length := by omega
    rw [List.take_length] at ho
    rw [← ho] at h0
    have hn' : n ≤ 1048576 := by omega
    clear ho
    refine pw_exit ?_
    repeat refine pw_seq ?_
    refine pw_N [] (by rfl) (by rfl) fun K Gc Gh hK hGc hGh X hX0 hX => ?_
    simp -implicitDefEqProofs [hX0, hX]
    try clear hX0 hX X
    refine hGc _ _ _ _ _ _ _ fun hsuf => ((growS_ok n h0 hn' _ _ ext_dead).mono ?_).v
    rintro _ _ ⟨v1, rfl, rfl⟩
    refine ⟨_, _, ext_push _, ?_⟩
    clear hGc hGh
    clear Gc Gh
    refine xs_go hsuf (D := []) (by rfl) fun Gc Gh hGc hGh X hX0 hX => ?_
    simp -implicitDefEqProofs [hX0, hX]
    clear hX0 hX X
    intros
    refine hK _ _ _ ?_
    clear hK hGc hGh
    clear K Gc Gh
    repeat refine pw_seq ?_
    refine pwn ?_
    intros
    repeat refine pw_seq ?_
    refine pw_block (pw_loopL (fun s : Nat × List Stop × Nat => s.1 ≤ ls.length ∧ s.2.1 = (ls.take s.1).flatten) (fun (k, out, v) => [(6, .sl nx v 2 0 out.length), (25, L ls), (26, I ls.length), (27, I k)]) (fun (k, out, v) => [.cells v 43 (out.flatMap Enc.enc)]) (fun s => ls.length - s.1) (0, [], v1) [] ⟨by simp, by simp⟩ (by simp) (by simp) ?_)
    rintro ⟨k, out, v⟩ ⟨hk, ho⟩
    simp only at hk ho ⊢
    repeat refine pw_seq ?_
    refine pwn ?_
    intros
    repeat refine pw_seq ?_
    refine pw_cond rfl (fun hc => ?_) (fun hc => ?_)
    · simp at hc
      obtain ⟨t, tl, a1, a2, a3, e0⟩ := el1 rfl ls k hc
      have hs1 : (ls.take (k + 1)).flatten = out ++ t := by rw [a3, ho]; simp
      have hs2 : (ls.take (k + 1)).flatten.length ≤ ls.flatten.length := by
        conv => rhs; rw [← List.take_append_drop (k + 1) ls, List.flatten_append, List.length_append]
        omega
      rw [hs1] at hs2
      simp only [List.length_append] at hs2
      refine pw_skip (pw_seq (pw_block ?_))
      repeat refine pw_seq ?_
      refine pwN [] (jn2 e0 hc) ?_
      intros
      repeat refine pw_seq ?_
      refine pwn ?_
      refine ⟨by omega, ?_⟩
      intros
      repeat refine pw_seq ?_
      refine pwn ?_
      intros
      exact again_mk (k + 1, out ++ t, v + 1) [] ⟨hc, hs1.symm⟩ (by simp; omega) (by simp [wrN k (by omega)]) rfl (by simp)
    · simp at hc
      obtain rfl : k = ls.length := by omega
      rw [List.take_length] at ho
      refine pw_exit ?_
      refine pw_frz 0 rfl ?_
      repeat refine pw_seq ?_
      refine pwn ?_
      intros
      repeat refine pw_seq ?_
      exact pw_ret (ret_pure hd (by simp; rfl) (by simp [oneOf, ho]))
open Go Hp
def placeT (T : Day) (c : Int) : Nat := T.findIdx fun t => t.any fun s => decide (s.c = c)
def endC (a : Tour) : Option Int := a[a.length - 1]?.map (·.c)
def headC (b : Tour) : Option Int := b[0]?.map (·.c)
def joinC (x : Inst) (num : Int) (p : Pr) (i k : Nat) (a b : Tour) : Bool :=
  decide (i ≠ k) && decide (endC a = some p.a) && decide (headC b = some p.b) && !(decide (p.s ≤ 0) && decide (num ≤ x.veh)) && decide (mayT x (a ++ b) = 0)
def joinAt (x : Inst) (st : Day × Int) (p : Pr) (i k : Nat) : Day × Int :=
  bif joinC x st.2 p i k (st.1.getD i []) (st.1.getD k []) then ((st.1.set i (st.1.getD i [] ++ st.1.getD k [])).set k [], st.2 - 1) else st
def joinS (x : Inst) (st : Day × Int) (p : Pr) : Day × Int := joinAt x st p (placeT st.1 p.a) (placeT st.1 p.b)
def joinAll (x : Inst) (ss : List Stop) : Day × Int := (pairsP x (ss.map (·.c))).foldl (joinS x) (ss.map fun s => [s], (ss.length : Int))
def joinP (x : Inst) (ss : List Stop) : Day := (joinAll x ss).1.filter fun t => !t.isEmpty
structure JI (ss : List Stop) (T : Day) (g : Int → Option Int) : Prop where
  len : T.length = ss.length
  perm : T.flatten.Perm ss
  g : ∀ (i : Nat) t s, T[i]? = some t → s ∈ t → g s.c = some (i : Int)
theorem JI.place {ss : List Stop} {T : Day} {g : Int → Option Int} (h : JI ss T g) {i : Nat} {t : Tour} {s : Stop} (hi : T[i]? = some t) (hs : s ∈ t) : placeT T s.c = i := by
  have hex : ∃ t ∈ T, (t.any fun s' => decide (s'.c = s.c)) = true := ⟨t, List.mem_of_getElem? hi, List.any_eq_true.2 ⟨s, hs, by simp⟩⟩
  have hlt : placeT T s.c < T.length := List.findIdx_lt_length_of_exists hex
  have hq := List.findIdx_getElem (w := hlt)
  obtain ⟨s', h1, h2⟩ := List.any_eq_true.1 hq
  have h2' : s'.c = s.c := by simpa using h2
  have e1 := h.g (placeT T s.c) _ s' (List.getElem?_eq_getElem hlt) h1
  have e2 := h.g i t s hi hs
  rw [h2', e2] at e1
  have := Option.some.inj e1
  omega
theorem JI.there {ss : List Stop} {T : Day} {g : Int → Option Int} (h : JI ss T g) {c : Int} (hc : c ∈ ss.map (·.c)) : ∃ (i : Nat) (t : Tour) (s : Stop), T[i]? = some t ∧ s ∈ t ∧ s.c = c ∧ g c = some (i : Int) ∧ placeT T c = i := by
  obtain ⟨s, hs, rfl⟩ := List.mem_map.1 hc
  obtain ⟨t, ht, hst⟩ := List.mem_flatten.1 (h.perm.symm.subset hs)
  obtain ⟨i, hi⟩ := List.mem_iff_getElem?.1 ht
  exact ⟨i, t, s, hi, hst, rfl, h.g i t s hi hst, h.place hi hst⟩
theorem flat_out {T : Day} : ∀ {i : Nat} {a : Tour}, T[i]? = some a → T.flatten.Perm (a ++ (T.set i []).flatten) := by
  induction T with
  | nil => intro i a h; simp at h
  | cons t T ih =>
    intro i a h
    cases i with
    | zero => simp at h; subst h; simp
    | succ i =>
      simp only [List.getElem?_cons_succ] at h
      simp only [List.flatten_cons, List.set_cons_succ]
      refine ((ih h).append_left t).trans ?_
      rw [← List.append_assoc, ← List.append_assoc]
      exact List.perm_append_comm.append_right _
theorem flat_in {T : Day} {i : Nat} (b : Tour) (h : i < T.length) : (T.set i b).flatten.Perm (b ++ (T.set i []).flatten) := by
  have := flat_out (T := T.set i b) (i := i) (a := b) (by simp [h])
  rwa [List.set_set] at this
theorem flat_join {T : Day} {i k : Nat} {a b : Tour} (hi : T[i]? = some a) (hk : T[k]? = some b) (hne : i ≠ k) : ((T.set i (a ++ b)).set k []).flatten.Perm T.flatten := by
  have hil := (List.getElem?_eq_some_iff.1 hi).1
  rw [List.set_comm _ _ hne]
  have h1 := flat_in (T := T.set k []) (i := i) (a ++ b) (by simpa using hil)
  have h2 := flat_out hk
  have h3 := flat_out (T := T.set k []) (i := i) (a := a) (by rw [List.getElem?_set_ne (fun e => hne e.symm)]; exact hi)
  refine h1.trans (List.Perm.symm ?_)
  refine h2.trans ((h3.append_left b).trans ?_)
  rw [← List.append_assoc]
  exact List.perm_append_comm.append_right _
def gTo (g : Int → Option Int) (b : Tour) (i : Nat) (j : Nat) : Int → Option Int := fun c => if c ∈ (b.take j).map (·.c) then some (i : Int) else g c
theorem gTo_zero (g : Int → Option Int) (b : Tour) (i : Nat) : gTo g b i 0 = g := by funext c; simp [gTo]
theorem gTo_succ {g : Int → Option Int} {b : Tour} {i j : Nat} {s : Stop} (h : b.take (j + 1) = b.take j ++ [s]) : updM (gTo g b i j) s.c (some (i : Int)) = gTo g b i (j + 1) := by
  funext c
  simp only [updM, gTo, h, List.map_append, List.mem_append, List.map_cons, List.map_nil, List.mem_singleton]
  by_cases e : c = s.c
  · simp [e]
  · simp [e]
theorem JI.join {ss : List Stop} {T : Day} {g : Int → Option Int} (h : JI ss T g) {i k : Nat} {a b : Tour} (hi : T[i]? = some a) (hk : T[k]? = some b) (hne : i ≠ k) : JI ss ((T.set i (a ++ b)).set k []) (gTo g b i b.length) := by
  have hil := (List.getElem?_eq_some_iff.1 hi).1
  have hkl := (List.getElem?_eq_some_iff.1 hk).1
  refine ⟨by simp [h.len], (flat_join hi hk hne).trans h.perm, fun i' t s ht hs => ?_⟩
  unfold gTo
  rw [List.take_length]
  by_cases e1 : k = i'
  · subst e1
    rw [List.getElem?_set_self (by simpa using hkl)] at ht
    cases ht; cases hs
  · rw [List.getElem?_set_ne e1] at ht
    by_cases e2 : i = i'
    · subst e2
      rw [List.getElem?_set_self hil] at ht
      cases ht
      by_cases e3 : s.c ∈ b.map (·.c)
      · rw [if_pos e3]
      · rw [if_neg e3]
        rcases List.mem_append.1 hs with hs | hs
        · exact h.g i a s hi hs
        · exact absurd (List.mem_map.2 ⟨s, hs, rfl⟩) e3
    · rw [List.getElem?_set_ne e2] at ht
      have h1 := h.g i' t s ht hs
      rw [if_neg]
      · exact h1
      · intro e3
        obtain ⟨s', hs', e4⟩ := List.mem_map.1 e3
        have h2 := h.g k b s' hk hs'
        rw [e4, h1] at h2
        have := Option.some.inj h2
        exact e1 (by omega)
theorem JI.nil : JI [] [] (fun _ => none) := ⟨rfl, .refl _, fun i t s h => by simp at h⟩
theorem JI.snoc {ss : List Stop} {T : Day} {g : Int → Option Int} (h : JI ss T g) (s : Stop) (hs : s.c ∉ ss.map (·.c)) : JI (ss ++ [s]) (T ++ [[s]]) (updM g s.c (some (ss.length : Int))) := by
  refine ⟨by simp [h.len], by simpa using h.perm.append_right [s], fun i t s' ht hst => ?_⟩
  unfold updM
  rcases Nat.lt_or_ge i T.length with hl | hl
  · rw [List.getElem?_append_left hl] at ht
    have h1 : s' ∈ ss := h.perm.subset (List.mem_flatten.2 ⟨t, List.mem_of_getElem? ht, hst⟩)
    rw [if_neg]
    · exact h.g i t s' ht hst
    · intro e; exact hs (e ▸ List.mem_map.2 ⟨s', h1, rfl⟩)
  · rw [List.getElem?_append_right hl] at ht
    have hi : i - T.length = 0 := by
      have := (List.getElem?_eq_some_iff.1 ht).1
      simp at this; omega
    rw [hi] at ht
    simp at ht
    subst ht
    simp at hst
    subst hst
    rw [if_pos rfl, ← h.len]
    congr 1
    have : i = T.length := by omega
    rw [this]
open Go Hp
theorem pw_nilO {P : Program} {r : Rd} {n N : Nat} {Q : Exit → (Nat → PV) → Store → Prop} {F : Nat → PV} {c : Code} {T : Store} {o ver e0 : Nat} {cs : List PV} (i : Nat) (hs : T o = .cells ver e0 cs) (hi : cs[i]? = some (.sc (.slice none 0 0)))
    (h : PW P r n N c Q F (T.set o (.cells ver e0 (cs.set i (.lst 0 []))))) : PW P r n N c Q F T := by
  refine pw_ghost (F' := F) (S' := T.set o (.cells ver e0 (cs.set i (.lst 0 [])))) (fun C w a st => ?_) h
  have := st.sim.relabel (cs' := cs.set i (.lst 0 [])) hs (by simp) (by
    intro k p' hp'
    rw [List.getElem?_set] at hp'
    split at hp'
    · rename_i hij
      subst hij
      split at hp'
      · cases hp'
        refine .inr ⟨_, hi, fun v hv => ?_⟩
        cases hv
        exact .lst0
      · cases hp'
    · exact .inl hp')
  exact ⟨C, ⟨this.1, st.size, fun k => (st.fr k).mono this.2, r.keep this.2 st.v⟩, this.2⟩
abbrev jcells (x : Inst) (tid tv n : Nat) (num : Int) (mid mv : Nat) : List PV := [I x.days, I x.veh, I x.cap, I x.len, L x.cust, L x.dist, .sl tid tv 1 0 n, I num, .mp mid mv]
theorem splice_set (cs : List PV) (k : Nat) (x : PV) (h : k < cs.length) : splice cs k [x] = cs.set k x := by
  rw [splice, List.set_eq_take_append_cons_drop, if_pos h]; simp
theorem flat_day (T : Day) : T.flatMap Enc.enc = T.map fun t => L t := by induction T <;> simp_all
theorem lt_of_live {S : Store} {nx id : Nat} {o : Ob} (hd : DeadFrom nx S) (h : S id = o) (hne : o ≠ .dead) : id < nx := by
  rcases Nat.lt_or_ge id nx with q | q
  · exact q
  · rw [hd id q] at h; exact absurd h.symm hne
set_option maxRecDepth 20000 in
set_option maxHeartbeats 1600000 in
theorem join_ok (x : Inst) (ss : List Stop) (T : Day) (g : Int → Option Int) (num : Int) (es : List (Value × PV)) {S : Store} {jid jv tid tv mid mv : Nat} (hx : x.cust.length ≤ 1048576) (hss : ss.length ≤ 1000) (hnum : -1048576 ≤ num ∧ num ≤ 1048576) (hI : JI ss T g) (hm : MapIs keyI I es g)
    (hj : S jid = .cells jv 136 (jcells x tid tv ss.length num mid mv)) (ht : S tid = .cells tv 26 (T.flatMap Enc.enc)) (hmid : S mid = .map mv es) (d1 : jid ≠ tid) (d2 : jid ≠ mid) (d3 : tid ≠ mid)
    (p : Pr) (hpa : p.a ∈ ss.map (·.c)) (hpb : p.b ∈ ss.map (·.c)) :
    Spec Tryz.prog 93 [.ptr jid jv 0, .agg [I p.a, I p.b, I p.s]] S (fun _ S' => ∃ es' g', MapIs keyI I es' g' ∧ JI ss (joinS x (T, num) p).1 g' ∧
      S' = ((S.set jid (.cells jv 136 (jcells x tid tv ss.length (joinS x (T, num) p).2 mid mv))).set tid (.cells tv 26 ((joinS x (T, num) p).1.flatMap Enc.enc))).set mid (.map mv es')) := by
  obtain ⟨i, a, sa, hia, hsa, hsac, hga, hpi⟩ := hI.there hpa
  obtain ⟨k, b, sb, hkb, hsb, hsbc, hgb, hpk⟩ := hI.there hpb
  have hkey : KeyOk (.int .i64) keyI := keyOk_int .i64
  obtain ⟨ra, fa1, fa2, fa3, fa4, fa5⟩ := hm.find hkey p.a
  obtain ⟨rb, fb1, fb2, fb3, fb4, fb5⟩ := hm.find hkey p.b
  obtain ⟨ja, rfl⟩ := fa3 _ hga
  obtain ⟨jb, rfl⟩ := fb3 _ hgb
  refine pwes Tryz.func93 Tryz.ntmps93 Tryz.results93 fun nx hd => ?_
  have hlj : jid < nx := lt_of_live hd hj (by simp)
  have hlt : tid < nx := lt_of_live hd ht (by simp)
  have hlm : mid < nx := lt_of_live hd hmid (by simp)
  have xj := fun obs => ext_old (S := S) (obs := obs) hlj
  have xt := fun obs => ext_old (S := S) (obs := obs) hlt
  have xm := fun obs => ext_old (S := S) (obs := obs) hlm
  repeat refine pw_seq ?_
  refine pwn ?_
  intro v0
  have hil := (List.getElem?_eq_some_iff.1 hia).1
  have hkl := (List.getElem?_eq_some_iff.1 hkb).1
  have hgi : T.getD i [] = a := by rw [List.getD_eq_getElem?_getD, hia]; rfl
  have hgk : T.getD k [] = b := by rw [List.getD_eq_getElem?_getD, hkb]; rfl
  have hdef : joinS x (T, num) p = bif joinC x num p i k a b then ((T.set i (a ++ b)).set k [], num - 1) else (T, num) := by
    unfold joinS joinAt
    simp only [hpi, hpk, hgi, hgk]
  have hstay : joinC x num p i k a b = false → ∃ es' g', MapIs keyI I es' g' ∧ JI ss (joinS x (T, num) p).1 g' ∧
      S = ((S.set jid (.cells jv 136 (jcells x tid tv ss.length (joinS x (T, num) p).2 mid mv))).set tid (.cells tv 26 ((joinS x (T, num) p).1.flatMap Enc.enc))).set mid (.map mv es') := by
    intro hc
    rw [hdef, hc]
    refine ⟨es, g, hm, hI, ?_⟩
    simp only [cond_false]
    rw [set_self S jid _ hj, set_self S tid _ ht, set_self S mid _ hmid]
  have hal2 : a.length ≤ 1000 := by
    have h1 := (flat_out hia).length_eq
    have h2 := hI.perm.length_eq
    rw [List.length_append] at h1
    omega
  have hbl2 : b.length ≤ 1000 := by
    have h1 := (flat_out hkb).length_eq
    have h2 := hI.perm.length_eq
    rw [List.length_append] at h1
    omega
  obtain ⟨m, hal⟩ : ∃ m, a.length = m + 1 := ⟨a.length - 1, by cases a with | nil => cases hsa | cons _ _ => simp⟩
  have hb0 : 0 < b.length := by cases b with | nil => cases hsb | cons _ _ => simp
  obtain ⟨la, tla, la1, la2, la3, la4, la5⟩ := el 2 rfl a m (by omega)
  obtain ⟨fb, b', hbc⟩ : ∃ fb b', b = fb :: b' := by cases b with | nil => cases hsb | cons x y => exact ⟨x, y, rfl⟩
  have hend : endC a = some la.c := by unfold endC; rw [hal, Nat.add_sub_cancel, la1]; rfl
  have hhead : headC b = some fb.c := by rw [hbc]; rfl
  obtain ⟨ai, tai, i1, i2, i3, i0⟩ := el1 rfl T i hil
  rw [hia] at i1; cases i1
  obtain ⟨bk, tbk, k1, k2, k3, k0⟩ := el1 rfl T k hkl
  rw [hkb] at k1; cases k1
  have hTl := hI.len
  have hil2 : i < ss.length := by omega
  have hkl2 : k < ss.length := by omega
  repeat refine pw_seq ?_
  refine pw_joinK (nx := nx) (σ := Unit) (fun _ => True) (fun _ => [(0, .ptr jid jv 0), (3, .ptr nx v0 0), (4, I i), (5, I k)]) (fun _ => S) (fun _ => [.cells v0 117 [I p.a, I p.b, I p.s]]) ?_ ?_
  · repeat refine pw_seq ?_
    refine pw_Y none (Row.pures [0, 1, 2, 3, 4, 5, 7, 8, 9, 10, 11, 12] (.alt 6 (Row.pures [14] (.alt 13 (Row.pures [15] .done) .stop)) (.alt 13 (.alt 6 (Row.pures [14, 15] .done) .stop) .stop))) mixed (by rfl) (by rfl) (by rfl) fun K Gp Gc Gh hK hGp hGc hGh X hX0 hX1 hX2 hX => ?_
    simp -implicitDefEqProofs [hX0, hX1, hX2, hX, xj, xt, xm, hj, ht, hmid]
    try clear hX0 hX1 hX2 hX X
    refine ⟨?_, ?_⟩
    · refine hGh _ _ _ _ _ (by rfl) (po_lookup rfl Tryz.underlying134 Tryz.underlying3 rfl rfl rfl ((xm _).trans hmid) fa1 z3 ?_)
      refine ⟨by simp [Agree], ?_⟩
      clear hGp hGc hGh
      clear Gp Gc Gh
      refine px_go fun Gp Gc Gh hGp hGc hGh X hX0 hX1 hX2 hX => ?_
      simp -implicitDefEqProofs [hX0, hX1, hX2, hX]
      try clear hX0 hX1 hX2 hX X
      refine hGh _ _ _ _ _ (by rfl) (po_lookup rfl Tryz.underlying134 Tryz.underlying3 rfl rfl rfl ((xm _).trans hmid) fb1 z3 ?_)
      refine ⟨by simp [Agree], ?_⟩
      clear hGp hGc hGh
      clear Gp Gc Gh
      refine px_go fun Gp Gc Gh hGp hGc hGh X hX0 hX1 hX2 hX => ?_
      simp -implicitDefEqProofs [hX0, hX1, hX2, hX]
      try clear hX0 hX1 hX2 hX X
      refine hK _ _ _ ?_
      clear hK hGp hGc hGh
      clear K Gp Gc Gh
      exact at_mk () [] trivial (by simp [lookP]) rfl (by simp)
    · refine hGh _ _ _ _ _ (by rfl) (po_lookup rfl Tryz.underlying134 Tryz.underlying3 rfl rfl rfl ((xm _).trans hmid) fb1 z3 ?_)
      refine ⟨by simp [Agree], ?_⟩
      clear hGp hGc hGh
      clear Gp Gc Gh
      refine px_go fun Gp Gc Gh hGp hGc hGh X hX0 hX1 hX2 hX => ?_
      simp -implicitDefEqProofs [hX0, hX1, hX2, hX]
      try clear hX0 hX1 hX2 hX X
      refine hGh _ _ _ _ _ (by rfl) (po_lookup rfl Tryz.underlying134 Tryz.underlying3 rfl rfl rfl ((xm _).trans hmid) fa1 z3 ?_)
      refine ⟨by simp [Agree], ?_⟩
      clear hGp hGc hGh
      clear Gp Gc Gh
      refine px_go fun Gp Gc Gh hGp hGc hGh X hX0 hX1 hX2 hX => ?_
      simp -implicitDefEqProofs [hX0, hX1, hX2, hX]
      try clear hX0 hX1 hX2 hX X
      refine hK _ _ _ ?_
      clear hK hGp hGc hGh
      clear K Gp Gc Gh
      exact at_mk () [] trivial (by simp [lookP]) rfl (by simp)
  intro _ _
  repeat refine pw_seq ?_
  refine pwY none (Row.pures [0, 1, 2, 3, 4, 5, 6, 7, 8, 9, 10, 11, 12, 13, 14, 15] .done) mixed (jn6 xj xt hj ht i0 (jn4 k0 hil2 hkl2 hTl)) ?_
  intros
  have wm : IntKind.i64.wrap (m : Int) = m := wr _ (by omega) (by omega)
  have hm1 : m < a.length := by omega
  refine pw_seq ?_
  refine pw_joinK (nx := nx) (σ := Unit) (fun _ => ¬ i = k ∧ la.c = p.a ∧ fb.c = p.b) (fun _ => [(0, .ptr jid jv 0), (3, .ptr nx v0 0), (4, I i), (5, I k), (6, L a), (7, L b)]) (fun _ => S) (fun _ => [.cells v0 117 [I p.a, I p.b, I p.s]]) ?_ ?_
  · by_cases h1 : i = k
    · have hc : joinC x num p i k a b = false := by simp [joinC, h1]
      repeat refine pw_seq ?_
      refine pwY none (Row.pures [0, 1, 2, 3, 4, 5, 6, 7, 8, 9, 10, 11, 12, 13, 14, 15, 16, 17, 18, 19, 20, 21, 22, 23] .done) mixed (jn2 h1 undef_eq) ?_
      intros
      repeat refine pw_seq ?_
      refine pw_ct rfl ?_
      repeat refine pw_seq ?_
      exact pw_ret ⟨_, S, rfl, hstay hc, ext_kill0 hd⟩
    have h1' : ¬ (i : Int) = (k : Int) := by omega
    have hm2 : (m : Int) < (m : Int) + 1 := by omega
    by_cases h2 : la.c = p.a
    case neg =>
      have hc : joinC x num p i k a b = false := by simp [joinC, hend, h2]
      repeat refine pw_seq ?_
      refine pwY none (Row.pures [0, 1, 2, 3, 4, 5, 6, 7, 8, 9, 10, 11, 12, 13, 14, 15, 16, 17, 18, 19, 20, 21, 22, 23] .done) mixed (jn6 h1' h2 hal wm hm2 (jn3 la4 la5 undef_eq)) ?_
      intros
      repeat refine pw_seq ?_
      refine pw_ct rfl ?_
      repeat refine pw_seq ?_
      exact pw_ret ⟨_, S, rfl, hstay hc, ext_kill0 hd⟩
    by_cases h3 : fb.c = p.b
    case neg =>
      have hc : joinC x num p i k a b = false := by simp [joinC, hhead, h3]
      repeat refine pw_seq ?_
      refine pwY none (Row.pures [0, 1, 2, 3, 4, 5, 6, 7, 8, 9, 10, 11, 12, 13, 14, 15, 16, 17, 18, 19, 20, 21, 22, 23] .done) mixed (jn6 h1' h2 h3 hal wm (jn5 hm2 la4 la5 hbc undef_eq)) ?_
      intros
      repeat refine pw_seq ?_
      refine pw_ct rfl ?_
      repeat refine pw_seq ?_
      exact pw_ret ⟨_, S, rfl, hstay hc, ext_kill0 hd⟩
    repeat refine pw_seq ?_
    refine pwY none (Row.pures [0, 1, 2, 3, 4, 5, 6, 7, 8, 9, 10, 11, 12, 13, 14, 15, 16, 17, 18, 19, 20, 21, 22, 23] .done) mixed (jn6 h1' h2 h3 hal wm (jn5 hm2 la4 la5 hbc undef_eq)) ?_
    intros
    repeat refine pw_seq ?_
    refine pw_cf rfl ?_
    refine pw_skip ?_
    exact at_mk () [] ⟨h1, h2, h3⟩ (by simp [hal, hbc]) rfl (by simp)
  rintro _ ⟨h1, h2, h3⟩
  have hN0 : -9223372036854775808 ≤ num := by omega
  refine pw_seq ?_
  refine pw_joinK (nx := nx) (σ := Unit) (fun _ => ¬ (p.s ≤ 0 ∧ num ≤ x.veh)) (fun _ => [(0, .ptr jid jv 0), (3, .ptr nx v0 0), (4, I i), (5, I k), (6, L a), (7, L b)]) (fun _ => S) (fun _ => [.cells v0 117 [I p.a, I p.b, I p.s]]) ?_ ?_
  · by_cases h4 : p.s ≤ 0
    · by_cases h5 : num ≤ x.veh
      · have hc : joinC x num p i k a b = false := by simp [joinC, h4, h5]
        repeat refine pw_seq ?_
        refine pwY none (Row.pures [0, 1, 2, 3, 4, 5, 6, 7, 8, 9, 10, 11, 12, 13, 14] .done) mixed (jn5 xj hj h4 h5 undef_eq) ?_
        intros
        repeat refine pw_seq ?_
        refine pw_ct rfl ?_
        repeat refine pw_seq ?_
        exact pw_ret ⟨_, S, rfl, hstay hc, ext_kill0 hd⟩
      · repeat refine pw_seq ?_
        refine pwY none (Row.pures [0, 1, 2, 3, 4, 5, 6, 7, 8, 9, 10, 11, 12, 13, 14] .done) mixed (jn5 xj hj h4 h5 undef_eq) ?_
        intros
        repeat refine pw_seq ?_
        refine pw_cf rfl ?_
        refine pw_skip ?_
        exact at_mk () [] (by simp [h5]) (by simp) rfl (by simp)
    · repeat refine pw_seq ?_
      refine pwY none (Row.pures [0, 1, 2, 3, 4, 5, 6, 7, 8, 9, 10, 11, 12, 13, 14] .done) mixed (jn2 h4 undef_eq) ?_
      intros
      repeat refine pw_seq ?_
      refine pw_cf rfl ?_
      refine pw_skip ?_
      exact at_mk () [] (by simp [h4]) (by simp) rfl (by simp)
  intro _ h4
  have hcon := concat_ok [a, b] (by simp) (by simp; omega) (by simp; omega)
  rw [show [a, b].flatten = a ++ b from by simp] at hcon
  repeat refine pw_seq ?_
  refine pwn ?_
  refine pwc hcon ?_
  intros
  refine pw_seq ?_
  refine pw_joinK (nx := nx) (σ := Unit) (fun _ => mayT x (a ++ b) = 0) (fun _ => [(0, .ptr jid jv 0), (3, .ptr nx v0 0), (4, I i), (5, I k), (6, L a), (7, L b), (8, L (a ++ b))]) (fun _ => S) (fun _ => [.cells v0 117 [I p.a, I p.b, I p.s]]) ?_ ?_
  · repeat refine pw_seq ?_
    refine pwN [] (jn2 xj hj) ?_
    refine pwc (mayP_ok x (a ++ b) hx (by simp; omega)) ?_
    intros
    by_cases h5 : mayT x (a ++ b) = 0
    · repeat refine pw_seq ?_
      refine pw_cf (by simp [h5]) ?_
      refine pw_skip ?_
      exact at_mk () [] h5 (by simp) rfl (by simp)
    · have hc : joinC x num p i k a b = false := by simp [joinC, h5]
      repeat refine pw_seq ?_
      refine pw_ct (by simp [h5]) ?_
      repeat refine pw_seq ?_
      exact pw_ret ⟨_, S, rfl, hstay hc, ext_kill0 hd⟩
  intro _ h5
  have h4' : (decide (p.s ≤ 0) && decide (num ≤ x.veh)) = false := Bool.eq_false_iff.2 fun q => h4 (by simpa using q)
  have hjoin : joinC x num p i k a b = true := by unfold joinC; rw [h4', hend, hhead, h2, h3, h5]; simp [h1]
  rw [hdef, hjoin]
  simp only [cond_true]
  have yj := fun (o : Ob) obs => (ext_old (S := S.set mid o) (obs := obs) hlj).trans ((Store.set_other _ _ _ _ d2).trans hj)
  have ym := fun (o : Ob) obs => (ext_old (S := S.set mid o) (obs := obs) hlm).trans (Store.set_same _ _ _)
  repeat refine pw_seq ?_
  refine pwn ?_
  intros
  repeat refine pw_seq ?_
  refine pw_block (pw_loopB (σ := Nat × List (Value × PV)) (fun s => s.1 ≤ b.length ∧ MapIs keyI I s.2 (gTo g b i s.1)) (fun s => [(0, .ptr jid jv 0), (4, I i), (5, I k), (8, L (a ++ b)), (90, L b), (91, I b.length), (92, I s.1)]) (fun s => S.set mid (.map mv s.2)) (fun _ => [.cells v0 117 [I p.a, I p.b, I p.s]]) (fun s => b.length - s.1) (at_mk (0, es) [] ⟨by simp, by rw [gTo_zero]; exact hm⟩ (by simp) (set_self S mid _ hmid) (by simp)) ?_)
  rintro ⟨j, es2⟩ ⟨hjl, hm2'⟩
  simp only at hjl hm2' ⊢
  repeat refine pw_seq ?_
  refine pwn ?_
  intros
  repeat refine pw_seq ?_
  refine pw_cond rfl (fun hq => ?_) (fun hq => ?_)
  · simp at hq
    obtain ⟨s, tl, a1, a2, a3, e1, e0⟩ := el 2 rfl b j hq
    obtain ⟨rs, f1, _, _, f4, _⟩ := hm2'.find hkey s.c
    have hnew := f4 (i : Int)
    rw [gTo_succ a3] at hnew
    refine pw_skip (pw_seq (pw_block ?_))
    repeat refine pw_seq ?_
    refine pwN [] (jn3 e1 e0 hq) ?_
    intro v1
    repeat refine pw_seq ?_
    refine pw_Y (some [jid, nx + 1]) (Row.pures [0, 1, 2, 3, 4, 5, 6] (.alt 7 (.done) .stop)) mixed (by rfl) (by rfl) (by rfl) fun K Gp Gc Gh hK hGp hGc hGh X hX0 hX1 hX2 hX => ?_
    simp -implicitDefEqProofs [hX0, hX1, hX2, hX, yj]
    try clear hX0 hX1 hX2 hX X
    refine hGh _ _ _ _ _ (by rfl) (po_mapUpdate (.inl rfl) Tryz.underlying134 Tryz.underlying3 rfl rfl rfl (ym _ _) f1 ?_)
    rw [ext_set_old _ hlm, Store.set_set]
    refine ⟨by simp [Agree, yj], ?_⟩
    clear hGp hGc hGh
    clear Gp Gc Gh
    refine px_go fun Gp Gc Gh hGp hGc hGh X hX0 hX1 hX2 hX => ?_
    simp -implicitDefEqProofs [hX0, hX1, hX2, hX]
    try clear hX0 hX1 hX2 hX X
    refine hK _ _ _ ?_
    clear hK hGp hGc hGh
    clear K Gp Gc Gh
    repeat refine pw_seq ?_
    refine pwn ?_
    intros
    exact again_mk (j + 1, putP (keyI s.c) (I i) es2 rs) [_] ⟨hq, hnew⟩ (by simp; omega) (by simp [wrN j (by omega)]) rfl (by simp; rfl)
  · simp at hq
    obtain rfl : j = b.length := by omega
    refine pw_exit ?_
    have yt1 := fun (o : Ob) obs => (ext_old (S := S.set mid o) (obs := obs) hlt).trans ((Store.set_other _ _ _ _ d3).trans ht)
    have yt2 := fun (o o' : Ob) obs => (ext_old (S := (S.set mid o).set tid o') (obs := obs) hlt).trans (Store.set_same _ _ _)
    have yj2 := fun (o o' : Ob) obs => (ext_old (S := (S.set mid o).set tid o') (obs := obs) hlj).trans ((Store.set_other _ _ _ _ d1).trans ((Store.set_other _ _ _ _ d2).trans hj))
    have hlen1 : (T.flatMap Enc.enc).length = ss.length := by rw [flen_list, hTl]
    have hs1 := splice_set (T.flatMap Enc.enc) i (L (a ++ b)) (by omega)
    have hs2 := splice_set ((T.flatMap Enc.enc).set i (L (a ++ b))) k (.sc (.slice none 0 0)) (by simp; omega)
    have hlt1 : ¬ nx ≤ tid := by omega
    have hlj1 : ¬ nx ≤ jid := by omega
    have wn : IntKind.i64.wrap (num - 1) = num - 1 := wr _ (by omega) (by omega)
    repeat refine pw_seq ?_
    repeat refine pw_seq ?_
    refine pwY (some [jid]) (Row.pures [0, 1, 2, 3, 4, 5, 6, 7, 8, 9, 10, 11] (.alt 12 (Row.pures [13] (.alt 14 (.done) .stop)) .stop)) mixed (jn6 yj yt1 yt2 yj2 hs1 (jn6 hs2 hil2 hkl2 hlen1 hlt1 hTl)) ?_
    refine ⟨by omega, by omega, ?_⟩
    intros
    have hcs : ((((T.flatMap Enc.enc).set i (L (a ++ b))).set k (.sc (.slice none 0 0))).set k (.lst 0 [])) = ((T.set i (a ++ b)).set k []).flatMap Enc.enc := by
      rw [List.set_set, flat_day, flat_day, List.map_set, List.map_set]
      rfl
    refine pw_nilO (o := tid) k (yt2 _ _ _) (by rw [List.getElem?_set_self (by simp; omega)]) ?_
    rw [ext_set_old _ hlt, Store.set_set, hcs]
    generalize ((T.set i (a ++ b)).set k []).flatMap Enc.enc = cs' at *
    repeat refine pw_seq ?_
    refine pwN [] (jn3 yj2 hlj1 wn) ?_
    intros
    have e1 : ∀ (o o' o'' : Ob), ((S.set mid o).set tid o').set jid o'' = ((S.set jid o'').set tid o').set mid o := by
      intro o o' o''
      rw [Store.set_comm _ jid tid _ _ (fun e => d1 e.symm), Store.set_comm _ jid mid _ _ (fun e => d2 e.symm), Store.set_comm _ tid mid _ _ (fun e => d3 e.symm)]
    rw [e1]
    have hdd : ∀ (o o' o'' : Ob), DeadFrom nx (((S.set jid o'').set tid o').set mid o) := by
      intro o o' o'' q hq
      rw [Store.set_other _ _ _ _ (by omega), Store.set_other _ _ _ _ (by omega), Store.set_other _ _ _ _ (by omega)]
      exact hd q hq
    exact ⟨_, _, rfl, ⟨es2, _, hm2', hI.join hia hkb h1, rfl⟩, ext_kill0 (hdd _ _ _)⟩
open Go Go.Shelf Go.RowKit Go.Lib Go.Sort
def Se : Store := fun _ => .dead
def Ce : Ctx := ⟨fun _ => none, 0, 0⟩
theorem simE (w : World) : Sim Ce Se w :=
  ⟨fun _ h => absurd rfl h, (fun _ _ h => by cases h), fun _ _ _ _ _ h => absurd rfl h, (fun _ _ _ _ h => by cases h), (fun _ _ _ h => by cases h)⟩
theorem notMe (b : Nat) : ¬ Ce.M Se b := by rintro ⟨o, k, h, _⟩; exact h rfl
inductive Fz : PV → Prop where
  | junk : Fz .junk
  | sc (v : Value) : Fz (.sc v)
  | agg {cs : List PV} (h : ∀ p ∈ cs, Fz p) : Fz (.agg cs)
  | lst {n : Nat} {cs : List PV} (h : ∀ p ∈ cs, Fz p) : Fz (.lst n cs)
  | ip {cs : List PV} (h : ∀ p ∈ cs, Fz p) : Fz (.ip cs)
theorem rel_fz {C : Ctx} {S : Store} {w : World} {p : PV} {v : Value} (h : Rel C S w p v) : Fz p → Rel Ce Se w p v := by
  induction h with
  | junk v => intro _; exact .junk v
  | sc v => intro _; exact .sc v
  | agg hl h1 _ ih => intro hz; cases hz with | agg hz => exact .agg hl h1 fun i c v hc hv => ih i c v hc hv (hz c (List.mem_of_getElem? hc))
  | tup hl _ ih => intro hz; cases hz
  | lst0 => intro _; exact .lst0
  | lst1 hn hm hb hM hs h1 _ ih => intro hz; cases hz with | lst hz => exact .lst1 hn hm hb (notMe _) hs h1 fun i c v hc hv => ih i c v hc hv (hz c (List.mem_of_getElem? hc))
  | ip hb hM hs h1 _ ih => intro hz; cases hz with | ip hz => exact .ip hb (notMe _) hs h1 fun i c v hc hv => ih i c v hc hv (hz c (List.mem_of_getElem? hc))
  | ptr _ _ _ => intro hz; cases hz
  | sl _ _ _ => intro hz; cases hz
  | fn _ _ _ _ _ _ => intro hz; cases hz
  | ifc _ _ => intro hz; cases hz
  | mp _ _ _ => intro hz; cases hz
theorem grown_of_step {W w' : World} {C' : Ctx} {S' : Store} (h : Step Ce Se W C' S' w') : ∃ q os', w' = grow (W.drewN q) os' := by
  obtain ⟨p, hp⟩ := regrown_of_below (w := W) (w' := w') ⟨h.os, h.tape.1, h.output, h.size, fun b hb => (h.blocks b hb (notMe b)).1⟩
  have hd := h.tape.2
  rw [hp] at hd
  refine ⟨p.d - W.drawn, p.os, ?_⟩
  rw [hp]
  have hd' : W.drawn ≤ p.d := hd
  have e : W.drawn + (p.d - W.drawn) = p.d := by omega
  unfold grow redrawn World.drewN
  rw [e]
section
variable {P : Program} {α : Type} [Inhabited α] {val : α → Int}
theorem rel_I {C : Ctx} {S : Store} {w : World} {x : Int} {v : Value} (h : Rel C S w (I x) v) : v = .int .i64 x := by cases h; rfl
abbrev encV (val : α → Int) (x : α) : Value := .int .i64 (val x)
theorem cmp_lays {g : Nat} {caps : List PV} {cf : α → α → Int} (hg : ∀ x y : α, Pure P g (I (val x) :: I (val y) :: caps) (I (cf x y))) (cb : Array Value) (hl : caps.length = cb.size) {w : World} {blk size : Nat}
    (hr : ∀ (m : Nat) (os : Array Obj) (dk : Array α), dk.size = size → ∀ (i : Nat) (c : PV) (v : Value), caps[i]? = some c → cb[i]? = some v → Rel Ce Se (sortWorld (encV val) w blk 0 m dk os) c v) : CmpLays1 P g cb (encV val) cf blk 0 size w := by
  intro m os dk hs x y
  refine ((hg x y Se).2 Ce (sortWorld (encV val) w blk 0 m dk os) (#[encV val x, encV val y] ++ cb) (simE _) (by simp; omega) ?_).mono ?_
  · intro i c v hc hv
    match i with
    | 0 => rw [Array.getElem?_append_left (by simp)] at hv; cases hc; cases hv; exact .sc _
    | 1 => rw [Array.getElem?_append_left (by simp)] at hv; cases hc; cases hv; exact .sc _
    | i + 2 =>
      simp only [List.getElem?_cons_succ] at hc
      rw [Array.getElem?_append_right (by simp)] at hv
      exact hr m os dk hs i c v hc (by simpa using hv)
  · rintro e w' ⟨p, v, S', C', rfl, ⟨rfl, rfl⟩, hrel, _, hst⟩
    cases hrel
    exact ⟨rfl, grown_of_step hst⟩
theorem turn_row {C : Ctx} {S : Store} {w : World} (hS : Sim C S w) {id ver e b k : Nat} {cs0 : List PV} {c : Array Value} (hid : S id = .cells ver e cs0) (g1 : C.loc id = some (b, k)) (g2 : w.heap[b]? = some (.cells c e (0, 0))) (g3 : c.size = k) (dk : Array α) (hdk : dk.size ≤ k) (q : Nat) (os : Array Obj) :
    Sim (C.at id ver (C.loc id)) (S.set id (.cells ver e (dk.toList.map fun x => I (val x)))) (sortWorld (encV val) w b 0 q dk os) ∧
    Step C S w (C.at id ver (C.loc id)) (S.set id (.cells ver e (dk.toList.map fun x => I (val x)))) (sortWorld (encV val) w b 0 q dk os) := by
  have hb : b < w.heap.size := lt_of_heap g2
  have hh : (sortWorld (encV val) w b 0 q dk os).heap[b]? = some (.cells (putCells (encV val) 0 dk c) e (0, 0)) := by
    unfold sortWorld
    rw [heap_grow_old _ _ (by simpa using hb)]
    simp [putRow, mapBlock, Sort.ahead, Array.getElem?_modify, g2, onCells]
  have hgr : w.grownBy (sortWorld (encV val) w b 0 q dk os) (some b) := by
    refine ⟨rfl, rfl, rfl, by simp [sortWorld], fun j hj hne => ?_⟩
    unfold sortWorld
    rw [heap_grow_old _ _ (by simpa using hj)]
    have : b ≠ j := fun e => hne (by rw [e])
    simp [putRow, mapBlock, Sort.ahead, Array.getElem?_modify, this]
  have hcell : ∀ i, i < dk.size → ∀ v, (putCells (encV val) 0 dk c)[i]? = some v → v = encV val dk[i]! := by
    intro i hi v hv
    have hic : i < c.size := by omega
    simp [putCells, hi, hic] at hv
    rw [← hv, getElem!_pos dk i hi]
  refine hS.turn (l := C.loc id) (ver' := ver) (cs' := dk.toList.map fun x => I (val x)) hid (Nat.le_refl _) (fun _ => rfl) ⟨by rw [g1]; exact hgr, Nat.le_add_right _ _⟩
    (.inr ⟨b, k, _, g1, .inr (by rw [g1]; rfl), hh, by simp [putCells, g3], by simpa using hdk, fun i v hi hv => ?_, fun i p v hp hv => ?_⟩)
  · rw [hcell i (by simpa using hi) v hv]; rfl
  · have hi : i < dk.size := by have := (List.getElem?_eq_some_iff.1 hp).1; simpa using this
    rw [hcell i hi v hv]
    rw [List.getElem?_map, Array.getElem?_toList, Array.getElem?_eq_getElem hi] at hp
    simp only [Option.map_some, Option.some.injEq] at hp
    rw [← hp, getElem!_pos dk i hi]
    exact .sc _
theorem sortF_none {ρ : Ren} (L : SlLaysF.n6 P ρ) (hE : Enters P (ρ.f 6)) {S : Store} {id ver : Nat} {f : PV} : Spec P (ρ.f 6) [.sl id ver 1 0 0, f] S (fun p S' => S' = S) := by
  refine ⟨hE, ?_⟩
  intro C w vs hS hl hr
  obtain ⟨v0, v1, rfl⟩ : ∃ v0 v1, vs = #[v0, v1] := by
    match vs, hl with
    | ⟨[a, b]⟩, _ => exact ⟨a, b, rfl⟩
  have hv0 := hr 0 _ v0 rfl rfl
  cases hv0 with
  | sl h1 h2 h3 =>
    obtain ⟨a, cap, rfl, q1, q2, q3, q4⟩ := h1
    refine (AnyF.slices_SortFunc_none { L with } a cap _ w).mono ?_
    rintro e w' ⟨rfl, rfl⟩
    exact ⟨.junk, _, S, C, rfl, rfl, .junk _, hS, .refl _ _ _⟩
theorem sortF_ok {ρ : Ren} (L : SlLaysF.n6 P ρ) (hE : Enters P (ρ.f 6)) {S : Store} {id ver e : Nat} (zs : List α) (hid : S id = .cells ver e (zs.map fun x => I (val x))) (hn : zs.length ≤ 1048576)
    {g : Nat} (hG : Enters P g) {caps : List PV} (hz : ∀ p ∈ caps, Fz p) (cf : α → α → Int) (hO : SWO (ltOf cf)) (hT : ∀ x y, (ltOf cf) x y = false → (ltOf cf) y x = false → x = y)
    (hg : ∀ x y : α, Pure P g (I (val x) :: I (val y) :: caps) (I (cf x y))) :
    Spec P (ρ.f 6) [.sl id ver 1 0 zs.length, .fn (.func g) [] caps] S (fun p S' => S' = S.set id (.cells ver e ((zs.mergeSort fun x y => !(ltOf cf) y x).map fun x => I (val x)))) := by
  refine ⟨hE, ?_⟩
  intro C w vs hS hl hr
  obtain ⟨v0, v1, rfl⟩ : ∃ v0 v1, vs = #[v0, v1] := by
    match vs, hl with
    | ⟨[a, b]⟩, _ => exact ⟨a, b, rfl⟩
  have hv0 := hr 0 _ v0 rfl rfl
  have hv1 := hr 1 _ v1 rfl rfl
  cases hv1 with
  | @fn _ _ _ fv cv hf hc hh' hcap =>
  obtain rfl : fv = #[] := by
    have : fv.size = 0 := by simpa using hf.symm
    exact Array.eq_empty_of_size_eq_zero this
  cases hv0 with
  | sl h1 h2 h3 =>
    obtain ⟨a, cap, rfl, q1, q2, q3, q4⟩ := h1
    by_cases h0 : zs = []
    · subst h0
      refine (AnyF.slices_SortFunc_none { L with } a cap _ w).mono ?_
      rintro e w' ⟨rfl, rfl⟩
      refine ⟨.junk, _, S, C, rfl, ?_, .junk _, hS, .refl _ _ _⟩
      funext i
      simp only [Store.set, List.mergeSort_nil]
      split
      · rename_i e; rw [e, hid]
      · rfl
    · have hpos : 0 < zs.length := List.length_pos_iff.2 h0
      rcases hS.cells id ver _ _ hid with ⟨hn', hnil⟩ | ⟨b, k, c, g1, g2, g3, g4, g5, g6⟩
      · simp at hnil; exact absurd hnil h0
      · have ha : a = some ⟨b, 0, none⟩ := by
          rcases (h3 ver (by rw [hid]; rfl)).2 rfl with ⟨z1, _⟩ | ⟨b', k', a', cap', z1, z2, z3, z4⟩
          · rw [g1] at z1; cases z1
          · rw [g1] at z1; cases z1; cases z2; exact (z3 rfl).1
        subst ha
        rw [List.length_map] at g4 g5
        have hcells : ∀ i (hi : i < zs.length), c[i]? = some (encV val zs[i]) := by
          intro i hi
          have hi' : i < c.size := by omega
          have e1 : (zs.map fun x => I (val x))[i]? = some (I (val zs[i])) := by simp [hi]
          have e2 : c[i]? = some c[i] := by simp
          rw [e2, rel_I (g6 i _ _ e1 e2)]
        have hH : Holds (encV val) w b 0 zs.toArray := by
          intro j hj
          have hj' : j < zs.length := by simpa using hj
          refine ⟨?_, by simp [World.frozen?, g2]⟩
          simp only [World.cell?, g2, Nat.zero_add, Option.isSome_none, Bool.false_eq_true, if_false]
          rw [hcells j hj', getElem!_pos zs.toArray j hj]
          simp
        have hlays : CmpLays1 P g cv (encV val) cf b 0 zs.toArray.size w := by
          refine cmp_lays hg cv (by simpa using hc) fun m os dk hs i p v hp hv => ?_
          obtain ⟨_, st⟩ := turn_row (val := val) hS hid g1 g2 g3 dk (by rw [hs]; simpa using g4) m os
          exact rel_fz ((hcap i p v hp hv).mono st) (hz p (List.mem_of_getElem? hp))
        have hk := Any.slices_SortFunc_total L (encV val) (fun _ => rfl) cf hO g cv b 0 cap zs.toArray w hG hlays hH (lt_of_heap g2) (by simp; omega) hT
        simp only [List.size_toArray] at hk
        refine hk.mono ?_
        rintro e w' ⟨rfl, m, os, rfl⟩
        obtain ⟨t1, t2⟩ := turn_row (val := val) hS hid g1 g2 g3 (zs.mergeSort fun x y => !(ltOf cf) y x).toArray (by simpa using g4) m os
        exact ⟨.junk, _, _, _, rfl, rfl, .junk _, t1, t2⟩
end
open Go
set_option maxRecDepth 20000 in
theorem isNaN_ok (x : Int) : Pure Tryz.prog 131 [I x] (B false) := by
  refine pwe Tryz.func131 Tryz.ntmps131 Tryz.results131 fun S nx hd => ?_
  repeat refine pw_seq ?_
  refine pwn ?_
  intros
  repeat refine pw_seq ?_
  refine pwn ?_
  intros
  repeat refine pw_seq ?_
  exact pw_ret (ret_pure hd (by simp; rfl) rfl)
set_option maxRecDepth 20000 in
theorem compare_ok (x y : Int) : Pure Tryz.prog 160 [I x, I y] (I (cmp3 x y)) := by
  refine pwe Tryz.func160 Tryz.ntmps160 Tryz.results160 fun S nx hd => ?_
  repeat refine pw_seq ?_
  refine pwn ?_
  intros
  repeat refine pw_seq ?_
  refine pwn ?_
  refine pwc (isNaN_ok x) ?_
  intros
  repeat refine pw_seq ?_
  refine pwn ?_
  refine pwc (isNaN_ok y) ?_
  intros
  repeat refine pw_seq ?_
  refine pwn ?_
  intros
  repeat refine pw_seq ?_
  refine pw_cf (by simp) ?_
  refine pw_skip ?_
  repeat refine pw_seq ?_
  refine pwn ?_
  intros
  repeat refine pw_seq ?_
  refine pw_cf (by simp) ?_
  refine pw_skip ?_
  by_cases h1 : x < y
  · repeat refine pw_seq ?_
    refine pwN [] h1 ?_
    intros
    repeat refine pw_seq ?_
    refine pw_ct (by simp [h1]) ?_
    repeat refine pw_seq ?_
    refine pwn ?_
    intros
    repeat refine pw_seq ?_
    exact pw_ret (ret_pure hd (by simp; rfl) (by simp [cmp3, h1, oneOf]))
  repeat refine pw_seq ?_
  refine pwN [] h1 ?_
  intros
  repeat refine pw_seq ?_
  refine pw_cf (by simp [h1]) ?_
  refine pw_skip ?_
  by_cases h2 : y < x
  · repeat refine pw_seq ?_
    refine pwN [] h2 ?_
    intros
    repeat refine pw_seq ?_
    refine pw_ct (by simp [h2]) ?_
    repeat refine pw_seq ?_
    refine pwn ?_
    intros
    repeat refine pw_seq ?_
    exact pw_ret (ret_pure hd (by simp; rfl) (by simp [cmp3, h1, h2, oneOf]))
  repeat refine pw_seq ?_
  refine pwN [] h2 ?_
  intros
  repeat refine pw_seq ?_
  refine pw_cf (by simp [h2]) ?_
  refine pw_skip ?_
  repeat refine pw_seq ?_
  refine pwn ?_
  intros
  repeat refine pw_seq ?_
  exact pw_ret (ret_pure hd (by simp; rfl) (by simp [cmp3, h1, h2, oneOf]))
set_option maxRecDepth 20000 in
theorem or2_ok (x y : Int) : Pure Tryz.prog 159 [.lst 2 [I x, I y]] (I (if x = 0 then y else x)) := by
  refine pwe Tryz.func159 Tryz.ntmps159 Tryz.results159 fun S nx hd => ?_
  repeat refine pw_seq ?_
  refine pwn ?_
  intros
  repeat refine pw_seq ?_
  refine pwn ?_
  intros
  repeat refine pw_seq ?_
  refine pwn ?_
  intros
  repeat refine pw_seq ?_
  refine pw_block (pw_loopL (fun s : Nat => s ≤ 2 ∧ (0 < s → x = 0) ∧ (1 < s → y = 0)) (fun k => [(3, I 0), (6, .lst 2 [I x, I y]), (7, I 2), (8, I k)]) (fun _ => []) (fun s => 2 - s) 0 [] (by simp) (by simp) (by simp) ?_)
  rintro k ⟨hk, hk1, hk2⟩
  match k, hk, hk1, hk2 with
  | 0, _, _, _ =>
    repeat refine pw_seq ?_
    refine pwn ?_
    intros
    repeat refine pw_seq ?_
    refine pw_ct (by simp) ?_
    refine pw_skip (pw_seq (pw_block ?_))
    repeat refine pw_seq ?_
    refine pwn ?_
    intros
    by_cases hx : x = 0
    · repeat refine pw_seq ?_
      refine pwN [] hx ?_
      intros
      repeat refine pw_seq ?_
      refine pw_cf (by simp [hx]) ?_
      refine pw_skip ?_
      repeat refine pw_seq ?_
      refine pwn ?_
      intros
      exact again_mk 1 [] ⟨by omega, fun _ => hx, by omega⟩ (by omega) (by simp [hx]; rfl) rfl (by simp)
    · repeat refine pw_seq ?_
      refine pwN [] hx ?_
      intros
      repeat refine pw_seq ?_
      refine pw_ct (by simp [hx]) ?_
      repeat refine pw_seq ?_
      refine pwn ?_
      intros
      repeat refine pw_seq ?_
      exact pw_ret (ret_pure hd (by simp; rfl) (by simp [hx, oneOf]))
  | 1, _, hk1, _ =>
    have hx := hk1 (by omega)
    repeat refine pw_seq ?_
    refine pwn ?_
    intros
    repeat refine pw_seq ?_
    refine pw_ct (by simp) ?_
    refine pw_skip (pw_seq (pw_block ?_))
    repeat refine pw_seq ?_
    refine pwn ?_
    intros
    by_cases hy : y = 0
    · repeat refine pw_seq ?_
      refine pwN [] hy ?_
      intros
      repeat refine pw_seq ?_
      refine pw_cf (by simp [hy]) ?_
      refine pw_skip ?_
      repeat refine pw_seq ?_
      refine pwn ?_
      intros
      exact again_mk 2 [] ⟨by omega, fun _ => hx, fun _ => hy⟩ (by omega) (by simp [hy]; rfl) rfl (by simp)
    · repeat refine pw_seq ?_
      refine pwN [] hy ?_
      intros
      repeat refine pw_seq ?_
      refine pw_ct (by simp [hy]) ?_
      repeat refine pw_seq ?_
      refine pwn ?_
      intros
      repeat refine pw_seq ?_
      exact pw_ret (ret_pure hd (by simp; rfl) (by simp [hx, oneOf]))
  | 2, _, hk1, hk2 =>
    repeat refine pw_seq ?_
    refine pwn ?_
    intros
    repeat refine pw_seq ?_
    refine pw_cf (by simp) ?_
    refine pw_exit ?_
    repeat refine pw_seq ?_
    refine pwn ?_
    intros
    repeat refine pw_seq ?_
    exact pw_ret (ret_pure hd (by simp; rfl) (by simp [hk1 (by omega), hk2 (by omega), oneOf]))
set_option maxRecDepth 20000 in
theorem sorted1_ok (l : List Int) (i j : Fin l.length) (hn : l.length ≤ 1048576) : Pure Tryz.prog 158 [I i.val, I j.val, .ip [L l]] (I (cfW l i j)) := by
  obtain ⟨a, tl, a1, a2, a3, e0⟩ := el1 rfl l i.val i.isLt
  obtain ⟨b, tl2, b1, b2, b3, e1⟩ := el1 rfl l j.val j.isLt
  have hi := i.isLt
  have hj := j.isLt
  have ha : l.getD i.val 0 = a := by rw [List.getD_eq_getElem?_getD, a1]; rfl
  have hb : l.getD j.val 0 = b := by rw [List.getD_eq_getElem?_getD, b1]; rfl
  have hor := or2_ok (cmp3 a b) (cmp3 i.val j.val)
  have hres : cfW l i j = if cmp3 a b = 0 then cmp3 (i.val : Int) j.val else cmp3 a b := by unfold cfW; rw [ha, hb]
  rw [hres]
  refine pwe Tryz.func158 Tryz.ntmps158 Tryz.results158 fun S nx hd => ?_
  repeat refine pw_seq ?_
  refine pwn ?_
  intros
  repeat refine pw_seq ?_
  refine pwY none (Row.pures [0, 1, 2, 3, 4, 5, 6, 7, 8, 9, 10, 11, 12, 13, 14] .done) mixed (jn4 hi hj e0 e1) ?_
  refine pwP (compare_ok a b) (jn4 hi hj e0 e1) ?_
  refine pwP (compare_ok i.val j.val) trivial ?_
  refine pwP (hor) trivial ?_
  intros
  repeat refine pw_seq ?_
  exact pw_ret (ret_pure hd (by simp; rfl) rfl)
theorem flat_I1 (l : List Int) : l.flatMap Enc.enc = l.map I := by induction l <;> simp_all
theorem fz_row (l : List Int) : ∀ p ∈ [PV.ip [L l]], Fz p := by
  intro p hp
  simp only [List.mem_singleton] at hp
  subst hp
  refine .ip fun q hq => ?_
  simp only [List.mem_singleton] at hq
  subst hq
  refine .lst fun r hr => ?_
  rw [flat_I1] at hr
  obtain ⟨x, _, rfl⟩ := List.mem_map.1 hr
  exact .sc _
def idxTo (n k : Nat) : List Int := (List.range n).map fun i => if i < k then (i : Int) else 0
theorem idxTo_len (n k : Nat) : (idxTo n k).length = n := by simp [idxTo]
theorem idxTo_zero (n : Nat) : idxTo n 0 = List.replicate n 0 := by
  apply List.ext_getElem
  · simp [idxTo]
  · intro i h1 h2; simp [idxTo]
theorem idxTo_succ (n k : Nat) (h : k < n) : (idxTo n k).set k (k : Int) = idxTo n (k + 1) := by
  apply List.ext_getElem
  · simp [idxTo]
  · intro i h1 h2
    rw [List.getElem_set]
    simp only [idxTo, List.getElem_map, List.getElem_range]
    by_cases e : k = i
    · subst e; rw [if_pos rfl, if_pos (by omega)]
    · rw [if_neg e]
      by_cases h3 : i < k
      · rw [if_pos h3, if_pos (by omega)]
      · rw [if_neg h3, if_neg (by omega)]
theorem idxTo_all (n : Nat) : idxTo n n = (List.finRange n).map fun x => (x.val : Int) := by
  apply List.ext_getElem
  · simp [idxTo]
  · intro i h1 h2
    have : i < n := by simpa [idxTo] using h1
    simp [idxTo, this]
theorem flat_I {α : Type} (l : List α) (f : α → Int) : (l.map f).flatMap Enc.enc = l.map fun x => I (f x) := by induction l <;> simp_all
theorem zeros_I (n : Nat) : zerosP n (.int .i64 0) = (List.replicate n (0 : Int)).flatMap Enc.enc := by
  induction n with
  | zero => simp
  | succ n ih => rw [zerosP_succ', ih, List.replicate_succ]; simp [zeroCellsOf, Value.cells]
theorem splice_I (l : List Int) (k : Nat) (v : Int) (h : k < l.length) : splice (l.flatMap Enc.enc) k [I v] = (l.set k v).flatMap Enc.enc := by
  rw [flat_I1, flat_I1, splice, List.map_set, List.set_eq_take_append_cons_drop, if_pos (by simpa using h)]
  simp
set_option maxRecDepth 20000 in
theorem sortedH_ok (l : List Int) (hn : l.length ≤ 1048576) : Pure Tryz.prog 144 [L l] (L (sortI l)) := by
  have hE : Enters Tryz.prog 157 := enters_of Tryz.func157 (by rfl) rfl
  have hG : Enters Tryz.prog 158 := enters_of Tryz.func158 (by rfl) rfl
  refine pwe Tryz.func144 Tryz.ntmps144 Tryz.results144 fun S nx hd => ?_
  repeat refine pw_seq ?_
  refine pwn ?_
  intro v0
  repeat refine pw_seq ?_
  refine pwn ?_
  refine ⟨by omega, fun v1 => ?_⟩
  intros
  repeat refine pw_seq ?_
  refine pwn ?_
  intros
  repeat refine pw_seq ?_
  refine pw_block (pw_loopL (fun s : Nat => s ≤ l.length) (fun k => [(1, .ptr nx v0 0), (3, .sl (nx + 1) v1 1 0 l.length), (9, I l.length), (10, I k)]) (fun k => [.cells v0 62 [L l], .cells v1 3 ((idxTo l.length k).flatMap Enc.enc)]) (fun s => l.length - s) 0 [] (by simp) (by simp) (by simp [idxTo_zero, zeros_I]) ?_)
  rintro k hk
  repeat refine pw_seq ?_
  refine pwn ?_
  intros
  repeat refine pw_seq ?_
  refine pw_cond rfl (fun hc => ?_) (fun hc => ?_)
  · simp at hc
    have hl1 := idxTo_len l.length k
    have hsp := splice_I (idxTo l.length k) k k (by omega)
    rw [idxTo_succ _ _ hc] at hsp
    refine pw_skip (pw_seq (pw_block ?_))
    repeat refine pw_seq ?_
    refine pwn ?_
    intros
    repeat refine pw_seq ?_
    refine pwN [] (jn3 hc hl1 hsp) ?_
    refine ⟨by omega, ?_⟩
    intros
    repeat refine pw_seq ?_
    refine pwn ?_
    intros
    exact again_mk (k + 1) [] hc (by omega) (by simp [wrN k (by omega)]) rfl (by simp)
  · simp at hc
    obtain rfl : k = l.length := by omega
    refine pw_exit ?_
    rw [idxTo_all, flat_I]
    refine pw_frq 0 rfl ?_
    repeat refine pw_seq ?_
    refine pw_N [] (by rfl) (by rfl) fun K Gc Gh hK hGc hGh X hX0 hX => ?_
    simp -implicitDefEqProofs [hX0, hX]
    try clear hX0 hX X
    by_cases h0 : l.length = 0
    · obtain rfl : l = [] := List.eq_nil_of_length_eq_zero h0
      refine hGc _ _ _ _ _ _ _ fun hsuf => ((sortF_none Tryz.laysSlF6_f157 hE).mono ?_).v
      rintro _ _ rfl
      refine ⟨_, _, rfl, ?_⟩
      clear hGc hGh
      clear Gc Gh
      refine xs_go hsuf (D := []) (by rfl) fun Gc Gh hGc hGh X hX0 hX => ?_
      simp -implicitDefEqProofs [hX0, hX]
      clear hX0 hX X
      intros
      refine hK _ _ _ ?_
      clear hK hGc hGh
      clear K Gc Gh
      refine pw_frz 1 rfl ?_
      repeat refine pw_seq ?_
      refine pwn ?_
      intros
      have hs0 : sortI [] = [] := List.eq_nil_of_length_eq_zero (sortI_len [])
      repeat refine pw_seq ?_
      exact pw_ret (ret_pure hd (by simp; rfl) (by rw [hs0]; rfl))
    · haveI : Inhabited (Fin l.length) := ⟨⟨0, by omega⟩⟩
      have hs := fun S id ver hid => sortF_ok (S := S) (id := id) (ver := ver) (e := 3) (val := fun i : Fin l.length => (i.val : Int)) Tryz.laysSlF6_f157 hE (List.finRange l.length) hid (by simp; omega) hG (fz_row l) (cfW l) (swo_cfW l) (tot_cfW l) (fun x y => sorted1_ok l x y hn)
      rw [List.length_finRange] at hs
      have hfl := flat_I (sortF l) (fun i => (i.val : Int))
      have hsl := sortI_len l
      refine hGc _ _ _ _ _ _ _ fun hsuf => ((hs _ (nx + 1) v1 (by rw [ext_at]; rfl)).mono ?_).v
      rintro _ _ rfl
      refine ⟨_, _, ext_set _ (by omega) (by simp), ?_⟩
      rw [show (((List.finRange l.length).mergeSort fun x y => !(ltOf (cfW l)) y x).map fun x => I (x.val : Int)) = (sortI l).flatMap Enc.enc from hfl.symm]
      clear hGc hGh
      clear Gc Gh
      refine xs_go hsuf (D := []) (by rfl) fun Gc Gh hGc hGh X hX0 hX => ?_
      simp -implicitDefEqProofs [hX0, hX, (show nx + 1 - nx = 1 from by omega)]
      clear hX0 hX X
      intros
      refine hK _ _ _ ?_
      clear hK hGc hGh
      clear K Gc Gh
      refine pw_frz 1 rfl ?_
      repeat refine pw_seq ?_
      refine pwN [] hsl ?_
      intros
      repeat refine pw_seq ?_
      exact pw_ret (ret_pure hd (by simp; rfl) (by simp [oneOf, hsl]))
open Go Hp
theorem prsOf_snoc (x : Inst) (c : List Int) (a b : Int) : prsOf x (c ++ [b]) a = prsOf x c a ++ (if b ≠ a then [⟨a, b, savZ x a b⟩] else []) := by
  unfold prsOf
  by_cases h : b = a <;> simp [h]
theorem prsOf_len (x : Inst) (c : List Int) (a : Int) : (prsOf x c a).length ≤ c.length := by
  unfold prsOf
  rw [List.length_map]; exact List.length_filter_le _ _
theorem negS_snoc (l : List Pr) (p : Pr) : negS (l ++ [p]) = negS l ++ [-p.s] := by simp [negS]
theorem negS_len (l : List Pr) : (negS l).length = l.length := by simp [negS]
set_option maxRecDepth 20000 in
theorem rowOf_ok (x : Inst) (c : List Int) (a : Int) (hx : ArcOk x) (hc : c.length ≤ 1048576) (hs : ∀ b ∈ c, small b) (ha : small a) : Pure Tryz.prog 126 [.agg (instL x), L c, I a] (L (rowP x c a)) := by
  refine pwe Tryz.func126 Tryz.ntmps126 Tryz.results126 fun S nx hd => ?_
  repeat refine pw_seq ?_
  refine pwn ?_
  intro v0
  repeat refine pw_seq ?_
  refine pwn ?_
  intros
  refine pw_seq (pw_nilX 7 117 3 rfl fun v1 => ?_)
  repeat refine pw_seq ?_
  refine pwn ?_
  intros
  refine pw_seq (pw_nilX 8 3 1 rfl fun v2 => ?_)
  repeat refine pw_seq ?_
  refine pwn ?_
  intros
  repeat refine pw_seq ?_
  refine pw_block (pw_loopL (fun s : Nat × List Pr × Nat × Nat => s.1 ≤ c.length ∧ s.2.1 = prsOf x (c.take s.1) a) (fun (k, ps, v1, v2) => [(1, L c), (2, I a), (3, .ptr nx v0 0), (7, .sl (nx + 1) v1 3 0 ps.length), (8, .sl (nx + 2) v2 1 0 ps.length), (15, L c), (16, I c.length), (17, I k)]) (fun (k, ps, v1, v2) => [.cells v0 25 (instL x), .cells v1 117 (ps.flatMap Enc.enc), .cells v2 3 ((negS ps).flatMap Enc.enc)]) (fun s => c.length - s.1) (0, [], v1, v2) [] (by simp [prsOf]) (by simp) (by simp [negS]) ?_)
  rintro ⟨k, ps, v1, v2⟩ ⟨hk, ho⟩
  simp only at hk ho ⊢
  have hpl : ps.length ≤ k := by rw [ho]; refine Nat.le_trans (prsOf_len _ _ _) ?_; simp; omega
  have hnl := negS_len ps
  repeat refine pw_seq ?_
  refine pwn ?_
  intros
  repeat refine pw_seq ?_
  refine pw_cond rfl (fun hq => ?_) (fun hq => ?_)
  · simp at hq
    obtain ⟨b, tl, a1, a2, a3, e0⟩ := el1 rfl c k hq
    have hb := hs b (List.mem_of_getElem? a1)
    have hsv := savZ_le hx a b
    have w5 : IntKind.i64.wrap (-savZ x a b) = -savZ x a b := wr _ (by omega) (by omega)
    have hsn := prsOf_snoc x (c.take k) a b
    rw [← a3, ← ho] at hsn
    refine pw_skip (pw_seq (pw_block ?_))
    repeat refine pw_seq ?_
    refine pwN [] (jn2 e0 hq) ?_
    intros
    repeat refine pw_seq ?_
    refine pwn ?_
    intros
    repeat refine pw_seq ?_
    refine pw_cond rfl (fun hne => ?_) (fun hne => ?_)
    · simp at hne
      rw [if_pos hne] at hsn
      repeat refine pw_seq ?_
      refine pwn ?_
      refine pwc (savesP_ok x a b hx ha hb) ?_
      intro v3
      intros
      repeat refine pw_seq ?_
      refine pwn ?_
      refine ⟨by omega, ?_⟩
      intros
      have htk : List.take ps.length ((negS ps).flatMap Enc.enc) = (negS ps).flatMap Enc.enc := by rw [← hnl]; exact ftake_int _
      have hnf : ((negS ps).flatMap Enc.enc).length = ps.length := by rw [flen_int, hnl]
      repeat refine pw_seq ?_
      refine pwN [] (jn3 w5 htk hnf) ?_
      refine ⟨by omega, ?_⟩
      intros
      repeat refine pw_seq ?_
      refine pwn ?_
      intros
      exact again_mk (k + 1, ps ++ [⟨a, b, savZ x a b⟩], v1 + 1, v2 + 1) [_] ⟨hq, hsn.symm⟩ (by simp; omega) (by simp [wrN k (by omega)]) rfl (by simp [negS_snoc]; rfl)
    · simp at hne
      rw [if_neg (by simp [hne]), List.append_nil] at hsn
      refine pw_skip ?_
      repeat refine pw_seq ?_
      refine pwn ?_
      intros
      exact again_mk (k + 1, ps, v1, v2) [] ⟨hq, hsn.symm⟩ (by simp; omega) (by simp [wrN k (by omega)]) rfl (by simp)
  · simp at hq
    obtain rfl : k = c.length := by omega
    rw [List.take_length] at ho
    refine pw_exit ?_
    refine pw_frz 1 rfl ?_
    refine pw_frz 2 rfl ?_
    repeat refine pw_seq ?_
    refine pwn ?_
    intros
    refine pw_seq (pw_nilX 12 117 3 rfl fun v3 => ?_)
    have hrw : rowP x c a = (sortI (negS ps)).map (getP ps) := by rw [ho]; rfl
    rw [hrw]
    have hsl := sortI_len (negS ps)
    have hmem : ∀ z ∈ sortI (negS ps), 0 ≤ z ∧ z < ps.length := fun z h => by have := sortI_mem h; omega
    have hcall := sortedH_ok (negS ps) (by omega)
    rw [show L (negS ps) = PV.lst ps.length ((negS ps).flatMap Enc.enc) from by rw [← hnl]] at hcall
    generalize negS ps = ns at *
    repeat refine pw_seq ?_
    refine pwN [] hnl ?_
    refine pwc hcall ?_
    intros
    generalize sortI ns = is at *
    repeat refine pw_seq ?_
    refine pw_block (pw_loopL (fun s : Nat × List Pr × Nat => s.1 ≤ is.length ∧ s.2.1 = (is.take s.1).map (getP ps)) (fun (k, os, v) => [(7, L ps), (12, .sl (nx + 3) v 3 0 os.length), (43, L is), (44, I is.length), (45, I k)]) (fun (k, os, v) => [.cells v0 25 (instL x), .dead, .dead, .cells v 117 (os.flatMap Enc.enc)]) (fun s => is.length - s.1) (0, [], v3) [] (by simp) (by simp [hnl]) (by simp) ?_)
    rintro ⟨k, os, v⟩ ⟨hk, ho2⟩
    simp only at hk ho2 ⊢
    repeat refine pw_seq ?_
    refine pwn ?_
    intros
    repeat refine pw_seq ?_
    refine pw_cond rfl (fun hq => ?_) (fun hq => ?_)
    · simp at hq
      obtain ⟨i, tl, a1, a2, a3, e0⟩ := el1 rfl is k hq
      obtain ⟨q1, q2⟩ := hmem i (List.mem_of_getElem? a1)
      obtain ⟨j, rfl⟩ : ∃ j : Nat, i = j := ⟨i.toNat, by omega⟩
      have hj : j < ps.length := by omega
      obtain ⟨p, tp, b1, b2, b3, e1, e2⟩ := el 3 rfl ps j hj
      have hg : getP ps (j : Int) = p := by simp [getP, List.getD_eq_getElem?_getD, b1]
      have hgs : (is.take (k + 1)).map (getP ps) = os ++ [p] := by rw [a3, ho2]; simp [hg]
      have hgl : os.length = k := by rw [ho2]; simp; omega
      refine pw_skip (pw_seq (pw_block ?_))
      repeat refine pw_seq ?_
      refine pwN [] (jn2 e0 hq) ?_
      intros
      repeat refine pw_seq ?_
      refine pwN [] (jn3 e1 e2 hj) ?_
      refine ⟨by omega, ?_⟩
      intros
      repeat refine pw_seq ?_
      refine pwn ?_
      intros
      exact again_mk (k + 1, os ++ [p], v + 1) [] ⟨hq, hgs.symm⟩ (by simp; omega) (by simp [wrN k (by omega)]) rfl (by simp)
    · simp at hq
      obtain rfl : k = is.length := by omega
      rw [List.take_length] at ho2
      refine pw_exit ?_
      refine pw_frz 3 rfl ?_
      repeat refine pw_seq ?_
      refine pwn ?_
      intros
      repeat refine pw_seq ?_
      exact pw_ret (ret_pure hd (by simp; rfl) (by simp [oneOf, ho2]))
open Go Hp
@[simp] theorem put3_two (d1 d2 a b c : Ob) (l : List Ob) (o : Ob × Ob × Ob) : put3 (d1 :: d2 :: a :: b :: c :: l) 2 o = d1 :: d2 :: o.1 :: o.2.1 :: o.2.2 :: l := rfl
theorem HX.srt {o : Ob × Ob × Ob} {a hv mv : Nat} {r : Its Int} (h : HX o a hv mv r) : SortedI r := by
  obtain ⟨_, _, _, h⟩ := h (fun i => if i = a then o.1 else if i = a + 1 then o.2.1 else o.2.2) (by simp) (by simp) (by simp)
  exact h
theorem hasI_no {id : Int} {r : Its Int} (h : ∀ x ∈ r, x.1 ≠ id) : hasI id r = false := by
  simp only [hasI, List.any_eq_false]; intro x hx; simpa using h x hx
def prV (p : Pr) : List PV := [.agg [I p.a, I p.b, I p.s]]
def rowsK (x : Inst) (c : List Int) (k : Nat) : List (List Pr) := (c.take k).map (rowP x c)
theorem rowsK_zero (x : Inst) (c : List Int) : rowsK x c 0 = [] := by simp [rowsK]
theorem rowsK_succ {x : Inst} {c : List Int} {k : Nat} {a : Int} (h : c.take (k + 1) = c.take k ++ [a]) : rowsK x c (k + 1) = rowsK x c k ++ [rowP x c a] := by simp [rowsK, h]
theorem rowsK_all (x : Inst) (c : List Int) : rowsK x c c.length = c.map (rowP x c) := by simp [rowsK]
theorem rowsK_len (x : Inst) (c : List Int) (k : Nat) (h : k ≤ c.length) : (rowsK x c k).length = k := by simp [rowsK]; omega
def rowsC (rows : List (List Pr)) (n : Nat) : List PV := rows.flatMap Enc.enc ++ List.replicate (n - rows.length) (.sc (.slice none 0 0))
theorem rowsC_len (rows : List (List Pr)) (n : Nat) (h : rows.length ≤ n) : (rowsC rows n).length = n := by simp [rowsC]; omega
theorem rowsC_zero (n : Nat) : rowsC [] n = zerosP n (.slice none 0 0) := by
  unfold rowsC
  simp only [List.flatMap_nil, List.nil_append, List.length_nil, Nat.sub_zero]
  induction n with
  | zero => simp
  | succ n ih => rw [zerosP_succ', List.replicate_succ, ih]; simp [zeroCellsOf, Value.cells]
theorem rowsC_all (rows : List (List Pr)) : rowsC rows rows.length = rows.flatMap Enc.enc := by simp [rowsC]
theorem rowsC_put (rows : List (List Pr)) (n : Nat) (r : List Pr) (h : rows.length < n) : splice (rowsC rows n) rows.length [L r] = rowsC (rows ++ [r]) n := by
  unfold rowsC splice
  have h1 : (rows.flatMap Enc.enc).length = rows.length := flen_list rows
  obtain ⟨m, hm⟩ : ∃ m, n - rows.length = m + 1 := ⟨n - rows.length - 1, by omega⟩
  rw [hm, List.replicate_succ]
  rw [List.take_append_of_le_length (by omega), List.take_of_length_le (by omega)]
  rw [List.drop_append, List.drop_of_length_le (by simp)]
  simp [h1, show n - (rows.length + 1) = m by omega]
theorem rowsC_at (rows : List (List Pr)) (n : Nat) (r : List Pr) : (rowsC (rows ++ [r]) n)[rows.length]? = some (L r) := by
  unfold rowsC
  rw [List.flatMap_append, List.append_assoc, List.getElem?_append_right (by rw [flen_list]; exact Nat.le_refl _), flen_list]
  simp
theorem splice_rows (rows : List (List Pr)) (k : Nat) (r : List Pr) (h : k < rows.length) : splice (rows.flatMap Enc.enc) k [L r] = (rows.set k r).flatMap Enc.enc := by
  have e : ∀ l : List (List Pr), l.flatMap Enc.enc = l.map fun r => L r := fun l => by induction l <;> simp_all
  rw [e, e, splice, List.map_set, List.set_eq_take_append_cons_drop, if_pos (by simpa using h)]
  simp
theorem headsI_app : ∀ (rows : List (List Pr)) (i : Nat) (r : List Pr), headsI i (rows ++ [r]) = headsI i rows ++ headsI (i + rows.length) [r]
  | [], i, r => by simp [headsI]
  | [] :: rows, i, r => by
    simp only [List.cons_append, headsI, List.length_cons]
    rw [headsI_app rows (i + 1) r, show i + 1 + rows.length = i + (rows.length + 1) by omega]
  | (p :: l) :: rows, i, r => by
    simp only [List.cons_append, headsI, List.length_cons]
    rw [headsI_app rows (i + 1) r, show i + 1 + rows.length = i + (rows.length + 1) by omega]
theorem heads_snoc_nil (rows : List (List Pr)) : headsI 0 (rows ++ [[]]) = headsI 0 rows := by rw [headsI_app]; simp [headsI]
theorem heads_snoc (rows : List (List Pr)) (p : Pr) (tl : List Pr) : (headsI 0 (rows ++ [p :: tl])).Perm (((rows.length : Int), -p.s) :: headsI 0 rows) := by
  rw [headsI_app]
  simp only [headsI, Nat.zero_add]
  exact List.perm_append_comm
theorem heads_no {rows : List (List Pr)} {k : Nat} (h : rows.getD k [] = []) {r : Its Int} (hp : r.Perm (headsI 0 rows)) : hasI (k : Int) r = false := by
  refine hasI_no fun x hx e => ?_
  obtain ⟨j, p, tl, hj, rfl⟩ := (headsI_mem rows 0 x).1 (hp.subset hx)
  simp only [Nat.zero_add] at e
  have : j = k := by omega
  subst this
  rw [List.getD_eq_getElem?_getD, hj] at h
  cases h
set_option maxRecDepth 20000 in
theorem eachP_ok (x : Inst) (ss : List Stop) : Pure Tryz.prog 92 [.agg (instL x), L ss] (.fn (.func 124) [] [.ip [L ss], .ip (instL x)]) := by
  refine pwe Tryz.func92 Tryz.ntmps92 Tryz.results92 fun S nx hd => ?_
  repeat refine pw_seq ?_
  refine pwn ?_
  intro v0 v1
  repeat refine pw_seq ?_
  refine pwn ?_
  intros
  refine pw_frq 0 rfl ?_
  refine pw_frq 1 rfl ?_
  repeat refine pw_seq ?_
  exact pw_ret (ret_pure hd (by simp; rfl) rfl)
set_option maxRecDepth 20000 in
theorem each_iter (x : Inst) (ss : List Stop) (hx : ArcOk x) (hss : ss.length ≤ 1048576) (hs : ∀ s ∈ ss, small s.c) (hnd : (ss.map (·.c)).Nodup) : Iter Tryz.prog 124 [.ip [L ss], .ip (instL x)] ((pairsP x (ss.map (·.c))).map prV) := by
  have hcust := fun S nx hd => custP_own ss hss S nx hd
  obtain ⟨zs, hzs⟩ : ∃ zs, zs = ss.map (·.c) := ⟨_, rfl⟩
  have hzl : ss.length = zs.length := by rw [hzs]; simp
  rw [← hzs, hzl] at hcust
  rw [← hzs] at hnd ⊢
  have hzsm : ∀ b ∈ zs, small b := by
    intro b hb; rw [hzs] at hb; obtain ⟨s, h1, rfl⟩ := List.mem_map.1 hb; exact hs s h1
  have hz1 := sortZ_le zs
  have hz2 := sortZ_perm zs
  have hz3 := (sortZ_nodup zs).2 hnd
  have hz4 := sortZ_len zs
  have hz5 : pairsP x zs = pairsP x (sortZ zs) := pairsP_perm_eq hnd hz3 hz2.symm
  have hz6 : (sortZ zs).Pairwise (· < ·) := (List.Pairwise.and hz1 hz3).imp fun ⟨h1, h2⟩ => by omega
  have hzn : zs.length ≤ 1048576 := by omega
  have hcsm : ∀ b ∈ sortZ zs, small b := fun b hb => hzsm b (hz2.subset hb)
  have hsort := fun (S : Store) (id ver : Nat) (hid : S id = .cells ver 3 (zs.flatMap Enc.enc)) => sort_ok zs hid hzn
  rw [hz5]
  generalize sortZ zs = c at *
  clear hzs hz1 hz5
  refine iter_enter Tryz.func124 (by rfl) rfl Tryz.ntmps124 (congrArg Array.toList Tryz.results124) (by simp) fun l V keep nx J hJd hY A0 hA0 => ?_
  repeat refine pw_seq ?_
  refine pw_N [] (by rfl) (by rfl) fun K Gc Gh hK hGc hGh X hX0 hX => ?_
  simp -implicitDefEqProofs [hX0, hX]
  try clear hX0 hX X
  refine hGc _ _ _ _ _ _ _ fun hsuf => ((hcust _ _ ext_dead).mono ?_).v
  rintro _ _ ⟨v1, rfl, rfl⟩
  refine ⟨_, _, ext_push1 _, ?_⟩
  clear hGc hGh
  clear Gc Gh
  refine xs_go hsuf (D := []) (by rfl) fun Gc Gh hGc hGh X hX0 hX => ?_
  simp -implicitDefEqProofs [hX0, hX, Nat.add_assoc]
  clear hX0 hX X
  intros
  refine hK _ _ _ ?_
  clear hK hGc hGh
  clear K Gc Gh
  repeat refine pw_seq ?_
  refine pw_N [] (by rfl) (by rfl) fun K Gc Gh hK hGc hGh X hX0 hX => ?_
  simp -implicitDefEqProofs [hX0, hX]
  try clear hX0 hX X
  refine hGc _ _ _ _ _ _ _ fun hsuf => ((hsort _ _ _ (by simp)).mono ?_).v
  rintro _ _ rfl
  refine ⟨_, _, ext_set _ (by simp) (by simp), ?_⟩
  clear hGc hGh
  clear Gc Gh
  refine xs_go hsuf (D := []) (by rfl) fun Gc Gh hGc hGh X hX0 hX => ?_
  simp -implicitDefEqProofs [hX0, hX]
  clear hX0 hX X
  intros
  refine hK _ _ _ ?_
  clear hK hGc hGh
  clear K Gc Gh
  rw [← hz4]
  refine pw_frz 1 rfl ?_
  repeat refine pw_seq ?_
  refine pw_N [] (by rfl) (by rfl) fun K Gc Gh hK hGc hGh X hX0 hX => ?_
  simp -implicitDefEqProofs [hX0, hX]
  try clear hX0 hX X
  refine hGc _ _ _ _ _ _ _ fun hsuf => (hxNew.mono ?_).v
  rintro p _ ⟨hv, mv, o1, rfl, m1, rfl⟩
  refine ⟨_, _, rfl, ?_⟩
  clear hGc hGh
  clear Gc Gh
  refine xs_go hsuf (D := []) (by rfl) fun Gc Gh hGc hGh X hX0 hX => ?_
  simp -implicitDefEqProofs [hX0, hX]
  clear hX0 hX X
  intros
  refine hK _ _ _ ?_
  clear hK hGc hGh
  clear K Gc Gh
  simp at m1
  repeat refine pw_seq ?_
  refine pwn ?_
  refine ⟨by omega, fun v0 => ?_⟩
  intros
  repeat refine pw_seq ?_
  refine pwn ?_
  intros
  repeat refine pw_seq ?_
  have hpw : ∀ (row : List Pr) (a : Int), row = rowP x c a → ∀ p ∈ row, IntKind.i64.wrap (-p.s) = -p.s := by
    intro row a e p hp
    rw [e] at hp
    have h1 := (rowP_perm x c a).subset hp
    unfold prsOf at h1
    obtain ⟨b, _, rfl⟩ := List.mem_map.1 h1
    have := savZ_le hx a b
    show IntKind.i64.wrap (-savZ x a b) = -savZ x a b
    exact wr _ (by omega) (by omega)
  refine pw_block (pw_loopL (fun s : Nat × Its Int × (Ob × Ob × Ob) × Nat => s.1 ≤ c.length ∧ s.2.1.Perm (headsI 0 (rowsK x c s.1)) ∧ HX s.2.2.1 (nx + 2) hv mv s.2.1) (fun (k, its, o, v) => [(0, yld l), (2, .ip (instL x)), (4, L c), (5, .ptr (nx + 3) hv 0), (6, .sl (nx + 5) v 1 0 c.length), (21, L c), (22, I c.length), (23, I k)]) (fun (k, its, o, v) => [.dead, .dead, o.1, o.2.1, o.2.2, .cells v 178 (rowsC (rowsK x c k) c.length)]) (fun s => c.length - s.1) (0, [], o1, v0) [] ⟨by simp, by simp [rowsK_zero, headsI], m1⟩ (by simp) (by simp [rowsK_zero, rowsC_zero]) ?_)
  rintro ⟨k, its, o, v⟩ ⟨hk, hp, hm⟩
  simp only at hk hp hm ⊢
  repeat refine pw_seq ?_
  refine pwn ?_
  intros
  repeat refine pw_seq ?_
  refine pw_cond rfl (fun hq => ?_) (fun hq => ?_)
  · simp at hq
    obtain ⟨a, tl, a1, a2, a3, e0⟩ := el1 rfl c k hq
    have hkl := rowsK_len x c k (by omega)
    have hks := rowsK_succ (x := x) a3
    have hput := rowsC_put (rowsK x c k) c.length (rowP x c a) (by omega)
    have hat := rowsC_at (rowsK x c k) c.length (rowP x c a)
    have hrl := rowsC_len (rowsK x c k) c.length (by omega)
    have hrl2 := rowsC_len (rowsK x c k ++ [rowP x c a]) c.length (by simp; omega)
    rw [hkl] at hput hat
    have hno : hasI (k : Int) its = false := heads_no (k := k) (rows := rowsK x c k) (by rw [List.getD_eq_getElem?_getD, List.getElem?_eq_none (by omega)]; rfl) hp
    have hil : its.length ≤ k := by rw [hp.length_eq]; exact Nat.le_trans (headsI_len _ _) (by omega)
    refine pw_skip (pw_seq (pw_block ?_))
    repeat refine pw_seq ?_
    refine pwN [] (jn2 e0 hq) ?_
    intros
    repeat refine pw_seq ?_
    refine pwn ?_
    refine pwC [] (rowOf_ok x c a hx (by omega) hcsm (hcsm a (List.mem_of_getElem? a1))) (jn3 hput hrl hq) ?_
    refine ⟨by omega, ?_⟩
    intros
    have hw := hpw (rowP x c a) a rfl
    have hsn := heads_snoc (rowsK x c k)
    have hsn0 := heads_snoc_nil (rowsK x c k)
    generalize hrow : rowP x c a = row at *
    have hat2 : ∀ h, (rowsC (rowsK x c k ++ [row]) c.length)[k]'h = L row := fun h => (List.getElem?_eq_some_iff.1 hat).2
    repeat refine pw_seq ?_
    refine pwN [] (jn3 hat2 hq hrl2) ?_
    intros
    cases row with
    | nil =>
      repeat refine pw_seq ?_
      refine pw_cf rfl ?_
      refine pw_skip ?_
      repeat refine pw_seq ?_
      refine pwn ?_
      intros
      refine again_mk (k + 1, its, o, v) [] ⟨hq, ?_, hm⟩ (by simp; omega) (by simp [wrN k (by omega)]) rfl (by simp [hks])
      simp only [hks, hsn0]
      exact hp
    | cons p rl =>
      have hwp := hw p (by simp)
      repeat refine pw_seq ?_
      refine pw_ct (by simp) ?_
      repeat refine pw_seq ?_
      refine pw_N [] (by rfl) (by rfl) fun K Gc Gh hK hGc hGh X hX0 hX => ?_
      simp -implicitDefEqProofs [hX0, hX, hat2, hq, hrl2, hwp]
      try clear hX0 hX X
      refine hGc _ _ _ _ _ _ _ fun hsuf => ((hxPut (j := 2) hm rfl rfl rfl (k : Int) (-p.s) (by omega)).mono ?_).v
      rintro _ T ⟨rfl, o2, m2, rfl⟩
      refine ⟨_, _, rfl, ?_⟩
      rw [hno] at m2
      simp only [cond_false] at m2
      clear hGc hGh
      clear Gc Gh
      refine xs_go hsuf (D := []) (by rfl) fun Gc Gh hGc hGh X hX0 hX => ?_
      simp -implicitDefEqProofs [hX0, hX]
      clear hX0 hX X
      intros
      refine hK _ _ _ ?_
      clear hK hGc hGh
      clear K Gc Gh
      repeat refine pw_seq ?_
      refine pwn ?_
      intros
      refine again_mk (k + 1, insI ((k : Int), -p.s) its, o2, v) [] ⟨hq, ?_, m2⟩ (by simp; omega) (by simp [wrN k (by omega)]) rfl (by simp [hks])
      simp only [hks]
      have := hsn p rl
      rw [hkl] at this
      exact (insI_perm _ _).trans ((hp.cons _).trans this.symm)
  · simp at hq
    obtain rfl : k = c.length := by omega
    obtain ⟨hb1, hb2, hb3⟩ := rows_begin (x := x) hz6
    rw [← rowsK_all] at hb1 hb2 hb3
    have hrl := rowsK_len x c c.length (Nat.le_refl _)
    have hrc := rowsC_all (rowsK x c c.length)
    rw [hrl] at hrc
    rw [hrc]
    generalize rowsK x c c.length = rows at *
    refine pw_exit ?_
    repeat refine pw_seq ?_
    refine pw_block (pw_loopB (σ := Nat × Store × List (List Pr) × Its Int × (Ob × Ob × Ob) × Nat) (fun s => s.1 ≤ (pairsP x c).length ∧ J s.1 s.2.1 ∧ Rows' c s.2.2.1 ∧ (∀ r ∈ s.2.2.1, Sd plt r) ∧ s.2.2.1.flatten.Perm ((pairsP x c).drop s.1) ∧ s.2.2.2.1.Perm (headsI 0 s.2.2.1) ∧ HX s.2.2.2.2.1 (nx + 2) hv mv s.2.2.2.1) (fun s => [(0, yld l), (5, .ptr (nx + 3) hv 0), (6, .sl (nx + 5) s.2.2.2.2.2 1 0 c.length)]) (fun s => s.2.1) (fun s => [.dead, .dead, s.2.2.2.2.1.1, s.2.2.2.2.1.2.1, s.2.2.2.2.1.2.2, .cells s.2.2.2.2.2 178 (s.2.2.1.flatMap Enc.enc)]) (fun s => (pairsP x c).length - s.1) (at_mk (0, A0, rows, its, o, v) [] ⟨by simp, hA0, hb1, hb2, by simpa using hb3, hp, hm⟩ (by simp) rfl (by simp)) ?_)
    rintro ⟨i, A, rows, its, o, v⟩ ⟨hi, hJ, hr1, hr2, hr3, hp, hm⟩
    simp only at hi hJ hr1 hr2 hr3 hp hm ⊢
    have hrl : rows.length = c.length := hr1.len
    have hs := hm.srt
    repeat refine pw_seq ?_
    refine pw_block ?_
    repeat refine pw_seq ?_
    refine pw_N [] (by rfl) (by rfl) fun K Gc Gh hK hGc hGh X hX0 hX => ?_
    simp -implicitDefEqProofs [hX0, hX]
    try clear hX0 hX X
    refine hGc _ _ _ _ _ _ _ fun hsuf => ((hxTake (j := 2) hm rfl rfl rfl).mono ?_).v
    rintro _ T ⟨rfl, o2, m2, rfl⟩
    refine ⟨_, _, rfl, ?_⟩
    cases its with
    | nil =>
      clear hGc hGh
      clear Gc Gh
      refine xs_go hsuf (D := []) (by rfl) fun Gc Gh hGc hGh X hX0 hX => ?_
      simp -implicitDefEqProofs [hX0, hX, headP, pint, pbool]
      clear hX0 hX X
      intros
      refine hK _ _ _ ?_
      clear hK hGc hGh
      clear K Gc Gh
      have h0 : ∀ r ∈ rows, r = [] := by
        intro r hr
        cases r with
        | nil => rfl
        | cons p tl =>
          obtain ⟨j, hj⟩ := List.mem_iff_getElem?.1 hr
          have := (headsI_mem rows 0 ((j : Int), -p.s)).2 ⟨j, p, tl, hj, by rw [Nat.zero_add]⟩
          rw [List.nil_perm.1 hp] at this
          cases this
      have hfin := merge_end hr3 hi h0
      repeat refine pw_seq ?_
      refine pwN [(2, 61)] undef_eq ?_
      intros
      repeat refine pw_seq ?_
      refine pw_ct rfl ?_
      repeat refine pw_seq ?_
      exact pw_ret (ret_iter (hJd _ _ hJ) rfl (by simpa [hfin] using hJ))
    | cons it r =>
      obtain ⟨q, y, tl, e1, e2, e3, e4, e5, e6, e7⟩ := rows_round hz6 hr1 hr2 hr3 hs hp.symm
      subst e1
      have hql := (List.getElem?_eq_some_iff.1 e2).1
      have hql2 : q < c.length := by omega
      obtain ⟨y', tr, a1, a2, a3, e0⟩ := el1 rfl rows q hql
      rw [e2] at a1; cases a1
      have hil := (List.getElem?_eq_some_iff.1 e4).1
      have hyx : ((pairsP x c).map prV)[i]? = some (prV y) := by rw [List.getElem?_map, e4]; rfl
      clear hGc hGh
      clear Gc Gh
      refine xs_go hsuf (D := []) (by rfl) fun Gc Gh hGc hGh X hX0 hX => ?_
      simp -implicitDefEqProofs [hX0, hX, headP, pint, pbool]
      clear hX0 hX X
      intros
      refine hK _ _ _ ?_
      clear hK hGc hGh
      clear K Gc Gh
      repeat refine pw_seq ?_
      refine pw_N [(2, 61)] (by rfl) (by rfl) fun K Gc Gh hK hGc hGh X hX0 hX => ?_
      simp -implicitDefEqProofs [hX0, hX, e0, hql2, hrl, undef]
      try clear hX0 hX X
      refine hGh _ _ _ _ _ fun hsuf => po_yield rfl rfl rfl (hY _ _ _ _ hyx hJ) ?_
      rintro _ ⟨A', hJ', rfl⟩
      refine ⟨_, _, rfl, ?_⟩
      clear hGc hGh
      clear Gc Gh
      refine xs_go hsuf (D := [(2, 61)]) (by rfl) fun Gc Gh hGc hGh X hX0 hX => ?_
      simp -implicitDefEqProofs [hX0, hX]
      try clear hX0 hX X
      intros
      refine hK _ _ _ ?_
      clear hK hGc hGh
      clear K Gc Gh
      repeat refine pw_seq ?_
      refine pw_cf rfl ?_
      refine pw_skip ?_
      have hsp := splice_rows rows q tl hql
      have hrl2 : (rows.set q tl).length = c.length := by simp [hrl]
      have hql3 : q < (rows.set q tl).length := by omega
      obtain ⟨y', tr', a1, a2, a3, e0'⟩ := el1 rfl (rows.set q tl) q hql3
      rw [List.getElem?_set_self hql] at a1; cases a1
      have hno : hasI (q : Int) r = false := heads_no (rows := rows.set q []) (by rw [List.getD_eq_getElem?_getD, List.getElem?_set_self hql]; rfl) e3
      have hlen : r.length ≤ 1048576 := by rw [e3.length_eq]; exact Nat.le_trans (headsI_len _ _) (by simp; omega)
      have hperm := fun p tz => headsI_set rows 0 q p tz hql
      repeat refine pw_seq ?_
      refine pwN [] (jn4 e0 hql2 hrl hsp) ?_
      refine ⟨by omega, ?_⟩
      intros
      repeat refine pw_seq ?_
      refine pwN [] (jn3 e0' hql2 hrl2) ?_
      intros
      cases tl with
      | nil =>
        repeat refine pw_seq ?_
        refine pw_cf rfl ?_
        refine pw_skip ?_
        exact again_mk (i + 1, A', rows.set q [], r, o2, v) [] ⟨hil, hJ', e5, e6, e7, e3, m2⟩ (by simp; omega) (by simp) rfl (by simp)
      | cons z tz =>
        have hzm : z ∈ (rows.set q (z :: tz)).flatten := List.mem_flatten.2 ⟨z :: tz, List.mem_of_getElem? (List.getElem?_set_self hql), by simp⟩
        have hzp : z ∈ prsAll x c := (pairsP_perm x c).subset (List.mem_of_mem_drop (e7.subset hzm))
        have hzs := (prsAll_mem.1 hzp).2.2.2
        have hwz : IntKind.i64.wrap (-z.s) = -z.s := by
          rw [hzs]
          have := savZ_le hx z.a z.b
          exact wr _ (by omega) (by omega)
        repeat refine pw_seq ?_
        refine pw_ct (by simp) ?_
        repeat refine pw_seq ?_
        refine pw_N [] (by rfl) (by rfl) fun K Gc Gh hK hGc hGh X hX0 hX => ?_
        simp -implicitDefEqProofs [hX0, hX, e0', hql2, hrl2, hwz]
        try clear hX0 hX X
        refine hGc _ _ _ _ _ _ _ fun hsuf => ((hxPut (j := 2) m2 rfl rfl rfl (q : Int) (-z.s) (by simp; omega)).mono ?_).v
        rintro _ T ⟨rfl, o3, m3, rfl⟩
        refine ⟨_, _, rfl, ?_⟩
        simp only [List.tail_cons] at m3
        rw [hno] at m3
        simp only [cond_false] at m3
        clear hGc hGh
        clear Gc Gh
        refine xs_go hsuf (D := []) (by rfl) fun Gc Gh hGc hGh X hX0 hX => ?_
        simp -implicitDefEqProofs [hX0, hX]
        clear hX0 hX X
        intros
        refine hK _ _ _ ?_
        clear hK hGc hGh
        clear K Gc Gh
        refine again_mk (i + 1, A', rows.set q (z :: tz), insI ((q : Int), -z.s) r, o3, v) [] ⟨hil, hJ', e5, e6, e7, ?_, m3⟩ (by simp; omega) (by simp) rfl (by simp)
        have := hperm z tz
        rw [Nat.zero_add] at this
        exact (insI_perm _ _).trans ((e3.cons _).trans this.symm)
open Go Hp
theorem pairsP_le {x : Inst} {c : List Int} (h : c.Nodup) (hc : c.length ≤ 1000) : (pairsP x c).length ≤ 1000000 := by
  rw [pairsP_len h]
  exact Nat.le_trans (Nat.mul_le_mul hc (Nat.sub_le _ _)) (Nat.mul_le_mul_left 1000 hc)
open Go Hp
def prsTo (x : Inst) (c : List Int) (i k : Nat) (a : Int) : List Pr := (c.take i).flatMap (prsOf x c) ++ prsOf x (c.take k) a
theorem prsTo_sub (x : Inst) (c : List Int) (i k : Nat) (a : Int) (h : c[i]? = some a) : (prsTo x c i k a).Sublist (prsAll x c) := by
  unfold prsTo prsAll
  obtain ⟨hi, e⟩ := List.getElem?_eq_some_iff.1 h
  have e3 : c = c.take i ++ a :: c.drop (i + 1) := by
    conv => lhs; rw [← List.take_append_drop i c, List.drop_eq_getElem_cons hi, e]
  have h2 : (prsOf x (c.take k) a).Sublist (prsOf x c a) := ((List.take_sublist k c).filter _).map _
  have h3 : ∀ f : Int → List Pr, c.flatMap f = (c.take i).flatMap f ++ (f a ++ (c.drop (i + 1)).flatMap f) := by
    intro f
    conv => lhs; rw [e3]
    simp
  rw [h3]
  exact (List.Sublist.refl _).append (h2.trans (List.sublist_append_left _ _))
theorem prsTo_next (x : Inst) (c : List Int) (i : Nat) (a : Int) (h : c.take (i + 1) = c.take i ++ [a]) : prsTo x c i c.length a = (c.take (i + 1)).flatMap (prsOf x c) := by
  unfold prsTo
  rw [h, List.take_length]; simp
theorem prsTo_zero (x : Inst) (c : List Int) (i : Nat) (a : Int) : prsTo x c i 0 a = (c.take i).flatMap (prsOf x c) := by simp [prsTo, prsOf]
theorem prsTo_same {x : Inst} {c : List Int} {i k : Nat} {a : Int} (h : c.take (k + 1) = c.take k ++ [a]) : prsTo x c i (k + 1) a = prsTo x c i k a := by
  unfold prsTo
  rw [h, prsOf_snoc]; simp
theorem prsTo_other {x : Inst} {c : List Int} {i k : Nat} {a b : Int} (h : c.take (k + 1) = c.take k ++ [b]) (hab : b ≠ a) : prsTo x c i (k + 1) a = prsTo x c i k a ++ [⟨a, b, savZ x a b⟩] := by
  unfold prsTo
  rw [h, prsOf_snoc, if_pos hab]; simp
theorem put_in {x : Inst} {c : List Int} (hn : c.Nodup) {i k : Nat} {a b : Int} (hi : c[i]? = some a) (h : c.take (k + 1) = c.take k ++ [b]) (hab : b ≠ a) {out : List Pr} (hp : out.Perm (prsTo x c i k a)) (hs : Sd plt out) {j : Nat} (h1 : ∀ (j' : Nat) z, j ≤ j' → out[j']? = some z → plt ⟨a, b, savZ x a b⟩ z = true) (h2 : j = 0 ∨ ∃ z, out[j - 1]? = some z ∧ plt ⟨a, b, savZ x a b⟩ z = false) :
    (out.take j ++ ⟨a, b, savZ x a b⟩ :: out.drop j).Perm (prsTo x c i (k + 1) a) ∧ Sd plt (out.take j ++ ⟨a, b, savZ x a b⟩ :: out.drop j) := by
  have hsub := prsTo_sub x c i (k + 1) a hi
  have hnd := (prsAll_nodup (x := x) hn).sublist hsub
  rw [prsTo_other h hab] at hnd ⊢
  have hno : (⟨a, b, savZ x a b⟩ : Pr) ∉ out := by
    intro hm
    have := List.nodup_append.1 hnd
    exact this.2.2 _ (hp.subset hm) _ (by simp) rfl
  refine ⟨(put_perm out _ j).trans ?_, sd_put plt_str hs hno h1 h2⟩
  exact (hp.cons _).trans (List.perm_append_comm (l₁ := [_]))
set_option maxRecDepth 20000 in
theorem pairsR_ok (x : Inst) (ss : List Stop) (hx : ArcOk x) (hss : ss.length ≤ 1000) (hs : ∀ s ∈ ss, small s.c) (hnd : (ss.map (·.c)).Nodup) : Pure Tryz.prog 71 [.agg (instL x), L ss] (L (pairsP x (ss.map (·.c)))) := by
  obtain ⟨c, hc⟩ : ∃ c, c = ss.map (·.c) := ⟨_, rfl⟩
  have hcl : c.length = ss.length := by rw [hc]; simp
  have hpl := pairsP_le (x := x) hnd (by simpa using hss)
  rw [← hc] at hnd hpl ⊢
  have hat : ∀ (k : Nat) (s : Stop), ss[k]? = some s → c[k]? = some s.c := by intro k s h; rw [hc, List.getElem?_map, h]; rfl
  have htk : ∀ (k : Nat) (s : Stop), ss.take (k + 1) = ss.take k ++ [s] → c.take (k + 1) = c.take k ++ [s.c] := by
    intro k s h; rw [hc, ← List.map_take, h, ← List.map_take]; simp
  have hbig : ∀ l : List Pr, l.Sublist (prsAll x c) → l.length ≤ 1000000 := by
    intro l h
    have h1 := h.length_le
    have h2 := (pairsP_perm x c).length_eq
    omega
  clear hc
  refine pwe Tryz.func71 Tryz.ntmps71 Tryz.results71 fun S nx hd => ?_
  repeat refine pw_seq ?_
  refine pwn ?_
  intro v0
  repeat refine pw_seq ?_
  refine pwn ?_
  intros
  refine pw_seq (pw_nil_lst 5 rfl ?_)
  repeat refine pw_seq ?_
  refine pwn ?_
  intros
  repeat refine pw_seq ?_
  refine pw_block (pw_loopL (fun s : Nat × List Pr => s.1 ≤ ss.length ∧ s.2.Perm ((c.take s.1).flatMap (prsOf x c)) ∧ Sd plt s.2) (fun (i, out) => [(1, L ss), (2, .ptr nx v0 0), (5, L out), (6, I i)]) (fun (i, out) => [.cells v0 25 (instL x)]) (fun s => ss.length - s.1) (0, []) [] ⟨by simp, by simp, List.Pairwise.nil⟩ (by simp) (by simp) ?_)
  rintro ⟨i, out⟩ ⟨hi, hp, hsd⟩
  simp only at hi hp hsd ⊢
  repeat refine pw_seq ?_
  refine pwn ?_
  intros
  repeat refine pw_seq ?_
  refine pw_cond rfl (fun hq => ?_) (fun hq => ?_)
  · simp at hq
    obtain ⟨s, tl, a1, a2, a3, e1, e0⟩ := el 2 rfl ss i hq
    have hai := hat i s a1
    have hsa := hs s (List.mem_of_getElem? a1)
    rw [← prsTo_zero x c i s.c] at hp
    refine pw_skip (pw_seq (pw_block ?_))
    repeat refine pw_seq ?_
    refine pwn ?_
    intros
    repeat refine pw_seq ?_
    refine pw_block (pw_loopL (fun t : Nat × List Pr => t.1 ≤ ss.length ∧ t.2.Perm (prsTo x c i t.1 s.c) ∧ Sd plt t.2) (fun (k, out) => [(1, L ss), (2, .ptr nx v0 0), (5, L out), (6, I i), (7, I k)]) (fun (k, out) => [.cells v0 25 (instL x)]) (fun t => ss.length - t.1) (0, out) [] ⟨by simp, hp, hsd⟩ (by simp) (by simp) ?_)
    clear hp hsd out
    rintro ⟨k, out⟩ ⟨hk, hp, hsd⟩
    simp only at hk hp hsd ⊢
    repeat refine pw_seq ?_
    refine pwn ?_
    intros
    repeat refine pw_seq ?_
    refine pw_cond rfl (fun hq2 => ?_) (fun hq2 => ?_)
    · simp at hq2
      obtain ⟨t, tl2, b1, b2, b3, f1, f0⟩ := el 2 rfl ss k hq2
      have hst := hs t (List.mem_of_getElem? b1)
      have hck := htk k t b3
      have hol : out.length ≤ 1000000 := by rw [hp.length_eq]; exact hbig _ (prsTo_sub x c i k s.c hai)
      refine pw_skip (pw_seq (pw_block ?_))
      repeat refine pw_seq ?_
      refine pwn ?_
      intros
      repeat refine pw_seq ?_
      refine pw_cond rfl (fun hik => ?_) (fun hik => ?_)
      · simp at hik
        obtain rfl : i = k := by omega
        rw [a1] at b1; cases b1
        refine pw_exit ?_
        repeat refine pw_seq ?_
        refine pwn ?_
        intros
        exact again_mk (i + 1, out) [] ⟨hq2, by rw [prsTo_same hck]; exact hp, hsd⟩ (by simp; omega) (by simp [wrN i (by omega)]) rfl (by simp)
      · simp at hik
        have hba : t.c ≠ s.c := by
          intro e
          have hck2 := hat k t b1
          obtain ⟨g1, g2⟩ := List.getElem?_eq_some_iff.1 hai
          obtain ⟨g3, g4⟩ := List.getElem?_eq_some_iff.1 hck2
          have hp2 := List.pairwise_iff_getElem.1 hnd
          rcases Nat.lt_trichotomy i k with h | h | h
          · exact hp2 i k g1 g3 h (by rw [g2, g4, e])
          · exact hik (by omega)
          · exact hp2 k i g3 g1 h (by rw [g2, g4, e])
        have hput := fun j => put_in (x := x) hnd hai hck hba hp hsd (j := j)
        have hnx := prsTo_other (x := x) (i := i) hck hba
        obtain ⟨p, hpp⟩ : ∃ p : Pr, p = ⟨s.c, t.c, savZ x s.c t.c⟩ := ⟨_, rfl⟩
        have hp1 : s.c = p.a := by rw [hpp]
        have hp2 : t.c = p.b := by rw [hpp]
        have hp3 : savZ x s.c t.c = p.s := by rw [hpp]
        rw [← hpp] at hput
        refine pw_skip ?_
        repeat refine pw_seq ?_
        refine pwY (some [nx]) (Row.pures [0, 1, 2, 3, 4, 5, 6, 7, 8, 9, 10, 11, 12, 13, 14, 15, 16, 17, 18, 19, 20, 21, 22] (.alt 23 (.alt 24 (.done) .stop) .stop)) mixed (jn6 e1 e0 f1 f0 hq hq2) ?_
        refine pwP (savesR_ok x s.c t.c hx hsa hst) (jn6 e1 e0 f1 f0 hq hq2) ?_
        intro v1
        intros
        rw [hp3, hp1, hp2]
        repeat refine pw_seq ?_
        refine pwn ?_
        intros
        repeat refine pw_seq ?_
        refine pw_joinK (nx := nx) (fun j : Nat => j ≤ out.length ∧ (∀ (j' : Nat) z, j ≤ j' → out[j']? = some z → plt p z = true) ∧ (j = 0 ∨ ∃ z, out[j - 1]? = some z ∧ plt p z = false)) (fun j => [(1, L ss), (2, .ptr nx v0 0), (5, L out), (6, I i), (7, I k), (8, .ptr (nx + 1) v1 0), (9, I j)]) (fun _ => S) (fun j => [.cells v0 25 (instL x), .cells v1 117 (Enc.enc p)]) ?_ ?_
        · refine pw_block (pw_loopL (fun j : Nat => j ≤ out.length ∧ (∀ (j' : Nat) z, j ≤ j' → out[j']? = some z → plt p z = true)) (fun j => [(1, L ss), (2, .ptr nx v0 0), (5, L out), (6, I i), (7, I k), (8, .ptr (nx + 1) v1 0), (9, I j)]) (fun j => [.cells v0 25 (instL x), .cells v1 117 (Enc.enc p)]) (fun j => j) out.length [] ⟨Nat.le_refl _, fun j' z h1 h2 => by have := (List.getElem?_eq_some_iff.1 h2).1; omega⟩ (by simp) (by simp) ?_)
          rintro j ⟨hj, hj2⟩
          by_cases h0 : 0 < j
          · obtain ⟨m, rfl⟩ : ∃ m, j = m + 1 := ⟨j - 1, by omega⟩
            obtain ⟨z, tz, c1, c2, c3, g1, g0⟩ := el 3 rfl out m (by omega)
            have wm : IntKind.i64.wrap (m : Int) = m := wr _ (by omega) (by omega)
            have hm1 : m < out.length := by omega
            have hm2 : (0 : Int) < (m : Int) + 1 := by omega
            repeat refine pw_seq ?_
            refine pwY none (Row.pures [0, 1, 2, 3, 4, 5, 6, 7, 8, 9, 10] .done) mixed (jn6 wm hm1 hm2 g1 g0 undef_eq) ?_
            refine pwP (aheadR_ok p z) (jn6 wm hm1 hm2 g1 g0 undef_eq) ?_
            intros
            repeat refine pw_seq ?_
            refine pw_cond rfl (fun ha => ?_) (fun ha => ?_)
            · refine pw_skip (pw_block ?_)
              repeat refine pw_seq ?_
              refine pwN [] wm ?_
              intros
              refine again_mk m [] ⟨by omega, fun j' z' h1 h2 => ?_⟩ (by simp) (by simp [wm]) rfl (by simp)
              by_cases e : j' = m
              · subst e; rw [c1] at h2; cases h2; exact ha
              · exact hj2 j' z' (by omega) h2
            · refine pw_exit ?_
              exact at_mk (m + 1) [] ⟨hj, hj2, .inr ⟨z, c1, ha⟩⟩ (by simp) rfl (by simp)
          · obtain rfl : j = 0 := by omega
            repeat refine pw_seq ?_
            refine pwY none (Row.pures [0, 1, 2, 3, 4, 5, 6, 7, 8, 9, 10] .done) mixed undef_eq ?_
            intros
            repeat refine pw_seq ?_
            refine pw_cf rfl ?_
            refine pw_exit ?_
            exact at_mk 0 [] ⟨hj, hj2, .inl rfl⟩ (by simp) rfl (by simp)
        · rintro j ⟨hj, hj1, hj2⟩
          obtain ⟨r1, r2⟩ := hput j hj1 hj2
          have htk3 : (out.flatMap Enc.enc).take (j * 3) = (out.take j).flatMap Enc.enc := flat_take Enc.enc 3 (fun _ => rfl) out j
          have hdr3 : (out.flatMap Enc.enc).drop (j * 3) = (out.drop j).flatMap Enc.enc := flat_drop Enc.enc 3 (fun _ => rfl) out j
          repeat refine pw_seq ?_
          refine pwn ?_
          intros
          refine pw_seq (pw_nilX 10 117 3 rfl fun v2 => ?_)
          repeat refine pw_seq ?_
          refine pwN [] (jn2 htk3 hj) ?_
          refine ⟨by omega, ?_⟩
          intros
          have hjl : (out.take j).length = j := by simp; omega
          have hfl : ((out.take j).flatMap Enc.enc).length = j * 3 := by rw [flen_pr, hjl]
          have hjm : min j out.length = j := by omega
          have htt : ((out.take j).flatMap Enc.enc).take (j * 3) = (out.take j).flatMap Enc.enc := List.take_of_length_le (by omega)
          have hw1 : ((out.take j).flatMap Enc.enc ++ Enc.enc p).length = (j + 1) * 3 := by simp [hfl]; omega
          have hw2 : ((out.take j).flatMap Enc.enc ++ Enc.enc p).take ((j + 1) * 3) = (out.take j).flatMap Enc.enc ++ Enc.enc p := List.take_of_length_le (by omega)
          simp only [enc_pr] at hw1 hw2
          repeat refine pw_seq ?_
          refine pwN [] (jn3 hfl hjm htt) ?_
          refine ⟨by omega, ?_⟩
          intros
          repeat refine pw_seq ?_
          refine pwN [] (jn4 hdr3 hj hw1 hw2) ?_
          refine ⟨by omega, ?_⟩
          intros
          refine pw_frz 2 rfl ?_
          repeat refine pw_seq ?_
          refine pwn ?_
          intros
          have hol2 : (out.take j ++ p :: out.drop j).length = out.length + 1 := by simp; omega
          refine again_mk (k + 1, out.take j ++ p :: out.drop j) [_, _] ⟨hq2, hp1 ▸ r1, r2⟩ (by simp; omega) ?_ rfl (by simp; exact ⟨rfl, rfl⟩)
          simp [wrN k (by omega), hol2]
          have x1 : j + 1 + (out.length - j) = out.length + 1 := by omega
          have x2 : ((out.drop j).flatMap Enc.enc).take ((out.length - j) * 3) = (out.drop j).flatMap Enc.enc := List.take_of_length_le (by rw [flen_pr]; simp)
          rw [if_pos (by omega), x2, x1]
          simp [hol2]
    · simp at hq2
      obtain rfl : k = c.length := by omega
      rw [prsTo_next x c i s.c (htk i s a3)] at hp
      refine pw_exit ?_
      repeat refine pw_seq ?_
      refine pwn ?_
      intros
      exact again_mk (i + 1, out) [] ⟨hq, hp, hsd⟩ (by simp; omega) (by simp [wrN i (by omega)]) rfl (by simp)
  · simp at hq
    obtain rfl : i = c.length := by omega
    rw [List.take_length] at hp
    have : out = pairsP x c := pairsP_of hnd hp hsd
    subst this
    refine pw_exit ?_
    repeat refine pw_seq ?_
    refine pwn ?_
    intros
    repeat refine pw_seq ?_
    exact pw_ret (ret_pure hd rfl rfl)
open Go Hp
def joinTo (x : Inst) (ss : List Stop) (i : Nat) : Day × Int := ((pairsP x (ss.map (·.c))).take i).foldl (joinS x) (ss.map fun s => [s], (ss.length : Int))
theorem joinTo_zero (x : Inst) (ss : List Stop) : joinTo x ss 0 = (ss.map fun s => [s], (ss.length : Int)) := by simp [joinTo]
theorem joinTo_succ {x : Inst} {ss : List Stop} {i : Nat} {p : Pr} (h : (pairsP x (ss.map (·.c)))[i]? = some p) : joinTo x ss (i + 1) = joinS x (joinTo x ss i) p := by
  unfold joinTo
  obtain ⟨h1, e⟩ := List.getElem?_eq_some_iff.1 h
  rw [List.take_succ_eq_append_getElem h1, e, List.foldl_append]; rfl
theorem joinTo_all (x : Inst) (ss : List Stop) : joinTo x ss (pairsP x (ss.map (·.c))).length = joinAll x ss := by simp [joinTo, joinAll]
theorem joinS_num (x : Inst) (T : Day) (num : Int) (p : Pr) : num - 1 ≤ (joinS x (T, num) p).2 ∧ (joinS x (T, num) p).2 ≤ num := by
  unfold joinS joinAt
  cases joinC x (T, num).2 p (placeT (T, num).1 p.a) (placeT (T, num).1 p.b) ((T, num).1.getD (placeT (T, num).1 p.a) []) ((T, num).1.getD (placeT (T, num).1 p.b) []) <;> simp <;> omega
set_option maxRecDepth 20000 in
set_option maxHeartbeats 1600000 in
theorem join_all_ok (x : Inst) (ss : List Stop) (hx : ArcOk x) (hxc : x.cust.length ≤ 1048576) (hss : ss.length ≤ 1000) (hs : ∀ s ∈ ss, small s.c) (hnd : (ss.map (·.c)).Nodup) : Pure Tryz.prog 61 [.agg (instL x), L ss] (.agg [L (joinP x ss)]) := by
  have hpl := pairsP_le (x := x) hnd (by simpa using hss)
  have hkey : KeyOk (.int .i64) keyI := keyOk_int .i64
  have hdist : ∀ k s, ss[k]? = some s → s.c ∉ (ss.take k).map (·.c) := by
    intro k s h hm
    obtain ⟨s', h1, h2⟩ := List.mem_map.1 hm
    obtain ⟨j, hj⟩ := List.mem_iff_getElem?.1 h1
    rw [List.getElem?_take] at hj
    split at hj
    · rename_i hjk
      have e1 : (ss.map (·.c))[j]? = some s.c := by rw [List.getElem?_map, hj, ← h2]; rfl
      have e2 : (ss.map (·.c))[k]? = some s.c := by rw [List.getElem?_map, h]; rfl
      obtain ⟨g1, g2⟩ := List.getElem?_eq_some_iff.1 e1
      obtain ⟨g3, g4⟩ := List.getElem?_eq_some_iff.1 e2
      exact List.pairwise_iff_getElem.1 hnd j k g1 g3 hjk (g2.trans g4.symm)
    · cases hj
  refine pwe Tryz.func61 Tryz.ntmps61 Tryz.results61 fun S nx hd => ?_
  repeat refine pw_seq ?_
  refine pwn ?_
  intro v0 v1
  repeat refine pw_seq ?_
  refine pwn ?_
  intro v2 v3 v4
  refine pw_nilObX 3 6 26 1 rfl rfl fun v5 => ?_
  repeat refine pw_seq ?_
  refine pwn ?_
  intros
  repeat refine pw_seq ?_
  refine pw_block (pw_loopL (fun s : Nat × Day × List (Value × PV) × (Int → Option Int) × Nat => s.1 ≤ ss.length ∧ s.2.1 = (ss.take s.1).map (fun s => [s]) ∧ MapIs keyI I s.2.2.1 s.2.2.2.1 ∧ JI (ss.take s.1) s.2.1 s.2.2.2.1) (fun (k, T, es, g, v5) => [(1, L ss), (2, .ptr nx v0 0), (4, .ptr (nx + 1) v1 0), (5, .ptr (nx + 4) v4 0), (18, L ss), (19, I ss.length), (20, I k)])
    (fun (k, T, es, g, v5) => [.cells v0 25 (instL x), .cells v1 35 [.sc (.slice none 0 0)], .map v2 es, .cells v3 136 (jcells x (nx + 5) v5 k ss.length (nx + 2) v2), .cells v4 133 [.ptr (nx + 3) v3 0], .cells v5 26 (T.flatMap Enc.enc)]) (fun s => ss.length - s.1) (0, [], [], fun _ => none, v5) [] ⟨by simp, by simp, mapIs_nil _ _, by simpa using JI.nil⟩ (by simp) (by simp) ?_)
  rintro ⟨k, T, es, g, v5⟩ ⟨hk, hT, hm, hI⟩
  simp only at hk hT hm hI ⊢
  have hTl : T.length = k := by rw [hT]; simp; omega
  repeat refine pw_seq ?_
  refine pwn ?_
  intros
  repeat refine pw_seq ?_
  refine pw_cond rfl (fun hq => ?_) (fun hq => ?_)
  · simp at hq
    obtain ⟨s, tl, a1, a2, a3, e1, e0⟩ := el 2 rfl ss k hq
    obtain ⟨rs, f1, _, _, f4, _⟩ := hm.find hkey s.c
    have hnew := f4 (k : Int)
    have hIn := hI.snoc s (hdist k s a1)
    have hkl : (ss.take k).length = k := by simp; omega
    rw [hkl, ← a3] at hIn
    have hTs : T ++ [[s]] = (ss.take (k + 1)).map fun s => [s] := by rw [a3, hT]; simp
    have htf : (T.flatMap Enc.enc).take k = T.flatMap Enc.enc := List.take_of_length_le (by rw [flen_list]; omega)
    have htl : (T.flatMap Enc.enc).length = k := by rw [flen_list, hTl]
    refine pw_skip (pw_seq (pw_block ?_))
    repeat refine pw_seq ?_
    refine pwN [] (jn3 e1 e0 hq) ?_
    intro v6
    repeat refine pw_seq ?_
    refine pwY (some [nx + 4, nx + 6]) (Row.pures [0, 1, 2, 3, 5, 6, 7] (.alt 4 (.alt 8 (Row.pures [9, 10] (.alt 11 (.done) .stop)) .stop) .stop)) mixed (jn2 htf htl) ?_
    refine ⟨⟨by omega, by omega⟩, ?_⟩
    intros
    repeat refine pw_seq ?_
    refine pw_Y (some [nx + 3, nx + 4, nx + 6]) (Row.pures [0, 1, 2, 3, 4, 5, 6] (.alt 7 (.done) .stop)) mixed (by rfl) (by rfl) (by rfl) fun K Gp Gc Gh hK hGp hGc hGh X hX0 hX1 hX2 hX => ?_
    simp -implicitDefEqProofs [hX0, hX1, hX2, hX]
    try clear hX0 hX1 hX2 hX X
    refine hGh _ _ _ _ _ (by rfl) (po_mapUpdate (.inl rfl) Tryz.underlying134 Tryz.underlying3 rfl rfl rfl (by simp) f1 ?_)
    rw [ext_set _ (by omega) (by simp), show nx + 2 - nx = 2 from by omega]
    refine ⟨by simp [Agree], ?_⟩
    clear hGp hGc hGh
    clear Gp Gc Gh
    refine px_go fun Gp Gc Gh hGp hGc hGh X hX0 hX1 hX2 hX => ?_
    simp -implicitDefEqProofs [hX0, hX1, hX2, hX]
    try clear hX0 hX1 hX2 hX X
    refine hK _ _ _ ?_
    clear hK hGp hGc hGh
    clear K Gp Gc Gh
    repeat refine pw_seq ?_
    refine pwn ?_
    intros
    exact again_mk (k + 1, T ++ [[s]], putP (keyI s.c) (I k) es rs, updM g s.c (some (k : Int)), v5 + 1) [_] ⟨hq, hTs, hnew, hIn⟩ (by simp; omega) (by simp [wrN k (by omega)]) rfl (by simp; rfl)
  · simp at hq
    obtain rfl : k = ss.length := by omega
    rw [List.take_length] at hT hI
    refine pw_exit ?_
    repeat refine pw_seq ?_
    refine pwn ?_
    refine pwc (eachP_ok x ss) ?_
    intros
    repeat refine pw_seq ?_
    refine pw_block (pw_rangeFunc (xs := (pairsP x (ss.map (·.c))).map prV) (σ := Day × Int × List (Value × PV) × (Int → Option Int)) (fun i s => (s.1, s.2.1) = joinTo x ss i ∧ i ≤ (pairsP x (ss.map (·.c))).length ∧ MapIs keyI I s.2.2.1 s.2.2.2 ∧ JI ss s.1 s.2.2.2 ∧ (ss.length : Int) - i ≤ s.2.1 ∧ s.2.1 ≤ ss.length) [(4, .ptr (nx + 1) v1 0), (5, .ptr (nx + 4) v4 0)] (fun _ => S)
      (fun (T, num, es, g) => [.cells v0 25 (instL x), .cells v1 35 [.sc (.slice none 0 0)], .map v2 es, .cells v3 136 (jcells x (nx + 5) v5 ss.length num (nx + 2) v2), .cells v4 133 [.ptr (nx + 3) v3 0], .cells v5 26 (T.flatMap Enc.enc)]) (T, (ss.length : Int), es, g)
      (each_iter x ss hx (by omega) hs hnd) rfl (by intro x hx; obtain ⟨y, _, rfl⟩ := List.mem_map.1 hx; rfl) (by decide) (by simp) ⟨by rw [joinTo_zero, hT], by simp, hm, hI, by simp, by simp⟩ rfl (by simp) (by simp) ?_ ?_)
    · clear hm hI hT hTl
      rintro l i ⟨T, num, es, g⟩ more y ⟨hst, hi, hm, hI, hn1, hn2⟩ hy
      simp only at hst hi hm hI hn1 hn2 ⊢
      rw [List.getElem?_map] at hy
      obtain ⟨p, hp, rfl⟩ := Option.map_eq_some_iff.1 hy
      obtain ⟨hil, hpi⟩ := List.getElem?_eq_some_iff.1 hp
      have hmem := prsAll_mem.1 ((pairsP_perm x _).subset (List.mem_of_getElem? hp))
      have hsucc := joinTo_succ hp
      rw [← hst] at hsucc
      obtain ⟨nb1, nb2⟩ := joinS_num x T num p
      repeat refine pw_seq ?_
      refine pw_N [] (by rfl) (by rfl) fun K Gc Gh hK hGc hGh X hX0 hX => ?_
      simp -implicitDefEqProofs [hX0, hX, prV]
      try clear hX0 hX X
      intro v6
      refine hK _ _ _ ?_
      clear hK hGc hGh
      clear K Gc Gh
      refine pw_block ?_
      repeat refine pw_seq ?_
      refine pw_N [] (by rfl) (by rfl) fun K Gc Gh hK hGc hGh X hX0 hX => ?_
      simp -implicitDefEqProofs [hX0, hX]
      try clear hX0 hX X
      refine hGc _ _ _ _ _ _ _ fun hsuf => ((join_ok x ss T g num es hxc hss (by omega) hI hm (jid := nx + 3) (tid := nx + 5) (mid := nx + 2) (by rw [ext_at]; rfl) (by rw [ext_at]; rfl) (by rw [ext_at]; rfl) (by omega) (by omega) (by omega) p hmem.1 hmem.2.1).mono ?_).v
      rintro _ _ ⟨es2, g2, m2, i2, rfl⟩
      refine ⟨_, _, (by rw [ext_set _ (by omega) (by simp), ext_set _ (by omega) (by simp), ext_set _ (by omega) (by simp)]), ?_⟩
      clear hGc hGh
      clear Gc Gh
      refine xs_go hsuf (D := []) (by rfl) fun Gc Gh hGc hGh X hX0 hX => ?_
      simp -implicitDefEqProofs [hX0, hX, (show nx + 3 - nx = 3 from by omega), (show nx + 5 - nx = 5 from by omega), (show nx + 2 - nx = 2 from by omega)]
      clear hX0 hX X
      intros
      refine hK _ _ _ ?_
      clear hK hGc hGh
      clear K Gc Gh
      simp only [inBlockQ]
      exact rnd_mk ((joinS x (T, num) p).1, (joinS x (T, num) p).2, es2, g2) [_] ⟨hsucc.symm, by omega, m2, i2, by simp only; omega, by simp only; omega⟩ rfl (by simp; rfl)
    · clear hm hI hT hTl
      rintro ⟨T, num, es, g⟩ ⟨hst, -, hm, hI, -, -⟩
      simp only [List.length_map] at hst hI ⊢
      rw [joinTo_all] at hst
      have hTl := hI.len
      have hjp : joinP x ss = T.filter fun t => !t.isEmpty := by unfold joinP; rw [← hst]
      rw [hjp]
      repeat refine pw_seq ?_
      refine pwn ?_
      intro v6
      refine pw_nilObX 6 0 66 1 rfl rfl fun v7 => ?_
      repeat refine pw_seq ?_
      refine pwn ?_
      intros
      repeat refine pw_seq ?_
      refine pw_block (pw_loopL (fun s : Nat × Day × Nat => s.1 ≤ T.length ∧ s.2.1 = (T.take s.1).filter fun t => !t.isEmpty) (fun (k, out, v7) => [(4, .ptr (nx + 1) v1 0), (9, .ptr (nx + 6) v6 0), (54, .sl (nx + 5) v5 1 0 ss.length), (55, I ss.length), (56, I k)]) (fun (k, out, v7) => [.cells v0 25 (instL x), .cells v1 35 [.sc (.slice none 0 0)], .map v2 es, .cells v3 136 (jcells x (nx + 5) v5 ss.length num (nx + 2) v2), .cells v4 133 [.ptr (nx + 3) v3 0], .cells v5 26 (T.flatMap Enc.enc), .cells v6 35 [.sl (nx + 7) v7 1 0 out.length], .cells v7 66 (out.flatMap Enc.enc)]) (fun s => T.length - s.1) (0, [], v7) [] ⟨by simp, by simp⟩ (by simp) (by simp) ?_)
      rintro ⟨k, out, v7⟩ ⟨hk, ho⟩
      simp only at hk ho ⊢
      have hol : out.length ≤ k := by rw [ho]; exact Nat.le_trans (List.length_filter_le _ _) (by simp; omega)
      repeat refine pw_seq ?_
      refine pwn ?_
      intros
      repeat refine pw_seq ?_
      refine pw_cond rfl (fun hq => ?_) (fun hq => ?_)
      · simp at hq
        obtain ⟨t, tl, a1, a2, a3, e0⟩ := el1 rfl T k (by omega)
        have hfs : (T.take (k + 1)).filter (fun t => !t.isEmpty) = out ++ (if t = [] then [] else [t]) := by
          rw [a3, List.filter_append, ← ho]
          cases t <;> simp
        refine pw_skip (pw_seq (pw_block ?_))
        repeat refine pw_seq ?_
        refine pwN [] (jn3 e0 hq hTl) ?_
        intros
        repeat refine pw_seq ?_
        refine pwn ?_
        intros
        cases t with
        | nil =>
          rw [if_pos rfl, List.append_nil] at hfs
          repeat refine pw_seq ?_
          refine pw_cf (by simp) ?_
          refine pw_skip ?_
          repeat refine pw_seq ?_
          refine pwn ?_
          intros
          exact again_mk (k + 1, out, v7) [] ⟨by omega, hfs.symm⟩ (by simp; omega) (by simp [wrN k (by omega)]) rfl (by simp)
        | cons s t =>
          rw [if_neg (by simp)] at hfs
          repeat refine pw_seq ?_
          refine pw_ct (by simp) ?_
          repeat refine pw_seq ?_
          refine pwn ?_
          refine ⟨by omega, ?_⟩
          intros
          repeat refine pw_seq ?_
          refine pwn ?_
          intros
          exact again_mk (k + 1, out ++ [s :: t], v7 + 1) [] ⟨by omega, hfs.symm⟩ (by simp; omega) (by simp [wrN k (by omega)]) rfl (by simp)
      · simp at hq
        obtain rfl : k = T.length := by omega
        rw [List.take_length] at ho
        refine pw_exit ?_
        refine pw_frz 7 rfl ?_
        repeat refine pw_seq ?_
        refine pwn ?_
        intros
        repeat refine pw_seq ?_
        exact pw_ret (ret_pure hd (by simp; rfl) (by simp [oneOf, ho]))
open Go Hp
abbrev nilS : PV := .sc (.slice none 0 0)
theorem po_eqNil {P : Program} {r : Rd} {n : Nat} {F : Nat → PV} {S : Store} {o : Oper} {x y : Operand} {t e yt : TypeId} {a : Option Addr} {l c : Nat} {K : PV → Store → Prop} (ho : o.op = .binOp .eql t x y yt) (ht : P.underlying t = some (.slice e))
    (hx : ev F x = .sc (.slice a l c)) (hy : ev F y = .sc (.slice none 0 0)) (hK : K (.sc (.bool a.isNone)) S) : PO P r n o F S K := by
  intro G hG C w a' N st next Q' hnext
  have e1 := st.ev x
  have e2 := st.ev y
  rw [(hG x (by simp [ho, Op.operands])).trans hx] at e1
  rw [(hG y (by simp [ho, Op.operands])).trans hy] at e2
  generalize hv1 : a'.eval x = v1 at e1
  generalize hv2 : a'.eval y = v2 at e2
  cases e1
  cases e2
  have hnd : ∀ c, o.op ≠ .defer c := by intro c hc; rw [ho] at hc; cases hc
  refine wpIn_of_run (x := .value (.bool a.isNone)) (w' := w) hnd ?_ (hnext _ _ _ _ _ hK (.sc _) st.sim (.refl _ _ _))
  have hg : (eqGuard .eql t x y (.slice a l c) (.slice none 0 0)).run P w = .ok () w := rfl
  unfold execOp
  simp only [ho, hv1, hv2, hg, Lib.run_eql_slice_nil w t e a l c 0 0 ht, Sem.run_bind, Sem.run_pure, Result.andThen_ok]
set_option maxRecDepth 20000 in
theorem improve0_ok (x : Inst) : Pure Tryz.prog 57 [.agg (instL x), .agg [L ([] : Day)], I 0] (.tup [.agg [L ([] : Day)], I 0]) := by
  refine pwe Tryz.func57 Tryz.ntmps57 Tryz.results57 fun S nx hd => ?_
  repeat refine pw_seq ?_
  refine pwn ?_
  intro v0 v1 v2
  repeat refine pw_seq ?_
  refine pwn ?_
  intro v3
  refine pw_nilC 3 0 rfl rfl ?_
  repeat refine pw_seq ?_
  refine pwn ?_
  intros
  repeat refine pw_seq ?_
  refine pw_block (pw_loopL (fun _ : Nat => True) (fun _ => [(2, I 0), (6, .ptr (nx + 2) v2 0), (8, .ptr (nx + 3) v3 0), (17, I 0), (18, I 0)]) (fun _ => [.cells v0 25 (instL x), .cells v1 35 [L ([] : Day)], .cells v2 35 [nilS], .cells v3 35 [L ([] : Day)]]) (fun k => k) 0 [] trivial (by simp) (by simp) ?_)
  rintro k -
  repeat refine pw_seq ?_
  refine pwn ?_
  intros
  repeat refine pw_seq ?_
  refine pw_cf rfl ?_
  refine pw_exit ?_
  repeat refine pw_seq ?_
  refine pwn ?_
  intros
  repeat refine pw_seq ?_
  refine pw_block (pw_loopL (fun _ : Nat => True) (fun _ => [(2, I 0), (6, .ptr (nx + 2) v2 0), (8, .ptr (nx + 3) v3 0), (11, I 0)]) (fun _ => [.cells v0 25 (instL x), .cells v1 35 [L ([] : Day)], .cells v2 35 [nilS], .cells v3 35 [L ([] : Day)]]) (fun k => k) 0 [] trivial (by simp) (by simp) ?_)
  rintro k -
  repeat refine pw_seq ?_
  refine pwn ?_
  intros
  repeat refine pw_seq ?_
  refine pw_cf rfl ?_
  refine pw_exit ?_
  repeat refine pw_seq ?_
  refine pwn ?_
  intros
  repeat refine pw_seq ?_
  exact pw_ret (ret_pure hd (by simp; rfl) (by simp [oneOf]; rfl))
set_option maxRecDepth 20000 in
theorem clone0_ok : Pure Tryz.prog 79 [nilS] nilS := by
  refine pwe Tryz.func79 Tryz.ntmps79 Tryz.results79 fun S nx hd => ?_
  repeat refine pw_seq ?_
  refine pwn ?_
  intros
  repeat refine pw_seq ?_
  refine pw_N [] (by rfl) (by rfl) fun K Gc Gh hK hGc hGh X hX0 hX => ?_
  simp -implicitDefEqProofs [hX0, hX]
  try clear hX0 hX X
  refine hGh _ _ _ _ _ fun hsuf => po_eqNil rfl Tryz.underlying26 rfl rfl ?_
  refine ⟨_, _, rfl, ?_⟩
  clear hGc hGh
  clear Gc Gh
  refine xs_go hsuf (D := []) (by rfl) fun Gc Gh hGc hGh X hX0 hX => ?_
  simp -implicitDefEqProofs [hX0, hX]
  clear hX0 hX X
  intros
  refine hK _ _ _ ?_
  clear hK hGc hGh
  clear K Gc Gh
  repeat refine pw_seq ?_
  refine pw_ct rfl ?_
  repeat refine pw_seq ?_
  refine pwn ?_
  intros
  repeat refine pw_seq ?_
  exact pw_ret (ret_pure hd (by simp; rfl) rfl)
set_option maxRecDepth 20000 in
theorem regret0_ok (x : Inst) : Pure Tryz.prog 64 [.agg (instL x), nilS] (.tup [.agg [L ([] : Day)], B true]) := by
  refine pwe Tryz.func64 Tryz.ntmps64 Tryz.results64 fun S nx hd => ?_
  repeat refine pw_seq ?_
  refine pwn ?_
  intro v0 v1
  repeat refine pw_seq ?_
  refine pwn ?_
  intro v2
  refine pw_nilC 2 0 rfl rfl ?_
  repeat refine pw_seq ?_
  refine pwn ?_
  refine pwc clone0_ok ?_
  intros
  repeat refine pw_seq ?_
  refine pw_block (pw_loopL (fun _ : Nat => True) (fun _ => [(4, .ptr (nx + 1) v1 0), (6, .ptr (nx + 2) v2 0), (7, nilS)]) (fun _ => [.cells v0 25 (instL x), .cells v1 35 [nilS], .cells v2 35 [L ([] : Day)]]) (fun k => k) 0 [] trivial (by simp) (by simp) ?_)
  rintro k -
  repeat refine pw_seq ?_
  refine pwn ?_
  intros
  repeat refine pw_seq ?_
  refine pw_cf rfl ?_
  refine pw_exit ?_
  repeat refine pw_seq ?_
  refine pwn ?_
  intros
  repeat refine pw_seq ?_
  exact pw_ret (ret_pure hd (by simp; rfl) (by simp [oneOf]))
open Go Hp
def PLike (pl : PV) : Prop := pl = nilS ∨ ∃ n cs, pl = .lst n cs
theorem plike_nil : PLike nilS := .inl rfl
theorem plike_list (l : List Stop) : PLike (L l) := .inr ⟨_, _, rfl⟩
abbrev impF (x : Inst) (b : Int) : PV := .fn (.func 56) [] [.ip (instL x), .ip [I b]]
abbrev fsL (x : Inst) (pl : PV) (b : Int) : List PV := [.fn (.func 58) [] [.ip [pl]], .fn (.func 60) [] [.ip [impF x b], .ip (instL x), .ip [pl]], .fn (.func 62) [] [.ip [impF x b], .ip [pl]], .fn (.func 63) [] [.ip (instL x), .ip [pl], .ip [impF x b]]]
set_option maxRecDepth 20000 in
theorem tries_ok (x : Inst) (pl : PV) (b : Int) (hp : PLike pl) : Pure Tryz.prog 36 [.agg (instL x), pl, I b] (.fn (.func 65) [] [.ip [.lst 4 (fsL x pl b)]]) := by
  rcases hp with rfl | ⟨n, cs, rfl⟩
  all_goals
    refine pwe Tryz.func36 Tryz.ntmps36 Tryz.results36 fun S nx hd => ?_
    repeat refine pw_seq ?_
    refine pwn ?_
    intro v0 v1 v2
    refine pw_frq 0 rfl ?_
    refine pw_frq 1 rfl ?_
    refine pw_frq 2 rfl ?_
    repeat refine pw_seq ?_
    refine pwn ?_
    intro v3
    refine pw_frq 3 rfl ?_
    repeat refine pw_seq ?_
    refine pwn ?_
    intro v4
    refine pw_frq 4 rfl ?_
    repeat refine pw_seq ?_
    refine pwn ?_
    intros
    repeat refine pw_seq ?_
    exact pw_ret (ret_pure hd (by simp; rfl) rfl)
set_option maxRecDepth 20000 in
theorem try1_ok (pl : PV) (d : Day) (hp : PLike pl) (hA : Pure Tryz.prog 59 [pl] (.agg [L d])) : Pure Tryz.prog 58 [.ip [pl]] (.tup [.agg [L d], B true]) := by
  rcases hp with rfl | ⟨n, cs, rfl⟩
  all_goals
    refine pwe Tryz.func58 Tryz.ntmps58 Tryz.results58 fun S nx hd => ?_
    repeat refine pw_seq ?_
    refine pwn ?_
    intro v0
    repeat refine pw_seq ?_
    refine pwn ?_
    refine pwc hA ?_
    intros
    repeat refine pw_seq ?_
    exact pw_ret (ret_pure hd (by simp; rfl) rfl)
set_option maxRecDepth 20000 in
theorem impF_ok (x : Inst) (b : Int) (d e : Day) (n : Int) (hI : Pure Tryz.prog 57 [.agg (instL x), .agg [L d], I b] (.tup [.agg [L e], I n])) : Pure Tryz.prog 56 [.agg [L d], .ip (instL x), .ip [I b]] (.agg [L e]) := by
  refine pwe Tryz.func56 Tryz.ntmps56 Tryz.results56 fun S nx hd => ?_
  repeat refine pw_seq ?_
  refine pwn ?_
  intro v0 v1
  repeat refine pw_seq ?_
  refine pwn ?_
  refine pwc hI ?_
  intros
  repeat refine pw_seq ?_
  refine pwn ?_
  intros
  repeat refine pw_seq ?_
  exact pw_ret (ret_pure hd (by simp; rfl) rfl)
set_option maxRecDepth 20000 in
theorem try2_ok (x : Inst) (pl : PV) (b : Int) (d e : Day) (n : Int) (hp : PLike pl) (hJ : Pure Tryz.prog 61 [.agg (instL x), pl] (.agg [L d])) (hI : Pure Tryz.prog 57 [.agg (instL x), .agg [L d], I b] (.tup [.agg [L e], I n])) : Pure Tryz.prog 60 [.ip [impF x b], .ip (instL x), .ip [pl]] (.tup [.agg [L e], B true]) := by
  have hF := impF_ok x b d e n hI
  rcases hp with rfl | ⟨n, cs, rfl⟩
  all_goals
    refine pwe Tryz.func60 Tryz.ntmps60 Tryz.results60 fun S nx hd => ?_
    repeat refine pw_seq ?_
    refine pwn ?_
    intro v0
    repeat refine pw_seq ?_
    refine pwY (some []) (Row.pures [0, 1, 2, 3, 4] (.alt 5 (Row.pures [6] .done) .stop)) mixed trivial ?_
    refine pwP (hJ) trivial ?_
    refine pwP (hF) trivial ?_
    intros
    repeat refine pw_seq ?_
    exact pw_ret (ret_pure hd (by simp; rfl) rfl)
set_option maxRecDepth 20000 in
theorem try3_ok (x : Inst) (pl : PV) (b : Int) (d e : Day) (n : Int) (hp : PLike pl) (hA : Pure Tryz.prog 59 [pl] (.agg [L d])) (hI : Pure Tryz.prog 57 [.agg (instL x), .agg [L d], I b] (.tup [.agg [L e], I n])) : Pure Tryz.prog 62 [.ip [impF x b], .ip [pl]] (.tup [.agg [L e], B true]) := by
  have hF := impF_ok x b d e n hI
  rcases hp with rfl | ⟨n, cs, rfl⟩
  all_goals
    refine pwe Tryz.func62 Tryz.ntmps62 Tryz.results62 fun S nx hd => ?_
    repeat refine pw_seq ?_
    refine pwn ?_
    intro v0
    repeat refine pw_seq ?_
    refine pwY (some []) (Row.pures [0, 1, 2, 3] (.alt 4 (Row.pures [5] .done) .stop)) mixed trivial ?_
    refine pwP (hA) trivial ?_
    refine pwP (hF) trivial ?_
    intros
    repeat refine pw_seq ?_
    exact pw_ret (ret_pure hd (by simp; rfl) rfl)
set_option maxRecDepth 20000 in
theorem try4_ok (x : Inst) (pl : PV) (b : Int) (d e : Day) (ok : Bool) (n : Int) (hp : PLike pl) (hR : Pure Tryz.prog 64 [.agg (instL x), pl] (.tup [.agg [L d], B ok])) (hI : ok = true → Pure Tryz.prog 57 [.agg (instL x), .agg [L d], I b] (.tup [.agg [L e], I n])) :
    Pure Tryz.prog 63 [.ip (instL x), .ip [pl], .ip [impF x b]] (.tup [.agg [bif ok then L e else nilS], B ok]) := by
  rcases hp with rfl | ⟨n, cs, rfl⟩
  all_goals
    cases ok with
    | false =>
      refine pwe Tryz.func63 Tryz.ntmps63 Tryz.results63 fun S nx hd => ?_
      repeat refine pw_seq ?_
      refine pwn ?_
      intro v0
      repeat refine pw_seq ?_
      refine pwn ?_
      refine pwc hR ?_
      intro v1
      intros
      repeat refine pw_seq ?_
      refine pwn ?_
      intros
      repeat refine pw_seq ?_
      refine pw_ct rfl ?_
      repeat refine pw_seq ?_
      refine pwn ?_
      intros
      repeat refine pw_seq ?_
      exact pw_ret (ret_pure hd (by simp; rfl) rfl)
    | true =>
      have hF := impF_ok x b d e _ (hI rfl)
      refine pwe Tryz.func63 Tryz.ntmps63 Tryz.results63 fun S nx hd => ?_
      repeat refine pw_seq ?_
      refine pwn ?_
      intro v0
      repeat refine pw_seq ?_
      refine pwn ?_
      refine pwc hR ?_
      intro v1
      intros
      repeat refine pw_seq ?_
      refine pwn ?_
      intros
      repeat refine pw_seq ?_
      refine pw_cf rfl ?_
      refine pw_skip ?_
      repeat refine pw_seq ?_
      refine pwn ?_
      refine pwc hF ?_
      intros
      repeat refine pw_seq ?_
      exact pw_ret (ret_pure hd (by simp; rfl) rfl)
set_option maxRecDepth 20000 in
theorem tries_iter (fs : List PV) (rs : List (Option Day)) (hl : rs.length = fs.length) (hn : fs.length ≤ 1000)
    (h : ∀ (k : Nat) f, fs[k]? = some f → ∃ fk caps p, f = .fn (.func fk) [] caps ∧ Pure Tryz.prog fk caps (.tup [.agg [p], B (rs.getD k none).isSome]) ∧ ∀ d, rs.getD k none = some d → p = L d) :
    Iter Tryz.prog 65 [.ip [.lst fs.length fs]] ((rs.filterMap id).map fun d => [.agg [L d]]) := by
  refine iter_enter Tryz.func65 (by rfl) rfl Tryz.ntmps65 (congrArg Array.toList Tryz.results65) (by simp) fun l V keep nx J hJd hY A0 hA0 => ?_
  repeat refine pw_seq ?_
  refine pwn ?_
  intros
  repeat refine pw_seq ?_
  refine pw_block (pw_loopB (σ := Nat × Store) (fun s => s.1 ≤ fs.length ∧ J ((rs.take s.1).filterMap id).length s.2) (fun s => [(0, yld l), (7, .lst fs.length fs), (8, I fs.length), (9, I s.1)]) (fun s => s.2) (fun s => []) (fun s => fs.length - s.1) (at_mk (0, A0) [] (by simp [hA0]) (by simp) rfl (by simp)) ?_)
  rintro ⟨k, A⟩ ⟨hk, hJ⟩
  simp only at hk hJ ⊢
  repeat refine pw_seq ?_
  refine pwn ?_
  intros
  repeat refine pw_seq ?_
  refine pw_cond rfl (fun hc => ?_) (fun hc => ?_)
  · simp at hc
    have e0 : fs.drop k = fs[k] :: fs.drop (k + 1) := List.drop_eq_getElem_cons hc
    obtain ⟨fk, caps, p, hf, hP, hd⟩ := h k fs[k] (List.getElem?_eq_getElem hc)
    rw [hf] at e0
    have hkr : k < rs.length := by omega
    have htk : rs.take (k + 1) = rs.take k ++ [rs[k]] := List.take_succ_eq_append_getElem hkr
    have hg : rs.getD k none = rs[k] := by rw [List.getD_eq_getElem?_getD, List.getElem?_eq_getElem hkr]; rfl
    rw [hg] at hP hd
    refine pw_skip (pw_seq (pw_block ?_))
    repeat refine pw_seq ?_
    refine pwN [] (jn2 e0 hc) ?_
    intros
    cases hr : rs[k] with
    | none =>
      rw [hr] at hP htk
      simp only [Option.isSome_none] at hP
      have hlen : ((rs.take (k + 1)).filterMap id).length = ((rs.take k).filterMap id).length := by rw [htk]; simp
      repeat refine pw_seq ?_
      refine pwn ?_
      refine pwc hP ?_
      intro v0
      intros
      repeat refine pw_seq ?_
      refine pwN [(1, 19)] undef_eq ?_
      intros
      repeat refine pw_seq ?_
      refine pw_cf rfl ?_
      refine pw_skip ?_
      repeat refine pw_seq ?_
      refine pwn ?_
      intros
      exact again_mk (k + 1, A) [_] ⟨hc, by rw [hlen]; exact hJ⟩ (by simp; omega) (by simp [wrN k (by omega)]) rfl (by simp; rfl)
    | some d =>
      obtain rfl := hd d hr
      rw [hr] at hP htk
      simp only [Option.isSome_some] at hP
      have hlen : ((rs.take (k + 1)).filterMap id).length = ((rs.take k).filterMap id).length + 1 := by rw [htk]; simp
      have hx : ((rs.filterMap id).map fun d => [PV.agg [L d]])[((rs.take k).filterMap id).length]? = some [PV.agg [L d]] := by
        have e1 : rs.filterMap id = (rs.take k).filterMap id ++ (d :: (rs.drop (k + 1)).filterMap id) := by
          conv => lhs; rw [← List.take_append_drop k rs, List.drop_eq_getElem_cons hkr, hr]
          simp
        rw [List.getElem?_map, e1, List.getElem?_append_right (Nat.le_refl _), Nat.sub_self]
        rfl
      repeat refine pw_seq ?_
      refine pwn ?_
      refine pwc hP ?_
      intro v0
      intros
      repeat refine pw_seq ?_
      refine pw_N [(1, 19)] (by rfl) (by rfl) fun K Gc Gh hK hGc hGh X hX0 hX => ?_
      simp -implicitDefEqProofs [hX0, hX]
      try clear hX0 hX X
      refine hGh _ _ _ _ _ fun hsuf => po_yield rfl rfl rfl (hY _ _ _ _ hx hJ) ?_
      rintro _ ⟨A', hJ', rfl⟩
      refine ⟨_, _, rfl, ?_⟩
      clear hGc hGh
      clear Gc Gh
      refine xs_go hsuf (D := [(1, 19)]) (by rfl) fun Gc Gh hGc hGh X hX0 hX => ?_
      simp -implicitDefEqProofs [hX0, hX]
      try clear hX0 hX X
      intros
      refine hK _ _ _ ?_
      clear hK hGc hGh
      clear K Gc Gh
      repeat refine pw_seq ?_
      refine pw_cf rfl ?_
      refine pw_skip ?_
      repeat refine pw_seq ?_
      refine pwn ?_
      intros
      exact again_mk (k + 1, A') [_] ⟨hc, by rw [hlen]; exact hJ'⟩ (by simp; omega) (by simp [wrN k (by omega)]) rfl (by simp; rfl)
  · simp at hc
    obtain rfl : k = fs.length := by omega
    rw [← hl, List.take_length] at hJ
    refine pw_exit (ret_iter (hJd _ _ hJ) rfl ?_)
    simpa using hJ
def solveS (x : Inst) (st : Day × Int × Bool) (d : Day) : Day × Int × Bool := if dayT x d = 0 then (if st.2.2 = false ∨ W (costZ x d) < st.2.1 then (d, W (costZ x d), true) else st) else st
def solveZ (x : Inst) (ds : List Day) : Day × Int × Bool := ds.foldl (solveS x) ([], 0, false)
open Go Hp
theorem exit_thenQ {K : (Nat → PV) → Store → Prop} {Q : Exit → (Nat → PV) → Store → Prop} {i : Nat} {F : Nat → PV} {S : Store} (h : Q (.exit i) F S) : thenQ K Q (.exit i) F S := h
theorem exit_inBlock {Q : Exit → (Nat → PV) → Store → Prop} {i : Nat} {F : Nat → PV} {S : Store} (h : Q .normal F S) : inBlockQ i Q (.exit i) F S := by simp [inBlockQ, h]
def solveR (x : Inst) (e : Int) (ds : List Day) : Day × Int := if e = 0 then (bif (solveZ x ds).2.2 then ((solveZ x ds).1, 0) else ([], 14)) else ([], e)
set_option maxRecDepth 20000 in
set_option maxHeartbeats 800000 in
theorem solve_ok (x : Inst) (pl : PV) (b e : Int) (ds : List Day) (hp : PLike pl) (hx : x.cust.length ≤ 1048576) (hF : Pure Tryz.prog 11 [.agg (instL x), pl] (I e))
    (hit : e = 0 → Iter Tryz.prog 65 [.ip [.lst 4 (fsL x pl b)]] (ds.map fun d => [.agg [L d]])) (hds : e = 0 → ∀ d ∈ ds, DayOk d ∧ d.flatten.length ≤ 1048576) :
    Pure Tryz.prog 15 [.agg (instL x), pl, I b] (.tup [.agg [L (solveR x e ds).1], I (solveR x e ds).2]) := by
  have hT := tries_ok x pl b hp
  refine pwe Tryz.func15 Tryz.ntmps15 Tryz.results15 fun S nx hd => ?_
  repeat refine pw_seq ?_
  refine pwn ?_
  intro v0 v1
  repeat refine pw_seq ?_
  refine pwn ?_
  refine pwc hF ?_
  intros
  by_cases he : e = 0
  case neg =>
    repeat refine pw_seq ?_
    refine pwn ?_
    intros
    repeat refine pw_seq ?_
    refine pw_ct (by simp [he]) ?_
    repeat refine pw_seq ?_
    refine pwn ?_
    intros
    refine pw_nilC 1 0 rfl rfl ?_
    repeat refine pw_seq ?_
    exact pw_ret (ret_pure hd (by simp; rfl) (by simp [solveR, he, oneOf]))
  subst he
  have hit := hit rfl
  have hds := hds rfl
  repeat refine pw_seq ?_
  refine pwn ?_
  intros
  repeat refine pw_seq ?_
  refine pw_cf (by simp) ?_
  refine pw_skip ?_
  repeat refine pw_seq ?_
  refine pwn ?_
  intro v2 v3 v4
  refine pw_nilC 2 0 rfl rfl ?_
  repeat refine pw_seq ?_
  refine pwn ?_
  refine pwc hT ?_
  intros
  repeat refine pw_seq ?_
  refine pw_block (pw_rangeFunc (xs := ds.map fun d => [PV.agg [L d]]) (σ := Day × Int × Bool) (fun i s => s = (ds.take i).foldl (solveS x) ([], 0, false) ∧ i ≤ ds.length) [(3, .ptr nx v0 0), (6, .ptr (nx + 1) v1 0), (7, I 0), (9, .ptr (nx + 2) v2 0), (10, .ptr (nx + 3) v3 0), (11, .ptr (nx + 4) v4 0)] (fun _ => S)
    (fun (best, least, found) => [.cells v0 25 (instL x), .cells v1 35 [nilS], .cells v2 35 [L best], .cells v3 3 [I least], .cells v4 4 [B found]]) ([], 0, false)
    hit rfl (by intro x hx; obtain ⟨y, _, rfl⟩ := List.mem_map.1 hx; rfl) (by decide) (by simp) ⟨by simp, by simp⟩ rfl (by simp) (by simp) ?_ ?_)
  · rintro l i ⟨best, least, found⟩ more y ⟨hst, hi⟩ hy
    simp only at hst hi ⊢
    rw [List.getElem?_map] at hy
    obtain ⟨d, hd', rfl⟩ := Option.map_eq_some_iff.1 hy
    obtain ⟨hil, hdi⟩ := List.getElem?_eq_some_iff.1 hd'
    obtain ⟨hdo, hdf⟩ := hds d (List.mem_of_getElem? hd')
    have hday := dayP_ok x d hx hdo.1 hdo.2 hdf
    have hcost := costP_ok x d hdo
    have hsucc : (ds.take (i + 1)).foldl (solveS x) ([], 0, false) = solveS x (best, least, found) d := by
      rw [List.take_succ_eq_append_getElem hil, hdi, List.foldl_append, ← hst]; rfl
    unfold solveS at hsucc
    simp only at hsucc
    repeat refine pw_seq ?_
    refine pwn ?_
    intro v5
    refine pw_block ?_
    repeat refine pw_seq ?_
    refine pwn ?_
    refine pwc hday ?_
    intros
    by_cases h1 : dayT x d = 0
    · rw [if_pos h1] at hsucc
      repeat refine pw_seq ?_
      refine pw_cf (by simp [h1]) ?_
      refine pw_skip ?_
      repeat refine pw_seq ?_
      refine pwn ?_
      refine pwc hcost ?_
      intros
      generalize W (costZ x d) = c at *
      cases found with
      | false =>
        rw [if_pos (.inl rfl)] at hsucc
        repeat refine pw_seq ?_
        refine pwN [(2, 36)] undef_eq ?_
        intros
        repeat refine pw_seq ?_
        refine pw_ct rfl ?_
        repeat refine pw_seq ?_
        refine pwn ?_
        intros
        simp only [inBlockQ]
        exact rnd_mk (d, c, true) [_] ⟨hsucc.symm, by omega⟩ rfl (by simp; rfl)
      | true =>
        by_cases h2 : c < least
        · rw [if_pos (.inr h2)] at hsucc
          repeat refine pw_seq ?_
          refine pwN [(2, 36)] (jn2 h2 undef_eq) ?_
          intros
          repeat refine pw_seq ?_
          refine pw_ct rfl ?_
          repeat refine pw_seq ?_
          refine pwn ?_
          intros
          simp only [inBlockQ]
          exact rnd_mk (d, c, true) [_] ⟨hsucc.symm, by omega⟩ rfl (by simp; rfl)
        · rw [if_neg (by simp [h2])] at hsucc
          repeat refine pw_seq ?_
          refine pwN [(2, 36)] (jn2 h2 undef_eq) ?_
          intros
          repeat refine pw_seq ?_
          refine pw_cf rfl ?_
          refine pw_skip ?_
          simp only [inBlockQ]
          exact rnd_mk (best, least, true) [_] ⟨hsucc.symm, by omega⟩ rfl (by simp; rfl)
    · rw [if_neg h1] at hsucc
      repeat refine pw_seq ?_
      refine pw_ct (by simp [h1]) ?_
      refine pw_exit ?_
      refine exit_thenQ (exit_inBlock ?_)
      exact rnd_mk (best, least, found) [_] ⟨hsucc.symm, by omega⟩ rfl (by simp; rfl)
  · rintro ⟨best, least, found⟩ ⟨hst, -⟩
    simp only [List.length_map, List.take_length] at hst ⊢
    have hz : solveZ x ds = (best, least, found) := hst.symm
    cases found with
    | false =>
      repeat refine pw_seq ?_
      refine pwn ?_
      intros
      repeat refine pw_seq ?_
      refine pw_ct rfl ?_
      repeat refine pw_seq ?_
      refine pwn ?_
      intros
      refine pw_nilC 1 0 rfl rfl ?_
      repeat refine pw_seq ?_
      exact pw_ret (ret_pure hd (by simp; rfl) (by simp [solveR, hz, oneOf]))
    | true =>
      repeat refine pw_seq ?_
      refine pwn ?_
      intros
      repeat refine pw_seq ?_
      refine pw_cf rfl ?_
      refine pw_skip ?_
      repeat refine pw_seq ?_
      refine pwn ?_
      intros
      repeat refine pw_seq ?_
      exact pw_ret (ret_pure hd (by simp; rfl) (by simp [solveR, hz, oneOf]))
open Go Hp
abbrev look0 (x : Inst) : List PV := [I x.days, I x.veh, I x.cap, I x.len, L x.cust, L x.dist, L ([] : Day), L ([] : List Int), B false, nilS, I 0, nilS, nilS]
set_option maxRecDepth 20000 in
theorem see0_ok (x : Inst) : Pure Tryz.prog 46 [.agg (instL x), .agg [L ([] : Day)]] (.agg (look0 x)) := by
  have h1 : Pure Tryz.prog 67 [.agg [L ([] : Day)]] (L ([] : List Stop)) := stopsP_ok [] (by simp) (by simp)
  have h2 : Pure Tryz.prog 34 [L ([] : List Stop)] (L ([] : List Int)) := by
    have := customersP_ok [] (by simp)
    rwa [show sortZ (([] : List Stop).map (·.c)) = [] from by simp [sortZ]] at this
  have h3 : Pure Tryz.prog 33 [L ([] : List Int)] (B false) := by
    have := doubleP_ok [] (by simp) List.Pairwise.nil
    simpa using this
  refine pwe Tryz.func46 Tryz.ntmps46 Tryz.results46 fun S nx hd => ?_
  repeat refine pw_seq ?_
  refine pwn ?_
  intro v0 v1 v2
  repeat refine pw_seq ?_
  refine pwY (some [nx, nx + 1]) (Row.pures [0, 1, 2, 3, 4, 5] (.alt 6 (.alt 7 (.done) .stop) .stop)) mixed trivial ?_
  refine pwP (h1) trivial ?_
  refine pwP (h2) trivial ?_
  intro v3
  intros
  repeat refine pw_seq ?_
  refine pwn ?_
  refine pwc h3 ?_
  intros
  repeat refine pw_seq ?_
  refine pwn ?_
  intros
  repeat refine pw_seq ?_
  refine pw_block (pw_loopL (fun _ : Nat => True) (fun _ => [(4, .ptr (nx + 2) v2 0), (5, .ptr (nx + 3) v3 0), (21, I 0), (22, I 0)]) (fun _ => [.cells v0 25 (instL x), .cells v1 35 [L ([] : Day)], .cells v2 87 [I 0, I 0, I 0, I 0, nilS, nilS, nilS, nilS, B false, nilS, I 0, nilS, nilS], .cells v3 87 (look0 x)]) (fun k => k) 0 [] trivial (by simp) (by simp) ?_)
  rintro k -
  repeat refine pw_seq ?_
  refine pwn ?_
  intros
  repeat refine pw_seq ?_
  refine pw_cf rfl ?_
  refine pw_exit ?_
  repeat refine pw_seq ?_
  refine pwn ?_
  intros
  repeat refine pw_seq ?_
  exact pw_ret (ret_pure hd (by simp; rfl) rfl)
set_option maxRecDepth 20000 in
theorem spotsF_ok (lk : List PV) (s : Stop) (hl : lk.length = 13) : Pure Tryz.prog 47 [.agg lk, .agg [I s.c, I s.q]] (.fn (.func 76) [] [.ip [I s.c, I s.q], .ip lk]) := by
  refine pwe Tryz.func47 Tryz.ntmps47 Tryz.results47 fun S nx hd => ?_
  repeat refine pw_seq ?_
  refine pwN [] hl ?_
  intro v0 v1
  repeat refine pw_seq ?_
  refine pwn ?_
  intros
  refine pw_frq 0 rfl ?_
  refine pw_frq 1 rfl ?_
  repeat refine pw_seq ?_
  exact pw_ret (ret_pure hd (by simp; rfl) rfl)
theorem search0_ok (c : Int) : Pure Tryz.prog 77 [L ([] : List Int), I c] (.tup [I 0, B false]) := by
  intro S
  refine ⟨enters_of Tryz.func77 (by rfl) rfl, ?_⟩
  intro C w vs hS hl hr
  obtain ⟨u, v, rfl⟩ : ∃ u v, vs = #[u, v] := arr2 hl
  obtain rfl := rel_int (hr 1 _ v rfl rfl)
  have h0 := hr 0 _ u rfl rfl
  obtain ⟨a, cap, rfl⟩ : ∃ a cap, u = .slice a 0 cap := by
    have h0 : Rel C S w (.lst 0 []) u := h0
    cases h0 with
    | lst0 => exact ⟨_, _, rfl⟩
    | lst1 hn hm hb hM hs h1 => exact ⟨_, _, rfl⟩
  refine (Tryz.slices_BinarySearch_int_empty a cap c w).mono ?_
  rintro e w' ⟨rfl, rfl⟩
  refine ⟨_, _, _, _, rfl, ⟨rfl, rfl⟩, .tup rfl ?_, hS, .refl _ _ _⟩
  intro i p v hc hv
  match i with
  | 0 => have hc : some (I 0) = some p := hc; have hv : some (Value.int .i64 0) = some v := hv; cases hc; cases hv; exact .sc _
  | 1 => have hc : some (B false) = some p := hc; have hv : some (Value.bool false) = some v := hv; cases hc; cases hv; exact .sc _
  | i + 2 => simp at hc
def spotV (t p m : Int) : List PV := [.agg [I t, I p, I m]]
set_option maxRecDepth 20000 in
theorem spots0_iter (x : Inst) (s : Stop) (hx : x.cust.length ≤ 1048576) (hm : mayT x [s] = 0) (hv : 0 < x.veh) (hs : small s.c) : Iter Tryz.prog 76 [.ip [I s.c, I s.q], .ip (look0 x)] [spotV 0 0 (W (wayZ x [s.c]))] := by
  have hlen := lengthP_ok x [s] (by simp) (by simpa using hs)
  have hmay := mayP_ok x [s] hx (by simp)
  rw [hm] at hmay
  have hv1 : ¬ x.veh < 0 := by omega
  refine iter_enter Tryz.func76 (by rfl) rfl Tryz.ntmps76 (congrArg Array.toList Tryz.results76) (by simp) fun l V keep nx J hJd hY A0 hA0 => ?_
  repeat refine pw_seq ?_
  refine pwY (some []) (Row.pures [0, 1, 2, 3, 4, 5] (.alt 6 (.alt 7 (Row.pures [8] .done) .stop) .stop)) mixed trivial ?_
  refine pwP (singleP_ok s) trivial ?_
  intro v0
  intros
  repeat refine pw_seq ?_
  refine pwn ?_
  refine pwc hmay ?_
  intros
  repeat refine pw_seq ?_
  refine pwn ?_
  refine pwc (search0_ok s.c) ?_
  intros
  repeat refine pw_seq ?_
  refine pwN [(2, 30), (5, 33), (9, 37)] (jn2 hv1 undef_eq) ?_
  intros
  repeat refine pw_seq ?_
  refine pw_cf rfl ?_
  refine pw_skip ?_
  repeat refine pw_seq ?_
  refine pwn ?_
  intros
  repeat refine pw_seq ?_
  refine pw_block (pw_loopL (fun _ : Nat => True) (fun _ => [(0, yld l), (1, .ip [I s.c, I s.q]), (2, .ip (look0 x)), (4, .ptr nx v0 0), (5, I 0), (6, I 0), (44, I 0), (45, I 0)]) (fun _ => [.cells v0 66 [L [s]]]) (fun k => k) 0 [] trivial (by simp) (by simp) ?_)
  rintro k -
  repeat refine pw_seq ?_
  refine pwn ?_
  intros
  repeat refine pw_seq ?_
  refine pw_cf rfl ?_
  refine pw_exit ?_
  repeat refine pw_seq ?_
  refine pwN [(3, 58), (7, 62)] (jn2 hv undef_eq) ?_
  intros
  repeat refine pw_seq ?_
  refine pw_ct rfl ?_
  repeat refine pw_seq ?_
  refine pw_N [] (by rfl) (by rfl) fun K Gc Gh hK hGc hGh X hX0 hX => ?_
  simp -implicitDefEqProofs [hX0, hX]
  try clear hX0 hX X
  refine hGc _ _ _ _ _ _ _ fun hsuf => ((hlen _).mono ?_).v
  rintro _ _ ⟨rfl, rfl⟩
  refine ⟨_, _, rfl, ?_⟩
  clear hGc hGh
  clear Gc Gh
  refine xs_go hsuf (D := []) (by rfl) fun Gc Gh hGc hGh X hX0 hX => ?_
  simp -implicitDefEqProofs [hX0, hX]
  try clear hX0 hX X
  refine hGh _ _ _ _ _ fun hsuf => po_yield rfl rfl rfl (hY 0 _ _ _ rfl hA0) ?_
  rintro _ ⟨A', hJ', rfl⟩
  refine ⟨_, _, rfl, ?_⟩
  clear hGc hGh
  clear Gc Gh
  refine xs_go hsuf (D := []) (by rfl) fun Gc Gh hGc hGh X hX0 hX => ?_
  simp -implicitDefEqProofs [hX0, hX]
  try clear hX0 hX X
  intros
  refine hK _ _ _ ?_
  clear hK hGc hGh
  clear K Gc Gh
  exact ret_iter (hJd _ _ hJ') rfl (by simpa using hJ')
set_option maxRecDepth 20000 in
theorem clone0d_ok : Pure Tryz.prog 48 [.agg [L ([] : Day)]] (.agg [nilS]) := by
  refine pwe Tryz.func48 Tryz.ntmps48 Tryz.results48 fun S nx hd => ?_
  repeat refine pw_seq ?_
  refine pwn ?_
  intro v0 v1
  repeat refine pw_seq ?_
  refine pwn ?_
  intro v2
  repeat refine pw_seq ?_
  refine pwn ?_
  intros
  repeat refine pw_seq ?_
  refine pw_block (pw_loopL (fun _ : Nat => True) (fun _ => [(2, .ptr (nx + 1) v1 0), (3, .ptr (nx + 2) v2 0), (8, I 0), (9, I 0)]) (fun _ => [.cells v0 35 [L ([] : Day)], .cells v1 35 [nilS], .cells v2 35 [nilS]]) (fun k => k) 0 [] trivial (by simp) (by simp) ?_)
  rintro k -
  repeat refine pw_seq ?_
  refine pwn ?_
  intros
  repeat refine pw_seq ?_
  refine pw_cf rfl ?_
  refine pw_exit ?_
  repeat refine pw_seq ?_
  refine pwn ?_
  intros
  repeat refine pw_seq ?_
  exact pw_ret (ret_pure hd (by simp; rfl) rfl)
set_option maxRecDepth 20000 in
theorem insert0_ok (x : Inst) (s : Stop) (hx : x.cust.length ≤ 1048576) (hm : mayT x [s] = 0) (hv : 0 < x.veh) (hs : small s.c) : Pure Tryz.prog 26 [.agg (instL x), .agg [L ([] : Day)], .agg [I s.c, I s.q]] (.tup [.agg [L [[s]]], B true]) := by
  have hit := spots0_iter x s hx hm hv hs
  generalize W (wayZ x [s.c]) = m at *
  refine pwe Tryz.func26 Tryz.ntmps26 Tryz.results26 fun S nx hd => ?_
  repeat refine pw_seq ?_
  refine pwn ?_
  intro v0 v1 v2 v3
  repeat refine pw_seq ?_
  refine pwn ?_
  intro v4 v5
  repeat refine pw_seq ?_
  refine pwY none (Row.pures [0, 1, 2, 3, 4] .done) mixed trivial ?_
  refine pwP (see0_ok x) trivial ?_
  refine pwP (spotsF_ok (look0 x) s rfl) trivial ?_
  intros
  repeat refine pw_seq ?_
  refine pw_block (pw_rangeFunc (xs := [spotV 0 0 m]) (σ := Int × Bool) (fun i s => s = if i = 0 then (0, false) else (m, true)) [(3, .ptr nx v0 0), (4, .ptr (nx + 1) v1 0), (5, .ptr (nx + 2) v2 0), (6, .ptr (nx + 3) v3 0), (8, .ptr (nx + 4) v4 0), (9, .ptr (nx + 5) v5 0)] (fun _ => S)
    (fun (more, found) => [.cells v0 25 (instL x), .cells v1 35 [L ([] : Day)], .cells v2 43 [I s.c, I s.q], .cells v3 35 [nilS], .cells v4 82 [I 0, I 0, I more], .cells v5 4 [B found]]) (0, false)
    hit rfl (by intro x hx; simp at hx; subst hx; rfl) (by decide) (by simp) (by simp) rfl (by simp) (by simp) ?_ ?_)
  · rintro l i ⟨mo, fo⟩ more y hst hy
    simp only at hst ⊢
    obtain ⟨rfl, rfl⟩ : i = 0 ∧ y = spotV 0 0 m := by
      cases i with
      | zero => simp at hy; exact ⟨rfl, hy.symm⟩
      | succ i => simp at hy
    rw [if_pos rfl] at hst
    cases hst
    repeat refine pw_seq ?_
    refine pw_N [] (by rfl) (by rfl) fun K Gc Gh hK hGc hGh X hX0 hX => ?_
    simp -implicitDefEqProofs [hX0, hX, spotV]
    try clear hX0 hX X
    intro v6
    refine hK _ _ _ ?_
    clear hK hGc hGh
    clear K Gc Gh
    refine pw_block ?_
    repeat refine pw_seq ?_
    refine pwN [(2, 21)] undef_eq ?_
    intros
    repeat refine pw_seq ?_
    refine pw_ct rfl ?_
    repeat refine pw_seq ?_
    refine pwn ?_
    intros
    simp only [inBlockQ]
    exact rnd_mk (m, true) [_] (by simp) rfl (by simp; rfl)
  · rintro ⟨mo, fo⟩ hst
    simp at hst
    obtain ⟨rfl, rfl⟩ := hst
    repeat refine pw_seq ?_
    refine pwn ?_
    refine pwc clone0d_ok ?_
    intros
    repeat refine pw_seq ?_
    refine pw_block ?_
    repeat refine pw_seq ?_
    refine pwn ?_
    intros
    repeat refine pw_seq ?_
    refine pw_cf rfl ?_
    repeat refine pw_seq ?_
    refine pwn ?_
    intros
    repeat refine pw_seq ?_
    refine pw_ct rfl ?_
    repeat refine pw_seq ?_
    refine pwY (some [nx + 2]) (Row.pures [0, 2, 3, 4] (.alt 1 (.alt 5 (Row.pures [6] (.alt 7 (.done) .stop)) .stop) .stop)) mixed trivial ?_
    refine pwP (singleP_ok s) trivial ?_
    intro v7
    intros
    refine pw_frz 6 rfl ?_
    repeat refine pw_seq ?_
    refine pwn ?_
    intros
    repeat refine pw_seq ?_
    exact pw_ret (ret_pure hd (by simp; rfl) (by simp [oneOf]))
open Go Go.Lib Go.Proofs
theorem elemStop : ElemOk Tryz.prog 26 43 (.agg #[.int .i64 0, .int .i64 0]) 16 :=
  ⟨Tryz.underlying26, by simp, by simp, by simp, by simp, by omega⟩
set_option maxHeartbeats 4000000 in
set_option maxRecDepth 100000 in
theorem clone_some (a : Addr) (n c : Nat) (w W2 : World) (u : Value) (hrz : ∀ ty, (Builtin.append_ #[26, 26] ty #[.slice (some ⟨w.heap.size, 0, none⟩) 0 0, .slice (some a) n c]).run Tryz.prog (w.alloc (.cells #[] 43)) = .ok u W2) :
    Calls Tryz.prog 79 #[.slice (some a) n c] w fun e w' => e = .returned u ∧ w' = W2 := by
  have mixed : Tryz.prog.follows .mixedOrders = true := by kernel_rfl
  have q22 : ∀ (w : World) (a : Option Addr) (n c n' c' : Nat), (binOp .eql 26 (.slice a n c) (.slice none n' c')).run Tryz.prog w = .ok (.bool a.isNone) w := fun w a n c n' c' => Lib.run_eql_slice_nil w _ _ a n c n' c' Tryz.underlying26
  go_enter Tryz.func79, Tryz.ntmps79
  go_wp2_with (at_builtin; refine Lib.wpList_append_run _ rfl _ _ _ _ rfl _ _ rfl rfl _ _ (hrz _) ?_)
  go_wp2
  go_ret
  exact ⟨rfl, rfl⟩
set_option maxHeartbeats 4000000 in
set_option maxRecDepth 100000 in
theorem clone_none (n c : Nat) (w : World) :
    Calls Tryz.prog 79 #[.slice none n c] w fun e w' => e = .returned (.slice none 0 0) ∧ w' = w := by
  have mixed : Tryz.prog.follows .mixedOrders = true := by kernel_rfl
  have q22 : ∀ (w : World) (a : Option Addr) (n c n' c' : Nat), (binOp .eql 26 (.slice a n c) (.slice none n' c')).run Tryz.prog w = .ok (.bool a.isNone) w := fun w a n c n' c' => Lib.run_eql_slice_nil w _ _ a n c n' c' Tryz.underlying26
  go_enter Tryz.func79, Tryz.ntmps79
  go_wp2
  go_ret
  exact ⟨rfl, rfl⟩
theorem cloneS_ok (l : List Stop) (h0 : 0 < l.length) (hn : l.length ≤ 1048576) (S : Store) (nx : Nat) (hd : S nx = .dead) :
    Spec Tryz.prog 79 [L l] S (fun p S' => ∃ v, p = .sl nx v 2 0 l.length ∧ S' = S.set nx (.cells v 43 (l.flatMap Enc.enc))) := by
  refine ⟨enters_of Tryz.func79 (by rfl) rfl, ?_⟩
  intro C w vs hS hl hr
  obtain ⟨u, rfl⟩ := arr1 hl
  have hu : Rel C S w (.lst l.length (l.flatMap Enc.enc)) u := hr 0 _ u rfl rfl
  obtain ⟨a, cap, rfl⟩ : ∃ a cap, u = .slice (some a) l.length cap := by
    generalize hq : l.flatMap Enc.enc = cs at hu
    generalize l.length = n at *
    cases hu with
    | lst0 => omega
    | lst1 => exact ⟨_, _, rfl⟩
  obtain ⟨k1, j1, m1⟩ := hS.alloc (.cells #[] 43)
  have hc : Tryz.prog.cellsOf 43 = 2 := by simp
  obtain ⟨news, hsrc, hrel, _⟩ := srcP_sound (P := Tryz.prog) (sz := 2) (m := l.length) (ds := l.flatMap Enc.enc) k1 (by simp [srcP]) (hu.mono j1)
  rw [← hc] at hsrc
  have hrun := fun ty => run_append_more (P := Tryz.prog) (ty := ty) (b := some ⟨w.heap.size, 0, none⟩) (k := 0) (cap := 0) (olds := []) elemStop.ty elemStop.pos elemStop.zero elemStop.bytes hsrc (run_firstCells_some _ _ 0 ⟨w.heap.size, 0, none⟩ 0 0 [] (by simp) (by simp)) (by omega) (by omega) elemStop.bpos
  simp only [Nat.zero_add] at hrun
  refine (clone_some a l.length cap w _ _ hrun).mono ?_
  rintro e w' ⟨rfl, rfl⟩
  have hge := grownCap_ge (w.alloc (.cells #[] 43)) l.length 0 43
  obtain ⟨d1, d2⟩ := k1.drew
  have hfr : Fresh C S nx C.clock := .clock C hd
  have hra := relL_append (cs := []) (vs := []) (by simp [RelL]) hrel (Builtin.zeroCells (Value.agg #[.int .i64 0, .int .i64 0]).cells (grownCap (w.alloc (.cells #[] 43)) l.length 0 43 - l.length)).toList
  simp only [List.nil_append] at hra
  have hget : ∀ i : Nat, (([] : List Value).toArray ++ news.toArray ++ Builtin.zeroCells (Value.agg #[.int .i64 0, .int .i64 0]).cells (grownCap (w.alloc (.cells #[] 43)) l.length 0 43 - l.length) : Array Value)[i]? = (news ++ (Builtin.zeroCells (Value.agg #[.int .i64 0, .int .i64 0]).cells (grownCap (w.alloc (.cells #[] 43)) l.length 0 43 - l.length)).toList)[i]? := by
    intro i; rw [← Array.getElem?_toList]; simp
  obtain ⟨t1, t2⟩ := d1.object' hfr 43 (([] : List Value).toArray ++ news.toArray ++ Builtin.zeroCells (Value.agg #[.int .i64 0, .int .i64 0]).cells (grownCap (w.alloc (.cells #[] 43)) l.length 0 43 - l.length)) (l.flatMap Enc.enc) (by have := hra.1; simp at this ⊢; omega) (fun i v hi hv => hra.2.1 i v hi (by rw [← hget]; exact hv)) (fun i p v hp hv => (hra.2.2 i p v hp (by rw [← hget]; exact hv)).mono d2)
  refine ⟨_, _, _, _, rfl, ⟨C.clock, rfl, rfl⟩, rel_newsl C S _ _ _ _ _ _ _ _ _ rfl hge (Nat.le_trans hn (by unfold maxN; omega)) (grownCap_le_maxLen _ _ _ _ (by unfold maxLen; omega)) ?_, t1, j1.trans (d2.trans t2)⟩
  have := hsrc.size
  simp only [Array.size_append, size_zeroCells, List.size_toArray, this, hc]
  simp [Value.cells]
  omega
theorem cloneP_ok (l : List Stop) (hn : l.length ≤ 1048576) : Pure Tryz.prog 79 [L l] (L l) := by
  by_cases h0 : 0 < l.length
  · exact own_pure 0 (fun S nx hd => cloneS_ok l h0 hn S nx (hd nx (Nat.le_refl _))) (by simp)
  · obtain rfl : l = [] := List.eq_nil_of_length_eq_zero (by omega)
    intro S
    refine ⟨enters_of Tryz.func79 (by rfl) rfl, ?_⟩
    intro C w vs hS hl hr
    obtain ⟨u, rfl⟩ := arr1 hl
    have hu : Rel C S w (.lst 0 []) u := hr 0 _ u rfl rfl
    obtain ⟨a, cap, rfl⟩ : ∃ a cap, u = .slice a 0 cap := by
      cases hu with
      | lst0 => exact ⟨_, _, rfl⟩
      | lst1 => exact ⟨_, _, rfl⟩
    cases a with
    | none =>
      refine (clone_none 0 cap w).mono ?_
      rintro e w' ⟨rfl, rfl⟩
      exact ⟨_, _, _, _, rfl, ⟨rfl, rfl⟩, .lst0, hS, .refl _ _ _⟩
    | some a =>
      obtain ⟨k1, j1, m1⟩ := hS.alloc (.cells #[] 43)
      have hc : Tryz.prog.cellsOf 43 = 2 := by simp
      obtain ⟨news, hsrc, hrel, _⟩ := srcP_sound (P := Tryz.prog) (sz := 2) (m := 0) (ds := []) k1 (by simp [srcP]) (hu.mono j1)
      have hne : news = [] := List.eq_nil_of_length_eq_zero (by rw [hsrc.size, Nat.zero_mul])
      subst hne
      rw [← hc] at hsrc
      have hrun := fun ty => run_append_same (P := Tryz.prog) (ty := ty) (b := some ⟨w.heap.size, 0, none⟩) (k := 0) (cap := 0) elemStop.ty elemStop.pos hsrc (Nat.le_refl 0)
      refine (clone_some a 0 cap w _ _ hrun).mono ?_
      rintro e w' ⟨rfl, rfl⟩
      exact ⟨_, _, _, _, rfl, ⟨rfl, rfl⟩, .lst0, k1, j1⟩
set_option maxRecDepth 20000 in
theorem insE_ok {S : Store} {id ver : Nat} (cs : List Stop) (s : Stop) (hn : cs.length ≤ 1000000) (hid : S id = .cells ver 43 (cs.flatMap Enc.enc)) :
    Spec Tryz.prog 49 [.sl id ver 2 0 cs.length, I cs.length, L [s]] S (fun p S' => p = .sl id (ver + 1) 2 0 (cs.length + 1) ∧ S' = S.set id (.cells (ver + 1) 43 ((cs ++ [s]).flatMap Enc.enc))) := by
  refine pwes Tryz.func49 Tryz.ntmps49 Tryz.results49 fun nx hd => ?_
  have hlt : id < nx := by
    rcases Nat.lt_or_ge id nx with h | h
    · exact h
    · have := hd id h; rw [hid] at this; cases this
  have hx := fun obs => (ext_old (S := S) (obs := obs) hlt).trans hid
  have hlt1 : ¬ nx ≤ id := by omega
  repeat refine pw_seq ?_
  refine pwN [] hx ?_
  intros
  repeat refine pw_seq ?_
  refine pwN [] hx ?_
  intros
  repeat refine pw_seq ?_
  refine pwN [] hx ?_
  intros
  repeat refine pw_seq ?_
  refine pwN [] hx ?_
  intros
  repeat refine pw_seq ?_
  refine pw_cf rfl ?_
  refine pw_skip ?_
  repeat refine pw_seq ?_
  refine pwN [] hx ?_
  intros
  repeat refine pw_seq ?_
  refine pwN [] hx ?_
  intros
  repeat refine pw_seq ?_
  refine pw_ct rfl ?_
  repeat refine pw_seq ?_
  refine pw_N [] (by rfl) (by rfl) fun K Gc Gh hK hGc hGh X hX0 hX => ?_
  simp -implicitDefEqProofs [hX0, hX, hx, hlt1]
  try clear hX0 hX X
  refine hGh _ _ _ _ _ fun hsuf => ?_
  refine po_append (k := cs.length) (m := 1) (ds := [I s.c, I s.q]) rfl elemStop (by simp) (hx _) (by simp) (by simp [srcP]) (by omega) (by omega) ?_
  rw [ext_set_old _ hlt]
  have hcs : (cs.flatMap Enc.enc).take (cs.length * Tryz.prog.cellsOf 43) ++ [I s.c, I s.q] = (cs ++ [s]).flatMap Enc.enc := by simp
  rw [hcs, show Tryz.prog.cellsOf 43 = 2 from by simp]
  generalize (cs ++ [s]).flatMap Enc.enc = ds at *
  refine ⟨_, _, rfl, ?_⟩
  clear hGc hGh
  clear Gc Gh
  refine xs_go hsuf (D := []) (by rfl) fun Gc Gh hGc hGh X hX0 hX => ?_
  simp -implicitDefEqProofs [hX0, hX]
  clear hX0 hX X
  intros
  refine hK _ _ _ ?_
  clear hK hGc hGh
  clear K Gc Gh
  repeat refine pw_seq ?_
  have hdd : ∀ (o : Ob), DeadFrom nx (S.set id o) := by
    intro o q hq
    rw [Store.set_other _ _ _ _ (by omega)]
    exact hd q hq
  exact pw_ret ⟨_, _, by simp; rfl, ⟨rfl, rfl⟩, ext_kill0 (hdd _)⟩
theorem insA_ok {S : Store} {id ver : Nat} (cs : List Stop) (i : Nat) (s : Stop) (hi : i ≤ cs.length) (hn : cs.length ≤ 1000000) (hid : S id = .cells ver 43 (cs.flatMap Enc.enc)) :
    Spec Tryz.prog 49 [.sl id ver 2 0 cs.length, I i, L [s]] S (fun p S' => p = .sl id (ver + 1) 2 0 (cs.length + 1) ∧ S' = S.set id (.cells (ver + 1) 43 ((cs.take i ++ s :: cs.drop i).flatMap Enc.enc))) := by
  by_cases h : i = cs.length
  · subst h
    rw [List.take_length, List.drop_length]
    exact insE_ok cs s hn hid
  · exact insS_ok cs i s (by omega) hn hid
open Go Go.Proofs
def CloneI (d : Day) (t nx : Nat) (k : Nat) (ts : List PV) (ob : Ob) : Prop :=
  ts.length = k ∧ (k ≤ t → ts = (d.take k).flatMap Enc.enc ∧ ob = .dead) ∧
  (t < k → ∃ v l, d[t]? = some l ∧ ts = ((d.take k).flatMap Enc.enc).set t (.sl (nx + 4) v 2 0 l.length) ∧ ob = .cells v 43 (l.flatMap Enc.enc))
theorem cloneI_step {d : Day} {t nx k : Nat} {ts : List PV} {ob : Ob} (h : CloneI d t nx k ts ob) (hk : k < d.length) (ht : k ≠ t) : CloneI d t nx (k + 1) (ts ++ [L d[k]]) ob := by
  obtain ⟨h1, h2, h3⟩ := h
  have e : d.take (k + 1) = d.take k ++ [d[k]] := List.take_succ_eq_append_getElem hk
  refine ⟨by simp [h1], fun hkt => ?_, fun hkt => ?_⟩
  · obtain ⟨a, b⟩ := h2 (by omega)
    exact ⟨by rw [e, a, List.flatMap_append]; rfl, b⟩
  · obtain ⟨v, l, a, b, c⟩ := h3 (by omega)
    refine ⟨v, l, a, ?_, c⟩
    rw [b, e, List.flatMap_append, List.set_append_left _ _ (by rw [flen_list]; simp; omega)]
    rfl
theorem cloneI_at {d : Day} {t nx : Nat} {ts : List PV} {ob : Ob} (h : CloneI d t nx t ts ob) (hk : t < d.length) (v : Nat) : CloneI d t nx (t + 1) (ts ++ [.sl (nx + 4) v 2 0 d[t].length]) (.cells v 43 (d[t].flatMap Enc.enc)) := by
  obtain ⟨h1, h2, h3⟩ := h
  have e : d.take (t + 1) = d.take t ++ [d[t]] := List.take_succ_eq_append_getElem hk
  refine ⟨by simp [h1], fun hkt => by omega, fun _ => ⟨v, d[t], List.getElem?_eq_getElem hk, ?_, rfl⟩⟩
  obtain ⟨a, -⟩ := h2 (Nat.le_refl _)
  have hl : ((d.take t).flatMap Enc.enc).length = t := by rw [flen_list]; simp; omega
  rw [a, e, List.flatMap_append, List.set_append_right _ _ (by omega), hl, Nat.sub_self]
  rfl
set_option maxRecDepth 20000 in
set_option maxHeartbeats 800000 in
theorem cloneD_ok (d : Day) (t : Nat) (hd0 : d.length ≤ 1048576) (hd1 : ∀ l ∈ d, l.length ≤ 1048576) (ht : ∀ l, d[t]? = some l → 0 < l.length) (S : Store) (nx : Nat) (hd : DeadFrom nx S) :
    Spec Tryz.prog 48 [.agg [L d]] S (fun p S' => ∃ v ts ob, CloneI d t nx d.length ts ob ∧ p = .agg [.sl (nx + 3) v 1 0 d.length] ∧ S' = (S.set (nx + 3) (.cells v 66 ts)).set (nx + 4) ob) := by
  refine pwea hd Tryz.func48 Tryz.ntmps48 Tryz.results48 ?_
  repeat refine pw_seq ?_
  refine pwn ?_
  intro v0 v1
  repeat refine pw_seq ?_
  refine pwn ?_
  intro v2
  refine pw_nilObX 2 0 66 1 rfl rfl fun v3 => ?_
  repeat refine pw_seq ?_
  refine pwn ?_
  intros
  show PW _ _ _ _ _ _ _ (ext _ _ _)
  rw [ext_deads 1]
  repeat refine pw_seq ?_
  refine pw_block (pw_loopL (fun (s : Nat × List PV × Ob × Nat × Nat) => s.1 ≤ d.length ∧ CloneI d t nx s.1 s.2.1 s.2.2.1) (fun (k, ts, ob, v2, v3) => [(2, .ptr (nx + 1) v1 0), (3, .ptr (nx + 2) v2 0), (7, L d), (8, I d.length), (9, I k)]) (fun (k, ts, ob, v2, v3) => [.cells v0 35 [L d], .cells v1 35 [nilS], .cells v2 35 [.sl (nx + 3) v3 1 0 k], .cells v3 66 ts, ob]) (fun s => d.length - s.1) (0, [], .dead, v2, v3) [] ⟨by simp, by simp [CloneI]⟩ (by simp) (by simp) ?_)
  rintro ⟨k, ts, ob, v2, v3⟩ ⟨hk, hI⟩
  simp only at hk hI ⊢
  have htl := hI.1
  have htk : ts.take k = ts := List.take_of_length_le (by omega)
  repeat refine pw_seq ?_
  refine pwn ?_
  intros
  repeat refine pw_seq ?_
  refine pw_cond rfl (fun hc => ?_) (fun hc => ?_)
  · simp at hc
    obtain ⟨l, tl, a1, a2, a3, e0⟩ := el1 rfl d k hc
    obtain ⟨hkl, rfl⟩ := List.getElem?_eq_some_iff.1 a1
    have hk1 : 1 ≤ d.length - k := by omega
    refine pw_skip (pw_seq (pw_block ?_))
    repeat refine pw_seq ?_
    refine pwN [] (jn3 hc e0 hk1) ?_
    intro v5
    by_cases hkt : k = t
    · subst hkt
      have hcl := cloneS_ok d[k] (ht _ a1) (hd1 _ (List.getElem_mem hkl))
      obtain rfl := (hI.2.1 (Nat.le_refl _)).2
      repeat refine pw_seq ?_
      refine pw_Y (some [nx + 5]) (Row.pures [0, 2, 3] (.alt 1 (.alt 4 (Row.pures [5, 6] (.alt 7 (Row.pures [8] (.alt 9 (.done) .stop)) .stop)) .stop) (.alt 4 (Row.pures [5, 6] (.alt 1 (.alt 7 (Row.pures [8] (.alt 9 (.done) .stop)) .stop) .stop)) .stop))) mixed (by rfl) (by rfl) (by rfl) fun K Gp Gc Gh hK hGp hGc hGh X hX0 hX1 hX2 hX => ?_
      simp -implicitDefEqProofs [hX0, hX1, hX2, hX, htl, htk]
      try clear hX0 hX1 hX2 hX X
      refine ⟨?_, ?_⟩
      all_goals
        refine hGc _ _ _ _ _ _ _ ?_
        refine ((hcl _ (nx + 4) (by simp)).mono ?_).v
        rintro _ _ ⟨v4, rfl, rfl⟩
        rw [ext_set _ (by omega) (by simp), Nat.add_sub_cancel_left]
        refine ⟨by simp [Agree], ?_⟩
        clear hGp hGc hGh
        clear Gp Gc Gh
        refine px_go fun Gp Gc Gh hGp hGc hGh X hX0 hX1 hX2 hX => ?_
        simp -implicitDefEqProofs [hX0, hX1, hX2, hX, htl, htk]
        try clear hX0 hX1 hX2 hX X
        refine ⟨by omega, ?_⟩
        refine hK _ _ _ ?_
        clear hK hGp hGc hGh
        clear K Gp Gc Gh
        repeat refine pw_seq ?_
        refine pwn ?_
        intros
        exact again_mk (k + 1, _, _, v2, v3 + 1) [_] ⟨hc, cloneI_at hI hkl v4⟩ (by simp; omega) (by simp [wrN k (by omega)]) rfl (by simp; rfl)
    · have hcl := cloneP_ok d[k] (hd1 _ (List.getElem_mem hkl))
      repeat refine pw_seq ?_
      refine pwY (some [nx + 5]) (Row.pures [0, 2, 3, 4, 5, 6] (.alt 1 (.alt 7 (Row.pures [8] (.alt 9 (.done) .stop)) .stop) .stop)) mixed (jn2 htl htk) ?_
      refine pwP (hcl) (jn2 htl htk) ?_
      refine ⟨by omega, ?_⟩
      intros
      repeat refine pw_seq ?_
      refine pwn ?_
      intros
      exact again_mk (k + 1, _, _, v2, v3 + 1) [_] ⟨hc, cloneI_step hI hkl hkt⟩ (by simp; omega) (by simp [wrN k (by omega)]) rfl (by simp; rfl)
  · simp at hc
    obtain rfl : k = d.length := by omega
    refine pw_exit ?_
    repeat refine pw_seq ?_
    refine pwn ?_
    intros
    repeat refine pw_seq ?_
    refine pw_ret ⟨_, (S.set (nx + 3) (.cells v3 66 ts)).set (nx + 4) ob, by simp; rfl, ⟨v3, ts, ob, hI, rfl, rfl⟩, ?_⟩
    intro o
    by_cases h4 : o = nx + 4
    · subst h4
      exact .inl (by rw [Store.set_same]; simp)
    by_cases h3 : o = nx + 3
    · subst h3
      exact .inl (by rw [Store.set_other _ _ _ _ h4, Store.set_same]; simp)
    rw [Store.set_other _ _ _ _ h4, Store.set_other _ _ _ _ h3]
    exact ext_kill0 hd o
theorem cloneDP_ok (d : Day) (hd0 : d.length ≤ 1048576) (hd1 : ∀ l ∈ d, l.length ≤ 1048576) : Pure Tryz.prog 48 [.agg [L d]] (.agg [L d]) := by
  refine own_pureA (k := d.length) (sz := 1) (e := 66) (cs := d.flatMap Enc.enc) 3 (fun S nx hd => (cloneD_ok d d.length hd0 hd1 (by simp) S nx hd).mono ?_) (by simp)
  rintro _ _ ⟨v, ts, ob, ⟨h1, h2, -⟩, rfl, rfl⟩
  obtain ⟨rfl, rfl⟩ := h2 (Nat.le_refl _)
  rw [List.take_length]
  refine ⟨v, rfl, ?_⟩
  funext o
  by_cases h4 : o = nx + 4
  · subst h4
    rw [Store.set_same, Store.set_other _ _ _ _ (by omega), hd _ (by omega)]
  · rw [Store.set_other _ _ _ _ h4]
theorem cloneDT_ok (d : Day) (t : Nat) (l : Tour) (hd0 : d.length ≤ 1048576) (hd1 : ∀ l ∈ d, l.length ≤ 1048576) (ht : d[t]? = some l) (hl : 0 < l.length) (S : Store) (nx : Nat) (hd : DeadFrom nx S) :
    Spec Tryz.prog 48 [.agg [L d]] S (fun p S' => ∃ v w, p = .agg [.sl (nx + 3) v 1 0 d.length] ∧
      S' = (S.set (nx + 3) (.cells v 66 ((d.flatMap Enc.enc).set t (.sl (nx + 4) w 2 0 l.length)))).set (nx + 4) (.cells w 43 (l.flatMap Enc.enc))) := by
  refine (cloneD_ok d t hd0 hd1 (fun m hm => by rw [ht] at hm; cases hm; exact hl) S nx hd).mono ?_
  rintro _ _ ⟨v, ts, ob, ⟨h1, -, h3⟩, rfl, rfl⟩
  obtain ⟨w, m, hm, rfl, rfl⟩ := h3 (List.getElem?_eq_some_iff.1 ht).1
  rw [ht] at hm; cases hm
  rw [List.take_length]
  exact ⟨v, w, rfl, rfl⟩
open Go Go.Proofs
def tourW (x : Inst) (t : Tour) : Int := W (wayZ x (t.map (·.c)))
def tourL (t : Tour) : Int := W (loadZ t)
def badN (x : Inst) (d : Day) : Nat := (d.filter fun t => decide (mayT x t ≠ 0)).length
theorem badN_app (x : Inst) (d e : Day) : badN x (d ++ e) = badN x d + badN x e := by simp [badN]
theorem badN_one (x : Inst) (t : Tour) : badN x [t] = if mayT x t = 0 then 0 else 1 := by
  by_cases h : mayT x t = 0 <;> simp [badN, h]
theorem badN_le (x : Inst) (d : Day) : badN x d ≤ d.length := List.length_filter_le _ _
abbrev lookL (x : Inst) (d : Day) : List PV := [I x.days, I x.veh, I x.cap, I x.len, L x.cust, L x.dist, L d, L (sortZ (d.flatten.map (·.c))), B (decide (¬ (sortZ (d.flatten.map (·.c))).Nodup)), L (d.map (mayT x)), I (badN x d), L (d.map tourL), L (d.map (tourW x))]
set_option maxRecDepth 20000 in
set_option maxHeartbeats 1600000 in
theorem see_ok (x : Inst) (d : Day) (hx : x.cust.length ≤ 1048576) (hdo : DayOk d) (hf : d.flatten.length ≤ 1048576) : Pure Tryz.prog 46 [.agg (instL x), .agg [L d]] (.agg (lookL x d)) := by
  have h1 := stopsP_ok d hdo.1 hf
  have h2 := customersP_ok d.flatten hf
  have h3 := doubleP_ok (sortZ (d.flatten.map (·.c))) (by rw [sortZ_len, List.length_map]; exact hf) (sortZ_le _)
  generalize hon : sortZ (d.flatten.map (·.c)) = on at *
  generalize htw : decide (¬ on.Nodup) = tw at *
  refine pwe Tryz.func46 Tryz.ntmps46 Tryz.results46 fun S nx hd => ?_
  repeat refine pw_seq ?_
  refine pwn ?_
  intro v0 v1 v2
  repeat refine pw_seq ?_
  refine pwY (some [nx, nx + 1]) (Row.pures [0, 1, 2, 3, 4, 5] (.alt 6 (.alt 7 (.done) .stop) .stop)) mixed trivial ?_
  refine pwP (h1) trivial ?_
  refine pwP (h2) trivial ?_
  intro v3
  intros
  repeat refine pw_seq ?_
  refine pwn ?_
  refine pwc h3 ?_
  intros
  repeat refine pw_seq ?_
  refine pwn ?_
  intros
  refine pw_nilObX 3 9 28 1 rfl rfl fun v4 => ?_
  refine pw_nilObX 3 11 3 1 rfl rfl fun v5 => ?_
  refine pw_nilObX 3 12 3 1 rfl rfl fun v6 => ?_
  repeat refine pw_seq ?_
  refine pw_block (pw_loopL (fun (k, v4, v5, v6) => k ≤ d.length) (fun (k, v4, v5, v6) => [(2, .ptr nx v0 0), (4, .ptr (nx + 2) v2 0), (5, .ptr (nx + 3) v3 0), (20, L d), (21, I d.length), (22, I k)])
    (fun (k, v4, v5, v6) => [.cells v0 25 (instL x), .cells v1 35 [L d], .cells v2 87 [I 0, I 0, I 0, I 0, nilS, nilS, nilS, nilS, B false, nilS, I 0, nilS, nilS],
      .cells v3 87 [I x.days, I x.veh, I x.cap, I x.len, L x.cust, L x.dist, L d, L on, B tw, .sl (nx + 4) v4 1 0 k, I (badN x (d.take k)), .sl (nx + 5) v5 1 0 k, .sl (nx + 6) v6 1 0 k],
      .cells v4 28 (((d.map (mayT x)).take k).flatMap Enc.enc), .cells v5 3 (((d.map tourL).take k).flatMap Enc.enc), .cells v6 3 (((d.map (tourW x)).take k).flatMap Enc.enc)]) (fun s => d.length - s.1) (0, v4, v5, v6) [] (by simp) (by simp) (by simp [badN]) ?_)
  rintro ⟨k, v4, v5, v6⟩ hk
  simp only at hk ⊢
  repeat refine pw_seq ?_
  refine pwn ?_
  intros
  repeat refine pw_seq ?_
  refine pw_cond rfl (fun hc => ?_) (fun hc => ?_)
  · simp at hc
    obtain ⟨t, tl, a1, a2, a3, e0⟩ := el1 rfl d k hc
    have hk1 : 1 ≤ d.length - k := by omega
    have htm := List.mem_of_getElem? a1
    have hm := mayP_ok x t hx (hdo.t t htm)
    have hl := loadP_ok t (hdo.t t htm)
    have hw := lengthP_ok x t (hdo.t t htm) (hdo.s t htm)
    have b1 : badN x (d.take (k + 1)) = badN x (d.take k) + if mayT x t = 0 then 0 else 1 := by rw [a3, badN_app, badN_one]
    have b2 := badN_le x (d.take k)
    rw [List.length_take] at b2
    have b3 := hdo.n
    have b4 := Nat.min_le_left k d.length
    have f1 : (((d.map (mayT x)).take (k + 1)).flatMap Enc.enc : List PV) = ((d.map (mayT x)).take k).flatMap Enc.enc ++ [I (mayT x t)] := by rw [← List.map_take, ← List.map_take, a3]; simp
    have f2 : (((d.map tourL).take (k + 1)).flatMap Enc.enc : List PV) = ((d.map tourL).take k).flatMap Enc.enc ++ [I (W (loadZ t))] := by rw [← List.map_take, ← List.map_take, a3]; simp [tourL]
    have f3 : (((d.map (tourW x)).take (k + 1)).flatMap Enc.enc : List PV) = ((d.map (tourW x)).take k).flatMap Enc.enc ++ [I (W (wayZ x (t.map (·.c))))] := by rw [← List.map_take, ← List.map_take, a3]; simp [tourW]
    have l1 : (((d.map (mayT x)).take k).flatMap Enc.enc : List PV).length = k := by rw [flen_int, List.length_take, List.length_map]; omega
    have l2 : (((d.map tourL).take k).flatMap Enc.enc : List PV).length = k := by rw [flen_int, List.length_take, List.length_map]; omega
    have l3 : (((d.map (tourW x)).take k).flatMap Enc.enc : List PV).length = k := by rw [flen_int, List.length_take, List.length_map]; omega
    generalize ((d.map (mayT x)).take k).flatMap Enc.enc = c1 at *
    generalize ((d.map tourL).take k).flatMap Enc.enc = c2 at *
    generalize ((d.map (tourW x)).take k).flatMap Enc.enc = c3 at *
    have t1 : c1.take k = c1 := List.take_of_length_le (by omega)
    have t2 : c2.take k = c2 := List.take_of_length_le (by omega)
    have t3 : c3.take k = c3 := List.take_of_length_le (by omega)
    generalize badN x (d.take k) = bn at *
    have wb : IntKind.i64.wrap ((bn : Int) + 1) = ((bn + 1 : Nat) : Int) := wrN bn (by omega)
    generalize mayT x t = mt at *
    generalize W (loadZ t) = lt at *
    generalize W (wayZ x (t.map (·.c))) = wt at *
    refine pw_skip (pw_seq (pw_block ?_))
    repeat refine pw_seq ?_
    refine pwN [] (jn3 hc e0 hk1) ?_
    intro v7
    repeat refine pw_seq ?_
    refine pwn ?_
    refine pwc hm ?_
    intros
    repeat refine pw_seq ?_
    refine pwn ?_
    intros
    repeat refine pw_seq ?_
    refine pw_joinK (nx := nx) (fun _ : Unit => True) (fun _ => [(2, .ptr nx v0 0), (4, .ptr (nx + 2) v2 0), (5, .ptr (nx + 3) v3 0), (7, .ptr (nx + 7) v7 0), (8, I mt), (20, L d), (21, I d.length), (22, I k)]) (fun _ => S) (fun _ => [.cells v0 25 (instL x), .cells v1 35 [L d], .cells v2 87 [I 0, I 0, I 0, I 0, nilS, nilS, nilS, nilS, B false, nilS, I 0, nilS, nilS],
      .cells v3 87 [I x.days, I x.veh, I x.cap, I x.len, L x.cust, L x.dist, L d, L on, B tw, .sl (nx + 4) v4 1 0 k, I (bn + (if mt = 0 then 0 else 1) : Nat), .sl (nx + 5) v5 1 0 k, .sl (nx + 6) v6 1 0 k],
      .cells v4 28 c1, .cells v5 3 c2, .cells v6 3 c3, .cells v7 66 [L t]]) ?_ ?_
    · repeat refine pw_seq ?_
      refine pw_cond rfl (fun hq => ?_) (fun hq => ?_)
      · simp at hq
        rw [if_neg hq]
        repeat refine pw_seq ?_
        refine pwN [] wb ?_
        intros
        exact at_mk () [] trivial (by simp) rfl (by simp)
      · simp at hq
        rw [if_pos hq]
        refine pw_skip ?_
        exact at_mk () [] trivial (by simp) rfl (by simp)
    · rintro ⟨⟩ -
      repeat refine pw_seq ?_
      refine pwN [] (jn2 t1 l1) ?_
      refine ⟨by omega, ?_⟩
      intros
      repeat refine pw_seq ?_
      refine pwY (some [nx + 7]) (Row.pures [0, 2, 3, 4] (.alt 1 (.alt 5 (Row.pures [6] (.alt 7 (.done) .stop)) .stop) .stop)) mixed (jn2 t2 l2) ?_
      refine pwP (hl) (jn2 t2 l2) ?_
      refine ⟨by omega, ?_⟩
      intros
      repeat refine pw_seq ?_
      refine pwY (some [nx, nx + 7]) (Row.pures [0, 2, 3, 4, 5] (.alt 1 (.alt 6 (Row.pures [7] (.alt 8 (.done) .stop)) .stop) .stop)) mixed (jn2 t3 l3) ?_
      refine pwP (hw) (jn2 t3 l3) ?_
      refine ⟨by omega, ?_⟩
      intros
      repeat refine pw_seq ?_
      refine pwn ?_
      intros
      exact again_mk (k + 1, v4 + 1, v5 + 1, v6 + 1) [_] (by simp; omega) (by simp; omega) (by simp [wrN k (by omega)]) rfl (by simp only [f1, f2, f3, b1]; simp; rfl)
  · simp at hc
    obtain rfl : k = d.length := by omega
    refine pw_exit ?_
    repeat refine pw_seq ?_
    refine pwn ?_
    intros
    refine pw_frz 6 rfl ?_
    refine pw_frz 5 rfl ?_
    refine pw_frz 4 rfl ?_
    have g1 : (d.map (mayT x)).take d.length = d.map (mayT x) := List.take_of_length_le (by simp)
    have g2 : (d.map tourL).take d.length = d.map tourL := List.take_of_length_le (by simp)
    have g3 : (d.map (tourW x)).take d.length = d.map (tourW x) := List.take_of_length_le (by simp)
    repeat refine pw_seq ?_
    exact pw_ret (ret_pure hd (by simp; rfl) (by simp [oneOf, g1, g2, g3]; simp [← hon, ← htw]))
open Go Go.Proofs
def SubIt (P : Program) (k : FuncId) (args : Nat → List PV) (xs : List (List PV)) (ret : PV) : Prop :=
  Enters P k ∧ ∀ (l : Nat) (V : Ctx → Store → World → Prop) (_ : ∀ {C C' : Ctx} {S S' : Store} {w w' : World}, Step C S w C' S' w' → V C S w → V C' S' w') (m : Nat) (J : Nat → Store → Prop), (∀ i A, J i A → DeadFrom m A) →
    (∀ i A obs x, xs[i]? = some x → J i A → PYield P V l x (ext A m obs) (fun T => ∃ A', J (i + 1) A' ∧ T = ext A' m obs)) →
    ∀ A, J 0 A → PCallsV P V k (args l) A (fun p T => p = ret ∧ J xs.length T)
theorem sub_enter {P : Program} {N : Nat} {f : FuncId} {fn : Func} {c : Code} {rs : List ResultVar} {args : Nat → List PV} {xs : List (List PV)} {ret : PV} (hf : P.funcs[f]? = some fn) (hname : (fn.name == "runtime.NumGoroutine") = false) (hb : fn.body = some c) (hN : fn.ntmps = N) (hrs : fn.results.toList = rs) (hargs : ∀ l, (args l).length ≤ N)
    (h : ∀ (l : Nat) (V : Ctx → Store → World → Prop) (keep : ∀ {C C' : Ctx} {S S' : Store} {w w' : World}, Step C S w C' S' w' → V C S w → V C' S' w') (nx : Nat) (J : Nat → Store → Prop), (∀ i A, J i A → DeadFrom nx A) →
      (∀ i A obs x, xs[i]? = some x → J i A → PYield P V l x (ext A nx obs) (fun T => ∃ A', J (i + 1) A' ∧ T = ext A' nx obs)) →
      ∀ A, J 0 A → PW P ⟨none, V, keep⟩ 0 N c (retQ P rs (fun p T => p = ret ∧ J xs.length T)) (frame0 (args l)) (ext A nx [])) : SubIt P f args xs ret := by
  refine ⟨enters_of hf hname hb, fun l V keep m J hJ hY A hA => ?_⟩
  have := h l V keep m J hJ hY A hA
  rw [ext_nil (hJ 0 A hA)] at this
  exact pcallsV_of_pw hf hb hN hrs (hargs l) this
theorem PYield.mono {P : Program} {V : Ctx → Store → World → Prop} {l : Nat} {args : List PV} {S : Store} {Q Q' : Store → Prop} (h : PYield P V l args S Q) (hq : ∀ T, Q T → Q' T) : PYield P V l args S Q' := by
  intro C w vs h1 h2 h3 h4
  obtain ⟨fn, tmps, assign, body, hy, hR⟩ := h C w vs h1 h2 h3 h4
  refine ⟨fn, tmps, assign, body, hy, hR.mono ?_⟩
  rintro e w' ⟨S', C', a, b, c⟩
  exact ⟨S', C', a, hq _ b, c⟩
theorem sub_use {P : Program} {k : FuncId} {args : Nat → List PV} {xs : List (List PV)} {ret : PV} (h : SubIt P k args xs ret) {V : Ctx → Store → World → Prop} (keep : ∀ {C C' : Ctx} {S S' : Store} {w w' : World}, Step C S w C' S' w' → V C S w → V C' S' w')
    {l nx : Nat} {J : Nat → Store → Prop} {ys : List (List PV)} (hY : ∀ i A obs x, ys[i]? = some x → J i A → PYield P V l x (ext A nx obs) (fun T => ∃ A', J (i + 1) A' ∧ T = ext A' nx obs))
    (off : Nat) (hxs : ∀ i x, xs[i]? = some x → ys[off + i]? = some x) {A : Store} (hJ : J off A) (obs : List Ob) :
    SpecV P V k (args l) (ext A nx obs) (fun p T => ∃ A', p = ret ∧ J (off + xs.length) A' ∧ T = ext A' nx obs) := by
  refine ⟨h.1, (h.2 l V keep (nx + obs.length) (fun i T => ∃ A', J (off + i) A' ∧ T = ext A' nx obs) ?_ ?_ (ext A nx obs) ⟨A, hJ, rfl⟩).mono ?_⟩
  · rintro i T ⟨A', _, rfl⟩; exact ext_dead
  · rintro i T more x hx ⟨A1, hJ1, rfl⟩
    rw [ext_ext _ _ rfl]
    refine (hY (off + i) A1 (obs ++ more) x (hxs i x hx) hJ1).mono ?_
    rintro T ⟨A', hA', rfl⟩
    exact ⟨ext A' nx obs, ⟨A', hA', rfl⟩, (ext_ext _ _ rfl).symm⟩
  · rintro p T ⟨rfl, A', hA', rfl⟩
    exact ⟨A', rfl, hA', rfl⟩
theorem ret_sub {P : Program} {nx : Nat} {F : Nat → PV} {obs : List Ob} {rs : List ResultVar} {ps : List PV} {J : Store → Prop} {A : Store} {ret : PV} (hd : DeadFrom nx A) (h1 : resL P F (ext A nx obs) rs = some ps) (h2 : oneOf ps = ret) (hJ : J A) :
    ∃ ps S', resL P F (ext A nx obs) rs = some ps ∧ (oneOf ps = ret ∧ J S') ∧ ∀ o, S' o = ext A nx obs o ∨ S' o = .dead := ⟨ps, A, h1, ⟨h2, hJ⟩, ext_kill0 hd⟩
theorem fm_at {α : Type} {f : Nat → Option α} {n k : Nat} {v : α} (hk : k < n) (hf : f k = some v) : ((List.range n).filterMap f)[((List.range k).filterMap f).length]? = some v := by
  obtain ⟨m, rfl⟩ : ∃ m, n = k + (m + 1) := ⟨n - k - 1, by omega⟩
  rw [List.range_add, List.filterMap_append, List.getElem?_append_right (Nat.le_refl _), Nat.sub_self, List.range_succ_eq_map]
  simp [hf]
theorem fm_none {α : Type} {f : Nat → Option α} {k : Nat} (hf : f k = none) : ((List.range (k + 1)).filterMap f).length = ((List.range k).filterMap f).length := by
  rw [List.range_succ, List.filterMap_append]; simp [hf]
theorem fm_some {α : Type} {f : Nat → Option α} {k : Nat} {v : α} (hf : f k = some v) : ((List.range (k + 1)).filterMap f).length = ((List.range k).filterMap f).length + 1 := by
  rw [List.range_succ, List.filterMap_append]; simp [hf]
structure Spot where
  t : Nat
  p : Nat
  m : Int
abbrev spotE (s : Spot) : List PV := [.agg [I s.t, I s.p, I s.m]]
def ahZ (l : Tour) (i : Nat) : Int := if i = 0 then 0 else (l.getD (i - 1) default).c + 1
def beZ (l : Tour) (i : Nat) : Int := if i < l.length then (l.getD i default).c + 1 else 0
def moreZ (x : Inst) (l : Tour) (s : Stop) (i : Nat) : Int := W (W (arc x (ahZ l i) (s.c + 1) + arc x (s.c + 1) (beZ l i)) - arc x (ahZ l i) (beZ l i))
def spotAt (x : Inst) (t : Nat) (l : Tour) (w : Int) (s : Stop) (i : Nat) : Option Spot := if W (w + moreZ x l s i) ≤ x.len then some ⟨t, i, moreZ x l s i⟩ else none
def withinZ (x : Inst) (t : Nat) (l : Tour) (fl bad ll w : Int) (s : Stop) : List Spot :=
  if 0 < bad - (if fl = 13 then 1 else 0) ∨ x.cap < W (ll + s.q) then [] else (List.range (l.length + 1)).filterMap (spotAt x t l w s)
abbrev lookG (x : Inst) (d : Day) (on : List Int) (tw : Bool) (fs : List Int) (bad : Int) (ls ws : List Int) : List PV := [I x.days, I x.veh, I x.cap, I x.len, L x.cust, L x.dist, L d, L on, B tw, L fs, I bad, L ls, L ws]
set_option maxRecDepth 20000 in
set_option maxHeartbeats 1600000 in
theorem within_ok (x : Inst) (d : Day) (on : List Int) (tw : Bool) (fs : List Int) (bad : Nat) (ls ws : List Int) (t : Nat) (l : Tour) (s : Stop) (fl ll w : Int) (hbad : bad ≤ 1048576) (hdn : d.length ≤ 1048576) (hd : d[t]? = some l) (hfs : fs[t]? = some fl) (hls : ls[t]? = some ll) (hws : ws[t]? = some w)
    (hfn : fs.length = d.length) (hln : ls.length = d.length) (hwn : ws.length = d.length) (hb : fl = 13 → 0 < bad) (hll : l.length ≤ 1048576) (hsl : ∀ s ∈ l, small s.c) (hss : small s.c) :
    SubIt Tryz.prog 78 (fun y => [.agg (lookG x d on tw fs bad ls ws), I t, .agg [I s.c, I s.q], yld y]) ((withinZ x t l fl bad ll w s).map spotE) (B true) := by
  refine sub_enter Tryz.func78 (by rfl) rfl Tryz.ntmps78 (congrArg Array.toList Tryz.results78) (by simp) fun y V keep nx J hJd hY A0 hA0 => ?_
  have ht : t < d.length := (List.getElem?_eq_some_iff.1 hd).1
  obtain ⟨fl', tf, a1, -, -, ef⟩ := el1 rfl fs t (by omega)
  obtain ⟨ll', tl, a2, -, -, elo⟩ := el1 rfl ls t (by omega)
  obtain ⟨w', tw', a3, -, -, ew⟩ := el1 rfl ws t (by omega)
  obtain ⟨l', td, a4, -, -, ed⟩ := el1 rfl d t ht
  obtain rfl : fl = fl' := by rw [hfs] at a1; exact Option.some.inj a1
  obtain rfl : ll = ll' := by rw [hls] at a2; exact Option.some.inj a2
  obtain rfl : w = w' := by rw [hws] at a3; exact Option.some.inj a3
  obtain rfl : l = l' := by rw [hd] at a4; exact Option.some.inj a4
  have h1 : 1 ≤ fs.length - t := by omega
  have h2 : 1 ≤ ls.length - t := by omega
  have h3 : 1 ≤ ws.length - t := by omega
  have h4 : 1 ≤ d.length - t := by omega
  have g1 : t < fs.length := by omega
  have g2 : t < ls.length := by omega
  have g3 : t < ws.length := by omega
  repeat refine pw_seq ?_
  refine pwn ?_
  intro v0 v1
  repeat refine pw_seq ?_
  refine pwn ?_
  intros
  repeat refine pw_seq ?_
  refine pwN [] (jn3 ef h1 g1) ?_
  intros
  obtain ⟨oth, hoth⟩ : ∃ oth : Int, oth = bad - (if fl = 13 then 1 else 0) := ⟨_, rfl⟩
  repeat refine pw_seq ?_
  refine pw_joinK (nx := nx) (fun _ : Unit => True) (fun _ => [(1, I t), (3, yld y), (4, .ptr nx v0 0), (6, .ptr (nx + 1) v1 0), (9, I oth)]) (fun _ => A0) (fun _ => [.cells v0 87 (lookG x d on tw fs bad ls ws), .cells v1 43 [I s.c, I s.q]]) ?_ ?_
  · repeat refine pw_seq ?_
    refine pw_cond rfl (fun hq => ?_) (fun hq => ?_)
    · simp at hq
      have hb' := hb hq
      rw [if_pos hq] at hoth
      have wb : IntKind.i64.wrap ((bad : Int) - 1) = oth := by rw [hoth, wr _ (by omega) (by omega)]
      repeat refine pw_seq ?_
      refine pwN [] wb ?_
      intros
      exact at_mk () [] trivial (by simp) rfl (by simp)
    · simp at hq
      rw [if_neg hq] at hoth
      obtain rfl : oth = bad := by omega
      refine pw_skip ?_
      exact at_mk () [] trivial (by simp) rfl (by simp)
  · rintro ⟨⟩ -
    have hout : ∀ (h : 0 < oth ∨ x.cap < W (ll + s.q)), withinZ x t l fl bad ll w s = [] := fun h => by unfold withinZ; rw [if_pos (by rw [hoth] at h; exact h)]
    by_cases ho : 0 < oth
    · rw [hout (.inl ho)] at hY ⊢
      repeat refine pw_seq ?_
      refine pwY (some [nx, nx + 1]) (Row.pures [0, 1, 2, 3, 4, 5, 6, 7, 8, 9, 10, 11, 12, 13, 14, 15] .done) mixed (jn2 ho undef_eq) ?_
      intros
      repeat refine pw_seq ?_
      refine pw_ct rfl ?_
      repeat refine pw_seq ?_
      refine pwn ?_
      intros
      repeat refine pw_seq ?_
      exact pw_ret (ret_sub (hJd _ _ hA0) (by simp; rfl) (by simp [oneOf]) hA0)
    by_cases hcap : x.cap < W (ll + s.q)
    · rw [hout (.inr hcap)] at hY ⊢
      repeat refine pw_seq ?_
      refine pwY (some [nx, nx + 1]) (Row.pures [0, 1, 2, 3, 4, 5, 6, 7, 8, 9, 10, 11, 12, 13, 14, 15] .done) mixed (jn6 ho hcap elo h2 g2 undef_eq) ?_
      intros
      repeat refine pw_seq ?_
      refine pw_ct rfl ?_
      repeat refine pw_seq ?_
      refine pwn ?_
      intros
      repeat refine pw_seq ?_
      exact pw_ret (ret_sub (hJd _ _ hA0) (by simp; rfl) (by simp [oneOf]) hA0)
    have hz : withinZ x t l fl bad ll w s = (List.range (l.length + 1)).filterMap (spotAt x t l w s) := by unfold withinZ; rw [if_neg (by rw [← hoth]; simp [ho, hcap])]
    clear hout
    rw [hz] at hY ⊢
    repeat refine pw_seq ?_
    refine pwY (some [nx, nx + 1]) (Row.pures [0, 1, 2, 3, 4, 5, 6, 7, 8, 9, 10, 11, 12, 13, 14, 15] .done) mixed (jn5 ho hcap elo h2 g2) ?_
    intros
    repeat refine pw_seq ?_
    refine pw_cf rfl ?_
    refine pw_skip ?_
    have wc : IntKind.i64.wrap (s.c + 1) = s.c + 1 := wr _ (by unfold small at hss; omega) (by unfold small at hss; omega)
    repeat refine pw_seq ?_
    refine pwY (some [nx, nx + 1]) (Row.pures [0, 1, 2, 3, 4, 5, 6, 7, 8, 9, 10, 11] .done) mixed (jn4 ed h4 ht wc) ?_
    intros
    have wl : IntKind.i64.wrap ((l.length : Int) + 1) = ((l.length + 1 : Nat) : Int) := wrN _ (by omega)
    repeat refine pw_seq ?_
    refine pwN [] wl ?_
    intros
    repeat refine pw_seq ?_
    refine pw_block (pw_loopB (σ := Nat × Store) (fun s' => s'.1 ≤ l.length + 1 ∧ J ((List.range s'.1).filterMap (spotAt x t l w s)).length s'.2) (fun s' => [(1, I t), (3, yld y), (4, .ptr nx v0 0), (6, .ptr (nx + 1) v1 0), (10, L l), (11, I (s.c + 1)), (54, I ((l.length + 1 : Nat) : Int)), (55, I s'.1)]) (fun s' => s'.2)
      (fun _ => [.cells v0 87 (lookG x d on tw fs bad ls ws), .cells v1 43 [I s.c, I s.q]]) (fun s' => l.length + 1 - s'.1) (at_mk (0, A0) [] (by simpa using hA0) (by simp) rfl (by simp)) ?_)
    rintro ⟨k, A⟩ ⟨hk, hJ⟩
    simp only at hk hJ ⊢
    repeat refine pw_seq ?_
    refine pwn ?_
    intros
    repeat refine pw_seq ?_
    refine pw_cond rfl (fun hc => ?_) (fun hc => ?_)
    · simp at hc
      refine pw_skip (pw_seq (pw_block ?_))
      repeat refine pw_seq ?_
      refine pwn ?_
      intros
      repeat refine pw_seq ?_
      refine pwn ?_
      intros
      repeat refine pw_seq ?_
      refine pwn ?_
      intros
      repeat refine pw_seq ?_
      refine pw_joinK (nx := nx) (fun _ : Unit => True) (fun _ => [(1, I t), (3, yld y), (4, .ptr nx v0 0), (6, .ptr (nx + 1) v1 0), (10, L l), (11, I (s.c + 1)), (12, I k), (13, I (ahZ l k)), (14, I 0), (54, I ((l.length + 1 : Nat) : Int)), (55, I k)]) (fun _ => A) (fun _ => [.cells v0 87 (lookG x d on tw fs bad ls ws), .cells v1 43 [I s.c, I s.q]]) ?_ ?_
      · repeat refine pw_seq ?_
        refine pw_cond rfl (fun hk0 => ?_) (fun hk0 => ?_)
        · simp at hk0
          obtain ⟨j, rfl⟩ : ∃ j, k = j + 1 := ⟨k - 1, by omega⟩
          obtain ⟨p, tp, p1, -, -, -, ep⟩ := el 2 rfl l j (by omega)
          have wj : IntKind.i64.wrap (j : Int) = (j : Int) := wr _ (by omega) (by omega)
          have hjl : j < l.length := by omega
          have hj2 : 2 ≤ l.length * 2 - j * 2 := by omega
          have hsm := hsl p (List.mem_of_getElem? p1)
          have wp : IntKind.i64.wrap (p.c + 1) = p.c + 1 := wr _ (by unfold small at hsm; omega) (by unfold small at hsm; omega)
          have hah : ahZ l (j + 1) = p.c + 1 := by unfold ahZ; rw [if_neg (by omega), Nat.add_sub_cancel, List.getD_eq_getElem?_getD, p1]; rfl
          repeat refine pw_seq ?_
          refine pwN [] (jn5 wj ep wp hjl hj2) ?_
          intros
          exact at_mk () [] trivial (by simp [hah]) rfl (by simp)
        · simp at hk0
          subst hk0
          refine pw_skip ?_
          exact at_mk () [] trivial (by simp [ahZ]) rfl (by simp)
      · rintro ⟨⟩ -
        repeat refine pw_seq ?_
        refine pwn ?_
        intros
        repeat refine pw_seq ?_
        refine pw_joinK (nx := nx) (fun _ : Unit => True) (fun _ => [(1, I t), (3, yld y), (4, .ptr nx v0 0), (6, .ptr (nx + 1) v1 0), (10, L l), (11, I (s.c + 1)), (12, I k), (13, I (ahZ l k)), (14, I (beZ l k)), (54, I ((l.length + 1 : Nat) : Int)), (55, I k)]) (fun _ => A) (fun _ => [.cells v0 87 (lookG x d on tw fs bad ls ws), .cells v1 43 [I s.c, I s.q]]) ?_ ?_
        · repeat refine pw_seq ?_
          refine pw_cond rfl (fun hk0 => ?_) (fun hk0 => ?_)
          · simp at hk0
            obtain ⟨p, tp, p1, -, -, -, ep⟩ := el 2 rfl l k hk0
            have hj2 : 2 ≤ l.length * 2 - k * 2 := by omega
            have hsm := hsl p (List.mem_of_getElem? p1)
            have wp : IntKind.i64.wrap (p.c + 1) = p.c + 1 := wr _ (by unfold small at hsm; omega) (by unfold small at hsm; omega)
            have hah : beZ l k = p.c + 1 := by unfold beZ; rw [if_pos hk0, List.getD_eq_getElem?_getD, p1]; rfl
            repeat refine pw_seq ?_
            refine pwN [] (jn4 ep wp hk0 hj2) ?_
            intros
            exact at_mk () [] trivial (by simp [hah]) rfl (by simp)
          · simp at hk0
            refine pw_skip ?_
            exact at_mk () [] trivial (by simp [beZ]; omega) rfl (by simp)
        · rintro ⟨⟩ -
          have q1 := arcP_ok x (ahZ l k) (s.c + 1)
          have q2 := arcP_ok x (s.c + 1) (beZ l k)
          have q3 := arcP_ok x (ahZ l k) (beZ l k)
          have hmo : W (W (arc x (ahZ l k) (s.c + 1) + arc x (s.c + 1) (beZ l k)) - arc x (ahZ l k) (beZ l k)) = moreZ x l s k := rfl
          repeat refine pw_seq ?_
          refine pwY (some [nx, nx + 1]) (Row.pures [0, 1, 2, 3, 4, 5, 6, 7, 8, 9, 10, 11, 12, 13, 14, 15, 16, 17] .done) mixed trivial ?_
          refine pwP (q1) trivial ?_
          refine pwP (q2) trivial ?_
          refine pwP (q3) hmo ?_
          intros
          by_cases hf : W (w + moreZ x l s k) ≤ x.len
          · have hsp : spotAt x t l w s k = some ⟨t, k, moreZ x l s k⟩ := by unfold spotAt; rw [if_pos hf]
            have hat := fm_at (n := l.length + 1) (by omega) hsp
            have hnx := fm_some hsp
            have hy : (((List.range (l.length + 1)).filterMap (spotAt x t l w s)).map spotE)[((List.range k).filterMap (spotAt x t l w s)).length]? = some (spotE ⟨t, k, moreZ x l s k⟩) := by rw [List.getElem?_map, hat]; rfl
            repeat refine pw_seq ?_
            refine pw_Y (some [nx, nx + 1]) (Row.pures [0, 1, 2, 3, 4, 5, 6, 7, 8, 9, 10, 11, 12, 13, 14, 15, 16] (.alt 17 (Row.pures [18, 19] .done) .stop)) mixed (by rfl) (by rfl) (by rfl) fun K Gp Gc Gh hK hGp hGc hGh X hX0 hX1 hX2 hX => ?_
            simp -implicitDefEqProofs [hX0, hX1, hX2, hX, hmo, ew, h3, g3, hf]
            try clear hX0 hX1 hX2 hX X
            refine hGh _ _ _ _ _ (by rfl) (po_yield rfl rfl rfl (hY _ _ _ _ hy hJ) ?_)
            rintro _ ⟨A', hJ', rfl⟩
            refine ⟨by simp [Agree], ?_⟩
            clear hGp hGc hGh
            clear Gp Gc Gh
            refine px_go fun Gp Gc Gh hGp hGc hGh X hX0 hX1 hX2 hX => ?_
            simp -implicitDefEqProofs [hX0, hX1, hX2, hX]
            try clear hX0 hX1 hX2 hX X
            refine hK _ _ _ ?_
            clear hK hGp hGc hGh
            clear K Gp Gc Gh
            repeat refine pw_seq ?_
            refine pw_cf rfl ?_
            refine pw_skip ?_
            repeat refine pw_seq ?_
            refine pwn ?_
            intros
            exact again_mk (k + 1, A') [] ⟨by show k + 1 ≤ _; omega, by rw [hnx]; exact hJ'⟩ (by simp; omega) (by simp [wrN k (by omega)]) rfl (by simp)
          · have hsp : spotAt x t l w s k = none := by unfold spotAt; rw [if_neg hf]
            have hnx := fm_none hsp
            repeat refine pw_seq ?_
            refine pwY (some [nx, nx + 1]) (Row.pures [0, 1, 2, 3, 4, 5, 6, 7, 8, 9, 10, 11, 12, 13, 14, 15, 16, 17, 18, 19] .done) mixed (jn6 hmo ew h3 g3 hf undef_eq) ?_
            intros
            repeat refine pw_seq ?_
            refine pw_cf rfl ?_
            refine pw_skip ?_
            repeat refine pw_seq ?_
            refine pwn ?_
            intros
            exact again_mk (k + 1, A) [] ⟨by show k + 1 ≤ _; omega, by rw [hnx]; exact hJ⟩ (by simp; omega) (by simp [wrN k (by omega)]) rfl (by simp)
    · simp at hc
      obtain rfl : k = l.length + 1 := by omega
      refine pw_exit ?_
      repeat refine pw_seq ?_
      refine pwn ?_
      intros
      repeat refine pw_seq ?_
      exact pw_ret (ret_sub (hJd _ _ hJ) (by simp; rfl) (by simp [oneOf]) (by simpa using hJ))
open Go
def absq (q : Int) : Int := if q < 0 then -(q + 1) else q
theorem absq_ok {q : Int} (h : I64 q) : 0 ≤ absq q ∧ absq q ≤ 9223372036854775807 := by unfold absq I64 at *; split <;> omega
def goodStop (n : Int) (out : List Stop) (s : Stop) : List Stop :=
  if s.c < 0 ∨ n ≤ s.c then out else if out.any (fun o => decide (o.c = s.c)) then out else out ++ [⟨s.c, 1 + absq s.q % 12⟩]
def goodL (n : Int) : List Stop → List Stop → List Stop
  | out, [] => out
  | out, s :: l => if out.length < 6 then goodL n (goodStop n out s) l else out
theorem goodL_full (n : Int) (out l : List Stop) (h : ¬ out.length < 6) : goodL n out l = out := by
  cases l with
  | nil => rfl
  | cons s l => simp [goodL, h]
set_option maxRecDepth 10000 in
theorem goodS_ok (x : Inst) (l : List Stop) (hl : l.length ≤ 9223372036854775807) (hx : x.cust.length ≤ 1048576) (hs : ∀ s ∈ l, StopOk s) : Pure Tryz.prog 14 [.agg (instL x), L l] (L (goodL x.cust.length [] l)) := by
  refine pwe Tryz.func14 Tryz.ntmps14 Tryz.results14 fun S nx hd => ?_
  repeat refine pw_seq ?_
  refine pwn ?_
  intro v0
  repeat refine pw_seq ?_
  refine pwn ?_
  intros
  refine pw_seq (pw_nilX 5 43 2 rfl fun v1 => ?_)
  repeat refine pw_seq ?_
  refine pwn ?_
  intros
  refine pw_joinK (nx := nx) (σ := Nat × Nat) (fun _ => True) (fun (v0, v1) => [(5, .sl (nx + 1) v1 2 0 (goodL x.cust.length [] l).length)]) (fun _ => S) (fun (v0, v1) => [.cells v0 25 (instL x), .cells v1 43 ((goodL x.cust.length [] l).flatMap Enc.enc)]) ?_ ?_
  · repeat refine pw_seq ?_
    refine pw_block (pw_loopL (fun s : Nat × List Stop × Nat × Nat => s.1 ≤ l.length ∧ s.2.1.length ≤ 6 ∧ goodL x.cust.length s.2.1 (l.drop s.1) = goodL x.cust.length [] l) (fun (k, out, v0, v1) => [(1, L l), (2, .ptr nx v0 0), (5, .sl (nx + 1) v1 2 0 out.length), (6, I k)]) (fun (k, out, v0, v1) => [.cells v0 25 (instL x), .cells v1 43 (out.flatMap Enc.enc)]) (fun s => l.length - s.1) (0, [], v0, v1) [] (by simp) (by simp) (by simp) ?_)
    rintro ⟨k, out, v0, v1⟩ ⟨hk, h6, ho⟩
    simp only at hk h6 ho ⊢
    by_cases h1 : k < l.length
    · by_cases h2 : out.length < 6
      · have h2' : (out.length : Int) < 6 := by omega
        obtain ⟨s, tl, a1, a2, a3, e1, e0⟩ := el 2 rfl l k h1
        have hso := hs s (List.mem_of_getElem? a1)
        rw [a2] at ho
        simp only [goodL, if_pos h2] at ho
        repeat refine pw_seq ?_
        refine pwN [(4, 15)] (jn2 h1 h2') ?_
        intros
        repeat refine pw_seq ?_
        refine pw_ct rfl ?_
        refine pw_skip (pw_seq (pw_block ?_))
        repeat refine pw_seq ?_
        refine pwN [] (jn2 h1 e0) ?_
        intros
        have w1 := wrN k (by omega)
        have bad : (s.c < 0 ∨ (x.cust.length : Int) ≤ s.c) → goodL x.cust.length out (l.drop (k + 1)) = goodL x.cust.length [] l := fun q => by rw [← ho, goodStop, if_pos q]
        by_cases h3 : s.c < 0
        · repeat refine pw_seq ?_
          refine pwN [(2, 29)] (jn2 h3 undef_eq) ?_
          intros
          repeat refine pw_seq ?_
          refine pw_ct rfl ?_
          refine pw_exit ?_
          repeat refine pw_seq ?_
          refine pwn ?_
          intros
          exact again_mk (k + 1, out, v0, v1) [] ⟨by omega, h6, bad (.inl h3)⟩ (by simp; omega) (by simp [w1]) rfl (by simp)
        by_cases h4 : (x.cust.length : Int) ≤ s.c
        · repeat refine pw_seq ?_
          refine pwN [(2, 29)] (jn2 h3 h4) ?_
          intros
          repeat refine pw_seq ?_
          refine pw_ct rfl ?_
          refine pw_exit ?_
          repeat refine pw_seq ?_
          refine pwn ?_
          intros
          exact again_mk (k + 1, out, v0, v1) [] ⟨by omega, h6, bad (.inr h4)⟩ (by simp; omega) (by simp [w1]) rfl (by simp)
        repeat refine pw_seq ?_
        refine pwN [(2, 29)] (jn2 h3 h4) ?_
        intros
        repeat refine pw_seq ?_
        refine pw_cf rfl ?_
        refine pw_skip ?_
        repeat refine pw_seq ?_
        refine pwn ?_
        intros
        repeat refine pw_seq ?_
        refine pwn ?_
        intros
        repeat refine pw_seq ?_
        refine pw_block (pw_loopL (fun s' : Nat × Bool × Nat × Nat => s'.1 ≤ out.length ∧ s'.2.1 = (out.take s'.1).any (fun o => decide (o.c = s.c))) (fun (j, had, v0, v1) => [(1, L l), (2, .ptr nx v0 0), (5, .sl (nx + 1) v1 2 0 out.length), (6, I k), (7, I s.c), (8, B had), (9, I j)]) (fun (j, had, v0, v1) => [.cells v0 25 (instL x), .cells v1 43 (out.flatMap Enc.enc)]) (fun s => out.length - s.1) (0, false, v0, v1) [] (by simp) (by simp) (by simp) ?_)
        rintro ⟨j, had, v0, v1⟩ ⟨hj, hh⟩
        simp only at hj hh ⊢
        repeat refine pw_seq ?_
        refine pwn ?_
        intros
        repeat refine pw_seq ?_
        refine pw_cond rfl (fun hc => ?_) (fun hc => ?_)
        · simp at hc
          obtain ⟨o, tl2, b1, b2, b3, e3, e2⟩ := el 2 rfl out j hc
          have w2 := wrN j (by omega)
          refine pw_skip (pw_seq (pw_block ?_))
          cases had with
          | true =>
            repeat refine pw_seq ?_
            refine pwN [(1, 43)] undef_eq ?_
            intros
            repeat refine pw_seq ?_
            refine pwn ?_
            intros
            exact again_mk (j + 1, true, v0, v1) [] ⟨hc, by rw [b3, List.any_append, ← hh]; rfl⟩ (by simp; omega) (by simp [w2]) rfl (by simp)
          | false =>
            repeat refine pw_seq ?_
            refine pwN [(1, 43)] (jn2 hc e2) ?_
            intros
            repeat refine pw_seq ?_
            refine pwn ?_
            intros
            exact again_mk (j + 1, decide (o.c = s.c), v0, v1) [] ⟨hc, by rw [b3, List.any_append, ← hh]; simp⟩ (by simp; omega) (by simp [w2]) rfl (by simp)
        · simp at hc
          have : j = out.length := by omega
          subst this
          rw [List.take_length] at hh
          refine pw_exit ?_
          repeat refine pw_seq ?_
          refine pwN [] (jn2 e1 h1) ?_
          intros
          repeat refine pw_seq ?_
          refine pwn ?_
          intros
          refine pw_joinK (nx := nx) (σ := Nat × Nat) (fun _ => True) (fun (v0, v1) => [(1, L l), (2, .ptr nx v0 0), (5, .sl (nx + 1) v1 2 0 out.length), (6, I k), (7, I s.c), (8, B had), (10, I (absq s.q))]) (fun _ => S) (fun (v0, v1) => [.cells v0 25 (instL x), .cells v1 43 (out.flatMap Enc.enc)]) ?_ ?_
          · have hq := hso.q
            unfold I64 at hq
            by_cases hqn : s.q < 0
            · have q1 : IntKind.i64.wrap (s.q + 1) = s.q + 1 := wr _ (by omega) (by omega)
              have q2 : IntKind.i64.wrap (-(s.q + 1)) = -(s.q + 1) := wr _ (by omega) (by omega)
              refine pw_ct (by simp [hqn]) ?_
              repeat refine pw_seq ?_
              refine pwN [] (jn2 q1 q2) ?_
              intros
              exact at_mk (v0, v1) [] trivial (by simp [absq, hqn, q1, q2]) rfl (by simp)
            · refine pw_cf (by simp [hqn]) ?_
              refine pw_skip ?_
              exact at_mk (v0, v1) [] trivial (by simp [absq, hqn]) rfl (by simp)
          · rintro ⟨v0, v1⟩ -
            simp only
            have hqa := absq_ok hso.q
            repeat refine pw_seq ?_
            refine pwn ?_
            intros
            cases had with
            | true =>
              refine pw_cf (by simp) ?_
              refine pw_skip ?_
              repeat refine pw_seq ?_
              refine pwn ?_
              intros
              exact again_mk (k + 1, out, v0, v1) [] ⟨by omega, h6, by rw [← ho, goodStop, if_neg (by omega), ← hh]; rfl⟩ (by simp; omega) (by simp [w1]) rfl (by simp)
            | false =>
              have hgs : goodStop x.cust.length out s = out ++ [⟨s.c, 1 + absq s.q % 12⟩] := by rw [goodStop, if_neg (by omega), ← hh]; rfl
              have q3 : (absq s.q).tmod 12 = absq s.q % 12 := Int.tmod_eq_emod_of_nonneg hqa.1
              have q4 : IntKind.i64.wrap (1 + absq s.q % 12) = 1 + absq s.q % 12 := wr _ (by omega) (by omega)
              refine pw_ct (by simp) ?_
              repeat refine pw_seq ?_
              refine pwN [] (jn2 q3 q4) ?_
              refine ⟨by omega, ?_⟩
              intros
              repeat refine pw_seq ?_
              refine pwn ?_
              intros
              exact again_mk (k + 1, out ++ [⟨s.c, 1 + absq s.q % 12⟩], v0, v1 + 1) [] ⟨by omega, by simp; omega, by rw [← hgs]; exact ho⟩ (by simp; omega) (by simp [w1]) rfl (by simp)
      · have h2' : ¬ (out.length : Int) < 6 := by omega
        rw [goodL_full _ _ _ h2] at ho
        repeat refine pw_seq ?_
        refine pwN [(4, 15)] (jn2 h1 h2') ?_
        intros
        repeat refine pw_seq ?_
        refine pw_cf rfl ?_
        exact pw_exit (at_mk (v0, v1) [] trivial (by simp [ho]) rfl (by simp [ho]))
    · rw [List.drop_of_length_le (by omega), goodL] at ho
      repeat refine pw_seq ?_
      refine pwN [(4, 15)] (jn2 h1 undef_eq) ?_
      intros
      repeat refine pw_seq ?_
      refine pw_cf rfl ?_
      exact pw_exit (at_mk (v0, v1) [] trivial (by simp [ho]) rfl (by simp [ho]))
  · rintro ⟨v0, v1⟩ -
    simp only
    repeat refine pw_seq ?_
    refine pwn ?_
    intros
    refine pw_frz 1 rfl ?_
    repeat refine pw_seq ?_
    exact pw_ret (ret_pure hd (by simp; rfl) rfl)
open Go
theorem goodI_cust (x : Inst) : (goodI x).cust.length ≤ 6 := by simp [goodI]; omega
theorem goodI_cust' (x : Inst) : (goodI x).cust.length ≤ 1048576 := Nat.le_trans (goodI_cust x) (by decide)
structure Goods (n : Int) (l : List Stop) : Prop where
  each : ∀ s ∈ l, 0 ≤ s.c ∧ s.c < n ∧ 1 ≤ s.q ∧ s.q ≤ 12
  nd : (l.map (·.c)).Nodup
  len : l.length ≤ 6
theorem goods_step {n : Int} {out : List Stop} (h : Goods n out) (h6 : out.length < 6) (s : Stop) (hs : StopOk s) : Goods n (goodStop n out s) := by
  unfold goodStop
  split
  · exact h
  · split
    · exact h
    · rename_i h1 h2
      have hq := absq_ok hs.q
      refine ⟨fun t ht => ?_, ?_, by simp; omega⟩
      · rw [List.mem_append] at ht
        rcases ht with ht | ht
        · exact h.each t ht
        · simp at ht; subst ht; simp only; omega
      · rw [List.map_append]
        refine nodup_snoc _ _ h.nd fun hc => h2 ?_
        obtain ⟨t, ht, e⟩ := List.mem_map.1 hc
        exact List.any_eq_true.2 ⟨t, ht, by simpa using e⟩
theorem goods_goodL {n : Int} : ∀ (l out : List Stop), (∀ s ∈ l, StopOk s) → Goods n out → Goods n (goodL n out l)
  | [], _, _, h => h
  | s :: l, out, hs, h => by
    unfold goodL
    split
    · rename_i h6
      exact goods_goodL l _ (fun t ht => hs t (by simp [ht])) (goods_step h h6 s (hs s (by simp)))
    · exact h
theorem goods_of {n : Int} {l : List Stop} (hs : ∀ s ∈ l, StopOk s) : Goods n (goodL n [] l) := goods_goodL l [] hs ⟨by simp, by simp, by simp⟩
structure Made (n : Int) (d : Day) : Prop where
  goods : Goods n d.flatten
  ne : ∀ t ∈ d, t ≠ []
theorem flat_len_ge : ∀ (d : Day), (∀ t ∈ d, t ≠ []) → d.length ≤ d.flatten.length
  | [], _ => by simp
  | t :: d, h => by
    have := flat_len_ge d fun t ht => h t (by simp [ht])
    have h1 : t.length ≠ 0 := by simpa using h t (by simp)
    rw [List.flatten_cons, List.length_append, List.length_cons]; omega
theorem tour_sub {d : Day} {t : Tour} (h : t ∈ d) : t.Sublist d.flatten := by
  obtain ⟨a, b, rfl⟩ := List.append_of_mem h
  rw [List.flatten_append, List.flatten_cons]
  exact (List.sublist_append_left t b.flatten).trans (List.sublist_append_right a.flatten _)
section
variable {n : Int} {d : Day} (h : Made n d)
include h
theorem Made.len : d.length ≤ 6 := Nat.le_trans (flat_len_ge d h.ne) h.goods.len
theorem Made.tlen {t : Tour} (ht : t ∈ d) : t.length ≤ 6 := Nat.le_trans (tour_sub ht).length_le h.goods.len
theorem Made.stop {t : Tour} (ht : t ∈ d) {s : Stop} (hs : s ∈ t) : 0 ≤ s.c ∧ s.c < n ∧ 1 ≤ s.q ∧ s.q ≤ 12 := h.goods.each s ((tour_sub ht).subset hs)
theorem Made.small (hn : n ≤ 6) {t : Tour} (ht : t ∈ d) : ∀ s ∈ t, small s.c := fun s hs => by have := h.stop ht hs; unfold Pv.small; omega
end
theorem flatten_sub {α : Type} {a b : List (List α)} (h : a.Sublist b) : a.flatten.Sublist b.flatten := by
  induction h with
  | slnil => exact List.Sublist.refl _
  | cons x _ ih => rw [List.flatten_cons]; exact ih.trans (List.sublist_append_right _ _)
  | cons_cons x _ ih => rw [List.flatten_cons, List.flatten_cons]; exact List.Sublist.append_left ih x
theorem sum_perm {a b : List Int} (h : a.Perm b) : a.sum = b.sum := by
  induction h with
  | nil => rfl
  | cons x _ ih => simp [ih]
  | swap x y l => simp; omega
  | trans _ _ ih1 ih2 => exact ih1.trans ih2
theorem Made.sub {n : Int} {d e : Day} (h : Made n d) (hs : e.Sublist d) : Made n e := by
  have hf : e.flatten.Sublist d.flatten := flatten_sub hs
  exact ⟨⟨fun s q => h.goods.each s (hf.subset q), h.goods.nd.sublist (hf.map _), Nat.le_trans hf.length_le h.goods.len⟩, fun t ht => h.ne t (hs.subset ht)⟩
theorem Made.perm {n : Int} {d e : Day} (h : Made n d) (hp : e.Perm d) : Made n e := by
  have hf : e.flatten.Perm d.flatten := hp.flatten
  exact ⟨⟨fun s q => h.goods.each s (hf.subset q), (hf.map _).nodup_iff.2 h.goods.nd, by rw [hf.length_eq]; exact h.goods.len⟩, fun t ht => h.ne t (hp.subset ht)⟩
theorem dayT_zero (x : Inst) (d : Day) : dayT x d = 0 ↔ (∀ t ∈ d, mayT x t = 0) ∧ (d.flatten.map (·.c)).Nodup ∧ (d.length : Int) ≤ x.veh := by
  unfold dayT
  cases hf : d.find? (fun t => mayT x t != 0) with
  | some t =>
    have h1 := List.find?_some hf
    have h2 := List.mem_of_find?_eq_some hf
    simp only
    constructor
    · intro e; simp [e] at h1
    · rintro ⟨h, _⟩; exact h t h2
  | none =>
    rw [List.find?_eq_none] at hf
    simp only
    constructor
    · intro e
      refine ⟨fun t ht => by simpa using hf t ht, ?_⟩
      split at e
      · cases e
      · split at e
        · cases e
        · rename_i h1 h2; exact ⟨by simpa using h1, by omega⟩
    · rintro ⟨_, h1, h2⟩
      rw [if_neg (by simpa using h1), if_neg (by omega)]
theorem mayT_zero (x : Inst) (t : Tour) : mayT x t = 0 ↔ stopsB x t = true ∧ (t.map (·.c)).Nodup ∧ W (loadZ t) ≤ x.cap ∧ W (wayZ x (t.map (·.c))) ≤ x.len := by
  unfold mayT
  constructor
  · intro e
    split at e
    · cases e
    · split at e
      · cases e
      · split at e
        · cases e
        · split at e
          · cases e
          · rename_i h1 h2 h3 h4
            exact ⟨by simpa using h1, by simpa using h2, by omega, by omega⟩
  · rintro ⟨h1, h2, h3, h4⟩
    rw [if_neg (by simp [h1]), if_neg (by simpa using h2), if_neg (by omega), if_neg (by omega)]
theorem load_le {t : Tour} (h : ∀ s ∈ t, 0 ≤ s.q ∧ s.q ≤ 2147483648) : 0 ≤ loadZ t ∧ loadZ t ≤ 2147483648 * t.length := by
  induction t with
  | nil => simp [loadZ]
  | cons s t ih =>
    have := ih fun a ha => h a (by simp [ha])
    have := h s (by simp)
    simp only [loadZ, List.map_cons, List.sum_cons, List.length_cons] at *
    omega
theorem load_app (a b : Tour) : loadZ (a ++ b) = loadZ a + loadZ b := by simp [loadZ]
open Go Go.Proofs
def spotsZ (x : Inst) (d : Day) (s : Stop) : List Spot :=
  if mayT x [s] = 1 ∨ s.c ∈ d.flatten.map (·.c) ∨ ¬ (d.flatten.map (·.c)).Nodup ∨ x.veh < d.length then []
  else ((List.range d.length).flatMap fun t => withinZ x t (d.getD t []) (mayT x (d.getD t [])) (badN x d) (tourL (d.getD t [])) (tourW x (d.getD t [])) s) ++
    (if badN x d = 0 ∧ mayT x [s] = 0 ∧ (d.length : Int) < x.veh then [⟨d.length, 0, W (wayZ x [s.c])⟩] else [])
def bestS (st : Spot × Bool) (b : Spot) : Spot × Bool := if st.2 = false ∨ b.m < st.1.m then (b, true) else st
def bestZ (l : List Spot) : Spot × Bool := l.foldl bestS (⟨0, 0, 0⟩, false)
def insT (l : Tour) (i : Nat) (s : Stop) : Tour := l.take i ++ s :: l.drop i
def putD (d : Day) (b : Spot) (s : Stop) : Day := if b.t = d.length then d ++ [[s]] else d.set b.t (insT (d.getD b.t []) b.p s)
def insertD (x : Inst) (d : Day) (s : Stop) : Day × Bool := bif (bestZ (spotsZ x d s)).2 then (putD d (bestZ (spotsZ x d s)).1 s, true) else (d, false)
theorem bestZ_mem_aux : ∀ (l : List Spot) (st : Spot × Bool), (l.foldl bestS st).2 = true → (l.foldl bestS st) = st ∨ (l.foldl bestS st).1 ∈ l
  | [], st, _ => .inl rfl
  | b :: l, st, h => by
    rw [List.foldl_cons] at h ⊢
    rcases bestZ_mem_aux l _ h with e | e
    · by_cases hq : st.2 = false ∨ b.m < st.1.m
      · right; rw [e]; unfold bestS; rw [if_pos hq]; simp
      · left; rw [e]; unfold bestS; rw [if_neg hq]
    · exact .inr (by simp [e])
theorem bestZ_mem {l : List Spot} (h : (bestZ l).2 = true) : (bestZ l).1 ∈ l := by
  rcases bestZ_mem_aux l _ h with e | e
  · rw [show l.foldl bestS (⟨0, 0, 0⟩, false) = bestZ l from rfl] at e
    rw [e] at h; cases h
  · exact e
theorem withinZ_mem {x : Inst} {t : Nat} {l : Tour} {fl bad ll w : Int} {s : Stop} {b : Spot} (h : b ∈ withinZ x t l fl bad ll w s) : ¬ (0 < bad - (if fl = 13 then 1 else 0)) ∧ W (ll + s.q) ≤ x.cap ∧ b ∈ (List.range (l.length + 1)).filterMap (spotAt x t l w s) := by
  unfold withinZ at h
  by_cases hw : 0 < bad - (if fl = 13 then 1 else 0) ∨ x.cap < W (ll + s.q)
  · rw [if_pos hw] at h; cases h
  · rw [if_neg hw] at h
    refine ⟨fun e => hw (.inl e), ?_, h⟩
    rcases Int.lt_or_le x.cap (W (ll + s.q)) with e | e
    · exact absurd (.inr e) hw
    · exact e
theorem spotsZ_mem {x : Inst} {d : Day} {s : Stop} {b : Spot} (h : b ∈ spotsZ x d s) :
    mayT x [s] ≠ 1 ∧ s.c ∉ d.flatten.map (·.c) ∧ (d.flatten.map (·.c)).Nodup ∧ (d.length : Int) ≤ x.veh ∧
    ((∃ l, d[b.t]? = some l ∧ b.p ≤ l.length ∧ ¬ (0 < (badN x d : Int) - (if mayT x l = 13 then 1 else 0)) ∧ W (tourL l + s.q) ≤ x.cap ∧ b.m = moreZ x l s b.p ∧ W (tourW x l + b.m) ≤ x.len) ∨
     (b = ⟨d.length, 0, W (wayZ x [s.c])⟩ ∧ badN x d = 0 ∧ mayT x [s] = 0 ∧ (d.length : Int) < x.veh)) := by
  unfold spotsZ at h
  split at h
  · cases h
  · rename_i hq
    have q1 : mayT x [s] ≠ 1 := fun e => hq (.inl e)
    have q2 : s.c ∉ d.flatten.map (·.c) := fun e => hq (.inr (.inl e))
    have q3 : (d.flatten.map (·.c)).Nodup := Classical.byContradiction fun e => hq (.inr (.inr (.inl e)))
    have q4 : (d.length : Int) ≤ x.veh := by
      rcases Int.lt_or_le x.veh d.length with e | e
      · exact absurd (.inr (.inr (.inr e))) hq
      · exact e
    refine ⟨q1, q2, q3, q4, ?_⟩
    rw [List.mem_append] at h
    rcases h with h | h
    · left
      obtain ⟨t, ht, hb⟩ := List.mem_flatMap.1 h
      rw [List.mem_range] at ht
      have hd : d[t]? = some (d.getD t []) := by rw [List.getD_eq_getElem?_getD, List.getElem?_eq_getElem ht]; rfl
      obtain ⟨w1, w2, hb⟩ := withinZ_mem hb
      obtain ⟨i, hi, he⟩ := List.mem_filterMap.1 hb
      rw [List.mem_range] at hi
      unfold spotAt at he
      by_cases hlen : W (tourW x (d.getD t []) + moreZ x (d.getD t []) s i) ≤ x.len
      · rw [if_pos hlen] at he
        cases he
        exact ⟨_, hd, by simp only; omega, w1, w2, rfl, hlen⟩
      · rw [if_neg hlen] at he; cases he
    · right
      split at h
      · rename_i hc; simp at h; exact ⟨h, hc⟩
      · cases h
def lastA (a : Int) : List Int → Int
  | [] => a
  | c :: l => lastA (c + 1) l
def headA : List Int → Int
  | [] => 0
  | c :: _ => c + 1
theorem wayS_ins (x : Inst) (c : Int) (r : List Int) : ∀ (p : List Int) (a : Int), wayS x a (p ++ c :: r) = wayS x a (p ++ r) + (arc x (lastA a p) (c + 1) + arc x (c + 1) (headA r) - arc x (lastA a p) (headA r))
  | [], a => by
    cases r with
    | nil => simp only [List.nil_append, wayS, lastA, headA]; omega
    | cons e r => simp only [List.nil_append, wayS, lastA, headA]; omega
  | e :: p, a => by
    simp only [List.cons_append, wayS, lastA]
    rw [wayS_ins x c r p (e + 1)]; omega
theorem lastA_eq : ∀ (p : List Int) (a : Int), lastA a p = if p.length = 0 then a else (p.getD (p.length - 1) 0) + 1
  | [], a => by simp [lastA]
  | [c], a => by simp [lastA]
  | c :: e :: p, a => by
    simp only [lastA]
    rw [show lastA (e + 1) p = lastA (c + 1) (e :: p) from rfl, lastA_eq (e :: p) (c + 1)]
    simp [List.getD_eq_getElem?_getD]
theorem mapc_getD (l : Tour) (i : Nat) (h : i < l.length) : (l.map (·.c)).getD i 0 = (l.getD i default).c := by
  rw [List.getD_eq_getElem?_getD, List.getD_eq_getElem?_getD, List.getElem?_map, List.getElem?_eq_getElem h]; rfl
theorem way_ins (x : Inst) (l : Tour) (s : Stop) (i : Nat) (h0 : l ≠ []) (hi : i ≤ l.length) :
    wayZ x ((insT l i s).map (·.c)) = wayZ x (l.map (·.c)) + (arc x (ahZ l i) (s.c + 1) + arc x (s.c + 1) (beZ l i) - arc x (ahZ l i) (beZ l i)) := by
  unfold wayZ insT
  rw [if_neg (by simp), if_neg (by simpa using h0)]
  rw [List.map_append, List.map_cons, wayS_ins, ← List.map_append, List.take_append_drop]
  have e1 : lastA 0 ((l.take i).map (·.c)) = ahZ l i := by
    rw [lastA_eq]
    unfold ahZ
    rw [List.length_map, List.length_take]
    by_cases hz : i = 0
    · rw [if_pos (by omega), if_pos hz]
    · rw [if_neg (by omega), if_neg hz, mapc_getD _ _ (by rw [List.length_take]; omega)]
      rw [List.getD_eq_getElem?_getD, List.getD_eq_getElem?_getD, List.getElem?_take_of_lt (by omega), show min i l.length - 1 = i - 1 from by omega]
  have e2 : headA ((l.drop i).map (·.c)) = beZ l i := by
    unfold beZ
    by_cases hz : i < l.length
    · rw [if_pos hz, List.drop_eq_getElem_cons hz, List.getD_eq_getElem?_getD, List.getElem?_eq_getElem hz]; rfl
    · rw [if_neg hz, List.drop_eq_nil_of_le (by omega)]; rfl
  rw [e1, e2]
theorem tourW_ins (x : Inst) (l : Tour) (s : Stop) (i : Nat) (h0 : l ≠ []) (hi : i ≤ l.length) : tourW x (insT l i s) = W (tourW x l + moreZ x l s i) := by
  unfold tourW moreZ
  rw [way_ins x l s i h0 hi, W_add, W_add']
  generalize arc x (ahZ l i) (s.c + 1) + arc x (s.c + 1) (beZ l i) = p
  generalize arc x (ahZ l i) (beZ l i) = q
  generalize wayZ x (l.map (·.c)) = r
  simp only [W, IntKind.wrap_i64]; omega
theorem tourL_ins (l : Tour) (s : Stop) (i : Nat) : tourL (insT l i s) = W (tourL l + s.q) := by
  unfold tourL
  rw [W_add]
  have : loadZ (insT l i s) = loadZ l + s.q := by
    unfold loadZ insT
    conv => rhs; rw [← List.take_append_drop i l]
    simp only [List.map_append, List.map_cons, List.sum_append, List.sum_cons]; omega
  rw [this]
theorem insT_perm (l : Tour) (s : Stop) (i : Nat) : (insT l i s).Perm (s :: l) := by
  unfold insT
  have := List.perm_middle (a := s) (l₁ := l.take i) (l₂ := l.drop i)
  rwa [List.take_append_drop] at this
theorem set_flatten_perm {α : Type} : ∀ (d : List (List α)) (t : Nat) (l m : List α) (s : α), d[t]? = some l → m.Perm (s :: l) → (d.set t m).flatten.Perm (s :: d.flatten)
  | [], t, l, m, s, h, _ => by simp at h
  | a :: d, 0, l, m, s, h, hm => by
    simp at h; subst h
    simp only [List.set_cons_zero, List.flatten_cons]
    exact (hm.append_right _)
  | a :: d, t + 1, l, m, s, h, hm => by
    simp only [List.getElem?_cons_succ] at h
    simp only [List.set_cons_succ, List.flatten_cons]
    exact ((set_flatten_perm d t l m s h hm).append_left a).trans List.perm_middle
theorem putD_perm {x : Inst} {d : Day} {s : Stop} {b : Spot} (h : b ∈ spotsZ x d s) : (putD d b s).flatten.Perm (s :: d.flatten) := by
  obtain ⟨-, -, -, -, h⟩ := spotsZ_mem h
  unfold putD
  rcases h with ⟨l, hl, -⟩ | ⟨rfl, -⟩
  · have hlt := (List.getElem?_eq_some_iff.1 hl).1
    rw [if_neg (by omega), List.getD_eq_getElem?_getD, hl]
    exact set_flatten_perm d b.t l _ s hl (insT_perm l s b.p)
  · rw [if_pos rfl]
    simp only [List.flatten_append, List.flatten_cons, List.flatten_nil, List.append_nil]
    exact List.perm_append_comm
theorem insertD_perm {x : Inst} {d : Day} {s : Stop} (h : (insertD x d s).2 = true) : (insertD x d s).1.flatten.Perm (s :: d.flatten) := by
  unfold insertD at h ⊢
  cases hb : (bestZ (spotsZ x d s)).2 with
  | false => rw [hb] at h; cases h
  | true => exact putD_perm (bestZ_mem hb)
theorem insertD_no {x : Inst} {d : Day} {s : Stop} (h : (insertD x d s).2 = false) : (insertD x d s).1 = d := by
  unfold insertD at h ⊢
  cases hb : (bestZ (spotsZ x d s)).2 with
  | false => rfl
  | true => rw [hb] at h; cases h
theorem stopsB_perm {x : Inst} {a b : Tour} (h : a.Perm b) : stopsB x a = stopsB x b := by
  unfold stopsB
  have h1 : a.all (goodS x) = b.all (goodS x) := by
    rw [Bool.eq_iff_iff, List.all_eq_true, List.all_eq_true]
    exact ⟨fun q s hs => q s (h.symm.subset hs), fun q s hs => q s (h.subset hs)⟩
  have h2 : a.isEmpty = b.isEmpty := by
    cases a with
    | nil => rw [List.nil_perm.1 h]
    | cons a l =>
      cases b with
      | nil => exact absurd h.symm (by simp)
      | cons => rfl
  rw [h1, h2]
theorem stopsB_ne {x : Inst} {t : Tour} (h : stopsB x t = true) : t ≠ [] := by
  rintro rfl; simp [stopsB] at h
theorem mayT_one {x : Inst} {t : Tour} (h : stopsB x t = false) : mayT x t = 1 := by unfold mayT; rw [if_pos h]
theorem single_good {x : Inst} {s : Stop} (h : mayT x [s] ≠ 1) : goodS x s = true := by
  cases hs : stopsB x [s] with
  | false => exact absurd (mayT_one hs) h
  | true => simpa [stopsB] using hs
theorem badN_zero {x : Inst} {d : Day} : badN x d = 0 ↔ ∀ t ∈ d, mayT x t = 0 := by
  unfold badN
  rw [List.length_eq_zero_iff, List.filter_eq_nil_iff]
  simp
theorem putD_may {x : Inst} {d : Day} {s : Stop} {b : Spot} (h : b ∈ spotsZ x d s) : dayT x (putD d b s) = 0 := by
  have hp := putD_perm h
  obtain ⟨q1, q2, q3, q4, h⟩ := spotsZ_mem h
  rw [dayT_zero]
  have hg := single_good q1
  have hn : ((putD d b s).flatten.map (·.c)).Nodup := by
    rw [(hp.map _).nodup_iff, List.map_cons, List.nodup_cons]
    exact ⟨q2, q3⟩
  refine ⟨?_, hn, ?_⟩
  · rcases h with ⟨l, hl, hi, ho, hcap, hm, hlen⟩ | ⟨rfl, hb, hs, hv⟩
    · obtain ⟨hlt, hle⟩ := List.getElem?_eq_some_iff.1 hl
      have hpd : putD d b s = d.set b.t (insT l b.p s) := by unfold putD; rw [if_neg (by omega), List.getD_eq_getElem?_getD, hl]; rfl
      -- the other tours
      have hoth : ∀ j m, j ≠ b.t → d[j]? = some m → mayT x m = 0 := by
        intro j m hj hm'
        refine Classical.byContradiction fun hbad => ?_
        have h13 : 0 < badN x d := by
          rcases Nat.eq_zero_or_pos (badN x d) with e | e
          · exact absurd (badN_zero.1 e m (List.mem_of_getElem? hm')) hbad
          · exact e
        by_cases hf : mayT x l = 13
        · rw [if_pos hf] at ho
          have h2 : 2 ≤ badN x d := by
            unfold badN
            obtain ⟨hjl, hje⟩ := List.getElem?_eq_some_iff.1 hm'
            have key : ∀ (i j : Nat), i < j → ∀ (a c : Tour), d[i]? = some a → d[j]? = some c → mayT x a ≠ 0 → mayT x c ≠ 0 → 2 ≤ (d.filter fun t => decide (mayT x t ≠ 0)).length := by
              intro i j hij a c ha hc na nc
              obtain ⟨hil, rfl⟩ := List.getElem?_eq_some_iff.1 ha
              obtain ⟨hjl, rfl⟩ := List.getElem?_eq_some_iff.1 hc
              have e : d = d.take (i + 1) ++ d.drop (i + 1) := (List.take_append_drop _ _).symm
              rw [e, List.filter_append, List.length_append]
              have m1 : d[i] ∈ (d.take (i + 1)).filter fun t => decide (mayT x t ≠ 0) := List.mem_filter.2 ⟨List.mem_of_getElem? (i := i) (by rw [List.getElem?_take_of_lt (by omega)]; exact ha), by simp [na]⟩
              have m2 : d[j] ∈ (d.drop (i + 1)).filter fun t => decide (mayT x t ≠ 0) := List.mem_filter.2 ⟨List.mem_of_getElem? (i := j - (i + 1)) (by rw [List.getElem?_drop, show i + 1 + (j - (i + 1)) = j from by omega]; exact hc), by simp [nc]⟩
              have := List.length_pos_of_mem m1
              have := List.length_pos_of_mem m2
              omega
            have nl : mayT x l ≠ 0 := by rw [hf]; decide
            rcases Nat.lt_or_ge j b.t with h3 | h3
            · exact key j b.t h3 m l hm' hl hbad nl
            · exact key b.t j (by omega) l m hl hm' nl hbad
          omega
        · rw [if_neg hf] at ho; omega
      -- the tour itself
      have hself : mayT x l = 0 ∨ mayT x l = 13 := by
        by_cases hf : mayT x l = 13
        · exact .inr hf
        · rw [if_neg hf] at ho
          exact .inl (badN_zero.1 (by omega) l (List.mem_of_getElem? hl))
      have hst : stopsB x l = true := by
        cases e : stopsB x l with
        | true => rfl
        | false => rw [mayT_one e] at hself; rcases hself with h | h <;> cases h
      have hne := stopsB_ne hst
      intro t ht
      rw [hpd] at ht
      obtain ⟨j, hj⟩ := List.mem_iff_getElem?.1 ht
      rw [List.getElem?_set] at hj
      by_cases hjb : b.t = j
      · rw [if_pos hjb, if_pos hlt] at hj
        cases hj
        rw [mayT_zero]
        refine ⟨?_, ?_, ?_, ?_⟩
        · rw [stopsB_perm (insT_perm l s b.p)]
          unfold stopsB at hst ⊢
          simp only [List.all_cons, List.isEmpty_cons, Bool.and_eq_true] at hst ⊢
          exact ⟨⟨hg, hst.1⟩, rfl⟩
        · have hsub : (insT l b.p s).Sublist (putD d b s).flatten := by rw [hpd]; exact tour_sub ht
          exact hn.sublist (hsub.map _)
        · have := tourL_ins l s b.p
          unfold tourL at this
          rw [this]; exact hcap
        · have := tourW_ins x l s b.p hne hi
          unfold tourW at this
          rw [this, ← hm]; exact hlen
      · rw [if_neg hjb] at hj
        exact hoth j t (fun e => hjb e.symm) hj
    · unfold putD
      rw [if_pos rfl]
      intro t ht
      rw [List.mem_append] at ht
      rcases ht with ht | ht
      · exact badN_zero.1 hb t ht
      · simp at ht; subst ht; exact hs
  · rcases h with ⟨l, hl, -⟩ | ⟨rfl, -, -, hv⟩
    · have hlt := (List.getElem?_eq_some_iff.1 hl).1
      unfold putD; rw [if_neg (by omega), List.length_set]; exact q4
    · unfold putD; rw [if_pos rfl, List.length_append]; simp; omega
open Go Hp
theorem JI.begin : ∀ (l pre : List Stop) (T : Day) (g : Int → Option Int), JI pre T g → ((pre ++ l).map (·.c)).Nodup → ∃ g', JI (pre ++ l) (T ++ l.map fun s => [s]) g'
  | [], pre, T, g, h, _ => ⟨g, by simpa using h⟩
  | s :: l, pre, T, g, h, hn => by
    have hs : s.c ∉ pre.map (·.c) := by
      rw [List.map_append, List.nodup_append] at hn
      exact fun hm => hn.2.2 _ hm s.c (by simp) rfl
    obtain ⟨g', h'⟩ := JI.begin l (pre ++ [s]) (T ++ [[s]]) _ (h.snoc s hs) (by simpa using hn)
    exact ⟨g', by simpa using h'⟩
theorem sum_set {α : Type} (f : α → Int) : ∀ (T : List α) (i : Nat) (a b : α), T[i]? = some a → ((T.set i b).map f).sum = (T.map f).sum - f a + f b
  | [], i, a, b, h => by simp at h
  | t :: T, 0, a, b, h => by simp at h; subst h; simp; omega
  | t :: T, i + 1, a, b, h => by
    simp only [List.getElem?_cons_succ] at h
    simp only [List.set_cons_succ, List.map_cons, List.sum_cons]
    rw [sum_set f T i a b h]; omega
theorem wayZ_nil (x : Inst) : wayZ x [] = 0 := by simp [wayZ]
theorem wayZ_app {x : Inst} {a b : List Int} {u v : Int} (hu : a[a.length - 1]? = some u) (hv : b[0]? = some v) : wayZ x (a ++ b) = wayZ x a + wayZ x b - savZ x u v := by
  have ha : 0 < a.length := by
    have := (List.getElem?_eq_some_iff.1 hu).1; omega
  have h1 := wayZ_cut x (a ++ b) (a.length - 1) u v (by rw [List.getElem?_append_left (by omega)]; exact hu) (by rw [Nat.sub_add_cancel ha, List.getElem?_append_right (Nat.le_refl _), Nat.sub_self]; exact hv)
  rw [Nat.sub_add_cancel ha, List.take_left', List.drop_left'] at h1
  · exact h1
  · rfl
  · rfl
structure KI (x : Inst) (ss : List Stop) (C : Int) (st : Day × Int) : Prop where
  j : ∃ g, JI ss st.1 g
  may : ∀ t ∈ st.1, 1 < t.length → mayT x t = 0
  num : st.2 ≤ x.veh
  cost : costZ x st.1 ≤ C
theorem KI.step {x : Inst} {ss : List Stop} {C : Int} {st : Day × Int} (h : KI x ss C st) {p : Pr} (ha : p.a ∈ ss.map (·.c)) (hb : p.b ∈ ss.map (·.c)) (hs : p.s = savZ x p.a p.b) : KI x ss C (joinS x st p) := by
  obtain ⟨g, hI⟩ := h.j
  obtain ⟨i, a, sa, hia, hsa, hsac, hga, hpi⟩ := hI.there ha
  obtain ⟨k, b, sb, hkb, hsb, hsbc, hgb, hpk⟩ := hI.there hb
  have hgi : st.1.getD i [] = a := by rw [List.getD_eq_getElem?_getD, hia]; rfl
  have hgk : st.1.getD k [] = b := by rw [List.getD_eq_getElem?_getD, hkb]; rfl
  unfold joinS joinAt
  rw [hpi, hpk, hgi, hgk]
  cases hc : joinC x st.2 p i k a b with
  | false => exact h
  | true =>
    simp only [cond_true]
    unfold joinC at hc
    simp only [Bool.and_eq_true, decide_eq_true_eq, Bool.not_eq_true', Bool.and_eq_false_iff, decide_eq_false_iff_not] at hc
    obtain ⟨⟨⟨⟨h1, h2⟩, h3⟩, h4⟩, h5⟩ := hc
    have hn := h.num
    have hpos : 0 < p.s := by rcases h4 with h4 | h4 <;> omega
    refine ⟨⟨_, hI.join hia hkb h1⟩, fun t ht hl => ?_, by simp only; omega, ?_⟩
    · rcases List.mem_or_eq_of_mem_set ht with ht | ht
      · rcases List.mem_or_eq_of_mem_set ht with ht | ht
        · exact h.may t ht hl
        · rw [ht]; exact h5
      · rw [ht] at hl; simp at hl
    · have hk2 : (st.1.set i (a ++ b))[k]? = some b := by rw [List.getElem?_set_ne h1]; exact hkb
      have e1 := sum_set (fun t : Tour => wayZ x (t.map (·.c))) (st.1.set i (a ++ b)) k b [] hk2
      have e2 := sum_set (fun t : Tour => wayZ x (t.map (·.c))) st.1 i a (a ++ b) hia
      have e3 := wayZ_app (x := x) (a := a.map (·.c)) (b := b.map (·.c)) (u := p.a) (v := p.b) (by
        unfold endC at h2; rw [List.getElem?_map, List.length_map]; exact h2) (by unfold headC at h3; rw [List.getElem?_map]; exact h3)
      have hcst := h.cost
      unfold costZ at hcst ⊢
      simp only [List.map_append, List.map_nil, wayZ_nil] at e1 e2
      rw [e3] at e2
      simp only
      omega
end Go.Proofs.YtafcjklojnhbnaaGreat.Pv
