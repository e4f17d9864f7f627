/- A part of the proof of the statement that the last text of this claim proves; no condition is added. Packed by a program of the prover. -/
import Derived.Test.YtafcjklojnhbnaaGreatP4
namespace Go.Proofs.YtafcjklojnhbnaaGreat.Pv
open Go Go.Proofs
def sumC (c : Int) (l : List Stop) : Int := ((l.filter fun s => decide (s.c = c)).map (·.q)).sum
theorem remQ_eq (c : Int) (d : Day) : remQ c d = W (sumC c d.flatten) := rfl
theorem sumC_snoc (c : Int) (l : List Stop) (s : Stop) : sumC c (l ++ [s]) = sumC c l + if s.c = c then s.q else 0 := by
  unfold sumC
  rw [List.filter_append, List.map_append, List.sum_append]
  by_cases h : s.c = c <;> simp [h]
theorem remT_snoc (c : Int) (l : List Stop) (s : Stop) : remT c (l ++ [s]) = remT c l ++ if s.c = c then [] else [s] := by
  unfold remT
  rw [List.filter_append]
  by_cases h : s.c = c <;> simp [h]
theorem remD_snoc (c : Int) (d : Day) (t : Tour) : remD c (d ++ [t]) = remD c d ++ if (remT c t).length = 0 then [] else [remT c t] := by
  rw [remD_app]
  congr 1
  unfold remD
  rw [List.map_cons, List.map_nil]
  generalize remT c t = u
  cases u <;> simp
theorem remT_le (c : Int) (t : Tour) : (remT c t).length ≤ t.length := List.length_filter_le _ _
theorem remD_le (c : Int) (d : Day) : (remD c d).length ≤ d.length := by
  unfold remD
  exact Nat.le_trans (List.length_filter_le _ _) (by simp)
set_option maxRecDepth 20000 in
set_option maxHeartbeats 1600000 in
theorem remove_ok (d : Day) (c : Int) (hdn : d.length ≤ 1048576) (hdt : ∀ t ∈ d, t.length ≤ 1048576) : Pure Tryz.prog 27 [.agg [L d], I c] (.tup [.agg [L (remD c d)], I (remQ c d)]) := by
  rw [remQ_eq]
  refine pwe Tryz.func27 Tryz.ntmps27 Tryz.results27 fun S nx hd => ?_
  repeat refine pw_seq ?_
  refine pwn ?_
  intro v0 v1
  repeat refine pw_seq ?_
  refine pwn ?_
  intro v2
  refine pw_nilObX 2 0 66 1 rfl rfl fun v3 => ?_
  repeat refine pw_seq ?_
  refine pwn ?_
  intros
  repeat refine pw_seq ?_
  refine pwn ?_
  intros
  repeat refine pw_seq ?_
  refine pw_block (pw_loopL (fun (s : Nat × Nat) => s.1 ≤ d.length) (fun (k, v3) => [(1, I c), (4, .ptr (nx + 1) v1 0), (6, .ptr (nx + 2) v2 0), (7, I (W (sumC c (d.take k).flatten))), (14, L d), (15, I d.length), (16, I k)]) (fun (k, v3) => [.cells v0 35 [L d], .cells v1 35 [nilS], .cells v2 35 [.sl (nx + 3) v3 1 0 (remD c (d.take k)).length], .cells v3 66 ((remD c (d.take k)).flatMap Enc.enc)]) (fun s => d.length - s.1) (0, v3) [] (by simp) (by simp [sumC]) (by simp [remD]) ?_)
  rintro ⟨k, v3⟩ hk
  simp only at hk ⊢
  repeat refine pw_seq ?_
  refine pwn ?_
  intros
  repeat refine pw_seq ?_
  refine pw_cond rfl (fun hc => ?_) (fun hc => ?_)
  · simp at hc
    obtain ⟨t, tl, a1, a2, a3, e0⟩ := el1 rfl d k hc
    have hk1 : 1 ≤ d.length - k := by omega
    have htm := List.mem_of_getElem? a1
    have htn := hdt t htm
    have hrd := remD_snoc c (d.take k) t
    rw [← a3] at hrd
    have hfl : (d.take (k + 1)).flatten = (d.take k).flatten ++ t := by rw [a3, List.flatten_append]; simp
    generalize (d.take k).flatten = pre at *
    have hrl : (remD c (d.take k)).length ≤ 1048576 := Nat.le_trans (remD_le _ _) (by rw [List.length_take]; omega)
    refine pw_skip (pw_seq (pw_block ?_))
    generalize hrk : remD c (d.take k) = rk at *
    have hfz : ∀ id v cs, (rk.flatMap Enc.enc).map (frzP id v cs) = (rk.flatMap Enc.enc : List PV) := fun id v cs => frz_day id v cs rk
    have hrf : (rk.flatMap Enc.enc : List PV).length = rk.length := flen_list rk
    have hrt : (rk.flatMap Enc.enc : List PV).take rk.length = rk.flatMap Enc.enc := List.take_of_length_le (by omega)
    repeat refine pw_seq ?_
    refine pwN [] (jn3 hc e0 hk1) ?_
    intro v4
    repeat refine pw_seq ?_
    refine pwn ?_
    intros
    refine pw_nilX 10 43 2 rfl fun v5 => ?_
    repeat refine pw_seq ?_
    refine pwn ?_
    intros
    repeat refine pw_seq ?_
    refine pw_block (pw_loopL (fun (s : Nat × Nat) => s.1 ≤ t.length) (fun (j, v5) => [(1, I c), (4, .ptr (nx + 1) v1 0), (6, .ptr (nx + 2) v2 0), (7, I (W (sumC c (pre ++ t.take j)))), (10, .sl (nx + 5) v5 2 0 (remT c (t.take j)).length), (14, L d), (15, I d.length), (16, I k), (21, L t), (22, I t.length), (23, I j)]) (fun (j, v5) => [.cells v0 35 [L d], .cells v1 35 [nilS], .cells v2 35 [.sl (nx + 3) v3 1 0 rk.length], .cells v3 66 (rk.flatMap Enc.enc), .cells v4 66 [L t], .cells v5 43 ((remT c (t.take j)).flatMap Enc.enc)]) (fun s => t.length - s.1) (0, v5) [] (by simp) (by simp [remT]) (by simp [remT]) ?_)
    rintro ⟨j, v5⟩ hj
    simp only at hj ⊢
    repeat refine pw_seq ?_
    refine pwn ?_
    intros
    repeat refine pw_seq ?_
    refine pw_cond rfl (fun hcj => ?_) (fun hcj => ?_)
    · simp at hcj
      obtain ⟨s, ts, b1, b2, b3, b4, b5⟩ := el 2 rfl t j hcj
      have hj2 : 2 ≤ t.length * 2 - j * 2 := by omega
      have hsum := sumC_snoc c (pre ++ t.take j) s
      rw [List.append_assoc, ← b3] at hsum
      have hrs := remT_snoc c (t.take j) s
      rw [← b3] at hrs
      have hul : (remT c (t.take j)).length ≤ 1048576 := Nat.le_trans (remT_le _ _) (by rw [List.length_take]; omega)
      generalize remT c (t.take j) = u at *
      have huf : (u.flatMap Enc.enc : List PV).length = u.length * 2 := flen_stop u
      have hut : (u.flatMap Enc.enc : List PV).take (u.length * 2) = u.flatMap Enc.enc := List.take_of_length_le (by omega)
      refine pw_skip (pw_seq (pw_block ?_))
      repeat refine pw_seq ?_
      refine pwN [] (jn3 hcj b5 hj2) ?_
      intro v6
      repeat refine pw_seq ?_
      refine pwn ?_
      intros
      repeat refine pw_seq ?_
      refine pw_cond rfl (fun hq => ?_) (fun hq => ?_)
      · simp at hq
        rw [if_pos hq] at hsum hrs
        rw [List.append_nil] at hrs
        repeat refine pw_seq ?_
        refine pwn ?_
        intros
        repeat refine pw_seq ?_
        refine pwn ?_
        intros
        exact again_mk (j + 1, v5) [_] (by simp; omega) (by simp; omega) (by simp [wrN j (by omega), hsum, W_add, hrs]) rfl (by simp [hrs]; rfl)
      · simp at hq
        rw [if_neg hq] at hsum hrs
        rw [Int.add_zero] at hsum
        have hul' : ((remT c (t.take (j + 1))).flatMap Enc.enc : List PV) = u.flatMap Enc.enc ++ [I s.c, I s.q] := by rw [hrs, List.flatMap_append]; rfl
        repeat refine pw_seq ?_
        refine pwN [] (jn2 huf hut) ?_
        refine ⟨by omega, ?_⟩
        intros
        repeat refine pw_seq ?_
        refine pwn ?_
        intros
        exact again_mk (j + 1, v5 + 1) [_] (by simp; omega) (by simp; omega) (by simp [wrN j (by omega), hsum, hrs]) rfl (by simp [hul']; rfl)
    · simp at hcj
      obtain rfl : j = t.length := by omega
      refine pw_exit ?_
      rw [List.take_length]
      have hul : (remT c t).length ≤ 1048576 := Nat.le_trans (remT_le _ _) htn
      generalize remT c t = u at *
      have huf : (u.flatMap Enc.enc : List PV).length = u.length * 2 := flen_stop u
      refine pw_frz 5 rfl ?_
      simp only [List.map_cons, List.map_nil, List.set_cons_succ, List.set_cons_zero, frzO, hfz]
      repeat refine pw_seq ?_
      refine pwn ?_
      intros
      repeat refine pw_seq ?_
      refine pw_cond rfl (fun hq => ?_) (fun hq => ?_)
      · simp at hq
        rw [if_neg (by omega)] at hrd
        have hrl' : ((rk ++ [u]).flatMap Enc.enc : List PV) = rk.flatMap Enc.enc ++ [L u] := by rw [List.flatMap_append]; rfl
        repeat refine pw_seq ?_
        refine pwN [] (jn2 hrf hrt) ?_
        refine ⟨by omega, ?_⟩
        intros
        repeat refine pw_seq ?_
        refine pwn ?_
        intros
        exact again_mk (k + 1, v3 + 1) [_, _] (by simp; omega) (by simp; omega) (by simp [wrN k (by omega), hfl]) rfl (by simp [hrd, hrl']; exact ⟨rfl, rfl⟩)
      · simp at hq
        rw [if_pos (by rw [hq]; rfl), List.append_nil] at hrd
        refine pw_skip ?_
        repeat refine pw_seq ?_
        refine pwn ?_
        intros
        exact again_mk (k + 1, v3) [_, _] (by simp; omega) (by simp; omega) (by simp [wrN k (by omega), hfl]) rfl (by simp [hrd]; exact ⟨rfl, rfl⟩)
  · simp at hc
    obtain rfl : k = d.length := by omega
    refine pw_exit ?_
    refine pw_frz 3 rfl ?_
    have g1 : d.take d.length = d := List.take_length
    repeat refine pw_seq ?_
    refine pwn ?_
    intros
    repeat refine pw_seq ?_
    exact pw_ret (ret_pure hd (by simp; rfl) (by simp [oneOf, g1]))
open Go Hp
theorem arcOk_of {x : Inst} (h : ∀ row ∈ x.dist, ∀ d ∈ row, 0 ≤ d ∧ d ≤ 2147483648) : ArcOk x := by
  intro a b
  unfold arc
  split
  · omega
  · rw [List.getD_eq_getElem?_getD, List.getD_eq_getElem?_getD]
    cases hr : x.dist[a.toNat]? with
    | none => simp
    | some row =>
      simp only [Option.getD_some]
      cases hd : row[b.toNat]? with
      | none => simp
      | some d => exact h row (List.mem_of_getElem? hr) d (List.mem_of_getElem? hd)
def cu15 : Cust := ⟨1, 1, [1], 0, 0, 0, 0, 0⟩
def x15 : Inst := ⟨1, 1, 9, 99, [cu15], [[0, 5], [5, 0]]⟩
theorem x15_ok : ArcOk x15 := arcOk_of (by decide)
theorem j15 : joinP x15 [] = [] := by
  unfold joinP joinAll
  have : pairsP x15 (([] : List Stop).map (·.c)) = [] := (pairsP_of (x := x15) (c := []) (l := []) (by decide) (by decide) (by unfold Sd; decide)).symm
  rw [this]
  rfl
theorem r15 : solveR x15 0 [[], [], [], []] = ([], 0) := by decide
theorem m15 : mayT x15 [⟨0, 1⟩] = 0 := by decide
theorem solve15_ok : Pure Tryz.prog 15 [.agg (instL x15), nilS, I 0] (.tup [.agg [L ([] : Day)], I 0]) := by
  have hA : Pure Tryz.prog 59 [nilS] (.agg [L ([] : Day)]) := pure_wk (.cons .nil .nil) (apartP_ok [] (by decide))
  have hF : Pure Tryz.prog 11 [.agg (instL x15), nilS] (I 0) := pure_wk (.cons .rfl (.cons .nil .nil)) (fitsP_ok x15 [] (by decide) (by decide))
  have hJ : Pure Tryz.prog 61 [.agg (instL x15), nilS] (.agg [L ([] : Day)]) := by
    have := pure_wk (.cons .rfl (.cons .nil .nil)) (join_all_ok x15 [] x15_ok (by decide) (by decide) (by simp) (by decide))
    rwa [j15] at this
  have hI := improve0_ok x15
  have hit := tries_iter (fsL x15 nilS 0) [some [], some [], some [], some []] rfl (by decide) (by
    intro k f hf
    match k with
    | 0 => cases hf; exact ⟨_, _, L ([] : Day), rfl, try1_ok nilS [] plike_nil hA, fun d hd => by cases hd; rfl⟩
    | 1 => cases hf; exact ⟨_, _, L ([] : Day), rfl, try2_ok x15 nilS 0 [] [] 0 plike_nil hJ hI, fun d hd => by cases hd; rfl⟩
    | 2 => cases hf; exact ⟨_, _, L ([] : Day), rfl, try3_ok x15 nilS 0 [] [] 0 plike_nil hA hI, fun d hd => by cases hd; rfl⟩
    | 3 => cases hf; exact ⟨_, _, L ([] : Day), rfl, try4_ok x15 nilS 0 [] [] true 0 plike_nil (regret0_ok x15) (fun _ => hI), fun d hd => by cases hd; rfl⟩
    | k + 4 => cases hf)
  have := solve_ok x15 nilS 0 0 [[], [], [], []] plike_nil (by decide) hF hit (fun d hd => by
    have : d = [] := by simpa using hd
    subst this
    exact ⟨⟨by decide, by simp, by simp⟩, by decide⟩)
  rwa [r15] at this
set_option maxRecDepth 20000 in
theorem lives15_ok : Pure Tryz.prog 13 [] (B true) := by
  have h1 := solve15_ok
  have h2 := insert0_ok x15 ⟨0, 1⟩ (by decide) m15 (by decide) (by unfold small; decide)
  refine pwe Tryz.func13 Tryz.ntmps13 Tryz.results13 fun S nx hd => ?_
  repeat refine pw_seq ?_
  refine pwn ?_
  intros
  repeat refine pw_seq ?_
  refine pwn ?_
  intro v0
  repeat refine pw_seq ?_
  refine pwn ?_
  intro v1
  repeat refine pw_seq ?_
  refine pwn ?_
  refine pwc h1 ?_
  intro v2
  intros
  repeat refine pw_seq ?_
  refine pwn ?_
  refine pwc h2 ?_
  intro v3
  intros
  repeat refine pw_seq ?_
  refine pwN [(4, 31), (8, 35), (14, 41)] trivial ?_
  intros
  repeat refine pw_seq ?_
  exact pw_ret (ret_pure hd rfl rfl)
open Go Hp
theorem sum_set {α : Type} (f : α → Int) : ∀ (T : List α) (i : Nat) (a b : α), T[i]? = some a → ((T.set i b).map f).sum = (T.map f).sum - f a + f b
  | [], i, a, b, h => by simp at h
  | t :: T, 0, a, b, h => by simp at h; subst h; simp; omega
  | t :: T, i + 1, a, b, h => by
    simp only [List.getElem?_cons_succ] at h
    simp only [List.set_cons_succ, List.map_cons, List.sum_cons]
    rw [sum_set f T i a b h]; omega
theorem wayZ_nil (x : Inst) : wayZ x [] = 0 := by simp [wayZ]
theorem wayZ_app {x : Inst} {a b : List Int} {u v : Int} (hu : a[a.length - 1]? = some u) (hv : b[0]? = some v) : wayZ x (a ++ b) = wayZ x a + wayZ x b - savZ x u v := by
  have ha : 0 < a.length := by
    have := (List.getElem?_eq_some_iff.1 hu).1; omega
  have h1 := wayZ_cut x (a ++ b) (a.length - 1) u v (by rw [List.getElem?_append_left (by omega)]; exact hu) (by rw [Nat.sub_add_cancel ha, List.getElem?_append_right (Nat.le_refl _), Nat.sub_self]; exact hv)
  rw [Nat.sub_add_cancel ha, List.take_left', List.drop_left'] at h1
  · exact h1
  · rfl
  · rfl
structure KI (x : Inst) (ss : List Stop) (C : Int) (st : Day × Int) : Prop where
  j : ∃ g, JI ss st.1 g
  may : ∀ t ∈ st.1, 1 < t.length → mayT x t = 0
  num : st.2 ≤ x.veh
  cost : costZ x st.1 ≤ C
theorem KI.step {x : Inst} {ss : List Stop} {C : Int} {st : Day × Int} (h : KI x ss C st) {p : Pr} (ha : p.a ∈ ss.map (·.c)) (hb : p.b ∈ ss.map (·.c)) (hs : p.s = savZ x p.a p.b) : KI x ss C (joinS x st p) := by
  obtain ⟨g, hI⟩ := h.j
  obtain ⟨i, a, sa, hia, hsa, hsac, hga, hpi⟩ := hI.there ha
  obtain ⟨k, b, sb, hkb, hsb, hsbc, hgb, hpk⟩ := hI.there hb
  have hgi : st.1.getD i [] = a := by rw [List.getD_eq_getElem?_getD, hia]; rfl
  have hgk : st.1.getD k [] = b := by rw [List.getD_eq_getElem?_getD, hkb]; rfl
  unfold joinS joinAt
  rw [hpi, hpk, hgi, hgk]
  cases hc : joinC x st.2 p i k a b with
  | false => exact h
  | true =>
    simp only [cond_true]
    unfold joinC at hc
    simp only [Bool.and_eq_true, decide_eq_true_eq, Bool.not_eq_true', Bool.and_eq_false_iff, decide_eq_false_iff_not] at hc
    obtain ⟨⟨⟨⟨h1, h2⟩, h3⟩, h4⟩, h5⟩ := hc
    have hn := h.num
    have hpos : 0 < p.s := by rcases h4 with h4 | h4 <;> omega
    refine ⟨⟨_, hI.join hia hkb h1⟩, fun t ht hl => ?_, by simp only; omega, ?_⟩
    · rcases List.mem_or_eq_of_mem_set ht with ht | ht
      · rcases List.mem_or_eq_of_mem_set ht with ht | ht
        · exact h.may t ht hl
        · rw [ht]; exact h5
      · rw [ht] at hl; simp at hl
    · have hk2 : (st.1.set i (a ++ b))[k]? = some b := by rw [List.getElem?_set_ne h1]; exact hkb
      have e1 := sum_set (fun t : Tour => wayZ x (t.map (·.c))) (st.1.set i (a ++ b)) k b [] hk2
      have e2 := sum_set (fun t : Tour => wayZ x (t.map (·.c))) st.1 i a (a ++ b) hia
      have e3 := wayZ_app (x := x) (a := a.map (·.c)) (b := b.map (·.c)) (u := p.a) (v := p.b) (by
        unfold endC at h2; rw [List.getElem?_map, List.length_map]; exact h2) (by unfold headC at h3; rw [List.getElem?_map]; exact h3)
      have hcst := h.cost
      unfold costZ at hcst ⊢
      simp only [List.map_append, List.map_nil, wayZ_nil] at e1 e2
      rw [e3] at e2
      simp only
      omega
set_option maxRecDepth 20000 in
theorem stopsR_ok (d : Day) (hn : d.length ≤ 1048576) (hf : d.flatten.length ≤ 1048576) : Pure Tryz.prog 18 [.agg [L d]] (L d.flatten) := by
  refine pwe Tryz.func18 Tryz.ntmps18 Tryz.results18 fun S nx hd => ?_
  repeat refine pw_seq ?_
  refine pwn ?_
  intro v0
  repeat refine pw_seq ?_
  refine pwn ?_
  intros
  refine pw_seq (pw_nilX 3 43 2 rfl fun v1 => ?_)
  repeat refine pw_seq ?_
  refine pwn ?_
  intros
  repeat refine pw_seq ?_
  refine pw_block (pw_loopL (fun s : Nat × List Stop × Nat × Nat => s.1 ≤ d.length ∧ s.2.1 = (d.take s.1).flatten) (fun (k, out, v, v2) => [(1, .ptr nx v 0), (3, .sl (nx + 1) v2 2 0 out.length), (4, I k)]) (fun (k, out, v, v2) => [.cells v 35 [L d], .cells v2 43 (out.flatMap Enc.enc)]) (fun s => d.length - s.1) (0, [], v0, v1) [] (by simp) (by simp) (by simp) ?_)
  rintro ⟨k, out, v1, v2⟩ ⟨hk, ho⟩
  simp only at hk ho ⊢
  repeat refine pw_seq ?_
  refine pwn ?_
  intros
  repeat refine pw_seq ?_
  refine pw_cond rfl (fun hc => ?_) (fun hc => ?_)
  · simp at hc
    obtain ⟨t, tl, a1, a2, a3, e0⟩ := el1 rfl d k hc
    have hl : out.length + t.length ≤ 1048576 := by
      have : (out ++ t).length ≤ d.flatten.length := by
        have e : d.flatten = (d.take (k + 1)).flatten ++ (d.drop (k + 1)).flatten := by rw [← List.flatten_append, List.take_append_drop]
        rw [e, a3]; simp [ho]
      simp only [List.length_append] at this; omega
    refine pw_skip (pw_seq (pw_block ?_))
    repeat refine pw_seq ?_
    refine pwN [] (jn2 hc e0) ?_
    refine ⟨by omega, ?_⟩
    intros
    repeat refine pw_seq ?_
    refine pwn ?_
    intros
    exact again_mk (k + 1, out ++ t, v1, v2 + 1) [] (by simp [a3, ho]; omega) (by simp; omega) (by simp [wrN k (by omega)]) rfl (by simp)
  · simp at hc
    obtain rfl : k = d.length := by omega
    rw [List.take_length] at ho
    refine pw_exit ?_
    refine pw_frz 1 rfl ?_
    repeat refine pw_seq ?_
    refine pwn ?_
    intros
    repeat refine pw_seq ?_
    exact pw_ret (ret_pure hd (by simp; rfl) (by simp [oneOf, ho]))
open Go Go.Proofs
theorem take_ne {α : Type} {a b : List α} {k : Nat} {x y : α} (hx : a[k]? = some x) (hy : b[k]? = some y) (h : x ≠ y) : a ≠ b := by
  rintro rfl; rw [hx] at hy; cases hy; exact h rfl
set_option maxRecDepth 20000 in
set_option maxHeartbeats 1600000 in
theorem sameD_ok (a b : Day) (ha : a.length ≤ 1048576) (hat : ∀ t ∈ a, t.length ≤ 1048576) : Pure Tryz.prog 17 [.agg [L a], .agg [L b]] (B (decide (a = b))) := by
  refine pwe Tryz.func17 Tryz.ntmps17 Tryz.results17 fun S nx hd => ?_
  repeat refine pw_seq ?_
  refine pwn ?_
  intro v0 v1
  by_cases hab : a.length = b.length
  case neg =>
    have : a ≠ b := fun e => hab (by rw [e])
    repeat refine pw_seq ?_
    refine pwn ?_
    intros
    repeat refine pw_seq ?_
    refine pw_ct (by simp; omega) ?_
    repeat refine pw_seq ?_
    refine pwn ?_
    intros
    repeat refine pw_seq ?_
    exact pw_ret (ret_pure hd rfl (by simp [this]))
  repeat refine pw_seq ?_
  refine pwn ?_
  intros
  repeat refine pw_seq ?_
  refine pw_cf (by simp; omega) ?_
  refine pw_skip ?_
  repeat refine pw_seq ?_
  refine pwn ?_
  intros
  repeat refine pw_seq ?_
  refine pw_block (pw_loopL (fun k : Nat => k ≤ a.length ∧ a.take k = b.take k) (fun k => [(2, .ptr nx v0 0), (3, .ptr (nx + 1) v1 0), (5, I k)]) (fun _ => [.cells v0 35 [L a], .cells v1 35 [L b]]) (fun k => a.length - k) 0 [] (by simp) (by simp) (by simp) ?_)
  rintro k ⟨hk, hkt⟩
  repeat refine pw_seq ?_
  refine pwn ?_
  intros
  repeat refine pw_seq ?_
  refine pw_cond rfl (fun hc => ?_) (fun hc => ?_)
  · simp at hc
    obtain ⟨s, ts, a1, -, a3, e1⟩ := el1 rfl a k hc
    obtain ⟨t, tt, b1, -, b3, e2⟩ := el1 rfl b k (by omega)
    have hcb : k < b.length := by omega
    have h1 : 1 ≤ a.length - k := by omega
    have h2 : 1 ≤ b.length - k := by omega
    have hsl := hat s (List.mem_of_getElem? a1)
    refine pw_skip (pw_seq (pw_block ?_))
    repeat refine pw_seq ?_
    refine pwY (some [nx, nx + 1]) (Row.pures [0, 1, 2, 3, 4, 5, 6, 7, 8, 9, 10, 11, 12, 13, 14] .done) mixed (jn6 e1 e2 hc hcb h1 h2) ?_
    intros
    by_cases hst : s.length = t.length
    case neg =>
      have : a ≠ b := take_ne a1 b1 fun e => hst (by rw [e])
      repeat refine pw_seq ?_
      refine pw_ct (by simp; omega) ?_
      repeat refine pw_seq ?_
      refine pwn ?_
      intros
      repeat refine pw_seq ?_
      exact pw_ret (ret_pure hd rfl (by simp [this]))
    repeat refine pw_seq ?_
    refine pw_cf (by simp; omega) ?_
    refine pw_skip ?_
    repeat refine pw_seq ?_
    refine pwn ?_
    intros
    repeat refine pw_seq ?_
    refine pw_block (pw_loopL (fun j : Nat => j ≤ s.length ∧ s.take j = t.take j) (fun j => [(2, .ptr nx v0 0), (3, .ptr (nx + 1) v1 0), (5, I k), (6, I j)]) (fun _ => [.cells v0 35 [L a], .cells v1 35 [L b]]) (fun j => s.length - j) 0 [] (by simp) (by simp) (by simp) ?_)
    rintro j ⟨hj, hjt⟩
    repeat refine pw_seq ?_
    refine pwN [] (jn3 e1 hc h1) ?_
    intros
    repeat refine pw_seq ?_
    refine pw_cond rfl (fun hcj => ?_) (fun hcj => ?_)
    · simp at hcj
      obtain ⟨p, tp, p1, -, p3, -, q1⟩ := el 2 rfl s j hcj
      obtain ⟨q, tq, c1, -, c3, -, q2⟩ := el 2 rfl t j (by omega)
      have hjb : j < t.length := by omega
      have g1 : 2 ≤ s.length * 2 - j * 2 := by omega
      have g2 : 2 ≤ t.length * 2 - j * 2 := by omega
      refine pw_skip (pw_seq (pw_block ?_))
      repeat refine pw_seq ?_
      refine pwY (some [nx, nx + 1]) (Row.pures [0, 1, 2, 3, 4, 5, 6, 7, 8, 9, 10, 11, 12, 13, 14, 15, 16, 17, 18] .done) mixed (jn6 e1 e2 hc hcb h1 (jn2 (jn6 h2 q1 q2 hcj hjb g1) g2)) ?_
      intros
      by_cases hpq : p = q
      · subst hpq
        repeat refine pw_seq ?_
        refine pw_cf (by simp) ?_
        refine pw_skip ?_
        repeat refine pw_seq ?_
        refine pwn ?_
        intros
        exact again_mk (j + 1) [] ⟨by omega, by rw [p3, c3, hjt]⟩ (by omega) (by simp [wrN j (by omega)]) rfl (by simp)
      · have hne : ¬ p.c = q.c ∨ ¬ p.q = q.q := by
          by_cases h1 : p.c = q.c
          · right
            intro h2
            apply hpq
            cases p; cases q
            cases h1; cases h2; rfl
          · exact .inl h1
        have : a ≠ b := take_ne a1 b1 (take_ne p1 c1 hpq)
        repeat refine pw_seq ?_
        refine pw_ct (by simp; exact hne) ?_
        repeat refine pw_seq ?_
        refine pwn ?_
        intros
        repeat refine pw_seq ?_
        exact pw_ret (ret_pure hd rfl (by simp [this]))
    · simp at hcj
      obtain rfl : j = s.length := by omega
      rw [List.take_length, hst, List.take_length] at hjt
      refine pw_exit ?_
      repeat refine pw_seq ?_
      refine pwn ?_
      intros
      exact again_mk (k + 1) [] ⟨by omega, by rw [a3, b3, hkt, hjt]⟩ (by omega) (by simp [wrN k (by omega)]) rfl (by simp)
  · simp at hc
    obtain rfl : k = a.length := by omega
    rw [List.take_length, hab, List.take_length] at hkt
    refine pw_exit ?_
    repeat refine pw_seq ?_
    refine pwn ?_
    intros
    repeat refine pw_seq ?_
    exact pw_ret (ret_pure hd rfl (by simp [hkt]))
theorem remD_back {x : Inst} {d : Day} {s : Stop} (hne : ∀ t ∈ d, t ≠ []) (h : (insertD x d s).2 = true) : dayT x (insertD x d s).1 = 0 ∧ remD s.c (insertD x d s).1 = d ∧ remQ s.c (insertD x d s).1 = W s.q := by
  unfold insertD at h ⊢
  cases hb : (bestZ (spotsZ x d s)).2 with
  | false => rw [hb] at h; cases h
  | true =>
    have hm := bestZ_mem hb
    exact ⟨putD_may hm, remD_put hm hne, remQ_put hm⟩
theorem putD_ok {x : Inst} {d : Day} {s : Stop} (hx : x.cust.length ≤ 1048576) (hdo : DayOk d) (hd1 : d.length ≤ 1000000) (hf : d.flatten.length ≤ 1000000) : DayOk (insertD x d s).1 := by
  unfold insertD
  cases hb : (bestZ (spotsZ x d s)).2 with
  | false => exact hdo
  | true =>
    have hm := bestZ_mem hb
    have hp := putD_perm hm
    have hs := small_stop hx (spotsZ_mem hm).1
    simp only [cond_true]
    have hfl : (putD d (bestZ (spotsZ x d s)).1 s).flatten.length ≤ 1000001 := by rw [hp.length_eq, List.length_cons]; omega
    refine ⟨?_, fun t ht => ?_, fun t ht a ha => ?_⟩
    · unfold putD; split
      · simp; omega
      · simp; omega
    · have := (tour_sub ht).length_le; omega
    · have := hp.subset ((tour_sub ht).subset ha)
      rw [List.mem_cons] at this
      rcases this with rfl | h
      · exact hs
      · obtain ⟨u, hu, hau⟩ := List.mem_flatten.1 h
        exact hdo.s u hu a hau
set_option maxRecDepth 20000 in
set_option maxHeartbeats 1600000 in
theorem dayBack_ok (x : Inst) (l : List Stop) (cuts : List Bool) (s : Stop) (hx : InstOk x) (hl : l.length ≤ 9223372036854775807) (hs : ∀ s ∈ l, StopOk s) (h1 : cuts.length ≤ 9223372036854775807) (hso : StopOk s) : Pure Tryz.prog 9 [.agg (instL x), L l, L cuts, .agg [I s.c, I s.q]] (B true) := by
  have hc := goodI_cust' x
  have hc6 := goodI_cust x
  have hG := goodI_ok x hx
  have hg := goods_of (n := (goodI x).cust.length) hs
  have ma := made_of cuts hg
  have ta := tours_ok (goodI x) l cuts hl h1 hc hs hg.len
  generalize toursOf cuts (goodL (goodI x).cust.length [] l) = d at *
  generalize goodI x = y at *
  have hlv := lives15_ok
  have fd := ma.goods.len
  have hdo := ma.dayOk (by omega)
  have hdl := ma.len
  have hday := dayR_ok y d hc hdo.1 hdo.2 (by omega)
  have hst := stopsR_ok d hdo.1 (by omega)
  have hins := insert_ok y d s hc hdo (by omega)
  have hio := putD_ok (s := s) hc hdo (by omega) (by omega)
  have hback := remD_back (x := y) (d := d) (s := s) ma.ne
  have hno := insertD_no (x := y) (d := d) (s := s)
  have hpm := insertD_perm (x := y) (d := d) (s := s)
  generalize hn' : insertD y d s = r at *
  obtain ⟨n, is⟩ := r
  simp only at hins hio hback hno hpm
  have hfn : n.flatten.length ≤ 7 := by
    cases is with
    | false => rw [hno rfl]; omega
    | true => rw [(hpm rfl).length_eq, List.length_cons]; omega
  have hdayn := dayR_ok y n hc hio.1 hio.2 (by omega)
  have hrem := remove_ok n s.c hio.1 hio.2
  have hsame1 := sameD_ok n d hio.1 hio.2
  have hsame2 := sameD_ok (remD s.c n) d (Nat.le_trans (remD_le _ _) hio.1) (fun t ht => by
    unfold remD at ht
    obtain ⟨u, hu, rfl⟩ := List.mem_map.1 (List.mem_filter.1 ht).1
    exact Nat.le_trans (remT_le _ _) (hio.2 u hu))
  refine pwe Tryz.func9 Tryz.ntmps9 Tryz.results9 fun S nx hd => ?_
  repeat refine pw_seq ?_
  refine pwn ?_
  intro v0 v1
  repeat refine pw_seq ?_
  refine pwn ?_
  refine pwc hG ?_
  intro v2
  intros
  repeat refine pw_seq ?_
  refine pwn ?_
  refine pwc ta ?_
  intro v3
  intros
  repeat refine pw_seq ?_
  refine pwn ?_
  refine pwc hday ?_
  intros
  by_cases hd0 : dayT y d = 0
  case neg =>
    repeat refine pw_seq ?_
    refine pw_ct (by simp [hd0]) ?_
    repeat refine pw_seq ?_
    refine pwn ?_
    refine pwc hlv ?_
    intros
    repeat refine pw_seq ?_
    exact pw_ret (ret_pure hd rfl rfl)
  repeat refine pw_seq ?_
  refine pw_cf (by simp [hd0]) ?_
  refine pw_skip ?_
  repeat refine pw_seq ?_
  refine pwn ?_
  refine pwc hst ?_
  intros
  repeat refine pw_seq ?_
  refine pwn ?_
  intros
  generalize hall : d.flatten = all at *
  repeat refine pw_seq ?_
  refine pw_block (pw_loopL (fun k : Nat => k ≤ all.length) (fun k => [(4, .ptr nx v0 0), (7, .ptr (nx + 1) v1 0), (9, .ptr (nx + 2) v2 0), (10, .ptr (nx + 3) v3 0), (11, L all), (12, I k)]) (fun _ => [.cells v0 25 (instL x), .cells v1 43 [I s.c, I s.q], .cells v2 25 (instL y), .cells v3 35 [L d]]) (fun k => all.length - k) 0 [] (by simp) (by simp) (by simp) ?_)
  rintro k hk
  repeat refine pw_seq ?_
  refine pwn ?_
  intros
  repeat refine pw_seq ?_
  refine pw_cond rfl (fun hck => ?_) (fun hck => ?_)
  · simp at hck
    obtain ⟨p, tp, p1, -, p3, -, q1⟩ := el 2 rfl all k hck
    have g1 : 2 ≤ all.length * 2 - k * 2 := by omega
    refine pw_skip (pw_seq (pw_block ?_))
    repeat refine pw_seq ?_
    refine pwY (some [nx + 1]) (Row.pures [0, 1, 2, 3, 4, 5, 6, 7] .done) mixed (jn3 q1 hck g1) ?_
    intros
    repeat refine pw_seq ?_
    refine pw_cond rfl (fun hq => ?_) (fun hq => ?_)
    · simp at hq
      repeat refine pw_seq ?_
      refine pwn ?_
      refine pwc hlv ?_
      intros
      repeat refine pw_seq ?_
      exact pw_ret (ret_pure hd rfl rfl)
    · refine pw_skip ?_
      repeat refine pw_seq ?_
      refine pwn ?_
      intros
      exact again_mk (k + 1) [] hck (by omega) (by simp [wrN k (by omega)]) rfl (by simp)
  · refine pw_exit ?_
    clear hk hck
    repeat refine pw_seq ?_
    refine pwn ?_
    refine pwc hins ?_
    intro v4
    intros
    cases is with
    | false =>
      obtain rfl := hno rfl
      repeat refine pw_seq ?_
      refine pwn ?_
      intros
      repeat refine pw_seq ?_
      refine pw_ct rfl ?_
      repeat refine pw_seq ?_
      refine pwN [(3, 57)] trivial ?_
      refine pwC [(3, 57)] hsame1 trivial ?_
      refine pwC [(3, 57)] hlv trivial ?_
      intros
      repeat refine pw_seq ?_
      exact pw_ret (ret_pure hd rfl rfl)
    | true =>
      obtain ⟨z1, z2, z3⟩ := hback rfl
      have hq64 := hso.q
      unfold I64 at hq64
      rw [show W s.q = s.q from wr _ (by omega) (by omega)] at z3
      rw [z1] at hdayn
      rw [z2] at hrem hsame2
      rw [z3] at hrem
      repeat refine pw_seq ?_
      refine pwn ?_
      intros
      repeat refine pw_seq ?_
      refine pw_cf rfl ?_
      refine pw_skip ?_
      repeat refine pw_seq ?_
      refine pwn ?_
      refine pwc hrem ?_
      intro v5
      intros
      repeat refine pw_seq ?_
      refine pwN [(4, 71), (10, 77), (15, 82)] trivial ?_
      refine pwC [(4, 71), (10, 77), (15, 82)] hdayn trivial ?_
      refine pwC [(4, 71), (10, 77), (15, 82)] hsame2 trivial ?_
      refine pwC [(4, 71), (10, 77), (15, 82)] hlv trivial ?_
      intros
      repeat refine pw_seq ?_
      exact pw_ret (ret_pure hd rfl rfl)
end Go.Proofs.YtafcjklojnhbnaaGreat.Pv
namespace Go.Proofs.YtafcjklojnhbnaaGreat
open Go Go.ChangeShapes Go.WideShapes Go.ChangeAt Go.RowKit Pv
set_option maxRecDepth 100000 in
theorem dayBack_lifted (os : Os) (started : os.Started) (H : Type) (enc : TypeId × Value → H) :
    ReturnsInHanded {} Tryz.checked os 9 .any (Rows.dayBackSpec.pre6 enc Tryz.prog Tryz.f9 Rows.dayBackRow.domain false) (Rows.dayBackSpec.post enc Tryz.prog Tryz.f9 false true false false) := by
  refine returnsInHanded_of_change (C := Tryz.checked) own0 started (by kernel_rfl) Tryz.func9
    (ChangeSpec.witness6 (enc := enc) (C := Tryz.checked) false ⟨#[], #[.agg #[.int .i64 0, .int .i64 0, .int .i64 0, .int .i64 0, .slice none 0 0, .slice none 0 0], .slice none 0 0, .slice none 0 0, .agg #[.int .i64 0, .int .i64 0]], []⟩ 8 (by kernel_rfl) (by kernel_rfl) (by kernel_rfl) (by kernel_rfl)) ?_
  intro W base args ds gs before hval0 hW hcnd _
  have hval : ∀ (j : Nat) t v, Tryz.f9.params[j]? = some t → args[j]? = some v → Value.okWide Tryz.prog W .any base t v := hval0
  have hW' := hW
  obtain ⟨p, q, hA0, hV, rfl, hfz, hnd⟩ := hW
  have hA : DataW.TrodAll enc Tryz.prog W 0 (fun _ => true) true Tryz.f9.params.toList args.toList ds p := hA0
  rw [Tryz.params9] at hA hval
  obtain ⟨v0, v1, v2, v3, d0, d1, d2, d3, p0, p1, p2, p3, rfl, rfl, rfl, h0, h1, h2, h3⟩ := trodAll_four hA
  obtain ⟨rfl, rfl⟩ := trodVars_none hV
  obtain ⟨c0, rfl, _⟩ := okWide_struct Tryz.underlying25 (hval 0 _ v0 rfl rfl)
  obtain ⟨a0, k0, r0⟩ := rel_agg (opens_inst W) h0
  obtain ⟨b1, n1, m1, rfl⟩ := okWide_slice Tryz.underlying26 (hval 1 _ v1 rfl rfl)
  obtain ⟨a1, k1, r1⟩ := rel_cell (opens_stops W) rfl h1
  have r1 := r1 _ rfl
  obtain ⟨b2, n2, m2, rfl⟩ := okWide_slice Tryz.underlying46 (hval 2 _ v2 rfl rfl)
  obtain ⟨a2, k2, r2⟩ := rel_cell (opens_bools W) rfl h2
  have r2 := r2 _ rfl
  obtain ⟨c3, rfl, _⟩ := okWide_struct Tryz.underlying43 (hval 3 _ v3 rfl rfl)
  obtain ⟨a3, k3, r3⟩ := rel_agg (opens_stop W) h3
  refine (pure_true ((dayBack_ok a0 a1 a2 a3 k0 k1.1 k1.2 k2.1 k3)) rfl (fun i c v hc hv => ?_)).mono fun e W' hq => ?_
  · match i with
    | 0 => cases hc; cases hv; exact r0
    | 1 => cases hc; cases hv; exact r1
    | 2 => cases hc; cases hv; exact r2
    | 3 => cases hc; cases hv; exact r3
    | i + 4 => cases hc
  exact ⟨_, hq.1, law_end rfl rfl (of_decide_eq_true (by kernel_rfl)) hW' rfl rfl rfl hq.2⟩
theorem dayBack_holds : Rows.DayBackSaid :=
  OpenClaim.holds_of_wide 9 Tryz.f9 rfl rfl rfl rfl rfl rfl rfl ⟨rfl, rfl, rfl, rfl, rfl⟩ rfl rfl rfl rfl rfl (by kernel_rfl) Tryz.func9 (by kernel_rfl)
    (of_decide_eq_true (by kernel_rfl)) (by unfold Func.isWrapper; first | (rw [if_pos (by decide +kernel)]; kernel_rfl) | (rw [if_neg (by decide +kernel)]; exact ⟨rfl, rfl⟩))
    (fun os started H enc _ => dayBack_lifted os started H enc)
end Go.Proofs.YtafcjklojnhbnaaGreat
