/- A part of the proof of the statement that the last text of this claim proves; no condition is added. Packed by a program of the prover. -/
import Derived.Test.YtafcjklojnhbnaaGreatS4
namespace Go.Proofs.YtafcjklojnhbnaaGreat.Pv
open Go Go.Proofs
theorem Sim.drewN {C : Ctx} {S : Store} {w : World} (h : Sim C S w) : ∀ q : Nat, Sim C S (w.drewN q) ∧ Step C S w C S (w.drewN q)
  | 0 => by
    have e : w.drewN 0 = w := rfl
    rw [e]; exact ⟨h, .refl _ _ _⟩
  | q + 1 => by
    obtain ⟨a, b⟩ := Sim.drewN h q
    obtain ⟨c, d⟩ := a.drew
    have e : w.drewN (q + 1) = (w.drewN q).drew := by unfold World.drewN World.drew; simp [Nat.add_assoc]
    rw [e]
    exact ⟨c, b.trans d⟩
theorem search_ok (zs : List Int) (c : Int) (hn : zs.length ≤ 1048576) (hs : zs.Pairwise (· ≤ ·)) : Pure Tryz.prog 77 [L zs, I c] (.tup [I (zs.countP (· < c) : Nat), B (zs.contains c)]) := by
  intro S
  refine ⟨enters_of Tryz.func77 (by rfl) rfl, ?_⟩
  intro C w vs hS hl hr
  obtain ⟨u, v, rfl⟩ : ∃ u v, vs = #[u, v] := arr2 hl
  obtain rfl := rel_int (hr 1 _ v rfl rfl)
  have h0 : Rel C S w (.lst zs.length (zs.flatMap Enc.enc)) u := hr 0 _ u rfl rfl
  have hret : ∀ (k : Int) (b : Bool), Rel C S w (.tup [I k, B b]) (.tuple #[.int .i64 k, .bool b]) := by
    intro k b
    refine .tup rfl ?_
    intro i p v hc hv
    match i with
    | 0 => have hc : some (I k) = some p := hc; have hv : some (Value.int .i64 k) = some v := hv; cases hc; cases hv; exact .sc _
    | 1 => have hc : some (B b) = some p := hc; have hv : some (Value.bool b) = some v := hv; cases hc; cases hv; exact .sc _
    | i + 2 => simp at hc
  rw [flat_int] at h0
  generalize hcs : zs.map I = cs at h0
  generalize hzl : zs.length = n at h0 hn
  cases h0 with
  | lst0 =>
    obtain rfl : zs = [] := List.eq_nil_of_length_eq_zero hzl
    refine (Tryz.slices_BinarySearch_int_empty _ _ c w).mono ?_
    rintro e w' ⟨rfl, rfl⟩
    exact ⟨_, _, _, _, rfl, ⟨rfl, rfl⟩, hret 0 false, hS, .refl _ _ _⟩
  | lst1 g1 g2 g3 g4 g5 g6 g7 =>
    rename_i cap b o ca e fz
    by_cases hz : zs = []
    · subst hz
      simp at hzl
      subst hzl
      refine (Tryz.slices_BinarySearch_int_empty _ _ c w).mono ?_
      rintro e w' ⟨rfl, rfl⟩
      exact ⟨_, _, _, _, rfl, ⟨rfl, rfl⟩, hret 0 false, hS, .refl _ _ _⟩
    · subst hcs
      have g5' := g5 (by simpa using hz)
      rw [List.length_map] at g5'
      have hcell : ∀ j, j < zs.length → w.cell? ⟨b, o + j, none⟩ = some (.int .i64 (zs.getD j 0)) := by
        intro j hj
        have e2 : ca[o + j]? = some ca[o + j] := by rw [Array.getElem?_eq_getElem]
        have e3 := rel_int (g7 j (I (zs.getD j 0)) _ (by simp [hj]) e2)
        rw [e3] at e2
        simp [World.cell?, g3, e2]
      refine (Tryz.slices_BinarySearch_int b o n cap zs c w (by omega) (by omega) hcell (hs.sublist (List.take_sublist _ _))).mono ?_
      rintro e w' ⟨rfl, q, rfl⟩
      obtain ⟨s1, s2⟩ := hS.drewN q
      rw [List.take_of_length_le (by omega)]
      exact ⟨_, _, _, _, rfl, ⟨rfl, rfl⟩, (hret _ _).mono s2, s1, s2⟩
theorem fmap_at {n k : Nat} (hk : k < n) (W : Nat → List Spot) (E : List Spot) (i : Nat) (x : List PV) (h : ((W k).map spotE)[i]? = some x) : (((List.range n).flatMap W ++ E).map spotE)[((List.range k).flatMap W).length + i]? = some x := by
  obtain ⟨m, rfl⟩ : ∃ m, n = k + (m + 1) := ⟨n - k - 1, by omega⟩
  rw [List.getElem?_map] at h ⊢
  rw [List.range_add, List.flatMap_append, List.append_assoc, List.getElem?_append_right (Nat.le_add_right _ _), Nat.add_sub_cancel_left, List.range_succ_eq_map]
  have hi : i < (W k).length := by
    rcases Nat.lt_or_ge i (W k).length with e | e
    · exact e
    · rw [List.getElem?_eq_none e] at h; cases h
  rw [List.getElem?_append_left (by simp; omega)]
  simp only [List.map_cons, List.flatMap_cons, Nat.add_zero]
  rw [List.getElem?_append_left (by omega)]
  exact h
theorem fmap_len (W : Nat → List Spot) (k : Nat) : ((List.range (k + 1)).flatMap W).length = ((List.range k).flatMap W).length + (W k).length := by
  rw [List.range_succ, List.flatMap_append, List.length_append]; simp
theorem contains_sortZ (l : List Int) (c : Int) : (sortZ l).contains c = l.contains c := by
  rw [Bool.eq_iff_iff, List.contains_iff_mem, List.contains_iff_mem]
  exact (List.mergeSort_perm l _).mem_iff
theorem small_stop {x : Inst} {s : Stop} (hx : x.cust.length ≤ 1048576) (h : mayT x [s] ≠ 1) : small s.c := by
  have := single_good h
  unfold goodS at this
  simp only [Bool.and_eq_true, decide_eq_true_eq] at this
  unfold small; omega
set_option maxRecDepth 20000 in
set_option maxHeartbeats 1600000 in
theorem spots_iter (x : Inst) (d : Day) (s : Stop) (hx : x.cust.length ≤ 1048576) (hdo : DayOk d) (hf : d.flatten.length ≤ 1048576) : Iter Tryz.prog 76 [.ip [I s.c, I s.q], .ip (lookL x d)] ((spotsZ x d s).map spotE) := by
  have hmay := mayP_ok x [s] hx (by simp)
  have hse := search_ok (sortZ (d.flatten.map (·.c))) s.c (by rw [sortZ_len, List.length_map]; exact hf) (sortZ_le _)
  rw [contains_sortZ] at hse
  generalize ((sortZ (d.flatten.map (·.c))).countP (· < s.c) : Nat) = cnt at hse
  obtain ⟨tw, htw⟩ : ∃ tw, tw = decide (¬ (sortZ (d.flatten.map (·.c))).Nodup) := ⟨_, rfl⟩
  have htw' : tw = decide (¬ (d.flatten.map (·.c)).Nodup) := by rw [htw]; exact decide_eq_decide.2 (not_congr (List.mergeSort_perm _ _).nodup_iff)
  obtain ⟨th, hth⟩ : ∃ th, th = (d.flatten.map (·.c)).contains s.c := ⟨_, rfl⟩
  rw [← hth] at hse
  have hlk : lookL x d = lookG x d (sortZ (d.flatten.map (·.c))) tw (d.map (mayT x)) (badN x d) (d.map tourL) (d.map (tourW x)) := by rw [htw]
  rw [hlk]
  obtain ⟨on, hon⟩ : ∃ on, on = sortZ (d.flatten.map (·.c)) := ⟨_, rfl⟩
  rw [← hon] at hse ⊢
  obtain ⟨fa, hfa⟩ : ∃ fa, fa = mayT x [s] := ⟨_, rfl⟩
  rw [← hfa] at hmay
  have hdn := hdo.n
  refine iter_enter Tryz.func76 (by rfl) rfl Tryz.ntmps76 (congrArg Array.toList Tryz.results76) (by simp) fun l V keep nx J hJd hY A0 hA0 => ?_
  repeat refine pw_seq ?_
  refine pwY (some []) (Row.pures [0, 1, 2, 3, 4, 5] (.alt 6 (.alt 7 (Row.pures [8] .done) .stop) .stop)) mixed trivial ?_
  refine pwP (singleP_ok s) trivial ?_
  intro v0
  intros
  repeat refine pw_seq ?_
  refine pwn ?_
  refine pwc hmay ?_
  intros
  repeat refine pw_seq ?_
  refine pwn ?_
  refine pwc hse ?_
  intros
  by_cases hout : mayT x [s] = 1 ∨ s.c ∈ d.flatten.map (·.c) ∨ ¬ (d.flatten.map (·.c)).Nodup ∨ x.veh < d.length
  · have hz : spotsZ x d s = [] := by unfold spotsZ; rw [if_pos hout]
    rw [hz] at hY ⊢
    by_cases h1 : fa = 1
    · repeat refine pw_seq ?_
      refine pwN [(2, 30), (5, 33), (9, 37)] (jn2 h1 undef_eq) ?_
      intros
      repeat refine pw_seq ?_
      refine pw_ct rfl ?_
      exact pw_ret (ret_iter (hJd _ _ hA0) rfl (by simpa using hA0))
    cases h2 : th with
    | true =>
      repeat refine pw_seq ?_
      refine pwN [(2, 30), (5, 33), (9, 37)] (jn2 h1 undef_eq) ?_
      intros
      repeat refine pw_seq ?_
      refine pw_ct rfl ?_
      exact pw_ret (ret_iter (hJd _ _ hA0) rfl (by simpa using hA0))
    | false =>
      cases h3 : tw with
      | true =>
        repeat refine pw_seq ?_
        refine pwN [(2, 30), (5, 33), (9, 37)] (jn2 h1 undef_eq) ?_
        intros
        repeat refine pw_seq ?_
        refine pw_ct rfl ?_
        exact pw_ret (ret_iter (hJd _ _ hA0) rfl (by simpa using hA0))
      | false =>
        have h4 : x.veh < d.length := by
          rcases hout with e | e | e | e
          · exact absurd (hfa.trans e) h1
          · have : th = true := by rw [hth, List.contains_iff_mem]; exact e
            rw [h2] at this; cases this
          · have : tw = true := by rw [htw']; exact decide_eq_true e
            rw [h3] at this; cases this
          · exact e
        repeat refine pw_seq ?_
        refine pwN [(2, 30), (5, 33), (9, 37)] (jn3 h1 h4 undef_eq) ?_
        intros
        repeat refine pw_seq ?_
        refine pw_ct rfl ?_
        exact pw_ret (ret_iter (hJd _ _ hA0) rfl (by simpa using hA0))
  have h1 : ¬ fa = 1 := fun e => hout (.inl (hfa ▸ e))
  have h2 : th = false := by
    cases e : th with
    | false => rfl
    | true => rw [hth, List.contains_iff_mem] at e; exact absurd (.inr (.inl e)) hout
  have h3 : tw = false := by
    cases e : tw with
    | false => rfl
    | true => rw [htw'] at e; exact absurd (.inr (.inr (.inl (of_decide_eq_true e)))) hout
  have h4 : ¬ x.veh < d.length := fun e => hout (.inr (.inr (.inr e)))
  have hsm := small_stop hx (s := s) (fun e => hout (.inl e))
  obtain ⟨WW, hWW⟩ : ∃ WW : Nat → List Spot, WW = fun t => withinZ x t (d.getD t []) (mayT x (d.getD t [])) (badN x d) (tourL (d.getD t [])) (tourW x (d.getD t [])) s := ⟨_, rfl⟩
  obtain ⟨EE, hEE⟩ : ∃ EE : List Spot, EE = if badN x d = 0 ∧ mayT x [s] = 0 ∧ (d.length : Int) < x.veh then [⟨d.length, 0, W (wayZ x [s.c])⟩] else [] := ⟨_, rfl⟩
  have hz : spotsZ x d s = (List.range d.length).flatMap WW ++ EE := by unfold spotsZ; rw [if_neg hout, hWW, hEE]
  rw [hz] at hY ⊢
  subst h2 h3
  repeat refine pw_seq ?_
  refine pwN [(2, 30), (5, 33), (9, 37)] (jn3 h1 h4 undef_eq) ?_
  intros
  repeat refine pw_seq ?_
  refine pw_cf rfl ?_
  refine pw_skip ?_
  repeat refine pw_seq ?_
  refine pwn ?_
  intros
  repeat refine pw_seq ?_
  refine pw_block (pw_loopB (σ := Nat × Store) (fun s' => s'.1 ≤ d.length ∧ J ((List.range s'.1).flatMap WW).length s'.2) (fun s' => [(0, yld l), (1, .ip [I s.c, I s.q]), (2, .ip (lookG x d on false (d.map (mayT x)) (badN x d) (d.map tourL) (d.map (tourW x)))), (4, .ptr nx v0 0), (5, I d.length), (6, I fa), (44, I d.length), (45, I s'.1)]) (fun s' => s'.2)
    (fun _ => [.cells v0 66 [L [s]]]) (fun s' => d.length - s'.1) (at_mk (0, A0) [] (by simpa using hA0) (by simp) rfl (by simp)) ?_)
  rintro ⟨k, A⟩ ⟨hk, hJ⟩
  simp only at hk hJ ⊢
  repeat refine pw_seq ?_
  refine pwn ?_
  intros
  repeat refine pw_seq ?_
  refine pw_cond rfl (fun hc => ?_) (fun hc => ?_)
  · simp at hc
    have hdk : d[k]? = some d[k] := List.getElem?_eq_getElem hc
    have hg : d.getD k [] = d[k] := by rw [List.getD_eq_getElem?_getD, hdk]; rfl
    have hb : mayT x d[k] = 13 → 0 < badN x d := by
      intro e
      rcases Nat.eq_zero_or_pos (badN x d) with q | q
      · rw [badN_zero.1 q _ (List.getElem_mem hc)] at e; cases e
      · exact q
    have hw := within_ok x d on false (d.map (mayT x)) (badN x d) (d.map tourL) (d.map (tourW x)) k d[k] s (mayT x d[k]) (tourL d[k]) (tourW x d[k]) (Nat.le_trans (badN_le x d) hdn) hdn hdk (by rw [List.getElem?_map, hdk]; rfl) (by rw [List.getElem?_map, hdk]; rfl) (by rw [List.getElem?_map, hdk]; rfl) (by simp) (by simp) (by simp) hb (hdo.t _ (List.getElem_mem hc)) (hdo.s _ (List.getElem_mem hc)) hsm
    have hWk : WW k = withinZ x k d[k] (mayT x d[k]) (badN x d) (tourL d[k]) (tourW x d[k]) s := by rw [hWW]; simp only [hg]
    rw [← hWk] at hw
    have hlen := fmap_len WW k
    refine pw_skip (pw_seq (pw_block ?_))
    repeat refine pw_seq ?_
    refine pwn ?_
    intros
    repeat refine pw_seq ?_
    refine pw_N [] (by rfl) (by rfl) fun K Gc Gh hK hGc hGh X hX0 hX => ?_
    simp -implicitDefEqProofs [hX0, hX]
    try clear hX0 hX X
    refine hGc _ _ _ _ _ _ _ fun hsuf => ((sub_use hw keep hY _ (fmap_at hc WW EE) hJ _).mono ?_)
    rintro _ _ ⟨A', rfl, hJ', rfl⟩
    rw [List.length_map, ← hlen] at hJ'
    refine ⟨_, _, rfl, ?_⟩
    clear hGc hGh
    clear Gc Gh
    refine xs_go hsuf (D := []) (by rfl) fun Gc Gh hGc hGh X hX0 hX => ?_
    simp -implicitDefEqProofs [hX0, hX]
    clear hX0 hX X
    intros
    refine hK _ _ _ ?_
    clear hK hGc hGh
    clear K Gc Gh
    repeat refine pw_seq ?_
    refine pw_cf rfl ?_
    refine pw_skip ?_
    repeat refine pw_seq ?_
    refine pwn ?_
    intros
    exact again_mk (k + 1, A') [] ⟨hc, hJ'⟩ (by simp; omega) (by simp [wrN k (by omega)]) rfl (by simp)
  · simp at hc
    obtain rfl : k = d.length := by omega
    refine pw_exit ?_
    by_cases he : badN x d = 0 ∧ mayT x [s] = 0 ∧ (d.length : Int) < x.veh
    · have hE : EE = [⟨d.length, 0, W (wayZ x [s.c])⟩] := by rw [hEE, if_pos he]
      obtain ⟨e1, e2, e3⟩ := he
      have hlw := lengthP_ok x [s] (by simp) (by simpa using hsm)
      have h5 : fa = 0 := hfa.trans e2
      have hy : (((List.range d.length).flatMap WW ++ EE).map spotE)[((List.range d.length).flatMap WW).length]? = some (spotE ⟨d.length, 0, W (wayZ x [s.c])⟩) := by
        rw [List.getElem?_map, List.getElem?_append_right (Nat.le_refl _), Nat.sub_self, hE]; rfl
      simp only [List.map_cons, List.map_nil] at hlw
      repeat refine pw_seq ?_
      refine pwN [(3, 58), (7, 62)] (jn4 e1 h5 e3 undef_eq) ?_
      intros
      repeat refine pw_seq ?_
      refine pw_ct rfl ?_
      repeat refine pw_seq ?_
      refine pw_N [] (by rfl) (by rfl) fun K Gc Gh hK hGc hGh X hX0 hX => ?_
      simp -implicitDefEqProofs [hX0, hX]
      try clear hX0 hX X
      refine hGc _ _ _ _ _ _ _ fun hsuf => ((hlw _).mono ?_).v
      rintro _ _ ⟨rfl, rfl⟩
      refine ⟨_, _, rfl, ?_⟩
      clear hGc hGh
      clear Gc Gh
      refine xs_go hsuf (D := []) (by rfl) fun Gc Gh hGc hGh X hX0 hX => ?_
      simp -implicitDefEqProofs [hX0, hX]
      try clear hX0 hX X
      refine hGh _ _ _ _ _ fun hsuf => po_yield rfl rfl rfl (hY _ _ _ _ hy hJ) ?_
      rintro _ ⟨A', hJ', rfl⟩
      refine ⟨_, _, rfl, ?_⟩
      clear hGc hGh
      clear Gc Gh
      refine xs_go hsuf (D := []) (by rfl) fun Gc Gh hGc hGh X hX0 hX => ?_
      simp -implicitDefEqProofs [hX0, hX]
      try clear hX0 hX X
      intros
      refine hK _ _ _ ?_
      clear hK hGc hGh
      clear K Gc Gh
      exact ret_iter (hJd _ _ hJ') rfl (by rw [List.length_map, List.length_append, hE]; exact hJ')
    · have hE : EE = [] := by rw [hEE, if_neg he]
      have hfin : J (((List.range d.length).flatMap WW ++ EE).map spotE).length A := by rw [hE, List.append_nil, List.length_map]; exact hJ
      by_cases e1 : badN x d = 0
      · by_cases e2 : fa = 0
        · have e3 : ¬ (d.length : Int) < x.veh := fun e => he ⟨e1, hfa ▸ e2, e⟩
          repeat refine pw_seq ?_
          refine pwN [(3, 58), (7, 62)] (jn4 e1 e2 e3 undef_eq) ?_
          intros
          repeat refine pw_seq ?_
          refine pw_cf rfl ?_
          refine pw_skip ?_
          exact ret_iter (hJd _ _ hJ) rfl hfin
        · repeat refine pw_seq ?_
          refine pwN [(3, 58), (7, 62)] (jn3 e1 e2 undef_eq) ?_
          intros
          repeat refine pw_seq ?_
          refine pw_cf rfl ?_
          refine pw_skip ?_
          exact ret_iter (hJd _ _ hJ) rfl hfin
      · repeat refine pw_seq ?_
        refine pwN [(3, 58), (7, 62)] (jn2 e1 undef_eq) ?_
        intros
        repeat refine pw_seq ?_
        refine pw_cf rfl ?_
        refine pw_skip ?_
        exact ret_iter (hJd _ _ hJ) rfl hfin
open Go Go.Proofs
theorem frz_day (id v : Nat) (cs : List PV) (d : Day) : (d.flatMap Enc.enc).map (frzP id v cs) = (d.flatMap Enc.enc : List PV) := by
  induction d with
  | nil => rfl
  | cons l d ih => rw [List.flatMap_cons, List.map_append, ih]; rfl
theorem frz_set (id v : Nat) (cs : List PV) (d : Day) (t : Nat) (p : PV) : ((d.flatMap Enc.enc).set t p).map (frzP id v cs) = (d.flatMap Enc.enc : List PV).set t (frzP id v cs p) := by
  rw [List.map_set, frz_day]
theorem enc_set : ∀ (d : Day) (t : Nat) (l : Tour), (d.flatMap Enc.enc : List PV).set t (L l) = (d.set t l).flatMap Enc.enc
  | [], t, l => rfl
  | m :: d, 0, l => rfl
  | m :: d, t + 1, l => by
    rw [List.set_cons_succ, List.flatMap_cons, List.flatMap_cons, ← enc_set d t l]
    rfl
theorem ext_push2 {S : Store} {nx m : Nat} {obs : List Ob} (x y : Ob) (hm : m = nx + obs.length) : ((ext S nx obs).set (m + 3) x).set (m + 4) y = ext S nx (obs ++ [.dead, .dead, .dead, x, y]) := by
  subst hm
  rw [ext_pushK 3]
  have := ext_push (S := S) (nx := nx) (obs := obs ++ List.replicate 3 .dead ++ [x]) y
  simpa [Nat.add_assoc] using this
theorem cloneDO_ok (d : Day) (hd0 : d.length ≤ 1048576) (hd1 : ∀ l ∈ d, l.length ≤ 1048576) (S : Store) (nx : Nat) (hd : DeadFrom nx S) :
    Spec Tryz.prog 48 [.agg [L d]] S (fun p S' => ∃ v, p = .agg [.sl (nx + 3) v 1 0 d.length] ∧ S' = S.set (nx + 3) (.cells v 66 (d.flatMap Enc.enc))) := by
  refine (cloneD_ok d d.length hd0 hd1 (by simp) S nx hd).mono ?_
  rintro _ _ ⟨v, ts, ob, ⟨h1, h2, -⟩, rfl, rfl⟩
  obtain ⟨rfl, rfl⟩ := h2 (Nat.le_refl _)
  rw [List.take_length]
  refine ⟨v, rfl, ?_⟩
  funext o
  by_cases h4 : o = nx + 4
  · subst h4
    rw [Store.set_same, Store.set_other _ _ _ _ (by omega), hd _ (by omega)]
  · rw [Store.set_other _ _ _ _ h4]
theorem splice_at (cs : List PV) (i : Nat) (p q : PV) (h : i < cs.length) : splice (cs.set i p) i [q] = cs.set i q := by
  unfold splice
  rw [List.set_eq_take_append_cons_drop, if_pos h, List.set_eq_take_append_cons_drop, if_pos h]
  have hl : (cs.take i).length = i := by rw [List.length_take]; omega
  rw [List.take_append_of_le_length (by omega), List.take_of_length_le (by omega), List.drop_append, hl, List.drop_of_length_le (by rw [hl]; simp)]
  simp
theorem frz_self (id v sz k : Nat) (cs : List PV) (h : k * sz = cs.length) : frzP id v cs (.sl id v sz 0 k) = .lst k cs := by simp [frzP, h]
theorem foldl_at {α β : Type} {f : β → α → β} {b : β} {l : List α} {i : Nat} {a : α} (h : l[i]? = some a) : (l.take (i + 1)).foldl f b = f ((l.take i).foldl f b) a := by
  obtain ⟨hi, rfl⟩ := List.getElem?_eq_some_iff.1 h
  rw [List.take_succ_eq_append_getElem hi, List.foldl_append]; rfl
theorem spot_tour {x : Inst} {d : Day} {s : Stop} {b : Spot} (h : b ∈ spotsZ x d s) (hb : b.t ≠ d.length) : ∃ l, d[b.t]? = some l ∧ 0 < l.length ∧ b.p ≤ l.length := by
  obtain ⟨-, -, -, -, h⟩ := spotsZ_mem h
  rcases h with ⟨l, hl, hi, ho, -⟩ | ⟨rfl, -⟩
  · refine ⟨l, hl, ?_, hi⟩
    have hself : mayT x l = 0 ∨ mayT x l = 13 := by
      by_cases hf : mayT x l = 13
      · exact .inr hf
      · rw [if_neg hf] at ho
        exact .inl (badN_zero.1 (by omega) l (List.mem_of_getElem? hl))
    have hst : stopsB x l = true := by
      cases e : stopsB x l with
      | true => rfl
      | false => rw [mayT_one e] at hself; rcases hself with h | h <;> cases h
    exact List.length_pos_iff.2 (stopsB_ne hst)
  · exact absurd rfl hb
theorem spot_le {x : Inst} {d : Day} {s : Stop} {b : Spot} (h : b ∈ spotsZ x d s) : b.t ≤ d.length := by
  obtain ⟨-, -, -, -, h⟩ := spotsZ_mem h
  rcases h with ⟨l, hl, -⟩ | ⟨rfl, -⟩
  · exact Nat.le_of_lt (List.getElem?_eq_some_iff.1 hl).1
  · exact Nat.le_refl _
set_option maxRecDepth 20000 in
set_option maxHeartbeats 1600000 in
theorem insert_ok (x : Inst) (d : Day) (s : Stop) (hx : x.cust.length ≤ 1048576) (hdo : DayOk d) (hf : d.flatten.length ≤ 1000000) : Pure Tryz.prog 26 [.agg (instL x), .agg [L d], .agg [I s.c, I s.q]] (.tup [.agg [L (insertD x d s).1], B (insertD x d s).2]) := by
  have hit := spots_iter x d s hx hdo (by omega)
  have hsee := see_ok x d hx hdo (by omega)
  have hmem := fun h => bestZ_mem (l := spotsZ x d s) h
  have hle : ∀ b ∈ spotsZ x d s, b.t ≤ d.length := fun b hb => spot_le hb
  have htour : ∀ b ∈ spotsZ x d s, b.t ≠ d.length → ∃ l, d[b.t]? = some l ∧ 0 < l.length ∧ b.p ≤ l.length := fun b hb => spot_tour hb
  have hins : insertD x d s = bif (bestZ (spotsZ x d s)).2 then (putD d (bestZ (spotsZ x d s)).1 s, true) else (d, false) := rfl
  have hsF := spotsF_ok (lookL x d) s rfl
  rw [hins]
  clear hins
  generalize spotsZ x d s = xs at *
  generalize hlk : lookL x d = lk at *
  have hdn := hdo.n
  have hd1 : ∀ l ∈ d, l.length ≤ 1000000 := fun l hl => Nat.le_trans (tour_sub hl).length_le hf
  refine pwe Tryz.func26 Tryz.ntmps26 Tryz.results26 fun S nx hd => ?_
  repeat refine pw_seq ?_
  refine pwn ?_
  intro v0 v1 v2 v3
  repeat refine pw_seq ?_
  refine pwn ?_
  intro v4 v5
  repeat refine pw_seq ?_
  refine pwY none (Row.pures [0, 1, 2, 3, 4] .done) mixed trivial ?_
  refine pwP (hsee) trivial ?_
  refine pwP (hsF) trivial ?_
  intros
  repeat refine pw_seq ?_
  refine pw_block (pw_rangeFunc (xs := xs.map spotE) (σ := Spot × Bool) (fun i st => st = (xs.take i).foldl bestS (⟨0, 0, 0⟩, false)) [(3, .ptr nx v0 0), (4, .ptr (nx + 1) v1 0), (5, .ptr (nx + 2) v2 0), (6, .ptr (nx + 3) v3 0), (8, .ptr (nx + 4) v4 0), (9, .ptr (nx + 5) v5 0)] (fun _ => S)
    (fun (b, found) => [.cells v0 25 (instL x), .cells v1 35 [L d], .cells v2 43 [I s.c, I s.q], .cells v3 35 [nilS], .cells v4 82 [I b.t, I b.p, I b.m], .cells v5 4 [B found]]) (⟨0, 0, 0⟩, false)
    hit rfl (by intro x hx; obtain ⟨y, _, rfl⟩ := List.mem_map.1 hx; rfl) (by decide) (by simp) (by simp) rfl (by simp) (by simp) ?_ ?_)
  · rintro l i ⟨b, found⟩ more y hst hy
    simp only at hst ⊢
    rw [List.getElem?_map] at hy
    obtain ⟨p, hp, rfl⟩ := Option.map_eq_some_iff.1 hy
    have hsucc := foldl_at (f := bestS) (b := (⟨0, 0, 0⟩, false)) hp
    rw [← hst] at hsucc
    unfold bestS at hsucc
    simp only at hsucc
    repeat refine pw_seq ?_
    refine pwn ?_
    intro v6
    refine pw_block ?_
    cases found with
    | false =>
      rw [if_pos (.inl rfl)] at hsucc
      repeat refine pw_seq ?_
      refine pwN [(2, 21)] undef_eq ?_
      intros
      repeat refine pw_seq ?_
      refine pw_ct rfl ?_
      repeat refine pw_seq ?_
      refine pwn ?_
      intros
      simp only [inBlockQ]
      exact rnd_mk (p, true) [_] hsucc.symm rfl (by simp; rfl)
    | true =>
      by_cases hm : p.m < b.m
      · rw [if_pos (.inr hm)] at hsucc
        repeat refine pw_seq ?_
        refine pwN [(2, 21)] (jn2 hm undef_eq) ?_
        intros
        repeat refine pw_seq ?_
        refine pw_ct rfl ?_
        repeat refine pw_seq ?_
        refine pwn ?_
        intros
        simp only [inBlockQ]
        exact rnd_mk (p, true) [_] hsucc.symm rfl (by simp; rfl)
      · rw [if_neg (by simp [hm])] at hsucc
        repeat refine pw_seq ?_
        refine pwN [(2, 21)] (jn2 hm undef_eq) ?_
        intros
        repeat refine pw_seq ?_
        refine pw_cf rfl ?_
        refine pw_skip ?_
        simp only [inBlockQ]
        exact rnd_mk (b, true) [_] hsucc.symm rfl (by simp; rfl)
  · rintro ⟨b, found⟩ hst
    simp only [List.length_map, List.take_length] at hst ⊢
    have hbz : bestZ xs = (b, found) := hst.symm
    rw [hbz] at hmem ⊢
    simp only at hmem ⊢
    cases found with
    | false =>
      simp only [cond_false]
      repeat refine pw_seq ?_
      refine pwn ?_
      refine pwc (cloneDP_ok d hdn (fun l hl => Nat.le_trans (hd1 l hl) (by decide))) ?_
      intros
      repeat refine pw_seq ?_
      refine pw_block ?_
      repeat refine pw_seq ?_
      refine pwn ?_
      intros
      repeat refine pw_seq ?_
      refine pw_ct rfl ?_
      repeat refine pw_seq ?_
      refine pwn ?_
      intros
      repeat refine pw_seq ?_
      exact pw_ret (ret_pure hd (by simp; rfl) (by simp [oneOf]))
    | true =>
      have hb := hmem rfl
      have hbl := hle b hb
      simp only [cond_true]
      by_cases hbt : b.t = d.length
      · have hpd : putD d b s = d ++ [[s]] := by unfold putD; rw [if_pos hbt]
        rw [hpd]
        have hfl : (d.flatMap Enc.enc : List PV).length = d.length := flen_list d
        have htk : (d.flatMap Enc.enc : List PV).take d.length = d.flatMap Enc.enc := List.take_of_length_le (by omega)
        have hsn : ((d ++ [[s]]).flatMap Enc.enc : List PV) = d.flatMap Enc.enc ++ [L [s]] := by rw [List.flatMap_append]; rfl
        repeat refine pw_seq ?_
        refine pw_N [] (by rfl) (by rfl) fun K Gc Gh hK hGc hGh X hX0 hX => ?_
        simp -implicitDefEqProofs [hX0, hX]
        try clear hX0 hX X
        refine hGc _ _ _ _ _ _ _ fun hsuf => ((cloneDO_ok d hdn (fun l hl => Nat.le_trans (hd1 l hl) (by decide)) _ _ ext_dead).mono ?_).v
        rintro _ _ ⟨v7, rfl, rfl⟩
        refine ⟨_, _, ext_pushK 3 _, ?_⟩
        clear hGc hGh
        clear Gc Gh
        refine xs_go hsuf (D := []) (by rfl) fun Gc Gh hGc hGh X hX0 hX => ?_
        simp -implicitDefEqProofs [hX0, hX, Nat.add_assoc]
        clear hX0 hX X
        intros
        refine hK _ _ _ ?_
        clear hK hGc hGh
        clear K Gc Gh
        generalize hds : (d.flatMap Enc.enc : List PV) = ds at *
        repeat refine pw_seq ?_
        refine pw_block ?_
        repeat refine pw_seq ?_
        refine pwn ?_
        intros
        repeat refine pw_seq ?_
        refine pw_cf rfl ?_
        repeat refine pw_seq ?_
        refine pwn ?_
        intros
        repeat refine pw_seq ?_
        refine pw_ct (by simp; omega) ?_
        repeat refine pw_seq ?_
        refine pwY (some [nx + 2]) (Row.pures [0, 2, 3, 4] (.alt 1 (.alt 5 (Row.pures [6] (.alt 7 (.done) .stop)) .stop) .stop)) mixed (jn2 hfl htk) ?_
        refine pwP (singleP_ok s) (jn2 hfl htk) ?_
        refine ⟨by omega, ?_⟩
        intros
        refine pw_frz 9 rfl ?_
        repeat refine pw_seq ?_
        refine pwn ?_
        intros
        repeat refine pw_seq ?_
        exact pw_ret (ret_pure hd (by simp; rfl) (by simp [oneOf, hfl, hds]))
      · obtain ⟨l, hl, hl0, hp⟩ := htour b hb hbt
        have hblt : b.t < d.length := by omega
        have hpd : putD d b s = d.set b.t (insT l b.p s) := by unfold putD; rw [if_neg hbt, List.getD_eq_getElem?_getD, hl]; rfl
        have hl1 := hd1 l (List.mem_of_getElem? hl)
        rw [hpd]
        repeat refine pw_seq ?_
        refine pw_N [] (by rfl) (by rfl) fun K Gc Gh hK hGc hGh X hX0 hX => ?_
        simp -implicitDefEqProofs [hX0, hX]
        try clear hX0 hX X
        refine hGc _ _ _ _ _ _ _ fun hsuf => ((cloneDT_ok d b.t l hdn (fun l hl => Nat.le_trans (hd1 l hl) (by decide)) hl hl0 _ _ ext_dead).mono ?_).v
        rintro _ _ ⟨v7, w7, rfl, rfl⟩
        refine ⟨_, _, ext_push2 _ _ rfl, ?_⟩
        clear hGc hGh
        clear Gc Gh
        refine xs_go hsuf (D := []) (by rfl) fun Gc Gh hGc hGh X hX0 hX => ?_
        simp -implicitDefEqProofs [hX0, hX, Nat.add_assoc]
        clear hX0 hX X
        intros
        refine hK _ _ _ ?_
        clear hK hGc hGh
        clear K Gc Gh
        repeat refine pw_seq ?_
        refine pw_block ?_
        repeat refine pw_seq ?_
        refine pwn ?_
        intros
        repeat refine pw_seq ?_
        refine pw_cf rfl ?_
        repeat refine pw_seq ?_
        refine pwn ?_
        intros
        repeat refine pw_seq ?_
        refine pw_cf (by simp; omega) ?_
        repeat refine pw_seq ?_
        refine pwN [] hblt ?_
        intros
        repeat refine pw_seq ?_
        refine pw_Y (some [nx + 4, nx + 2]) (Row.pures [0, 1, 2, 3, 5, 6, 7, 8] (.alt 4 (.alt 9 (Row.pures [10, 11] (.alt 12 (.done) .stop)) .stop) .stop)) mixed (by rfl) (by rfl) (by rfl) fun K Gp Gc Gh hK hGp hGc hGh X hX0 hX1 hX2 hX => ?_
        simp -implicitDefEqProofs [hX0, hX1, hX2, hX, hblt]
        try clear hX0 hX1 hX2 hX X
        refine hGc _ _ _ _ _ _ _ ?_
        refine ((insA_ok l b.p s hp hl1 (by simp)).mono ?_).v
        rintro _ _ ⟨rfl, rfl⟩
        have hcl : ((insT l b.p s).flatMap Enc.enc : List PV).length = (l.length + 1) * 2 := by
          have e := (insT_perm l s b.p).length_eq
          rw [flen_stop, e]; simp
        have hLi : L (insT l b.p s) = .lst (l.length + 1) ((insT l b.p s).flatMap Enc.enc) := by
          have e := (insT_perm l s b.p).length_eq
          show PV.lst _ _ = _
          rw [e]; rfl
        rw [show l.take b.p ++ s :: l.drop b.p = insT l b.p s from rfl]
        generalize hcs : ((insT l b.p s).flatMap Enc.enc : List PV) = cs at *
        rw [ext_set _ (by omega) (by simp), Nat.add_sub_cancel_left]
        refine ⟨by simp [Agree], ?_⟩
        clear hGp hGc hGh
        clear Gp Gc Gh
        refine px_go fun Gp Gc Gh hGp hGc hGh X hX0 hX1 hX2 hX => ?_
        simp -implicitDefEqProofs [hX0, hX1, hX2, hX, hblt]
        try clear hX0 hX1 hX2 hX X
        refine ⟨by omega, ?_⟩
        refine hK _ _ _ ?_
        clear hK hGp hGc hGh
        clear K Gp Gc Gh
        rw [splice_at _ _ _ _ (by rw [flen_list]; exact hblt)]
        have e10 : frzP (nx + 10) (w7 + 1) cs (.sl (nx + 10) (w7 + 1) 2 0 (l.length + 1)) = L (insT l b.p s) := by
          rw [frz_self _ _ _ _ _ hcl.symm, hLi]
        have e9 : frzP (nx + 9) v7 ((d.set b.t (insT l b.p s)).flatMap Enc.enc) (.sl (nx + 9) v7 1 0 d.length) = L (d.set b.t (insT l b.p s)) := by
          rw [frz_self _ _ _ _ _ (by rw [flen_list]; simp)]
          show _ = PV.lst _ _
          rw [List.length_set]
        have n9 : frzP (nx + 10) (w7 + 1) cs (.sl (nx + 9) v7 1 0 d.length) = .sl (nx + 9) v7 1 0 d.length := by
          simp only [frzP]; rw [if_neg (by omega)]
        refine pw_frz 10 rfl ?_
        simp only [List.map_cons, List.map_nil, List.set_cons_succ, List.set_cons_zero, frzO, frz_set, e10, enc_set, n9]
        refine pw_frz 9 rfl ?_
        simp only [List.map_cons, List.map_nil, List.set_cons_succ, List.set_cons_zero, frzO, e9]
        repeat refine pw_seq ?_
        refine pwN [] (jn2 e9 n9) ?_
        intros
        repeat refine pw_seq ?_
        exact pw_ret (ret_pure hd (by simp; rfl) (by simp [oneOf]))
open Go Go.Proofs
theorem flatMap_le {α : Type} (f : Nat → List α) (m : Nat) : ∀ n, (∀ t, t < n → (f t).length ≤ m) → ((List.range n).flatMap f).length ≤ n * m
  | 0, _ => by simp
  | n + 1, h => by
    rw [List.range_succ, List.flatMap_append, List.length_append]
    have h1 := flatMap_le f m n fun t ht => h t (by omega)
    have h2 := h n (by omega)
    simp only [List.flatMap_cons, List.flatMap_nil, List.append_nil]
    rw [Nat.add_mul, Nat.one_mul]; omega
theorem candsZ_len {d : Day} (h1 : d.length ≤ 1000000) (h2 : d.flatten.length ≤ 1000000) : (candsZ d).length ≤ 1000001 * 1000001 := by
  unfold candsZ
  refine Nat.le_trans (flatMap_le _ 1000001 _ fun t _ => ?_) (Nat.mul_le_mul_right _ (by omega))
  rw [List.length_map, List.length_range, List.getD_eq_getElem?_getD]
  cases hq : d[t]? with
  | none => simp
  | some l =>
    have := (tour_sub (List.mem_of_getElem? hq)).length_le
    simp only [Option.getD_some]; omega
theorem spotsZ_len {x : Inst} {d : Day} {s : Stop} (hd : dayT x d = 0) (h1 : d.length ≤ 1000000) (h2 : d.flatten.length ≤ 1000000) : (spotsZ x d s).length ≤ 1000001 * 1000001 := by
  rw [spots_cands hd]; exact Nat.le_trans (List.length_filterMap_le _ _) (candsZ_len h1 h2)
theorem splice_last1 (cs : List PV) (v : PV) (h : 0 < cs.length) : splice cs (cs.length - 1) [v] = cs.set (cs.length - 1) v := by
  unfold splice
  rw [List.set_eq_take_append_cons_drop, if_pos (by omega)]; simp
theorem enc_setI : ∀ (l : List Int) (k : Nat) (v : Int), (l.flatMap Enc.enc : List PV).set k (I v) = (l.set k v).flatMap Enc.enc
  | [], k, v => rfl
  | a :: l, 0, v => rfl
  | a :: l, k + 1, v => by
    rw [List.set_cons_succ, List.flatMap_cons, List.flatMap_cons, ← enc_setI l k v]
    rfl
theorem cstS_len (st : List Int × Int) (p : Spot) : (cstS st p).1.length ≤ st.1.length + 1 := by
  unfold cstS; split <;> simp
def CstOk (st : List Int × Int) : Prop := st.2 = -1 ∨ 0 < st.1.length
theorem cstOk_step {st : List Int × Int} (h : CstOk st) (p : Spot) : CstOk (cstS st p) := by
  unfold cstS
  split
  · exact .inr (by simp)
  · rename_i e
    rcases h with h | h
    · exfalso; simp only [ne_eq] at e; omega
    · exact .inr (by simpa using h)
set_option maxRecDepth 20000 in
set_option maxHeartbeats 1600000 in
theorem costsP_ok (x : Inst) (d : Day) (s : Stop) (hx : x.cust.length ≤ 1048576) (hdo : DayOk d) (h0 : dayT x d = 0) (h1 : d.length ≤ 1000000) (h2 : d.flatten.length ≤ 1000000) : Pure Tryz.prog 129 [.agg (lookL x d), .agg [I s.c, I s.q]] (L (costsZ x d s)) := by
  have hit := spots_iter x d s hx hdo (by omega)
  have hfold := spots_fold (s := s) h0
  have hlen := spotsZ_len (s := s) h0 h1 h2
  have hml := minsZ_len x d s (d.length + 1)
  have hsF := spotsF_ok (lookL x d) s rfl
  unfold costsZ
  rw [← hfold] at hml ⊢
  clear hfold
  generalize spotsZ x d s = xs at *
  obtain ⟨on, tw, fs, bd, ls, ws, hlk⟩ : ∃ on tw fs bd ls ws, lookL x d = lookG x d on tw fs bd ls ws := ⟨_, _, _, _, _, _, rfl⟩
  rw [hlk] at hit hsF ⊢
  clear hlk
  refine pwe Tryz.func129 Tryz.ntmps129 Tryz.results129 fun S nx hd => ?_
  repeat refine pw_seq ?_
  refine pwn ?_
  intro v0 v1
  repeat refine pw_seq ?_
  refine pwn ?_
  intro v2
  repeat refine pw_seq ?_
  refine pwn ?_
  intro v3
  repeat refine pw_seq ?_
  refine pwn ?_
  refine pwc hsF ?_
  intros
  refine pw_nilObX 2 0 3 1 rfl rfl fun v4 => ?_
  repeat refine pw_seq ?_
  refine pw_block (pw_rangeFunc (xs := xs.map spotE) (σ := (List Int × Int) × Nat) (fun i st => st.1 = (xs.take i).foldl cstS ([], -1) ∧ CstOk st.1 ∧ st.1.1.length ≤ i ∧ i ≤ xs.length) [(2, .ptr nx v0 0), (3, .ptr (nx + 1) v1 0), (5, .ptr (nx + 2) v2 0), (6, .ptr (nx + 3) v3 0)] (fun _ => S)
    (fun ((l, last), v4) => [.cells v0 87 (lookG x d on tw fs bd ls ws), .cells v1 43 [I s.c, I s.q], .cells v2 62 [.sl (nx + 4) v4 1 0 l.length], .cells v3 3 [I last], .cells v4 3 (l.flatMap Enc.enc)]) (([], -1), v4)
    hit rfl (by intro x hx; obtain ⟨y, _, rfl⟩ := List.mem_map.1 hx; rfl) (by decide) (by simp) ⟨rfl, .inl rfl, by simp, by simp⟩ rfl (by simp) (by simp) ?_ ?_)
  · rintro lp i ⟨⟨l, last⟩, v4⟩ more y ⟨hst, hok, hli, hi⟩ hy
    simp only at hst hok hli hi ⊢
    rw [List.getElem?_map] at hy
    obtain ⟨p, hp, rfl⟩ := Option.map_eq_some_iff.1 hy
    have hsucc := foldl_at (f := cstS) (b := ([], -1)) hp
    rw [← hst] at hsucc
    have hok2 := cstOk_step hok p
    have hln2 := cstS_len (l, last) p
    simp only at hln2
    have hil := (List.getElem?_eq_some_iff.1 hp).1
    have hdef : cstS (l, last) p = cstS (l, last) p := rfl
    conv at hdef => rhs; unfold cstS
    simp only at hdef
    have hlf : (l.flatMap Enc.enc : List PV).length = l.length := flen_int l
    have hlt : (l.flatMap Enc.enc : List PV).take l.length = l.flatMap Enc.enc := List.take_of_length_le (by omega)
    repeat refine pw_seq ?_
    refine pwn ?_
    intro v5
    refine pw_block ?_
    repeat refine pw_seq ?_
    refine pwn ?_
    intros
    by_cases hpl : (p.t : Int) = last
    · have hl0 : 0 < l.length := by
        rcases hok with e | e
        · simp only at e; omega
        · exact e
      obtain ⟨m, hm⟩ : ∃ m, l.length = m + 1 := ⟨l.length - 1, by omega⟩
      obtain ⟨z, tz, z1, z2, z3, z0⟩ := el1 rfl l m (by omega)
      rw [if_neg (by simp [hpl])] at hdef
      have hgz : l.getD (l.length - 1) 0 = z := by rw [hm, Nat.add_sub_cancel, List.getD_eq_getElem?_getD, z1]; rfl
      rw [hgz] at hdef
      have wm : IntKind.i64.wrap ((l.length : Int) - 1) = (m : Int) := by rw [wr _ (by omega) (by omega)]; omega
      have hml1 : m < l.length := by omega
      have hml2 : 1 ≤ l.length - m := by omega
      have hsp := splice_last1 (l.flatMap Enc.enc) (I (if p.m < z then p.m else z)) (by omega)
      rw [hlf, enc_setI] at hsp
      have hmin : minI z p.m = if p.m < z then p.m else z := rfl
      repeat refine pw_seq ?_
      refine pw_cf (by simp [hpl]) ?_
      refine pw_skip ?_
      rw [show l.length - 1 = m by omega] at hsp
      repeat refine pw_seq ?_
      refine pwY (some [nx + 2, nx + (more.length + 5)]) (Row.pures [0, 1, 2, 3, 4, 5, 6, 7, 8, 10, 11] (.alt 9 (Row.pures [12, 13] (.alt 14 (.done) .stop)) .stop)) mixed (jn6 wm hml1 hml2 z0 hmin hlf) ?_
      refine ⟨by omega, ?_⟩
      intros
      simp only [inBlockQ]
      rw [hm, Nat.add_sub_cancel] at hdef
      rw [hdef] at hsucc hok2
      refine rnd_mk ((l.set m (if p.m < z then p.m else z), last), v4) [_] ⟨hsucc.symm, hok2, by simp; omega, by omega⟩ rfl (by simp [hsp]; rfl)
    · rw [if_pos hpl] at hdef
      rw [hdef] at hsucc hok2 hln2
      have w0 : IntKind.i64.wrap (l.length : Int) = (l.length : Int) := wr _ (by omega) (by omega)
      have w2 : (l.length : Int) < (l.length : Int) + 1 := by omega
      have hmin : minI p.m p.m = p.m := by unfold minI; split <;> rfl
      have hat : (l.flatMap Enc.enc ++ [I p.m] : List PV)[l.length]? = some (I p.m) := by rw [List.getElem?_append_right (by omega), hlf, Nat.sub_self]; rfl
      have hdl : (l.flatMap Enc.enc ++ [I p.m] : List PV).drop l.length = [I p.m] := by rw [← hlf, List.drop_left]
      have hspl : splice (l.flatMap Enc.enc ++ [I p.m] : List PV) l.length [I p.m] = l.flatMap Enc.enc ++ [I p.m] := by
        unfold splice
        rw [← hlf, List.take_left, List.drop_of_length_le (by simp)]; simp
      repeat refine pw_seq ?_
      refine pw_ct (by simp [hpl]) ?_
      repeat refine pw_seq ?_
      refine pwY (some [nx + (more.length + 5)]) (Row.pures [1, 2, 3, 5, 6] (.alt 0 (.alt 4 (.alt 7 (.alt 8 (.done) .stop) .stop) .stop) .stop)) mixed (jn2 hlf hlt) ?_
      refine ⟨by omega, ?_⟩
      intros
      repeat refine pw_seq ?_
      refine pwY (some [nx + 2, nx + (more.length + 5)]) (Row.pures [0, 1, 2, 3, 4, 5, 6, 7, 8, 10, 11] (.alt 9 (Row.pures [12, 13] (.alt 14 (.done) .stop)) .stop)) mixed (jn5 w0 w2 hmin hat hlf) ?_
      intros
      simp only [inBlockQ]
      refine rnd_mk ((l ++ [p.m], (p.t : Int)), v4 + 1) [_] ⟨hsucc.symm, hok2, by simp; omega, by omega⟩ rfl (by simp [hspl]; rfl)
  · rintro ⟨⟨l, last⟩, v4⟩ ⟨hst, -⟩
    simp only [List.length_map, List.take_length] at hst ⊢
    rw [← hst] at hml ⊢
    simp only at hml ⊢
    have hz4 := sortZ_len l
    repeat refine pw_seq ?_
    refine pw_N [] (by rfl) (by rfl) fun K Gc Gh hK hGc hGh X hX0 hX => ?_
    simp -implicitDefEqProofs [hX0, hX]
    try clear hX0 hX X
    refine hGc _ _ _ _ _ _ _ fun hsuf => ((sort_ok l (by simp) (by omega)).mono ?_).v
    rintro _ _ rfl
    refine ⟨_, _, ext_set _ (by omega) (by simp), ?_⟩
    clear hGc hGh
    clear Gc Gh
    refine xs_go hsuf (D := []) (by rfl) fun Gc Gh hGc hGh X hX0 hX => ?_
    simp -implicitDefEqProofs [hX0, hX, (show nx + 4 - nx = 4 by omega)]
    clear hX0 hX X
    intros
    refine hK _ _ _ ?_
    clear hK hGc hGh
    clear K Gc Gh
    generalize sortZ l = c at *
    rw [← hz4]
    refine pw_frz 4 rfl ?_
    repeat refine pw_seq ?_
    refine pwn ?_
    intros
    repeat refine pw_seq ?_
    exact pw_ret (ret_pure hd (by simp; rfl) rfl)
open Go Go.Proofs Go.Shelf Go.RowKit Go.Lib
theorem setCells_row {P : Program} (b o : Nat) (vs : List Value) (w : World) (cur : Array Value) (t : TypeId) (hw : w.heap[b]? = some (.cells cur t (0, 0))) (hl : o + vs.length ≤ cur.size) (h1 : ∀ v ∈ vs, v.oneCell' = true) :
    w.setCells b o vs = w.setRow b (cur.toList.take o ++ vs ++ cur.toList.drop (o + vs.length)).toArray := by
  have a := run_storeCells_cells (P := P) b o vs 0 w (fun j hj => by simp [World.cell?, hw]; omega) (fun j _ => by simp [World.frozen?, hw]) h1
  have c := run_storeCells_at (P := P) b o t vs 0 cur w hw (by simpa using hl) h1
  rw [a] at c
  simpa using c
theorem zero1 (zc : Array Value) : (Builtin.zeroCells zc 1).toList = zc.toList := by
  apply List.ext_getElem
  · simp [Builtin.zeroCells]
  · intro i h1 h2
    simp [Builtin.zeroCells, Nat.mod_eq_of_lt (show i < zc.size by simpa using h2)]
    exact getElem!_pos zc i (by simpa using h2)
theorem run_clear_one {P : Program} (w : World) (t e ty : TypeId) (zc : Array Value) (ht : P.underlying t = some (.slice e)) (hv : ∀ w, (zeroValue e).run P w = .ok (.agg zc) w) (h1 : ∀ v ∈ zc.toList, v.oneCell' = true) (b o c : Nat) (cur : Array Value) (t' : TypeId) (hw : w.heap[b]? = some (.cells cur t' (0, 0))) (hl : o + zc.size ≤ cur.size) :
    (Builtin.clear_ #[t] ty #[.slice (some ⟨b, o, none⟩) 1 c]).run P w = .ok (.tuple #[]) (w.setRow b (cur.toList.take o ++ zc.toList ++ cur.toList.drop (o + zc.size)).toArray) := by
  have c := run_storeCells_at (P := P) b o t' zc.toList 0 cur w hw (by simpa using hl) h1
  simp only [Nat.add_zero, Array.length_toList] at c
  simp [Builtin.clear_, run_underlying ht, hv, zero1, c]
set_option maxHeartbeats 4000000 in
set_option maxRecDepth 100000 in
theorem del_raw (b n c i : Nat) (V : List Value) (w : World) (i0 : TypeInfo) (hi0 : Tryz.prog.info? 43 = some i0) (hzs : i0.size = 2) (cur : Array Value) (hcur : w.heap[b]? = some (.cells cur 43 (0, 0))) (hcc : cur.size = c * 2)
    (hi : i < n) (hnc : n ≤ c) (hc63 : c ≤ 9223372036854775807) (hn : n ≤ 1048576) (hV : V.length = n * 2) (hcV : cur.toList.take (n * 2) = V) (h1 : ∀ v ∈ V, v.oneCell' = true) (R1 R2 : Array Value)
    (hR1 : R1 = (cur.toList.take (i * 2) ++ V.drop ((i + 1) * 2) ++ cur.toList.drop (i * 2 + (V.drop ((i + 1) * 2)).length)).toArray) (hR2 : R2 = (R1.toList.take ((i + (n - (i + 1))) * 2) ++ ([.int .i64 0, .int .i64 0] : List Value) ++ R1.toList.drop ((i + (n - (i + 1))) * 2 + 2)).toArray) :
    Calls Tryz.prog 95 #[.slice (some ⟨b, 0, none⟩) n c, .int .i64 i, .int .i64 ((i : Int) + 1)] w fun e w' =>
      e = .returned (.slice (some ⟨b, 0, none⟩) (i + (n - (i + 1))) c) ∧ w' = (w.drew.setRow b R1).setRow b R2 := by
  obtain ⟨news, hnews⟩ : ∃ news, news = V.drop ((i + 1) * 2) := ⟨_, rfl⟩
  have hlen : news.length = (n - (i + 1)) * 2 := by rw [hnews, List.length_drop, hV]; omega
  have hget : ∀ t u, news[t]? = some u → w.drew.cell? ⟨b, (i + 1) * 2 + t, none⟩ = some u := by
    intro t u hu
    rw [hnews, List.getElem?_drop, ← hcV, List.getElem?_take] at hu
    split at hu
    · rw [Array.getElem?_toList] at hu
      show w.cell? _ = _
      simp [World.cell?, hcur, hu]
    · cases hu
  obtain ⟨A, hA, hsrc⟩ : ∃ A : Addr, (if c = i + 1 then some (⟨b, 0, none⟩ : Addr) else some ⟨b, (i + 1) * 2, none⟩) = some A ∧ Hid (∀ t u, news[t]? = some u → w.drew.cell? (A.add t) = some u) := by
    by_cases h : c = i + 1
    · refine ⟨⟨b, 0, none⟩, by simp [h], fun t u hu => ?_⟩
      have h0 : news.length = 0 := by rw [hlen]; omega
      rw [List.length_eq_zero_iff.1 h0] at hu
      simp at hu
    · refine ⟨⟨b, (i + 1) * 2, none⟩, by simp [h], fun t u hu => ?_⟩
      rw [Addr.add_lit]
      exact hget t u hu
  have s1 : Hid (news.length = (n - (i + 1)) * 2) := hlen
  have s2 : Hid (∀ u ∈ news, u.oneCell' = true) := fun u hu => h1 u (by rw [hnews] at hu; exact List.mem_of_mem_drop hu)
  have s3 : Hid (∀ t, t < news.length → (w.drew.cell? ⟨b, 0 + i * 2 + t, none⟩).isSome = true ∧ w.drew.frozen? ⟨b, 0 + i * 2 + t, none⟩ = false) := by
    intro t ht
    rw [hlen] at ht
    refine ⟨?_, ?_⟩
    · show (w.cell? _).isSome = true
      simp [World.cell?, hcur]; omega
    · show w.frozen? _ = false
      simp [World.frozen?, hcur]
  obtain ⟨W1, hW1⟩ : ∃ W1, W1 = w.drew.setCells b (0 + i * 2) news := ⟨_, rfl⟩
  have hW1' : W1 = w.drew.setRow b R1 := by
    rw [hW1, setCells_row (P := Tryz.prog) b (0 + i * 2) news w.drew cur 43 hcur (by rw [hlen, hcc]; omega) s2, hR1, hnews, Nat.zero_add]
  have hW1h : W1.heap[b]? = some (.cells R1 43 (0, 0)) := by rw [hW1']; exact setRow_heap _ _ _ _ _ _ hcur
  have hR1s : R1.size = c * 2 := by rw [hR1, ← hnews]; simp [hlen]; omega
  have hcl : ∀ ty, (Builtin.clear_ #[26] ty #[.slice (some ⟨b, (i + (n - (i + 1))) * 2, none⟩) (n - (i + (n - (i + 1)))) (c - (i + (n - (i + 1))))]).run Tryz.prog W1 = .ok (.tuple #[]) (W1.setRow b R2) := fun ty => by
    have := run_clear_one (P := Tryz.prog) W1 26 43 ty #[.int .i64 0, .int .i64 0] Tryz.underlying26 Tryz.zeroValue43 (by intro v hv; simp at hv; rcases hv with rfl | rfl <;> rfl) b ((i + (n - (i + 1))) * 2) (c - (i + (n - (i + 1)))) R1 43 hW1h (by simp; omega)
    rw [show n - (i + (n - (i + 1))) = 1 by omega, this, hR2]
    simp
  have hW : Hid (W1 = w.drew.setCells b (0 + i * 2) news) := hW1
  have hX : Hid (W1 = w.drew.setRow b R1) := hW1'
  clear hW1 hW1' hW1h hR1 hR2 hR1s hcur hcV hget hnews hlen h1 hV hcc
  have hic : i ≤ c := by omega
  have hjc : i + 1 ≤ c := by omega
  have hin : i ≤ n := by omega
  have hjn : i + 1 ≤ n := by omega
  have hne : ¬ (i : Int) = (i : Int) + 1 := by omega
  have hb1 : (0 : Int) ≤ (i : Int) + 1 := by omega
  have htn : ((i : Int) + 1).toNat = i + 1 := by omega
  have hb2 : (i : Int) + 1 ≤ (n : Int) := by omega
  have hb3 : (i : Int) ≤ (i : Int) + 1 := by omega
  have hcn : ¬ c = i + (n - (i + 1)) := by omega
  have hnn : i + (n - (i + 1)) ≤ n := by omega
  have mixed : Tryz.prog.follows .mixedOrders = true := by kernel_rfl
  go_enter Tryz.func95, Tryz.ntmps95
  go_wp2_with fail
  go_region_law_o (refine step_append_room rfl (.tmp 22) (.tmp 25) 26 rfl 43 i0 2 Tryz.underlying26 hi0 hzs b 0 i c (by simp [Act.eval, Act.put]) A (n - (i + 1)) (c - (i + 1)) news (by simp [Act.eval, Act.put]) s1.out hsrc.out s2.out (by omega) s3.out ?_; rw [← hW.out])
  go_wp2
  go_ret
  exact ⟨rfl, by rw [hX.out]⟩
theorem valS_erase (l : List Stop) (i : Nat) (h : i < l.length) : valS (l.eraseIdx i) = (valS l).take (i * 2) ++ (valS l).drop ((i + 1) * 2) := by
  rw [List.eraseIdx_eq_take_drop_succ, valS_app, valS_take l i (by omega), valS_drop l (i + 1) (by omega)]
theorem del_ok {S : Store} {id ver : Nat} (cs : List Stop) (i : Nat) (hi : i < cs.length) (hn : cs.length ≤ 1000000) (hid : S id = .cells ver 43 (cs.flatMap Enc.enc)) :
    Spec Tryz.prog 95 [.sl id ver 2 0 cs.length, I i, I ((i : Int) + 1)] S (fun p S' => p = .sl id (ver + 1) 2 0 (cs.eraseIdx i).length ∧ S' = S.set id (.cells (ver + 1) 43 ((cs.eraseIdx i).flatMap Enc.enc))) := by
  refine ⟨enters_of Tryz.func95 (by rfl) rfl, ?_⟩
  intro C w vs hS hl hr
  obtain ⟨u, v, x, rfl⟩ := arr3 hl
  obtain rfl := rel_int (hr 1 _ v rfl rfl)
  obtain rfl := rel_int (hr 2 _ x rfl rfl)
  have hu := hr 0 _ u rfl rfl
  have hvl : (valS cs).length = cs.length * 2 := valS_len cs
  have hel : (cs.eraseIdx i).length = i + (cs.length - (i + 1)) := by rw [List.length_eraseIdx_of_lt hi]; omega
  have hnew := valS_erase cs i hi
  have hnl : (valS (cs.eraseIdx i)).length = (i + (cs.length - (i + 1))) * 2 := by rw [valS_len, hel]
  rw [valS_enc] at hid ⊢
  rw [hel]
  generalize cs.eraseIdx i = es at *
  obtain ⟨i0, hi0⟩ := Option.isSome_iff_exists.1 i43
  have hc := c43
  simp only [Program.cellsOf, hi0, Option.map_some, Option.getD_some] at hc
  cases hu with
  | sl h1 h2 h3 =>
    obtain ⟨ad, cap, rfl, q1, q2, q3, q4⟩ := h1
    have hloc := (h3 ver (by rw [hid]; rfl)).2 rfl
    rcases hS.cells id ver _ _ hid with ⟨hno, hnil⟩ | ⟨b, k, c, g1, g2, g3, g4, g5, g6⟩
    · have := congrArg List.length hnil
      simp [hvl] at this
      exfalso; omega
    rcases hloc with ⟨z1, _⟩ | ⟨b', k', ad', cap', z1, z2, z3, z4⟩
    · rw [g1] at z1; cases z1
    rw [g1] at z1; cases z1; cases z2
    obtain ⟨rfl, hcap⟩ := z3 rfl
    rw [List.length_map, hvl] at g4
    have hcells : ∀ (j : Nat) v, (valS cs)[j]? = some v → c[j]? = some v := by
      intro j v hj
      have hjl := (List.getElem?_eq_some_iff.1 hj).1
      have e2 : c[j]? = some c[j] := Array.getElem?_eq_getElem (by omega)
      have := g6 j (.sc v) _ (by rw [List.getElem?_map, hj]; rfl) e2
      rw [e2]
      generalize c[j] = y at this
      cases this; rfl
    have hcur : c.toList.take (cs.length * 2) = valS cs := by
      apply List.ext_getElem?
      intro j
      by_cases hj : j < cs.length * 2
      · rw [List.getElem?_take_of_lt hj, Array.getElem?_toList]
        have e : (valS cs)[j]? = some (valS cs)[j] := List.getElem?_eq_getElem (by omega)
        rw [e, hcells j _ e]
      · rw [List.getElem?_eq_none (by simp; omega), List.getElem?_eq_none (by omega)]
    have hcsz : c.size = cap * 2 := g3.trans hcap.symm
    have hdl : ((valS cs).drop ((i + 1) * 2)).length = (cs.length - (i + 1)) * 2 := by rw [List.length_drop, hvl]; omega
    obtain ⟨R1, hR1⟩ : ∃ R1 : Array Value, R1 = (c.toList.take (i * 2) ++ (valS cs).drop ((i + 1) * 2) ++ c.toList.drop (i * 2 + ((valS cs).drop ((i + 1) * 2)).length)).toArray := ⟨_, rfl⟩
    obtain ⟨R2, hR2⟩ : ∃ R2 : Array Value, R2 = (R1.toList.take ((i + (cs.length - (i + 1))) * 2) ++ ([.int .i64 0, .int .i64 0] : List Value) ++ R1.toList.drop ((i + (cs.length - (i + 1))) * 2 + 2)).toArray := ⟨_, rfl⟩
    have htk : c.toList.take (i * 2) = (valS cs).take (i * 2) := by rw [← hcur, List.take_take, Nat.min_eq_left (by omega)]
    have hR1l : R1.toList.take ((i + (cs.length - (i + 1))) * 2) = valS es := by
      rw [hR1]
      simp only []
      rw [htk, ← hnew, ← hnl, List.take_left]
    have hR1s : R1.size = cap * 2 := by rw [hR1]; simp [hdl]; omega
    have hR2l : R2.toList = valS es ++ (([.int .i64 0, .int .i64 0] : List Value) ++ R1.toList.drop ((i + (cs.length - (i + 1))) * 2 + 2)) := by
      rw [hR2, hR1l]
      simp
    have hR2s : R2.size = cap * 2 := by
      rw [← Array.length_toList, hR2l]
      simp [hnl, hR1s]
      omega
    refine (del_raw b cs.length cap i (valS cs) w i0 hi0 hc c g2 hcsz hi q1 (by unfold maxLen at q3; omega) (by omega) hvl hcur (valS_one cs) R1 R2 hR1 hR2).mono ?_
    rintro e w' ⟨rfl, rfl⟩
    obtain ⟨r1, r2⟩ := row_rel (C := C) (S := S) (w := w) hR2l (valS_one _)
    have hb1 := setRow_heap w.drew b c R1 _ _ g2
    obtain ⟨t1, t2⟩ := hS.turn (l := some (b, cap * 2)) (ver' := ver + 1) (cs' := (valS es).map .sc) hid (by omega) (fun h => absurd h (by omega)) (w' := (w.drew.setRow b R1).setRow b R2)
      (by
        rw [g1]
        refine ⟨⟨rfl, rfl, rfl, by simp [World.setRow], fun j hj hne => ?_⟩, Nat.le_succ _⟩
        have hjb : j ≠ b := fun e => hne (by rw [e]; rfl)
        rw [setRow_other _ _ _ _ hjb, setRow_other _ _ _ _ hjb]; rfl)
      (.inr ⟨b, cap * 2, R2, rfl, .inr (by rw [g1]; rfl), setRow_heap _ _ _ _ _ _ hb1, hR2s, by rw [List.length_map, hnl]; omega, r1, r2⟩)
    refine ⟨_, _, _, _, rfl, ⟨rfl, rfl⟩, ?_, t1, t2⟩
    refine .sl ⟨_, _, rfl, by omega, by unfold maxN; omega, q3, fun _ => ⟨_, _, rfl⟩⟩ ⟨h2.1, by simp only [Ctx.at]; omega⟩ fun v0 hv0 => ?_
    rw [Store.set_same] at hv0; cases hv0
    exact ⟨Nat.le_refl _, fun _ => .inr ⟨b, _, _, _, by simp [Ctx.at], rfl, fun _ => ⟨rfl, rfl⟩, fun _ => rfl⟩⟩
open Go Hp
theorem arcOk_of {x : Inst} (h : ∀ row ∈ x.dist, ∀ d ∈ row, 0 ≤ d ∧ d ≤ 2147483648) : ArcOk x := by
  intro a b
  unfold arc
  split
  · omega
  · rw [List.getD_eq_getElem?_getD, List.getD_eq_getElem?_getD]
    cases hr : x.dist[a.toNat]? with
    | none => simp
    | some row =>
      simp only [Option.getD_some]
      cases hd : row[b.toNat]? with
      | none => simp
      | some d => exact h row (List.mem_of_getElem? hr) d (List.mem_of_getElem? hd)
def cu15 : Cust := ⟨1, 1, [1], 0, 0, 0, 0, 0⟩
def x15 : Inst := ⟨1, 1, 9, 99, [cu15], [[0, 5], [5, 0]]⟩
theorem x15_ok : ArcOk x15 := arcOk_of (by decide)
theorem j15 : joinP x15 [] = [] := by
  unfold joinP joinAll
  have : pairsP x15 (([] : List Stop).map (·.c)) = [] := (pairsP_of (x := x15) (c := []) (l := []) (by decide) (by decide) (by unfold Sd; decide)).symm
  rw [this]
  rfl
theorem r15 : solveR x15 0 [[], [], [], []] = ([], 0) := by decide
theorem m15 : mayT x15 [⟨0, 1⟩] = 0 := by decide
theorem solve15_ok : Pure Tryz.prog 15 [.agg (instL x15), nilS, I 0] (.tup [.agg [L ([] : Day)], I 0]) := by
  have hA : Pure Tryz.prog 59 [nilS] (.agg [L ([] : Day)]) := pure_wk (.cons .nil .nil) (apartP_ok [] (by decide))
  have hF : Pure Tryz.prog 11 [.agg (instL x15), nilS] (I 0) := pure_wk (.cons .rfl (.cons .nil .nil)) (fitsP_ok x15 [] (by decide) (by decide))
  have hJ : Pure Tryz.prog 61 [.agg (instL x15), nilS] (.agg [L ([] : Day)]) := by
    have := pure_wk (.cons .rfl (.cons .nil .nil)) (join_all_ok x15 [] x15_ok (by decide) (by decide) (by simp) (by decide))
    rwa [j15] at this
  have hI := improve0_ok x15
  have hit := tries_iter (fsL x15 nilS 0) [some [], some [], some [], some []] rfl (by decide) (by
    intro k f hf
    match k with
    | 0 => cases hf; exact ⟨_, _, L ([] : Day), rfl, try1_ok nilS [] plike_nil hA, fun d hd => by cases hd; rfl⟩
    | 1 => cases hf; exact ⟨_, _, L ([] : Day), rfl, try2_ok x15 nilS 0 [] [] 0 plike_nil hJ hI, fun d hd => by cases hd; rfl⟩
    | 2 => cases hf; exact ⟨_, _, L ([] : Day), rfl, try3_ok x15 nilS 0 [] [] 0 plike_nil hA hI, fun d hd => by cases hd; rfl⟩
    | 3 => cases hf; exact ⟨_, _, L ([] : Day), rfl, try4_ok x15 nilS 0 [] [] true 0 plike_nil (regret0_ok x15) (fun _ => hI), fun d hd => by cases hd; rfl⟩
    | k + 4 => cases hf)
  have := solve_ok x15 nilS 0 0 [[], [], [], []] plike_nil (by decide) hF (fun _ => hit) (fun _ d hd => by
    have : d = [] := by simpa using hd
    subst this
    exact ⟨⟨by decide, by simp, by simp⟩, by decide⟩)
  rwa [r15] at this
set_option maxRecDepth 20000 in
theorem lives15_ok : Pure Tryz.prog 13 [] (B true) := by
  have h1 := solve15_ok
  have h2 := insert0_ok x15 ⟨0, 1⟩ (by decide) m15 (by decide) (by unfold small; decide)
  refine pwe Tryz.func13 Tryz.ntmps13 Tryz.results13 fun S nx hd => ?_
  repeat refine pw_seq ?_
  refine pwn ?_
  intros
  repeat refine pw_seq ?_
  refine pwn ?_
  intro v0
  repeat refine pw_seq ?_
  refine pwn ?_
  intro v1
  repeat refine pw_seq ?_
  refine pwn ?_
  refine pwc h1 ?_
  intro v2
  intros
  repeat refine pw_seq ?_
  refine pwn ?_
  refine pwc h2 ?_
  intro v3
  intros
  repeat refine pw_seq ?_
  refine pwN [(4, 31), (8, 35), (14, 41)] trivial ?_
  intros
  repeat refine pw_seq ?_
  exact pw_ret (ret_pure hd rfl rfl)
open Go Go.Proofs
theorem putD_ok {x : Inst} {d : Day} {s : Stop} (hx : x.cust.length ≤ 1048576) (hdo : DayOk d) (hd1 : d.length ≤ 1000000) (hf : d.flatten.length ≤ 1000000) : DayOk (insertD x d s).1 := by
  unfold insertD
  cases hb : (bestZ (spotsZ x d s)).2 with
  | false => exact hdo
  | true =>
    have hm := bestZ_mem hb
    have hp := putD_perm hm
    have hs := small_stop hx (spotsZ_mem hm).1
    simp only [cond_true]
    have hfl : (putD d (bestZ (spotsZ x d s)).1 s).flatten.length ≤ 1000001 := by rw [hp.length_eq, List.length_cons]; omega
    refine ⟨?_, fun t ht => ?_, fun t ht a ha => ?_⟩
    · unfold putD; split
      · simp; omega
      · simp; omega
    · have := (tour_sub ht).length_le; omega
    · have := hp.subset ((tour_sub ht).subset ha)
      rw [List.mem_cons] at this
      rcases this with rfl | h
      · exact hs
      · obtain ⟨u, hu, hau⟩ := List.mem_flatten.1 h
        exact hdo.s u hu a hau
open Go Go.Proofs
def aboveZ (l : List Int) : Int := if 1 < l.length then W (l.getD 1 0 - l.getD 0 0) else 1099511627776
def urgG (c : Stop → List Int) : List Stop → Nat → Int → Int → Int
  | [], _, place, _ => place
  | s :: l, i, place, most => if (c s).length = 0 then (i : Int) else if place < 0 ∨ most < aboveZ (c s) then urgG c l (i + 1) (i : Int) (aboveZ (c s)) else urgG c l (i + 1) place most
def urgentZ (x : Inst) (d : Day) (l : List Stop) : Int := urgG (costsZ x d) l 0 (-1) 0
theorem urgG_in (c : Stop → List Int) : ∀ (l : List Stop) (i : Nat) (place most : Int), (l ≠ [] ∨ 0 ≤ place) → place < i → 0 ≤ urgG c l i place most ∧ urgG c l i place most < (i + l.length : Nat)
  | [], i, place, most, h, hp => by
    rcases h with h | h
    · exact absurd rfl h
    · simp only [urgG, List.length_nil]; omega
  | s :: l, i, place, most, _, hp => by
    unfold urgG
    split
    · simp only [List.length_cons]; omega
    · split
      · have := urgG_in c l (i + 1) i (aboveZ (c s)) (.inr (by omega)) (by omega)
        simp only [List.length_cons]; omega
      · rename_i hc
        have := urgG_in c l (i + 1) place most (.inr (by omega)) (by omega)
        simp only [List.length_cons]; omega
theorem urgent_in {x : Inst} {d : Day} {l : List Stop} (h : l ≠ []) : ∃ k : Nat, urgentZ x d l = k ∧ k < l.length := by
  have := urgG_in (costsZ x d) l 0 (-1) 0 (.inl h) (by omega)
  exact ⟨(urgentZ x d l).toNat, by unfold urgentZ; omega, by unfold urgentZ; omega⟩
def regN (x : Inst) : Nat → Day → List Stop → Day × Bool
  | 0, d, _ => (d, true)
  | n + 1, d, l => bif (insertD x d (l.getD (urgentZ x d l).toNat default)).2 then regN x n (insertD x d (l.getD (urgentZ x d l).toNat default)).1 (l.eraseIdx (urgentZ x d l).toNat) else (d, false)
def regretZ (x : Inst) (l : List Stop) : Day × Bool := regN x l.length [] l
structure RgOk (x : Inst) (d : Day) (l : List Stop) : Prop where
  ok : DayOk d
  may : dayT x d = 0
  len : d.flatten.length + l.length ≤ 1000
theorem RgOk.dl {x : Inst} {d : Day} {l : List Stop} (h : RgOk x d l) : d.length ≤ 1000 := by
  have h1 := flat_len_ge d (dayT_ne h.may)
  have h2 := h.len
  omega
theorem RgOk.step {x : Inst} {d : Day} {l : List Stop} (hx : x.cust.length ≤ 1048576) (h : RgOk x d l) {i : Nat} (hi : i < l.length) {s : Stop} (hs : (insertD x d s).2 = true) : RgOk x (insertD x d s).1 (l.eraseIdx i) := by
  have hf := h.len
  have hl := h.dl
  refine ⟨putD_ok hx h.ok (by omega) (by omega), ?_, ?_⟩
  · unfold insertD at hs ⊢
    cases hb : (bestZ (spotsZ x d s)).2 with
    | false => rw [hb] at hs; cases hs
    | true => exact putD_may (bestZ_mem hb)
  · rw [(insertD_perm hs).length_eq, List.length_cons, List.length_eraseIdx_of_lt hi]; omega
theorem rgOk_begin {x : Inst} (hv : 0 ≤ x.veh) {l : List Stop} (hl : l.length ≤ 1000) : RgOk x [] l :=
  ⟨⟨by simp, by simp, by simp⟩, (dayT_zero x []).2 ⟨by simp, by simp, by simpa using hv⟩, by simpa using hl⟩
theorem urg_next {c : Stop → List Int} {l : List Stop} {k : Nat} {s : Stop} {place most : Int} (hd : l.drop k = s :: l.drop (k + 1)) :
    urgG c (l.drop k) k place most = if (c s).length = 0 then (k : Int) else if place < 0 ∨ most < aboveZ (c s) then urgG c (l.drop (k + 1)) (k + 1) (k : Int) (aboveZ (c s)) else urgG c (l.drop (k + 1)) (k + 1) place most := by
  rw [hd]; rfl
set_option maxRecDepth 20000 in
set_option maxHeartbeats 1600000 in
theorem urgentP_ok (x : Inst) (d : Day) (l : List Stop) (hx : x.cust.length ≤ 1048576) (h : RgOk x d l) {S : Store} {id ver : Nat} (hid : S id = .cells ver 43 (l.flatMap Enc.enc)) :
    Spec Tryz.prog 94 [.agg (lookL x d), .sl id ver 2 0 l.length] S (fun p S' => p = I (urgentZ x d l) ∧ S' = S) := by
  have hf := h.len
  have hl := h.dl
  have hco := fun s => costsP_ok x d s hx h.ok h.may (by omega) (by omega)
  have hu : urgentZ x d l = urgG (costsZ x d) (l.drop 0) 0 (-1) 0 := rfl
  rw [hu]
  clear hu
  obtain ⟨on, tw, fs, bd, ls, ws, hlk⟩ : ∃ on tw fs bd ls ws, lookL x d = lookG x d on tw fs bd ls ws := ⟨_, _, _, _, _, _, rfl⟩
  rw [hlk] at hco ⊢
  clear hlk
  generalize hcz : costsZ x d = cz at *
  refine pwes Tryz.func94 Tryz.ntmps94 Tryz.results94 fun nx hd => ?_
  have hlt : id < nx := lt_of_live hd hid (by simp)
  have xid := fun obs => ext_old (S := S) (obs := obs) hlt
  repeat refine pw_seq ?_
  refine pwn ?_
  intro v0
  repeat refine pw_seq ?_
  refine pwn ?_
  intros
  repeat refine pw_seq ?_
  refine pwn ?_
  intros
  repeat refine pw_seq ?_
  refine pw_block (pw_loopL (fun s' : Nat × Int × Int => s'.1 ≤ l.length ∧ urgG cz (l.drop s'.1) s'.1 s'.2.1 s'.2.2 = urgG cz (l.drop 0) 0 (-1) 0) (fun (k, place, most) => [(2, .ptr nx v0 0), (5, I place), (6, I most), (11, .sl id ver 2 0 l.length), (12, I l.length), (13, I k)]) (fun _ => [.cells v0 87 (lookG x d on tw fs bd ls ws)]) (fun s' => l.length - s'.1) (0, -1, 0) [] ⟨by simp, rfl⟩ (by simp) (by simp) ?_)
  rintro ⟨k, place, most⟩ ⟨hk, hg⟩
  simp only at hk hg ⊢
  rw [← hg]
  repeat refine pw_seq ?_
  refine pwn ?_
  intros
  repeat refine pw_seq ?_
  refine pw_cond rfl (fun hc => ?_) (fun hc => ?_)
  · simp at hc
    obtain ⟨s, tl, a1, a2, a3, e1, e0⟩ := el 2 rfl l k hc
    have hk2 : 2 ≤ l.length * 2 - k * 2 := by omega
    have hun := urg_next (c := cz) (place := place) (most := most) a2
    have hcs := hco s
    generalize hc0 : cz s = c at *
    have wk := wrN k (by omega)
    refine pw_skip (pw_seq (pw_block ?_))
    repeat refine pw_seq ?_
    refine pwN [] (jn5 xid hid e0 hc hk2) ?_
    intro v1
    repeat refine pw_seq ?_
    refine pwn ?_
    refine pwc hcs ?_
    intros
    by_cases h0 : c.length = 0
    · rw [if_pos h0] at hun
      repeat refine pw_seq ?_
      refine pwN [] h0 ?_
      intros
      repeat refine pw_seq ?_
      refine pw_ct rfl ?_
      repeat refine pw_seq ?_
      refine pwn ?_
      intros
      repeat refine pw_seq ?_
      exact pw_ret ⟨_, S, (by simp; rfl), ⟨by simp [oneOf, hun], rfl⟩, ext_kill0 hd⟩
    rw [if_neg h0] at hun
    repeat refine pw_seq ?_
    refine pwn ?_
    intros
    repeat refine pw_seq ?_
    refine pw_cf (by simp; exact fun e => h0 (by rw [e]; rfl)) ?_
    refine pw_skip ?_
    repeat refine pw_seq ?_
    refine pwn ?_
    intros
    repeat refine pw_seq ?_
    refine pw_joinK (nx := nx) (fun _ : Unit => True) (fun _ => [(2, .ptr nx v0 0), (5, I place), (6, I most), (7, I k), (10, I (aboveZ c)), (11, .sl id ver 2 0 l.length), (12, I l.length), (13, I k)]) (fun _ => S) (fun _ => [.cells v0 87 (lookG x d on tw fs bd ls ws)]) ?_ ?_
    · by_cases h1 : 1 < c.length
      · obtain ⟨a, ta, q1, -, -, q0⟩ := el1 rfl c 1 h1
        obtain ⟨b, tb, r1, -, -, r0⟩ := el1 rfl c 0 (by omega)
        have hab : aboveZ c = W (a - b) := by unfold aboveZ; rw [if_pos h1, List.getD_eq_getElem?_getD, List.getD_eq_getElem?_getD, q1, r1]; rfl
        have g1 : 1 ≤ c.length - 1 := by omega
        have g2 : 0 < c.length := by omega
        have g3 : 1 ≤ c.length := by omega
        have r0' : (c.flatMap Enc.enc : List PV) = Enc.enc b ++ tb := by simpa using r0
        have h1' : (1 : Int) < c.length := by omega
        repeat refine pw_seq ?_
        refine pw_ct (by simp; omega) ?_
        rw [r0'] at q0
        have htb : tb = I a :: ta := by simpa using q0
        rw [htb] at r0'
        repeat refine pw_seq ?_
        refine pwY none (Row.pures [0, 1, 2, 3, 4, 5, 6, 7] .done) mixed (jn6 r0' h1 h1' g1 g2 g3) ?_
        intros
        exact at_mk () [_] trivial (by simp [hab]) rfl (by simp; rfl)
      · have hab : aboveZ c = 1099511627776 := by unfold aboveZ; rw [if_neg h1]
        repeat refine pw_seq ?_
        refine pw_cf (by simp; omega) ?_
        refine pw_skip ?_
        exact at_mk () [_] trivial (by simp [hab]) rfl (by simp; rfl)
    · rintro ⟨⟩ -
      generalize aboveZ c = ab at *
      by_cases hq : place < 0
      · rw [if_pos (.inl hq)] at hun
        repeat refine pw_seq ?_
        refine pwN [(2, 37)] (jn2 hq undef_eq) ?_
        intros
        repeat refine pw_seq ?_
        refine pw_ct rfl ?_
        repeat refine pw_seq ?_
        refine pwn ?_
        intros
        repeat refine pw_seq ?_
        refine pwn ?_
        intros
        exact again_mk (k + 1, (k : Int), ab) [] ⟨hc, by rw [← hun, hg]⟩ (by simp; omega) (by simp [wk]) rfl (by simp)
      · by_cases hq2 : most < ab
        · rw [if_pos (.inr hq2)] at hun
          repeat refine pw_seq ?_
          refine pwN [(2, 37)] (jn2 hq hq2) ?_
          intros
          repeat refine pw_seq ?_
          refine pw_ct rfl ?_
          repeat refine pw_seq ?_
          refine pwn ?_
          intros
          repeat refine pw_seq ?_
          refine pwn ?_
          intros
          exact again_mk (k + 1, (k : Int), ab) [] ⟨hc, by rw [← hun, hg]⟩ (by simp; omega) (by simp [wk]) rfl (by simp)
        · rw [if_neg (by rintro (q | q); exact hq q; exact hq2 q)] at hun
          repeat refine pw_seq ?_
          refine pwN [(2, 37)] (jn2 hq hq2) ?_
          intros
          repeat refine pw_seq ?_
          refine pw_cf rfl ?_
          refine pw_skip ?_
          repeat refine pw_seq ?_
          refine pwn ?_
          intros
          exact again_mk (k + 1, place, most) [] ⟨hc, by rw [← hun, hg]⟩ (by simp; omega) (by simp [wk]) rfl (by simp)
  · simp at hc
    obtain rfl : k = l.length := by omega
    refine pw_exit ?_
    have hgl : urgG cz (l.drop l.length) l.length place most = place := by rw [List.drop_length]; rfl
    repeat refine pw_seq ?_
    refine pwn ?_
    intros
    repeat refine pw_seq ?_
    exact pw_ret ⟨_, S, (by simp; rfl), ⟨by simp [oneOf]; rfl, rfl⟩, ext_kill0 hd⟩
open Go Go.Proofs
theorem regN_step {x : Inst} {d : Day} {l : List Stop} {k : Nat} {s : Stop} (hu : urgentZ x d l = k) (hk : l[k]? = some s) :
    regN x l.length d l = bif (insertD x d s).2 then regN x (l.eraseIdx k).length (insertD x d s).1 (l.eraseIdx k) else (d, false) := by
  have hlt := (List.getElem?_eq_some_iff.1 hk).1
  obtain ⟨n, hn⟩ : ∃ n, l.length = n + 1 := ⟨l.length - 1, by omega⟩
  have he : (l.eraseIdx k).length = n := by rw [List.length_eraseIdx_of_lt hlt]; omega
  have hg : l.getD k default = s := by rw [List.getD_eq_getElem?_getD, hk]; rfl
  rw [hn, he, regN, hu, Int.toNat_natCast, hg]
theorem rgOk_stops {x : Inst} {d : Day} {l : List Stop} (h : RgOk x d l) : d.length ≤ 1000 ∧ d.flatten.length ≤ 1000 ∧ l.length ≤ 1000 := by
  have h1 := h.dl
  have h2 := h.len
  omega
set_option maxRecDepth 20000 in
set_option maxHeartbeats 1600000 in
theorem regretP_ok (x : Inst) (l : List Stop) (hx : x.cust.length ≤ 1048576) (hv : 0 ≤ x.veh) (hl : l.length ≤ 1000) : Pure Tryz.prog 64 [.agg (instL x), L l] (.tup [.agg [L (regretZ x l).1], B (regretZ x l).2]) := by
  have hb := rgOk_begin hv hl
  unfold regretZ
  by_cases h0 : 0 < l.length
  case neg =>
    obtain rfl : l = [] := List.eq_nil_of_length_eq_zero (by omega)
    have hcl := cloneP_ok [] (by simp)
    refine pwe Tryz.func64 Tryz.ntmps64 Tryz.results64 fun S nx hd => ?_
    repeat refine pw_seq ?_
    refine pwn ?_
    intro v0 v1
    repeat refine pw_seq ?_
    refine pwn ?_
    intro v2
    refine pw_nilC 2 0 rfl rfl ?_
    repeat refine pw_seq ?_
    refine pwn ?_
    refine pwc hcl ?_
    intros
    repeat refine pw_seq ?_
    refine pw_block (pw_loopL (fun _ : Nat => True) (fun _ => [(2, .ptr nx v0 0), (4, .ptr (nx + 1) v1 0), (6, .ptr (nx + 2) v2 0), (7, L ([] : List Stop))]) (fun _ => [.cells v0 25 (instL x), .cells v1 35 [nilS], .cells v2 35 [L ([] : Day)]]) (fun k => k) 0 [] trivial (by simp) (by simp) ?_)
    rintro k -
    repeat refine pw_seq ?_
    refine pwn ?_
    intros
    repeat refine pw_seq ?_
    refine pw_cf rfl ?_
    refine pw_exit ?_
    repeat refine pw_seq ?_
    refine pwn ?_
    intros
    repeat refine pw_seq ?_
    exact pw_ret (ret_pure hd (by simp; rfl) (by simp [oneOf, regN]))
  refine pwe Tryz.func64 Tryz.ntmps64 Tryz.results64 fun S nx hd => ?_
  repeat refine pw_seq ?_
  refine pwn ?_
  intro v0 v1
  repeat refine pw_seq ?_
  refine pwn ?_
  intro v2
  refine pw_nilC 2 0 rfl rfl ?_
  repeat refine pw_seq ?_
  refine pw_N [] (by rfl) (by rfl) fun K Gc Gh hK hGc hGh X hX0 hX => ?_
  simp -implicitDefEqProofs [hX0, hX]
  try clear hX0 hX X
  refine hGc _ _ _ _ _ _ _ fun hsuf => ((cloneS_ok l h0 (by omega) _ _ ext_new).mono ?_).v
  rintro _ _ ⟨v3, rfl, rfl⟩
  refine ⟨_, _, ext_push _, ?_⟩
  clear hGc hGh
  clear Gc Gh
  refine xs_go hsuf (D := []) (by rfl) fun Gc Gh hGc hGh X hX0 hX => ?_
  simp -implicitDefEqProofs [hX0, hX]
  clear hX0 hX X
  intros
  refine hK _ _ _ ?_
  clear hK hGc hGh
  clear K Gc Gh
  repeat refine pw_seq ?_
  refine pw_block (pw_loopL (fun s' : Day × List Stop × Nat => regN x s'.2.1.length s'.1 s'.2.1 = regN x l.length [] l ∧ RgOk x s'.1 s'.2.1) (fun (d, m, v3) => [(2, .ptr nx v0 0), (4, .ptr (nx + 1) v1 0), (6, .ptr (nx + 2) v2 0), (7, .sl (nx + 3) v3 2 0 m.length)]) (fun (d, m, v3) => [.cells v0 25 (instL x), .cells v1 35 [nilS], .cells v2 35 [L d], .cells v3 43 (m.flatMap Enc.enc)]) (fun s' => s'.2.1.length) ([], l, v3) [] ⟨rfl, hb⟩ (by simp) (by simp) ?_)
  rintro ⟨d, m, v3⟩ ⟨hr, hok⟩
  simp only at hr hok ⊢
  rw [← hr]
  by_cases hm : m = []
  · subst hm
    repeat refine pw_seq ?_
    refine pwn ?_
    intros
    repeat refine pw_seq ?_
    refine pw_cf rfl ?_
    refine pw_exit ?_
    repeat refine pw_seq ?_
    refine pwn ?_
    intros
    repeat refine pw_seq ?_
    exact pw_ret (ret_pure hd (by simp; rfl) (by simp [oneOf, regN]))
  · have hm0 : 0 < m.length := List.length_pos_iff.2 hm
    obtain ⟨k, hu, hk⟩ := urgent_in (x := x) (d := d) hm
    obtain ⟨s, tl, a1, a2, a3, e1, e0⟩ := el 2 rfl m k hk
    have hk2 : 2 ≤ m.length * 2 - k * 2 := by omega
    have hst := regN_step hu a1
    obtain ⟨b1, b2, b3⟩ := rgOk_stops hok
    have hsee := see_ok x d hx hok.ok (by omega)
    have hins := insert_ok x d s hx hok.ok (by omega)
    have hnx := fun h => hok.step hx hk (s := s) h
    have hurg := fun (S : Store) (id ver : Nat) h => urgentP_ok x d m hx hok (S := S) (id := id) (ver := ver) h
    rw [hu] at hurg
    obtain ⟨on, tw, fs, bd, ls, ws, hlk⟩ : ∃ on tw fs bd ls ws, lookL x d = lookG x d on tw fs bd ls ws := ⟨_, _, _, _, _, _, rfl⟩
    rw [hlk] at hsee hurg
    clear hlk
    have hno := insertD_no (x := x) (d := d) (s := s)
    generalize hi : insertD x d s = r at *
    obtain ⟨d2, ok⟩ := r
    simp only at hst hnx hno
    have wk := wrN k (by omega)
    have hm0' : (0 : Int) < m.length := by omega
    repeat refine pw_seq ?_
    refine pwN [] hm0' ?_
    intros
    repeat refine pw_seq ?_
    refine pw_ct (by simp; exact hm0) ?_
    refine pw_skip (pw_block ?_)
    repeat refine pw_seq ?_
    refine pw_N [] (by rfl) (by rfl) fun K Gc Gh hK hGc hGh X hX0 hX => ?_
    simp -implicitDefEqProofs [hX0, hX]
    try clear hX0 hX X
    refine hGc _ _ _ _ _ _ _ fun hsuf => ((hsee _).mono ?_).v
    rintro _ _ ⟨rfl, rfl⟩
    refine ⟨_, _, rfl, ?_⟩
    clear hGc hGh
    clear Gc Gh
    refine xs_go hsuf (D := []) (by rfl) fun Gc Gh hGc hGh X hX0 hX => ?_
    simp -implicitDefEqProofs [hX0, hX]
    clear hX0 hX X
    refine hGc _ _ _ _ _ _ _ fun hsuf => ((hurg _ _ _ (by rw [ext_at]; rfl)).mono ?_).v
    rintro _ _ ⟨rfl, rfl⟩
    refine ⟨_, _, rfl, ?_⟩
    clear hGc hGh
    clear Gc Gh
    refine xs_go hsuf (D := []) (by rfl) fun Gc Gh hGc hGh X hX0 hX => ?_
    simp -implicitDefEqProofs [hX0, hX]
    clear hX0 hX X
    intros
    refine hK _ _ _ ?_
    clear hK hGc hGh
    clear K Gc Gh
    repeat refine pw_seq ?_
    refine pwY (some [nx, nx + 2, nx + 3]) (Row.pures [0, 1, 2, 3, 4, 5, 6, 7, 8, 9] (.alt 10 (.alt 11 (Row.pures [12] .done) .stop) .stop)) mixed (jn3 e0 hk hk2) ?_
    refine pwP (hins) trivial ?_
    intro v4
    intros
    repeat refine pw_seq ?_
    refine pwn ?_
    intros
    cases ok with
    | false =>
      simp only [cond_false] at hst
      repeat refine pw_seq ?_
      refine pw_ct rfl ?_
      repeat refine pw_seq ?_
      refine pwn ?_
      intros
      repeat refine pw_seq ?_
      exact pw_ret (ret_pure hd (by simp; rfl) (by simp [oneOf, hst]))
    | true =>
      simp only [cond_true] at hst
      repeat refine pw_seq ?_
      refine pw_cf rfl ?_
      refine pw_skip ?_
      have hkl := List.length_eraseIdx_of_lt hk
      repeat refine pw_seq ?_
      refine pw_Y (some [nx + 4]) (Row.pures [0, 1, 2, 3, 4] (.alt 5 (.alt 6 (Row.pures [7] .done) .stop) .stop)) mixed (by rfl) (by rfl) (by rfl) fun K Gp Gc Gh hK hGp hGc hGh X hX0 hX1 hX2 hX => ?_
      simp -implicitDefEqProofs [hX0, hX1, hX2, hX, wk]
      try clear hX0 hX1 hX2 hX X
      refine hGc _ _ _ _ _ _ _ ?_
      refine ((del_ok m k hk (by omega) (by rw [ext_at]; rfl)).mono ?_).v
      rintro _ _ ⟨rfl, rfl⟩
      rw [ext_set _ (by omega) (by simp), Nat.add_sub_cancel_left]
      refine ⟨by simp [Agree], ?_⟩
      clear hGp hGc hGh
      clear Gp Gc Gh
      refine px_go fun Gp Gc Gh hGp hGc hGh X hX0 hX1 hX2 hX => ?_
      simp -implicitDefEqProofs [hX0, hX1, hX2, hX]
      try clear hX0 hX1 hX2 hX X
      refine hK _ _ _ ?_
      clear hK hGp hGc hGh
      clear K Gp Gc Gh
      exact again_mk (d2, m.eraseIdx k, v3 + 1) [_] ⟨hst.symm, hnx rfl⟩ (by simp only; omega) (by simp) rfl (by simp; rfl)
open Go Go.Proofs
def impN (step : Day → Option Day) : Nat → Day → Day
  | 0, d => d
  | n + 1, d => match step d with
    | none => d
    | some e => impN step n e
def impC (step : Day → Option Day) : Nat → Day → Nat
  | 0, _ => 0
  | n + 1, d => match step d with
    | none => 0
    | some e => impC step n e + 1
def StepP (x : Inst) (step : Day → Option Day) (G : Day → Prop) : Prop := ∀ d, G d → ∃ mk ma mb mi mj least, Pure Tryz.prog 90 [.agg (instL x), .agg [L d]] (.tup [.agg [I mk, I ma, I mb, I mi, I mj], I least, B (step d).isSome]) ∧
  ∀ e, step d = some e → Pure Tryz.prog 91 [.agg (instL x), .agg [L d], .agg [I mk, I ma, I mb, I mi, I mj]] (.tup [.agg [L e], I 0]) ∧ G e
set_option maxRecDepth 20000 in
set_option maxHeartbeats 1600000 in
theorem improveP_ok (x : Inst) (d : Day) (b : Int) (step : Day → Option Day) (G : Day → Prop) (hb : b ≤ 9223372036854775807) (hdn : d.length ≤ 1048576) (hdt : ∀ t ∈ d, t.length ≤ 1048576) (hd' : 0 < b → G d) (hs : StepP x step G) : Pure Tryz.prog 57 [.agg (instL x), .agg [L d], I b] (.tup [.agg [L (impN step b.toNat d)], I (if impC step b.toNat d < b.toNat then (impC step b.toNat d : Int) else maxI b 0)]) := by
  refine pwe Tryz.func57 Tryz.ntmps57 Tryz.results57 fun S nx hd => ?_
  repeat refine pw_seq ?_
  refine pwn ?_
  intro v0 v1 v2
  repeat refine pw_seq ?_
  refine pwn ?_
  intro v3
  refine pw_nilObX 3 0 66 1 rfl rfl fun v4 => ?_
  repeat refine pw_seq ?_
  refine pwn ?_
  intros
  repeat refine pw_seq ?_
  refine pw_block (pw_loopL (fun s' : Nat × Nat => s'.1 ≤ d.length) (fun (k, v4) => [(2, I b), (3, .ptr nx v0 0), (6, .ptr (nx + 2) v2 0), (7, I 0), (8, .ptr (nx + 3) v3 0), (16, L d), (17, I d.length), (18, I k)]) (fun (k, v4) => [.cells v0 25 (instL x), .cells v1 35 [L d], .cells v2 35 [nilS], .cells v3 35 [.sl (nx + 4) v4 1 0 k], .cells v4 66 ((d.take k).flatMap Enc.enc)]) (fun s' => d.length - s'.1) (0, v4) [] (by simp) (by simp) (by simp) ?_)
  rintro ⟨k, v4⟩ hk
  simp only at hk ⊢
  repeat refine pw_seq ?_
  refine pwn ?_
  intros
  repeat refine pw_seq ?_
  refine pw_cond rfl (fun hc => ?_) (fun hc => ?_)
  · simp at hc
    obtain ⟨t, tl, a1, a2, a3, e0⟩ := el1 rfl d k hc
    have hk1 : 1 ≤ d.length - k := by omega
    have hcl := cloneP_ok t (hdt t (List.mem_of_getElem? a1))
    have hcl' : ((d.take k).flatMap Enc.enc : List PV).length = k := by rw [flen_list, List.length_take]; omega
    have hct : ((d.take k).flatMap Enc.enc : List PV).take k = (d.take k).flatMap Enc.enc := List.take_of_length_le (by omega)
    have hcn : ((d.take (k + 1)).flatMap Enc.enc : List PV) = (d.take k).flatMap Enc.enc ++ [L t] := by rw [a3, List.flatMap_append]; rfl
    generalize ((d.take k).flatMap Enc.enc : List PV) = cs at *
    refine pw_skip (pw_seq (pw_block ?_))
    repeat refine pw_seq ?_
    refine pwN [] (jn3 e0 hc hk1) ?_
    intro v5
    repeat refine pw_seq ?_
    refine pwY (some [nx + 5]) (Row.pures [0, 2, 3, 4, 5, 6] (.alt 1 (.alt 7 (Row.pures [8] (.alt 9 (.done) .stop)) .stop) .stop)) mixed (jn2 hcl' hct) ?_
    refine pwP (hcl) (jn2 hcl' hct) ?_
    refine ⟨by omega, ?_⟩
    intros
    repeat refine pw_seq ?_
    refine pwn ?_
    intros
    exact again_mk (k + 1, v4 + 1) [_] hc (by simp; omega) (by simp [wrN k (by omega)]) rfl (by simp [hcn]; rfl)
  · simp at hc
    obtain rfl : k = d.length := by omega
    have g1 : d.take d.length = d := List.take_length
    refine pw_exit ?_
    rw [g1]
    refine pw_frz 4 rfl ?_
    repeat refine pw_seq ?_
    refine pwn ?_
    intros
    clear hk hc g1
    repeat refine pw_seq ?_
    refine pw_block (pw_loopL (fun s' : Nat × Day => s'.1 ≤ b.toNat ∧ (0 < b → G s'.2) ∧ impN step (b.toNat - s'.1) s'.2 = impN step b.toNat d ∧ s'.1 + impC step (b.toNat - s'.1) s'.2 = impC step b.toNat d) (fun (k, e) => [(2, I b), (3, .ptr nx v0 0), (6, .ptr (nx + 2) v2 0), (8, .ptr (nx + 3) v3 0), (11, I k)]) (fun (k, e) => [.cells v0 25 (instL x), .cells v1 35 [L d], .cells v2 35 [nilS], .cells v3 35 [L e]]) (fun s' => b.toNat - s'.1) (0, d) [.dead] ⟨by simp, hd', by simp, by simp⟩ (by simp) (by simp) ?_)
    rintro ⟨k, e⟩ ⟨hk, hG, hi, hco⟩
    simp only at hk hG hi hco ⊢
    rw [← hi]
    repeat refine pw_seq ?_
    refine pwn ?_
    intros
    repeat refine pw_seq ?_
    refine pw_cond rfl (fun hc => ?_) (fun hc => ?_)
    · simp at hc
      obtain ⟨mk, ma, mb, mi, mj, least, hB, hM⟩ := hs e (hG (by omega))
      obtain ⟨n, hn⟩ : ∃ n, b.toNat - k = n + 1 := ⟨b.toNat - k - 1, by omega⟩
      refine pw_skip (pw_seq (pw_block ?_))
      repeat refine pw_seq ?_
      refine pwn ?_
      refine pwc hB ?_
      intro v5
      intros
      repeat refine pw_seq ?_
      refine pwn ?_
      intros
      cases hst : step e with
      | none =>
        have hr : impN step (b.toNat - k) e = e := by rw [hn]; unfold impN; rw [hst]
        have hr2 : impC step (b.toNat - k) e = 0 := by rw [hn]; unfold impC; rw [hst]
        rw [hr2] at hco
        rw [hr, ← hco, if_pos (by omega)]
        repeat refine pw_seq ?_
        refine pw_ct rfl ?_
        repeat refine pw_seq ?_
        refine pwn ?_
        intros
        repeat refine pw_seq ?_
        exact pw_ret (ret_pure hd (by simp; rfl) (by simp [oneOf]))
      | some e2 =>
        have hr : impN step (b.toNat - k) e = impN step (b.toNat - (k + 1)) e2 := by rw [hn, show b.toNat - (k + 1) = n by omega]; conv => lhs; unfold impN; rw [hst]
        have hr2 : impC step (b.toNat - k) e = impC step (b.toNat - (k + 1)) e2 + 1 := by rw [hn, show b.toNat - (k + 1) = n by omega]; conv => lhs; unfold impC; rw [hst]
        obtain ⟨hM1, hG2⟩ := hM e2 hst
        repeat refine pw_seq ?_
        refine pw_cf rfl ?_
        refine pw_skip ?_
        repeat refine pw_seq ?_
        refine pwn ?_
        refine pwc hM1 ?_
        intros
        repeat refine pw_seq ?_
        refine pwn ?_
        intros
        exact again_mk (k + 1, e2) [_] ⟨by simp; omega, fun _ => hG2, hr.symm, by simp only; omega⟩ (by simp; omega) (by simp [wrN k (by omega)]) rfl (by simp; rfl)
    · simp at hc
      have hz : b.toNat - k = 0 := by omega
      rw [hz] at hco ⊢
      have hco' : impC step b.toNat d = k := by rw [← hco]; rfl
      rw [hco', if_neg (by omega)]
      refine pw_exit ?_
      repeat refine pw_seq ?_
      refine pwn ?_
      intros
      repeat refine pw_seq ?_
      exact pw_ret (ret_pure hd (by simp; rfl) (by simp [oneOf, impN]))
open Go Go.Proofs
structure Pc where
  t : Nat
  f : Nat
  o : Nat
  b : Bool
  deriving DecidableEq
def pc0 : Pc := ⟨0, 0, 0, false⟩
abbrev pcL (p : Pc) : List PV := [I p.t, I p.f, I p.o, B p.b]
structure Rw5 where
  a : Pc
  b : Pc
  c : Pc
  d : Pc
  e : Pc
abbrev rwL (r : Rw5) : List PV := [I r.a.t, I r.a.f, I r.a.o, B r.a.b, I r.b.t, I r.b.f, I r.b.o, B r.b.b, I r.c.t, I r.c.f, I r.c.o, B r.c.b, I r.d.t, I r.d.f, I r.d.o, B r.d.b, I r.e.t, I r.e.f, I r.e.o, B r.e.b]
def Rw5.l (r : Rw5) : List Pc := [r.a, r.b, r.c, r.d, r.e]
def rw0 : Rw5 := ⟨pc0, pc0, pc0, pc0, pc0⟩
structure Mv where
  k : Nat
  a : Nat
  b : Nat
  i : Nat
  j : Nat
  deriving DecidableEq
abbrev mvL (m : Mv) : List PV := [I m.k, I m.a, I m.b, I m.i, I m.j]
abbrev vwL (m : Mv) (la lb : Nat) : List PV := [I m.k, I m.a, I m.b, I m.i, I m.j, I la, I lb]
def mayZ (m : Mv) (la lb : Nat) : Bool :=
  if m.k = 0 then decide (m.b = m.a ∧ m.i < m.j ∧ m.j < la)
  else if m.k = 1 then decide (m.i < la ∧ (if m.a = m.b then m.j < lb else m.j ≤ lb))
  else if m.k = 2 then decide (¬ (m.b < m.a ∨ m.a = m.b ∧ m.j ≤ m.i) ∧ m.i < la ∧ m.j < lb)
  else decide (m.a < m.b ∧ m.i ≤ la ∧ m.j ≤ lb)
def cutZ (m : Mv) (la lb : Nat) : Rw5 × Rw5 :=
  if m.k = 0 then (⟨⟨m.a, 0, m.i, false⟩, ⟨m.a, m.i, m.j + 1, true⟩, ⟨m.a, m.j + 1, la, false⟩, pc0, pc0⟩, rw0)
  else if m.k = 1 then
    (if m.a ≠ m.b then (⟨⟨m.a, 0, m.i, false⟩, ⟨m.a, m.i + 1, la, false⟩, pc0, pc0, pc0⟩, ⟨⟨m.b, 0, m.j, false⟩, ⟨m.a, m.i, m.i + 1, false⟩, ⟨m.b, m.j, lb, false⟩, pc0, pc0⟩)
    else if m.i < m.j then (⟨⟨m.a, 0, m.i, false⟩, ⟨m.a, m.i + 1, m.j + 1, false⟩, ⟨m.a, m.i, m.i + 1, false⟩, ⟨m.a, m.j + 1, la, false⟩, pc0⟩, rw0)
    else (⟨⟨m.a, 0, m.j, false⟩, ⟨m.a, m.i, m.i + 1, false⟩, ⟨m.a, m.j, m.i, false⟩, ⟨m.a, m.i + 1, la, false⟩, pc0⟩, rw0))
  else if m.k = 2 then
    (if m.a = m.b then (⟨⟨m.a, 0, m.i, false⟩, ⟨m.b, m.j, m.j + 1, false⟩, ⟨m.a, m.i + 1, m.j, false⟩, ⟨m.a, m.i, m.i + 1, false⟩, ⟨m.a, m.j + 1, la, false⟩⟩, rw0)
    else (⟨⟨m.a, 0, m.i, false⟩, ⟨m.b, m.j, m.j + 1, false⟩, ⟨m.a, m.i + 1, la, false⟩, pc0, pc0⟩, ⟨⟨m.b, 0, m.j, false⟩, ⟨m.a, m.i, m.i + 1, false⟩, ⟨m.b, m.j + 1, lb, false⟩, pc0, pc0⟩))
  else (⟨⟨m.a, 0, m.i, false⟩, ⟨m.b, m.j, lb, false⟩, pc0, pc0, pc0⟩, ⟨⟨m.b, 0, m.j, false⟩, ⟨m.a, m.i, la, false⟩, pc0, pc0, pc0⟩)
set_option maxRecDepth 20000 in
theorem mayTurn_ok (m : Mv) (la lb : Nat) (hk : m.k = 0) : Pure Tryz.prog 149 [.agg (vwL m la lb)] (B (mayZ m la lb)) := by
  unfold mayZ
  rw [if_pos hk]
  refine pwe Tryz.func149 Tryz.ntmps149 Tryz.results149 fun S nx hd => ?_
  repeat refine pw_seq ?_
  refine pwn ?_
  intro v0
  by_cases h1 : m.b = m.a
  case neg =>
    have h1' : ¬ (m.b : Int) = m.a := by omega
    repeat refine pw_seq ?_
    refine pwN [(7, 10), (13, 16), (22, 25)] (jn2 h1' undef_eq) ?_
    intros
    repeat refine pw_seq ?_
    exact pw_ret (ret_pure hd rfl (by simp [h1, oneOf]))
  have h1' : (m.b : Int) = m.a := by omega
  by_cases h2 : m.i < m.j
  case neg =>
    have h2' : ¬ (m.i : Int) < m.j := by omega
    repeat refine pw_seq ?_
    refine pwN [(7, 10), (13, 16), (22, 25)] (jn3 h1' h2 undef_eq) ?_
    intros
    repeat refine pw_seq ?_
    exact pw_ret (ret_pure hd rfl (by simp [h2, oneOf]))
  by_cases h3 : m.j < la
  case neg =>
    repeat refine pw_seq ?_
    refine pwN [(7, 10), (13, 16), (22, 25)] (jn4 h1' h2 h3 undef_eq) ?_
    intros
    repeat refine pw_seq ?_
    exact pw_ret (ret_pure hd rfl (by simp [h3, oneOf]))
  repeat refine pw_seq ?_
  refine pwN [(7, 10), (13, 16), (22, 25)] (jn3 h1' h2 h3) ?_
  intros
  repeat refine pw_seq ?_
  exact pw_ret (ret_pure hd rfl (by simp [h1, h2, h3, oneOf]))
set_option maxRecDepth 20000 in
theorem mayShift_ok (m : Mv) (la lb : Nat) (hk : m.k = 1) (hlb : lb ≤ 1048576) : Pure Tryz.prog 151 [.agg (vwL m la lb)] (B (mayZ m la lb)) := by
  unfold mayZ
  rw [if_neg (by omega), if_pos hk]
  refine pwe Tryz.func151 Tryz.ntmps151 Tryz.results151 fun S nx hd => ?_
  repeat refine pw_seq ?_
  refine pwn ?_
  intro v0
  repeat refine pw_seq ?_
  refine pwn ?_
  intros
  refine pw_seq ?_
  refine pw_joinK (nx := nx) (fun z : Int => (m.j : Int) ≤ z ↔ (if m.a = m.b then m.j < lb else m.j ≤ lb)) (fun z => [(1, .ptr nx v0 0), (3, I z)]) (fun _ => S) (fun _ => [.cells v0 205 (vwL m la lb)]) ?_ ?_
  · by_cases h1 : m.a = m.b
    · have h1' : (m.a : Int) = m.b := by omega
      have w1 : IntKind.i64.wrap ((lb : Int) - 1) = (lb : Int) - 1 := wr _ (by omega) (by omega)
      repeat refine pw_seq ?_
      refine pwN [] h1' ?_
      intros
      repeat refine pw_seq ?_
      refine pw_ct rfl ?_
      repeat refine pw_seq ?_
      refine pwN [] w1 ?_
      intros
      exact at_mk ((lb : Int) - 1) [] (by rw [if_pos h1]; omega) (by simp) rfl (by simp)
    · have h1' : ¬ (m.a : Int) = m.b := by omega
      repeat refine pw_seq ?_
      refine pwN [] h1' ?_
      intros
      repeat refine pw_seq ?_
      refine pw_cf rfl ?_
      refine pw_skip ?_
      exact at_mk (lb : Int) [] (by rw [if_neg h1]; omega) (by simp) rfl (by simp)
  · intro z hz
    by_cases h2 : m.i < la
    case neg =>
      repeat refine pw_seq ?_
      refine pwN [(4, 19), (12, 27), (18, 33)] (jn2 h2 undef_eq) ?_
      intros
      repeat refine pw_seq ?_
      exact pw_ret (ret_pure hd rfl (by simp [h2, oneOf]))
    by_cases h3 : (m.j : Int) ≤ z
    case neg =>
      have h4 := (not_congr hz).1 h3
      repeat refine pw_seq ?_
      refine pwN [(4, 19), (12, 27), (18, 33)] (jn2 h2 h3) ?_
      intros
      repeat refine pw_seq ?_
      exact pw_ret (ret_pure hd rfl (by simp [h2, h4, oneOf]))
    have h4 := hz.1 h3
    repeat refine pw_seq ?_
    refine pwN [(4, 19), (12, 27), (18, 33)] (jn2 h2 h3) ?_
    intros
    repeat refine pw_seq ?_
    exact pw_ret (ret_pure hd rfl (by simp [h2, h4, oneOf]))
set_option maxRecDepth 20000 in
theorem maySwap_ok (m : Mv) (la lb : Nat) (hk : m.k = 2) : Pure Tryz.prog 153 [.agg (vwL m la lb)] (B (mayZ m la lb)) := by
  unfold mayZ
  rw [if_neg (by omega), if_neg (by omega), if_pos hk]
  refine pwe Tryz.func153 Tryz.ntmps153 Tryz.results153 fun S nx hd => ?_
  repeat refine pw_seq ?_
  refine pwn ?_
  intro v0
  have rest : ∀ (P : Prop), (m.i < la → m.j < lb → P) → (¬ (m.i < la ∧ m.j < lb) → P) → P := fun P a b => by
    by_cases q : m.i < la ∧ m.j < lb
    · exact a q.1 q.2
    · exact b q
  by_cases h1 : m.b < m.a
  · repeat refine pw_seq ?_
    refine pwN [(7, 10), (15, 18)] (jn2 h1 undef_eq) ?_
    intros
    repeat refine pw_seq ?_
    refine pw_ct rfl ?_
    repeat refine pw_seq ?_
    refine pwn ?_
    intros
    repeat refine pw_seq ?_
    exact pw_ret (ret_pure hd rfl (by simp [h1, oneOf]))
  by_cases h2 : m.a = m.b
  · have h2' : (m.a : Int) = m.b := by omega
    by_cases h3 : m.j ≤ m.i
    · have h1' : ¬ m.b < m.b := by omega
      repeat refine pw_seq ?_
      refine pwN [(7, 10), (15, 18)] (jn3 h2' h1' h3) ?_
      intros
      repeat refine pw_seq ?_
      refine pw_ct rfl ?_
      repeat refine pw_seq ?_
      refine pwn ?_
      intros
      repeat refine pw_seq ?_
      exact pw_ret (ret_pure hd rfl (by simp [h2, h3, oneOf]))
    · have h1' : ¬ m.b < m.b := by omega
      have h0 : ¬ (m.b < m.a ∨ m.a = m.b ∧ m.j ≤ m.i) := by omega
      repeat refine pw_seq ?_
      refine pwN [(7, 10), (15, 18)] (jn3 h2' h1' h3) ?_
      intros
      repeat refine pw_seq ?_
      refine pw_cf rfl ?_
      refine pw_skip ?_
      by_cases h4 : m.i < la
      case neg =>
        repeat refine pw_seq ?_
        refine pwN [(4, 32), (12, 40), (18, 46)] (jn2 h4 undef_eq) ?_
        intros
        repeat refine pw_seq ?_
        exact pw_ret (ret_pure hd rfl (by simp [h4, oneOf]))
      by_cases h5 : m.j < lb
      case neg =>
        repeat refine pw_seq ?_
        refine pwN [(4, 32), (12, 40), (18, 46)] (jn2 h4 h5) ?_
        intros
        repeat refine pw_seq ?_
        exact pw_ret (ret_pure hd rfl (by simp [h5, oneOf]))
      repeat refine pw_seq ?_
      refine pwN [(4, 32), (12, 40), (18, 46)] (jn2 h4 h5) ?_
      intros
      repeat refine pw_seq ?_
      exact pw_ret (ret_pure hd rfl (by simp [h0, h4, h5, oneOf]))
  · have h2' : ¬ (m.a : Int) = m.b := by omega
    have h0 : ¬ (m.b < m.a ∨ m.a = m.b ∧ m.j ≤ m.i) := by omega
    repeat refine pw_seq ?_
    refine pwN [(7, 10), (15, 18)] (jn3 h1 h2' undef_eq) ?_
    intros
    repeat refine pw_seq ?_
    refine pw_cf rfl ?_
    refine pw_skip ?_
    by_cases h4 : m.i < la
    case neg =>
      repeat refine pw_seq ?_
      refine pwN [(4, 32), (12, 40), (18, 46)] (jn2 h4 undef_eq) ?_
      intros
      repeat refine pw_seq ?_
      exact pw_ret (ret_pure hd rfl (by simp [h4, oneOf]))
    by_cases h5 : m.j < lb
    case neg =>
      repeat refine pw_seq ?_
      refine pwN [(4, 32), (12, 40), (18, 46)] (jn2 h4 h5) ?_
      intros
      repeat refine pw_seq ?_
      exact pw_ret (ret_pure hd rfl (by simp [h5, oneOf]))
    repeat refine pw_seq ?_
    refine pwN [(4, 32), (12, 40), (18, 46)] (jn2 h4 h5) ?_
    intros
    repeat refine pw_seq ?_
    exact pw_ret (ret_pure hd rfl (by simp [h0, h4, h5, oneOf]))
set_option maxRecDepth 20000 in
theorem mayCross_ok (m : Mv) (la lb : Nat) (hk : 3 ≤ m.k) : Pure Tryz.prog 155 [.agg (vwL m la lb)] (B (mayZ m la lb)) := by
  unfold mayZ
  rw [if_neg (by omega), if_neg (by omega), if_neg (by omega)]
  refine pwe Tryz.func155 Tryz.ntmps155 Tryz.results155 fun S nx hd => ?_
  repeat refine pw_seq ?_
  refine pwn ?_
  intro v0
  by_cases h1 : m.a < m.b
  case neg =>
    repeat refine pw_seq ?_
    refine pwN [(7, 10), (13, 16), (21, 24), (27, 30)] (jn2 h1 undef_eq) ?_
    intros
    repeat refine pw_seq ?_
    exact pw_ret (ret_pure hd rfl (by simp [h1, oneOf]))
  by_cases h2 : m.i ≤ la
  case neg =>
    repeat refine pw_seq ?_
    refine pwN [(7, 10), (13, 16), (21, 24), (27, 30)] (jn3 h1 h2 undef_eq) ?_
    intros
    repeat refine pw_seq ?_
    exact pw_ret (ret_pure hd rfl (by simp [h2, oneOf]))
  by_cases h3 : m.j ≤ lb
  case neg =>
    repeat refine pw_seq ?_
    refine pwN [(7, 10), (13, 16), (21, 24), (27, 30)] (jn3 h1 h2 h3) ?_
    intros
    repeat refine pw_seq ?_
    exact pw_ret (ret_pure hd rfl (by simp [h3, oneOf]))
  repeat refine pw_seq ?_
  refine pwN [(7, 10), (13, 16), (21, 24), (27, 30)] (jn3 h1 h2 h3) ?_
  intros
  repeat refine pw_seq ?_
  exact pw_ret (ret_pure hd rfl (by simp [h1, h2, h3, oneOf]))
set_option maxRecDepth 20000 in
theorem turn_ok (m : Mv) (la lb : Nat) (hk : m.k = 0) (hi : m.i ≤ 1048576) (hj : m.j ≤ 1048576) : Pure Tryz.prog 150 [.agg (vwL m la lb)] (.tup [.agg (rwL (cutZ m la lb).1), .agg (rwL (cutZ m la lb).2)]) := by
  have wi := wrN m.i (by omega)
  have wj := wrN m.j (by omega)
  unfold cutZ
  rw [if_pos hk]
  refine pwe Tryz.func150 Tryz.ntmps150 Tryz.results150 fun S nx hd => ?_
  repeat refine pw_seq ?_
  refine pwn ?_
  intro v0 v1 v2
  repeat refine pw_seq ?_
  refine pwY (some [nx]) (Row.pures [0, 1, 2, 3, 4, 5, 6, 7, 8, 9, 10, 11] .done) mixed trivial ?_
  intros
  repeat refine pw_seq ?_
  refine pwN [] wj ?_
  intros
  repeat refine pw_seq ?_
  exact pw_ret (ret_pure hd (by simp; rfl) (by simp [oneOf, rw0, pc0]))
set_option maxRecDepth 20000 in
theorem cross_ok (m : Mv) (la lb : Nat) (hk : 3 ≤ m.k) : Pure Tryz.prog 156 [.agg (vwL m la lb)] (.tup [.agg (rwL (cutZ m la lb).1), .agg (rwL (cutZ m la lb).2)]) := by
  unfold cutZ
  rw [if_neg (by omega), if_neg (by omega), if_neg (by omega)]
  refine pwe Tryz.func156 Tryz.ntmps156 Tryz.results156 fun S nx hd => ?_
  repeat refine pw_seq ?_
  refine pwn ?_
  intro v0 v1 v2
  repeat refine pw_seq ?_
  refine pwY (some [nx]) (Row.pures [0, 1, 2, 3, 4, 5, 6, 7, 8, 9, 10, 11, 12, 13, 14, 15] .done) mixed trivial ?_
  intros
  repeat refine pw_seq ?_
  refine pwY (some [nx]) (Row.pures [0, 1, 2, 3, 4, 5, 6, 7, 8, 9, 10, 11, 12, 13, 14, 15, 16, 17] (.alt 18 (.alt 19 (.done) .stop) .stop)) mixed trivial ?_
  intros
  repeat refine pw_seq ?_
  exact pw_ret (ret_pure hd (by simp; rfl) (by simp [oneOf, rw0, pc0]))
set_option maxRecDepth 20000 in
theorem shift_ok (m : Mv) (la lb : Nat) (hk : m.k = 1) (hi : m.i ≤ 1048576) (hj : m.j ≤ 1048576) : Pure Tryz.prog 152 [.agg (vwL m la lb)] (.tup [.agg (rwL (cutZ m la lb).1), .agg (rwL (cutZ m la lb).2)]) := by
  have wi := wrN m.i (by omega)
  have wj := wrN m.j (by omega)
  unfold cutZ
  rw [if_neg (by omega), if_pos hk]
  refine pwe Tryz.func152 Tryz.ntmps152 Tryz.results152 fun S nx hd => ?_
  repeat refine pw_seq ?_
  refine pwn ?_
  intro v0 v1 v2
  repeat refine pw_seq ?_
  refine pwY (some [nx]) (Row.pures [0, 1, 2, 3, 4, 5, 6, 7, 8, 9, 10, 11, 12, 13, 14, 15] .done) mixed trivial ?_
  intros
  repeat refine pw_seq ?_
  refine pwN [] wi ?_
  intro v3
  refine pw_seq (pw_block ?_)
  by_cases h1 : m.a = m.b
  case neg =>
    have h1' : ¬ (m.a : Int) = m.b := by omega
    rw [if_pos h1]
    repeat refine pw_seq ?_
    refine pwN [] h1' ?_
    intros
    repeat refine pw_seq ?_
    refine pw_ct rfl ?_
    repeat refine pw_seq ?_
    refine pwY (some [nx, nx + 3]) (Row.pures [0, 1, 2, 3, 4, 5, 6, 7, 8, 9, 10, 11, 12, 13, 14, 15, 16, 17, 18, 19] (.alt 20 (.alt 21 (.done) .stop) .stop)) mixed wi ?_
    intros
    repeat refine pw_seq ?_
    exact pw_ret (ret_pure hd (by simp; rfl) (by simp [oneOf, rw0, pc0]))
  have h1' : (m.a : Int) = m.b := by omega
  rw [if_neg (by simpa using h1)]
  repeat refine pw_seq ?_
  refine pwN [] h1' ?_
  intros
  repeat refine pw_seq ?_
  refine pw_cf rfl ?_
  by_cases h2 : m.i < m.j
  · rw [if_pos h2]
    repeat refine pw_seq ?_
    refine pwN [] h2 ?_
    intros
    repeat refine pw_seq ?_
    refine pw_ct rfl ?_
    repeat refine pw_seq ?_
    refine pwN [] (jn2 wi wj) ?_
    intros
    repeat refine pw_seq ?_
    exact pw_ret (ret_pure hd (by simp; rfl) (by simp [oneOf, rw0, pc0, h1]))
  · rw [if_neg h2]
    repeat refine pw_seq ?_
    refine pwN [] h2 ?_
    intros
    repeat refine pw_seq ?_
    refine pw_cf rfl ?_
    refine pw_skip ?_
    repeat refine pw_seq ?_
    refine pwN [] (jn2 wi wj) ?_
    intros
    repeat refine pw_seq ?_
    exact pw_ret (ret_pure hd (by simp; rfl) (by simp [oneOf, rw0, pc0, h1]))
set_option maxRecDepth 20000 in
theorem swap_ok (m : Mv) (la lb : Nat) (hk : m.k = 2) (hi : m.i ≤ 1048576) (hj : m.j ≤ 1048576) : Pure Tryz.prog 154 [.agg (vwL m la lb)] (.tup [.agg (rwL (cutZ m la lb).1), .agg (rwL (cutZ m la lb).2)]) := by
  have wi := wrN m.i (by omega)
  have wj := wrN m.j (by omega)
  unfold cutZ
  rw [if_neg (by omega), if_neg (by omega), if_pos hk]
  refine pwe Tryz.func154 Tryz.ntmps154 Tryz.results154 fun S nx hd => ?_
  repeat refine pw_seq ?_
  refine pwn ?_
  intro v0 v1 v2
  repeat refine pw_seq ?_
  refine pwY (some [nx]) (Row.pures [0, 1, 2, 3, 4, 5, 6, 7, 8, 9, 10, 11, 12, 13, 14, 15] .done) mixed trivial ?_
  intros
  repeat refine pw_seq ?_
  refine pwN [] (jn2 wi wj) ?_
  intro v3 v4
  by_cases h1 : m.a = m.b
  · have h1' : (m.a : Int) = m.b := by omega
    rw [if_pos h1]
    repeat refine pw_seq ?_
    refine pwN [] h1' ?_
    intros
    repeat refine pw_seq ?_
    refine pw_ct rfl ?_
    repeat refine pw_seq ?_
    refine pwN [] (jn2 wi wj) ?_
    intros
    repeat refine pw_seq ?_
    exact pw_ret (ret_pure hd (by simp; rfl) (by simp [oneOf, rw0, pc0, h1]))
  · have h1' : ¬ (m.a : Int) = m.b := by omega
    rw [if_neg h1]
    repeat refine pw_seq ?_
    refine pwN [] h1' ?_
    intros
    repeat refine pw_seq ?_
    refine pw_cf rfl ?_
    refine pw_skip ?_
    repeat refine pw_seq ?_
    refine pwY (some [nx, nx + 3, nx + 4]) (Row.pures [0, 1, 2, 3, 4, 5, 6, 7, 8, 9, 10, 11, 12, 13, 14, 15, 16, 17, 18, 19, 20, 21] (.alt 22 (.alt 23 (.done) .stop) .stop)) mixed (jn2 wi wj) ?_
    intros
    repeat refine pw_seq ?_
    exact pw_ret (ret_pure hd (by simp; rfl) (by simp [oneOf, rw0, pc0]))
open Go Go.Proofs
abbrev kindsL : List PV := [.fn (.func 149) [] [], .fn (.func 150) [] [], .fn (.func 151) [] [], .fn (.func 152) [] [], .fn (.func 153) [] [], .fn (.func 154) [] [], .fn (.func 155) [] [], .fn (.func 156) [] []]
set_option maxRecDepth 20000 in
theorem kinds_ok : Pure Tryz.prog 139 [] (.agg kindsL) := by
  refine pwe Tryz.func139 Tryz.ntmps139 Tryz.results139 fun S nx hd => ?_
  repeat refine pw_seq ?_
  refine pwn ?_
  intro v0
  repeat refine pw_seq ?_
  refine pwn ?_
  intros
  repeat refine pw_seq ?_
  exact pw_ret (ret_pure hd (by simp; rfl) rfl)
def tlen (d : Day) (t : Nat) : Nat := (d.getD t []).length
def mayM (d : Day) (m : Mv) : Bool := decide (m.k ≤ 3 ∧ m.a < d.length ∧ m.b < d.length) && mayZ m (tlen d m.a) (tlen d m.b)
def cutM (d : Day) (m : Mv) : Rw5 × Rw5 := cutZ m (tlen d m.a) (tlen d m.b)
def lookM (d : Day) (m : Mv) : Rw5 × Rw5 × Bool := if mayM d m = true then ((cutM d m).1, (cutM d m).2, true) else (rw0, rw0, false)
set_option maxRecDepth 20000 in
set_option maxHeartbeats 1600000 in
theorem lookMv_ok (d : Day) (m : Mv) (hdn : d.length ≤ 1048576) (hdt : ∀ t ∈ d, t.length ≤ 1048576) (hk : m.k ≤ 3) (ha : m.a < d.length) (hb : m.b < d.length) (hi : m.i ≤ 1048576) (hj : m.j ≤ 1048576) : Pure Tryz.prog 120 [.agg [L d], .agg (mvL m)]
    (.tup [.agg (rwL (lookM d m).1), .agg (rwL (lookM d m).2.1), B (lookM d m).2.2]) := by
  obtain ⟨ta, xa, a1, -, -, a0⟩ := el1 rfl d m.a ha
  obtain ⟨tb, xb, b1, -, -, b0⟩ := el1 rfl d m.b hb
  have ha1 : 1 ≤ d.length - m.a := by omega
  have hb1 : 1 ≤ d.length - m.b := by omega
  have la : tlen d m.a = ta.length := by unfold tlen; rw [List.getD_eq_getElem?_getD, a1]; rfl
  have lb : tlen d m.b = tb.length := by unfold tlen; rw [List.getD_eq_getElem?_getD, b1]; rfl
  have hbl := hdt tb (List.mem_of_getElem? b1)
  have hmay : mayM d m = mayZ m ta.length tb.length := by unfold mayM; rw [la, lb, decide_eq_true ⟨hk, ha, hb⟩]; rfl
  have hcut : cutM d m = cutZ m ta.length tb.length := by unfold cutM; rw [la, lb]
  unfold lookM
  rw [hmay, hcut]
  clear hmay hcut la lb
  have call : ∀ f g : Nat, m.k = m.k → True := fun _ _ _ => trivial
  clear call
  have g1 : ¬ (m.k : Int) < 0 := by omega
  have g2 : ¬ (3 : Int) < m.k := by omega
  have g3 : ¬ (m.a : Int) < 0 := by omega
  have g4 : ¬ d.length ≤ m.a := by omega
  have g5 : ¬ (m.b : Int) < 0 := by omega
  have g6 : ¬ d.length ≤ m.b := by omega
  refine pwe Tryz.func120 Tryz.ntmps120 Tryz.results120 fun S nx hd => ?_
  repeat refine pw_seq ?_
  refine pwn ?_
  intro v0 v1 v2 v3
  repeat refine pw_seq ?_
  refine pwn ?_
  intros
  repeat refine pw_seq ?_
  refine pwN [(3, 18), (8, 23), (13, 28), (19, 34), (24, 39)] (jn6 g1 g2 g3 g4 g5 g6) ?_
  intros
  repeat refine pw_seq ?_
  refine pw_cf rfl ?_
  refine pw_skip ?_
  repeat refine pw_seq ?_
  refine pwY (some [nx, nx + 1]) (Row.pures [0, 1, 2, 3, 4, 5, 6, 7, 8, 9, 10, 11, 12, 13, 14, 15, 16, 17] (.alt 18 (.alt 19 (.done) .stop) .stop)) mixed (jn6 a0 b0 ha hb ha1 hb1) ?_
  intro v4
  obtain ⟨mf, cf, hmf, hcf, hidx⟩ : ∃ mf cf : Nat, Pure Tryz.prog mf [.agg (vwL m ta.length tb.length)] (B (mayZ m ta.length tb.length)) ∧ Pure Tryz.prog cf [.agg (vwL m ta.length tb.length)] (.tup [.agg (rwL (cutZ m ta.length tb.length).1), .agg (rwL (cutZ m ta.length tb.length).2)]) ∧
      ∃ k : Nat, (k : Int) = m.k ∧ k < 4 ∧ (kindsL.drop (k * 2)).take 2 = [.fn (.func mf) [] [], .fn (.func cf) [] []] := by
    have h4 : m.k = 0 ∨ m.k = 1 ∨ m.k = 2 ∨ m.k = 3 := by omega
    rcases h4 with h | h | h | h
    · exact ⟨_, _, mayTurn_ok m _ _ h, turn_ok m _ _ h hi hj, 0, by omega, by omega, rfl⟩
    · exact ⟨_, _, mayShift_ok m _ _ h hbl, shift_ok m _ _ h hi hj, 1, by omega, by omega, rfl⟩
    · exact ⟨_, _, maySwap_ok m _ _ h, swap_ok m _ _ h hi hj, 2, by omega, by omega, rfl⟩
    · exact ⟨_, _, mayCross_ok m _ _ (by omega), cross_ok m _ _ (by omega), 3, by omega, by omega, rfl⟩
  obtain ⟨k, hkk, hk4, hkt⟩ := hidx
  obtain rfl : k = m.k := by omega
  have hk4' : (m.k : Int) < 4 := by omega
  have hk5 : 2 ≤ 8 - m.k * 2 := by omega
  generalize hmz : mayZ m ta.length tb.length = mz at *
  generalize hcz : cutZ m ta.length tb.length = cz at *
  obtain ⟨r1, r2⟩ := cz
  generalize hkl : kindsL = kl at hkt
  have hkinds := kinds_ok
  rw [hkl] at hkinds
  have hkll : kl.length = 8 := by rw [← hkl]; rfl
  clear hkl
  repeat refine pw_seq ?_
  refine pwY (some [nx + 1]) (Row.pures [0, 1, 2, 3] (.alt 4 (.alt 5 (.done) .stop) .stop)) mixed (jn5 hkt hk4 hk4' hkll hk5) ?_
  refine pwP (hkinds) (jn5 hkt hk4 hk4' hkll hk5) ?_
  intro v5
  intros
  repeat refine pw_seq ?_
  refine pwn ?_
  refine pwc hmf ?_
  intros
  cases mz with
  | false =>
    repeat refine pw_seq ?_
    refine pw_ct rfl ?_
    repeat refine pw_seq ?_
    refine pwn ?_
    intros
    repeat refine pw_seq ?_
    exact pw_ret (ret_pure hd (by simp; rfl) (by simp [oneOf, rw0, pc0]))
  | true =>
    repeat refine pw_seq ?_
    refine pw_cf rfl ?_
    refine pw_skip ?_
    repeat refine pw_seq ?_
    refine pwn ?_
    refine pwc hcf ?_
    intro v6 v7
    intros
    repeat refine pw_seq ?_
    refine pwY (some [nx + 6, nx + 7]) (Row.pures [0, 1] (.alt 2 (.alt 3 (Row.pures [4] .done) .stop) .stop)) mixed trivial ?_
    intros
    repeat refine pw_seq ?_
    exact pw_ret (ret_pure hd (by simp; rfl) (by simp [oneOf]))
open Go Go.Proofs
theorem splice_stop (l : List Stop) (k : Nat) (s : Stop) (h : k < l.length) : splice (l.flatMap Enc.enc) (k * 2) [I s.c, I s.q] = (l.set k s).flatMap Enc.enc := by
  unfold splice
  rw [List.set_eq_take_append_cons_drop, if_pos h, List.flatMap_append, List.flatMap_cons, ← flat_take Enc.enc 2 (fun _ => rfl) l k, ← flat_drop Enc.enc 2 (fun _ => rfl) l (k + 1)]
  simp [show k * 2 + 2 = (k + 1) * 2 by omega]
def revK (l : List Stop) (k : Nat) : List Stop := (List.range l.length).map fun q => if q < k ∨ l.length - 1 - q < k then l.getD (l.length - 1 - q) default else l.getD q default
theorem revK_len (l : List Stop) (k : Nat) : (revK l k).length = l.length := by simp [revK]
theorem revK_at {l : List Stop} {k q : Nat} (hq : q < l.length) : (revK l k)[q]? = some (if q < k ∨ l.length - 1 - q < k then l.getD (l.length - 1 - q) default else l.getD q default) := by
  unfold revK; rw [List.getElem?_map, List.getElem?_range hq]; rfl
theorem revK_zero (l : List Stop) : revK l 0 = l := by
  apply List.ext_getElem?
  intro q
  by_cases h : q < l.length
  · rw [revK_at h, if_neg (by omega), List.getD_eq_getElem?_getD, List.getElem?_eq_getElem h]; rfl
  · rw [List.getElem?_eq_none (by rw [revK_len]; omega), List.getElem?_eq_none (by omega)]
theorem revK_all {l : List Stop} {k : Nat} (hk : l.length - 1 ≤ k + k) : revK l k = l.reverse := by
  apply List.ext_getElem?
  intro q
  by_cases h : q < l.length
  · rw [revK_at h, List.getElem?_reverse h]
    by_cases h1 : q < k ∨ l.length - 1 - q < k
    · rw [if_pos h1, List.getD_eq_getElem?_getD, List.getElem?_eq_getElem (by omega)]; rfl
    · rw [if_neg h1, List.getD_eq_getElem?_getD]
      have : q = l.length - 1 - q := by omega
      rw [← this, List.getElem?_eq_getElem h]; rfl
  · rw [List.getElem?_eq_none (by rw [revK_len]; omega), List.getElem?_eq_none (by simp; omega)]
theorem revK_step {l : List Stop} {k : Nat} (h : k < l.length - 1 - k) {a b : Stop} (ha : (revK l k)[k]? = some a) (hb : (revK l k)[l.length - 1 - k]? = some b) : ((revK l k).set k b).set (l.length - 1 - k) a = revK l (k + 1) := by
  rw [revK_at (by omega), if_neg (by omega)] at ha
  rw [revK_at (by omega), if_neg (by omega)] at hb
  cases ha; cases hb
  apply List.ext_getElem?
  intro q
  by_cases hq : q < l.length
  · rw [revK_at hq, List.getElem?_set, List.getElem?_set]
    by_cases e1 : l.length - 1 - k = q
    · rw [if_pos e1, if_pos (by rw [List.length_set, revK_len]; omega), if_pos (by omega)]
      congr 2; omega
    · rw [if_neg e1]
      by_cases e2 : k = q
      · subst e2
        rw [if_pos rfl, if_pos (by rw [revK_len]; exact hq), if_pos (by omega)]
      · rw [if_neg e2, revK_at hq]
        by_cases h1 : q < k ∨ l.length - 1 - q < k
        · rw [if_pos h1, if_pos (by omega)]
        · rw [if_neg h1, if_neg (by omega)]
  · rw [List.getElem?_eq_none (by rw [List.length_set, List.length_set, revK_len]; omega), List.getElem?_eq_none (by rw [revK_len]; omega)]
theorem set_set2 (S : Store) (i : Nat) (a b : Ob) : (S.set i a).set i b = S.set i b := by
  funext o
  by_cases h : o = i
  · subst h; rw [Store.set_same, Store.set_same]
  · rw [Store.set_other _ _ _ _ h, Store.set_other _ _ _ _ h, Store.set_other _ _ _ _ h]
set_option maxRecDepth 20000 in
set_option maxHeartbeats 1600000 in
theorem revS_ok {S : Store} {id ver : Nat} (pre l : List Stop) (hn : (pre ++ l).length ≤ 1048576) (hid : S id = .cells ver 43 ((pre ++ l).flatMap Enc.enc)) :
    Spec Tryz.prog 132 [.sl id ver 2 (pre.length * 2) l.length] S (fun _ S' => S' = S.set id (.cells ver 43 ((pre ++ l.reverse).flatMap Enc.enc))) := by
  refine pwes Tryz.func132 Tryz.ntmps132 Tryz.results132 fun nx hd => ?_
  have hlt : id < nx := lt_of_live hd hid (by simp)
  simp only [List.length_append] at hn
  have w0 : IntKind.i64.wrap ((l.length : Int) - 1) = (l.length : Int) - 1 := wr _ (by omega) (by omega)
  repeat refine pw_seq ?_
  refine pwN [] w0 ?_
  intros
  repeat refine pw_seq ?_
  refine pw_block (pw_loopB (σ := Nat) (fun k => k ≤ l.length) (fun k => [(0, .sl id ver 2 (pre.length * 2) l.length), (2, I k), (3, I ((l.length : Int) - 1 - k))]) (fun k => S.set id (.cells ver 43 ((pre ++ revK l k).flatMap Enc.enc))) (fun _ => []) (fun k => l.length - k) (at_mk 0 [] (by simp) (by simp) (by rw [revK_zero]; exact set_self S id _ hid) (by simp)) ?_)
  rintro k hk
  show PW _ _ _ _ _ _ _ (ext (S.set id (.cells ver 43 ((pre ++ revK l k).flatMap Enc.enc))) nx [])
  obtain ⟨T, hT⟩ : ∃ T, T = S.set id (.cells ver 43 ((pre ++ revK l k).flatMap Enc.enc)) := ⟨_, rfl⟩
  rw [← hT]
  repeat refine pw_seq ?_
  refine pwn ?_
  intros
  repeat refine pw_seq ?_
  refine pw_cond rfl (fun hc => ?_) (fun hc => ?_)
  · simp at hc
    have h1 : k < l.length - 1 - k := by omega
    have x1 := revK_len l k
    obtain ⟨a, ta, a1, -, -, -, a0⟩ := el 2 rfl (pre ++ revK l k) (pre.length + k) (by simp [revK_len]; omega)
    obtain ⟨b, tb, b1, -, -, -, b0⟩ := el 2 rfl (pre ++ revK l k) (pre.length + (l.length - 1 - k)) (by simp [revK_len]; omega)
    have hst := revK_step h1 (a := a) (b := b) (by rw [← a1, List.getElem?_append_right (by omega), Nat.add_sub_cancel_left]) (by rw [← b1, List.getElem?_append_right (by omega), Nat.add_sub_cancel_left])
    have sp1 := splice_stop (pre ++ revK l k) (pre.length + k) b (by simp [revK_len]; omega)
    have sp2 := splice_stop ((pre ++ revK l k).set (pre.length + k) b) (pre.length + (l.length - 1 - k)) a (by simp [revK_len]; omega)
    have hs2 : ((pre ++ revK l k).set (pre.length + k) b).set (pre.length + (l.length - 1 - k)) a = pre ++ revK l (k + 1) := by
      rw [List.set_append_right _ _ (by omega), List.set_append_right _ _ (by omega), Nat.add_sub_cancel_left, Nat.add_sub_cancel_left, hst]
    rw [hs2] at sp2
    have hjj : (l.length : Int) - 1 - k = ((l.length - 1 - k : Nat) : Int) := by omega
    generalize l.length - 1 - k = j at *
    generalize hw0 : ((pre ++ revK l k).flatMap Enc.enc : List PV) = c0 at *
    generalize hw1 : (((pre ++ revK l k).set (pre.length + k) b).flatMap Enc.enc : List PV) = c1 at *
    have l0 : c0.length = (pre.length + l.length) * 2 := by rw [← hw0, flen_stop]; simp [revK_len]
    have l1 : c1.length = (pre.length + l.length) * 2 := by rw [← hw1, flen_stop]; simp [revK_len]
    have hTid : T id = .cells ver 43 c0 := by rw [hT]; exact Store.set_same _ _ _
    have xid := fun obs => ext_old (S := T) (obs := obs) hlt
    have xid1 := fun obs => ext_old (S := T.set id (.cells ver 43 c1)) (obs := obs) hlt
    have hs1 : (T.set id (.cells ver 43 c1)) id = .cells ver 43 c1 := Store.set_same _ _ _
    have hq1 : k + 1 ≤ l.length := by omega
    have q1 : pre.length * 2 + k * 2 = (pre.length + k) * 2 := by omega
    have q2 : pre.length * 2 + j * 2 = (pre.length + j) * 2 := by omega
    have q3 : j < l.length := by omega
    have q4 : k < l.length := by omega
    have q5 : ¬ nx ≤ id := by omega
    refine pw_skip (pw_seq (pw_block ?_))
    rw [hjj]
    repeat refine pw_seq ?_
    refine pwY (some []) (Row.pures [0, 1, 2, 3, 4, 5, 6, 8, 9, 10] (.alt 7 (.alt 11 (Row.pures [12] (.alt 13 (Row.pures [14] (.alt 15 (.done) .stop)) .stop)) .stop) (.alt 11 (.alt 7 (Row.pures [12] (.alt 13 (Row.pures [14] (.alt 15 (.done) .stop)) .stop)) .stop) .stop))) mixed (jn6 xid hTid q1 q2 a0 (jn2 (jn6 b0 q3 q4 q5 l0 sp1) (jn4 hs1 xid1 sp2 l1))) ?_
    have wj : IntKind.i64.wrap ((j : Int) - 1) = (l.length : Int) - 1 - ((k + 1 : Nat) : Int) := by rw [wr _ (by omega) (by omega)]; omega
    have wk := wrN k (by omega)
    have hfin : S.set id (.cells ver 43 ((pre ++ revK l (k + 1)).flatMap Enc.enc)) = (T.set id (.cells ver 43 c1)).set id (.cells ver 43 ((pre ++ revK l (k + 1)).flatMap Enc.enc)) := by rw [hT, set_set2, set_set2]
    have happ : ((pre ++ revK l (k + 1)).flatMap Enc.enc : List PV) = pre.flatMap Enc.enc ++ (revK l (k + 1)).flatMap Enc.enc := by rw [List.flatMap_append]
    rw [happ] at hfin
    refine ⟨?_, ?_⟩
    · refine ⟨by omega, by omega, ?_⟩
      intros
      repeat refine pw_seq ?_
      refine pwN [] (jn2 wk wj) ?_
      intros
      exact again_mk (k + 1) [] hq1 (by omega) (by simp) (by rw [happ, hT]; simp only [set_set2]) (by simp)
    · refine ⟨by omega, by omega, ?_⟩
      intros
      repeat refine pw_seq ?_
      refine pwN [] (jn2 wk wj) ?_
      intros
      exact again_mk (k + 1) [] hq1 (by omega) (by simp) (by rw [happ, hT]; simp only [set_set2]) (by simp)
  · simp at hc
    refine pw_exit ?_
    refine ⟨[], T, rfl, ?_, ext_kill0 ?_⟩
    · rw [hT, revK_all (by omega)]
    · rw [hT]
      intro i hi
      rw [Store.set_other _ _ _ _ (by omega)]; exact hd i hi
open Go Go.Proofs
def pieceZ (d : Day) (p : Pc) : List Stop := if p.f < p.o then (bif p.b then (((d.getD p.t []).drop p.f).take (p.o - p.f)).reverse else ((d.getD p.t []).drop p.f).take (p.o - p.f)) else []
def gatherZ (d : Day) (r : Rw5) : List Stop := r.l.flatMap (pieceZ d)
def PcOk (d : Day) (p : Pc) : Prop := p.f < p.o → p.t < d.length ∧ p.o ≤ tlen d p.t
def RwOk (d : Day) (r : Rw5) : Prop := ∀ p ∈ r.l, PcOk d p
theorem rw0_ok (d : Day) : RwOk d rw0 := by
  intro p hp h
  simp [Rw5.l, rw0] at hp
  subst hp
  exact absurd h (by decide)
theorem rw_at (r : Rw5) {k : Nat} (h : k < 5) : ∃ p, r.l[k]? = some p ∧ ((rwL r).drop (k * 4)).take 4 = pcL p ∧ r.l.take (k + 1) = r.l.take k ++ [p] := by
  have h5 : k = 0 ∨ k = 1 ∨ k = 2 ∨ k = 3 ∨ k = 4 := by omega
  rcases h5 with rfl | rfl | rfl | rfl | rfl <;> exact ⟨_, rfl, rfl, rfl⟩
theorem piece_len {d : Day} {p : Pc} {m : Nat} (h : ∀ t ∈ d, t.length ≤ m) : (pieceZ d p).length ≤ m := by
  have hg : (d.getD p.t []).length ≤ m := by
    rw [List.getD_eq_getElem?_getD]
    cases hq : d[p.t]? with
    | none => simp
    | some l => exact h l (List.mem_of_getElem? hq)
  unfold pieceZ
  generalize d.getD p.t [] = l at *
  split
  · cases p.b <;> simp <;> omega
  · simp
set_option maxRecDepth 20000 in
set_option maxHeartbeats 1600000 in
theorem gather_ok (d : Day) (r : Rw5) (hdn : d.length ≤ 1048576) (hdt : ∀ t ∈ d, t.length ≤ 1000) (hr : RwOk d r) : Pure Tryz.prog 123 [.agg [L d], .agg (rwL r)] (L (gatherZ d r)) := by
  have hat := fun k (h : k < 5) => rw_at r h
  have hz : gatherZ d r = (r.l.take 5).flatMap (pieceZ d) := by unfold gatherZ; rw [List.take_of_length_le (by simp [Rw5.l])]
  rw [hz]
  clear hz
  have hcl : (rwL r).length = 20 := rfl
  have hct : (rwL r).take 20 = rwL r := rfl
  have hpl := fun p => piece_len (d := d) (p := p) hdt
  have hgl : ∀ k, ((r.l.take k).flatMap (pieceZ d)).length ≤ 1000 * k := by
    intro k
    induction k with
    | zero => simp
    | succ k ih =>
      by_cases hk : k < 5
      · obtain ⟨p, -, -, e⟩ := hat k hk
        rw [e, List.flatMap_append, List.length_append]
        have := hpl p
        simp only [List.flatMap_cons, List.flatMap_nil, List.append_nil]; omega
      · rw [List.take_of_length_le (by simp [Rw5.l]; omega)] at ih ⊢; omega
  have hrl : r.l.length = 5 := rfl
  generalize hrc : rwL r = rc at *
  refine pwe Tryz.func123 Tryz.ntmps123 Tryz.results123 fun S nx hd => ?_
  repeat refine pw_seq ?_
  refine pwn ?_
  intro v0 v1
  repeat refine pw_seq ?_
  refine pwn ?_
  intros
  refine pw_seq (pw_nilX 5 43 2 rfl fun v2 => ?_)
  repeat refine pw_seq ?_
  refine pwN [] (jn2 hcl hct) ?_
  intros
  repeat refine pw_seq ?_
  refine pw_block (pw_loopL (fun s' : Nat × Nat => s'.1 ≤ 5) (fun (k, v2) => [(2, .ptr nx v0 0), (3, .ptr (nx + 1) v1 0), (5, .sl (nx + 2) v2 2 0 ((r.l.take k).flatMap (pieceZ d)).length), (9, .agg rc), (10, I k)]) (fun (k, v2) => [.cells v0 35 [L d], .cells v1 168 rc, .cells v2 43 (((r.l.take k).flatMap (pieceZ d)).flatMap Enc.enc)]) (fun s' => 5 - s'.1) (0, v2) [] (by simp) (by simp) (by simp) ?_)
  rintro ⟨k, v2⟩ hk
  simp only at hk ⊢
  by_cases hk5 : k < 5
  · obtain ⟨p, hp1, hp2, hp3⟩ := hat k hk5
    have hk5' : (k : Int) < 5 := by omega
    have hk6 : 4 ≤ 20 - k * 4 := by omega
    have hok := hr p (List.mem_of_getElem? hp1)
    have hol := hgl k
    have hnx : (r.l.take (k + 1)).flatMap (pieceZ d) = (r.l.take k).flatMap (pieceZ d) ++ pieceZ d p := by rw [hp3, List.flatMap_append]; simp
    have hol2 := hpl p
    generalize (r.l.take k).flatMap (pieceZ d) = out at *
    have wk := wrN k (by omega)
    repeat refine pw_seq ?_
    refine pwN [] hk5' ?_
    intros
    repeat refine pw_seq ?_
    refine pw_ct rfl ?_
    refine pw_skip (pw_seq (pw_block ?_))
    repeat refine pw_seq ?_
    refine pwN [] (jn5 hp2 hk5 hk5' hcl hk6) ?_
    intro v3
    by_cases hfo : p.f < p.o
    case neg =>
      have hpz : pieceZ d p = [] := by unfold pieceZ; rw [if_neg hfo]
      have hfo' : p.o ≤ p.f := by omega
      repeat refine pw_seq ?_
      refine pwN [] hfo' ?_
      intros
      repeat refine pw_seq ?_
      refine pw_ct (by simp [hfo']) ?_
      refine pw_exit ?_
      repeat refine pw_seq ?_
      refine pwn ?_
      intros
      exact again_mk (k + 1, v2) [_] (by simp; omega) (by simp; omega) (by simp [wk, hnx, hpz]) rfl (by simp [hnx, hpz]; rfl)
    obtain ⟨ht, ho⟩ := hok hfo
    obtain ⟨t, tt, t1, -, -, t0⟩ := el1 rfl d p.t ht
    have ht1 : 1 ≤ d.length - p.t := by omega
    have htg : d.getD p.t [] = t := by rw [List.getD_eq_getElem?_getD, t1]; rfl
    unfold tlen at ho
    rw [htg] at ho
    have hpz : pieceZ d p = bif p.b then ((t.drop p.f).take (p.o - p.f)).reverse else (t.drop p.f).take (p.o - p.f) := by unfold pieceZ; rw [if_pos hfo, htg]
    have hfo' : ¬ p.o ≤ p.f := by omega
    have hsl : ((t.flatMap Enc.enc : List PV).drop (p.f * 2)).take ((p.o - p.f) * 2) = ((t.drop p.f).take (p.o - p.f)).flatMap Enc.enc := by rw [flat_drop Enc.enc 2 (fun _ => rfl) t p.f, flat_take Enc.enc 2 (fun _ => rfl) (t.drop p.f) (p.o - p.f)]
    have hsl2 : ((t.drop p.f).take (p.o - p.f)).length = p.o - p.f := by simp; omega
    have hsl3 : (((t.drop p.f).take (p.o - p.f)).flatMap Enc.enc : List PV).length = (p.o - p.f) * 2 := by rw [flen_stop, hsl2]
    generalize (t.drop p.f).take (p.o - p.f) = sg at *
    have hof : (out.flatMap Enc.enc : List PV).length = out.length * 2 := flen_stop out
    have hot : (out.flatMap Enc.enc : List PV).take (out.length * 2) = out.flatMap Enc.enc := List.take_of_length_le (by omega)
    have q1 : p.f ≤ p.o := by omega
    have htl := hdt t (List.mem_of_getElem? t1)
    repeat refine pw_seq ?_
    refine pwN [] hfo' ?_
    intros
    repeat refine pw_seq ?_
    refine pw_cf (by simp [hfo']) ?_
    refine pw_skip ?_
    repeat refine pw_seq ?_
    refine pwn ?_
    intros
    repeat refine pw_seq ?_
    refine pwY (some [nx, nx + 3]) (Row.pures [0, 1, 2, 3, 4, 5, 6, 7, 8, 9, 10, 11, 12] (.alt 13 (Row.pures [14] .done) .stop)) mixed (jn6 t0 ht ht1 hof hot (jn4 hsl hsl2 q1 ho)) ?_
    refine ⟨by omega, ?_⟩
    intros
    have hsgl : sg.length ≤ 1000 := by
      have h1 := hdt t (List.mem_of_getElem? t1)
      omega
    cases hpb : p.b with
    | false =>
      rw [hpb] at hpz
      simp only [cond_false] at hpz
      repeat refine pw_seq ?_
      refine pwN [] hpb ?_
      intros
      repeat refine pw_seq ?_
      refine pw_cf rfl ?_
      refine pw_skip ?_
      repeat refine pw_seq ?_
      refine pwn ?_
      intros
      exact again_mk (k + 1, v2 + 1) [_] (by simp; omega) (by simp; omega) (by simp [wk, hnx, hpz, hsl2]) rfl (by simp [hnx, hpz]; rfl)
    | true =>
      rw [hpb] at hpz
      simp only [cond_true] at hpz
      have hrev := fun (S : Store) (id ver : Nat) h => revS_ok (S := S) (id := id) (ver := ver) out sg (by simp; omega) h
      rw [hsl2] at hrev
      repeat refine pw_seq ?_
      refine pwN [] hpb ?_
      intros
      repeat refine pw_seq ?_
      refine pw_ct rfl ?_
      repeat refine pw_seq ?_
      refine pw_N [] (by rfl) (by rfl) fun K Gc Gh hK hGc hGh X hX0 hX => ?_
      simp -implicitDefEqProofs [hX0, hX]
      try clear hX0 hX X
      refine hGc _ _ _ _ _ _ _ fun hsuf => ((hrev _ _ _ (by rw [ext_at, List.flatMap_append]; rfl)).mono ?_).v
      rintro _ _ rfl
      refine ⟨_, _, ext_set _ (by omega) (by simp), ?_⟩
      clear hGc hGh
      clear Gc Gh
      refine xs_go hsuf (D := []) (by rfl) fun Gc Gh hGc hGh X hX0 hX => ?_
      simp -implicitDefEqProofs [hX0, hX, (show nx + 2 - nx = 2 by omega)]
      clear hX0 hX X
      intros
      refine hK _ _ _ ?_
      clear hK hGc hGh
      clear K Gc Gh
      repeat refine pw_seq ?_
      refine pwn ?_
      intros
      exact again_mk (k + 1, v2 + 1) [_] (by simp; omega) (by simp; omega) (by simp [wk, hnx, hpz, hsl2]) rfl (by simp [hnx, hpz]; rfl)
  · obtain rfl : k = 5 := by omega
    generalize (r.l.take 5).flatMap (pieceZ d) = out at *
    repeat refine pw_seq ?_
    refine pwn ?_
    intros
    repeat refine pw_seq ?_
    refine pw_cf rfl ?_
    refine pw_exit ?_
    refine pw_frz 2 rfl ?_
    repeat refine pw_seq ?_
    refine pwn ?_
    intros
    repeat refine pw_seq ?_
    exact pw_ret (ret_pure hd (by simp; rfl) (by simp [oneOf]))
open Go Hp
theorem nodup_idx {α : Type} {d : List α} (hn : d.Nodup) {i j : Nat} {t : α} (hi : d[i]? = some t) (hj : d[j]? = some t) : i = j := by
  obtain ⟨g1, g2⟩ := List.getElem?_eq_some_iff.1 hi
  obtain ⟨g3, g4⟩ := List.getElem?_eq_some_iff.1 hj
  have hp := List.pairwise_iff_getElem.1 hn
  rcases Nat.lt_trichotomy i j with h | h | h
  · exact absurd (g2.trans g4.symm) (hp i j g1 g3 h)
  · exact h
  · exact absurd (g4.trans g2.symm) (hp j i g3 g1 h)
def lastI (f : Tour → Bool) : Day → Int
  | [] => -1
  | t :: d => if 0 ≤ lastI f d then lastI f d + 1 else if f t then 0 else -1
theorem lastI_spec (f : Tour → Bool) : ∀ d : Day, (lastI f d = -1 ∧ ∀ t ∈ d, f t = false) ∨ ∃ (k : Nat) (t : Tour), d[k]? = some t ∧ f t = true ∧ lastI f d = k
  | [] => .inl ⟨rfl, fun t h => by cases h⟩
  | u :: d => by
    unfold lastI
    rcases lastI_spec f d with ⟨h1, h2⟩ | ⟨k, t, h1, h2, h3⟩
    · rw [h1, if_neg (by omega)]
      cases hu : f u with
      | true => exact .inr ⟨0, u, rfl, hu, by simp⟩
      | false =>
        refine .inl ⟨by simp, fun t ht => ?_⟩
        rcases List.mem_cons.1 ht with rfl | ht
        · exact hu
        · exact h2 t ht
    · rw [h3, if_pos (by omega)]
      exact .inr ⟨k + 1, t, by simpa using h1, h2, by simp⟩
def nextD (d : Day) (a b : Nat) (t : Tour) (k : Nat) : Day := (List.range k).flatMap fun j => if j = a then [t] else if j = b then [] else [d.getD j []]
def endF (c : Int) (t : Tour) : Bool := decide (endC t = some c)
def headF (c : Int) (t : Tour) : Bool := decide (headC t = some c)
def joinRS (x : Inst) (d : Day) (p : Pr) : Day :=
  if lastI (endF p.a) d < 0 ∨ lastI (headF p.b) d < 0 ∨ lastI (endF p.a) d = lastI (headF p.b) d ∨ (p.s ≤ 0 ∧ (d.length : Int) ≤ x.veh) then d
  else if mayT x (d.getD (lastI (endF p.a) d).toNat [] ++ d.getD (lastI (headF p.b) d).toNat []) = 0 then
    nextD d (lastI (endF p.a) d).toNat (lastI (headF p.b) d).toNat (d.getD (lastI (endF p.a) d).toNat [] ++ d.getD (lastI (headF p.b) d).toNat []) d.length
  else d
theorem fm_pair {α β γ : Type} {f : α → List γ} {g : β → List γ} : ∀ (A : List α) (B : List β), A.length = B.length → (∀ (j : Nat) a b, A[j]? = some a → B[j]? = some b → f a = g b) → A.flatMap f = B.flatMap g
  | [], [], _, _ => rfl
  | a :: A, b :: B, hl, h => by
    rw [List.flatMap_cons, List.flatMap_cons, h 0 a b rfl rfl, fm_pair A B (by simpa using hl) fun j a b ha hb => h (j + 1) a b (by simpa using ha) (by simpa using hb)]
  | [], _ :: _, hl, _ => by simp at hl
  | _ :: _, [], hl, _ => by simp at hl
theorem filter_fm {α : Type} (p : α → Bool) : ∀ l : List α, l.filter p = l.flatMap fun a => if p a then [a] else []
  | [] => rfl
  | a :: l => by
    rw [List.flatMap_cons, ← filter_fm p l, List.filter_cons]
    cases p a <;> simp
structure Apt (T : Day) : Prop where
  u : ∀ (i j : Nat) t s s', T[i]? = some t → s ∈ t → ∀ t', T[j]? = some t' → s' ∈ t' → s.c = s'.c → i = j
theorem JI.apt {ss : List Stop} {T : Day} {g : Int → Option Int} (h : JI ss T g) : Apt T := ⟨fun i j t s s' hi hs t' hj hs' e => by
  have e1 := h.g i t s hi hs
  have e2 := h.g j t' s' hj hs'
  rw [e, e2] at e1
  have := Option.some.inj e1
  omega⟩
abbrev ne (t : Tour) : Bool := !t.isEmpty
theorem ne_mem {t : Tour} (h : ne t = true) : ∃ s, s ∈ t := by
  cases t with
  | nil => cases h
  | cons s t => exact ⟨s, by simp⟩
theorem ne_of {t : Tour} {s : Stop} (h : s ∈ t) : ne t = true := by
  cases t with
  | nil => cases h
  | cons s t => rfl
def joinF (ta tb u : Tour) : Day := if u = ta then [ta ++ tb] else if u = tb then [] else [u]
theorem join_filter {T : Day} (hA : Apt T) {i k : Nat} {ta tb : Tour} (hi : T[i]? = some ta) (hk : T[k]? = some tb) (hik : i ≠ k) (ha : ne ta = true) (hb : ne tb = true) :
    ((T.set i (ta ++ tb)).set k []).filter ne = (T.filter ne).flatMap (joinF ta tb) := by
  rw [filter_fm ne T, List.flatMap_assoc, filter_fm]
  refine fm_pair _ _ (by simp) fun j u v hu hv => ?_
  obtain ⟨sa, hsa⟩ := ne_mem ha
  obtain ⟨sb, hsb⟩ := ne_mem hb
  have hjl := (List.getElem?_eq_some_iff.1 hv).1
  by_cases h1 : k = j
  · subst h1
    rw [List.getElem?_set_self (by simpa using hjl)] at hu
    cases hu
    obtain rfl : tb = v := by rw [hk] at hv; exact Option.some.inj hv
    have hne : tb ≠ ta := by
      rintro rfl
      exact hik (hA.u i k tb sb sb hi hsb tb hk hsb rfl)
    rw [if_pos hb]
    simp [joinF, hne]
  · rw [List.getElem?_set_ne h1] at hu
    by_cases h2 : i = j
    · subst h2
      rw [List.getElem?_set_self hjl] at hu
      cases hu
      obtain rfl : ta = v := by rw [hi] at hv; exact Option.some.inj hv
      rw [if_pos ha, if_pos (ne_of (s := sa) (by simp [hsa]))]
      simp [joinF]
    · rw [List.getElem?_set_ne h2] at hu
      obtain rfl : u = v := by rw [hv] at hu; exact (Option.some.inj hu).symm
      cases hn : ne u with
      | false => simp
      | true =>
        obtain ⟨su, hsu⟩ := ne_mem hn
        have n1 : u ≠ ta := by rintro rfl; exact h2 (hA.u i j u su su hi hsu u hv hsu rfl)
        have n2 : u ≠ tb := by rintro rfl; exact h1 (hA.u k j u su su hk hsu u hv hsu rfl)
        simp [joinF, n1, n2]
theorem filter_nodup {T : Day} (hA : Apt T) : (T.filter ne).Nodup := by
  rw [List.nodup_iff_pairwise_ne, List.pairwise_filter, List.pairwise_iff_getElem]
  intro i j hi hj hij h1 h2 e
  obtain ⟨s, hs⟩ := ne_mem h1
  have := hA.u i j T[i] s s (List.getElem?_eq_getElem hi) hs T[j] (List.getElem?_eq_getElem hj) (e ▸ hs) rfl
  omega
theorem nextD_eq {d : Day} (hn : d.Nodup) {a b : Nat} {ta tb : Tour} (ha : d[a]? = some ta) (hb : d[b]? = some tb) : nextD d a b (ta ++ tb) d.length = d.flatMap (joinF ta tb) := by
  unfold nextD
  refine fm_pair _ _ (by simp) fun j n u hj hu => ?_
  rw [List.getElem?_range (List.getElem?_eq_some_iff.1 hu).1] at hj
  cases hj
  have same : ∀ {k : Nat} {t : Tour}, d[k]? = some t → (j = k ↔ u = t) := by
    intro k t hk
    constructor
    · rintro rfl; rw [hu] at hk; exact Option.some.inj hk
    · rintro rfl; exact nodup_idx hn hu hk
  have e1 := same ha
  have e2 := same hb
  have hg : d.getD j [] = u := by rw [List.getD_eq_getElem?_getD, hu]; rfl
  unfold joinF
  by_cases h1 : j = a
  · rw [if_pos h1, if_pos (e1.1 h1)]
  · rw [if_neg h1, if_neg fun e => h1 (e1.2 e)]
    by_cases h2 : j = b
    · rw [if_pos h2, if_pos (e2.1 h2)]
    · rw [if_neg h2, if_neg fun e => h2 (e2.2 e), hg]
theorem find_place {T : Day} (hA : Apt T) {i : Nat} {t : Tour} {s : Stop} (hi : T[i]? = some t) (hs : s ∈ t) (f : Tour → Bool) (hf : ∀ u, f u = true → ∃ s' ∈ u, s'.c = s.c) :
    (f t = false ∧ lastI f (T.filter ne) = -1) ∨ (f t = true ∧ ∃ k : Nat, (T.filter ne)[k]? = some t ∧ lastI f (T.filter ne) = k) := by
  have uniq : ∀ u ∈ T.filter ne, f u = true → u = t := by
    intro u hu hfu
    obtain ⟨s', hs', e⟩ := hf u hfu
    obtain ⟨j, hj⟩ := List.mem_iff_getElem?.1 (List.mem_filter.1 hu).1
    have := hA.u i j t s s' hi hs u hj hs' e.symm
    subst this
    rw [hi] at hj; exact (Option.some.inj hj).symm
  have ht : t ∈ T.filter ne := List.mem_filter.2 ⟨List.mem_of_getElem? hi, ne_of hs⟩
  rcases lastI_spec f (T.filter ne) with ⟨h1, h2⟩ | ⟨k, u, h1, h2, h3⟩
  · exact .inl ⟨h2 t ht, h1⟩
  · have := uniq u (List.mem_of_getElem? h1) h2
    subst this
    exact .inr ⟨h2, k, h1, h3⟩
theorem endF_mem {c : Int} {t : Tour} (h : endF c t = true) : ∃ s ∈ t, s.c = c := by
  have h : endC t = some c := of_decide_eq_true h
  unfold endC at h
  obtain ⟨s, h1, h2⟩ := Option.map_eq_some_iff.1 h
  exact ⟨s, List.mem_of_getElem? h1, h2⟩
theorem headF_mem {c : Int} {t : Tour} (h : headF c t = true) : ∃ s ∈ t, s.c = c := by
  have h : headC t = some c := of_decide_eq_true h
  unfold headC at h
  obtain ⟨s, h1, h2⟩ := Option.map_eq_some_iff.1 h
  exact ⟨s, List.mem_of_getElem? h1, h2⟩
theorem count_sum (p : Tour → Bool) : ∀ T : Day, ((T.filter p).length : Int) = (T.map fun t => if p t then (1 : Int) else 0).sum
  | [] => rfl
  | t :: T => by
    rw [List.filter_cons, List.map_cons, List.sum_cons, ← count_sum p T]
    cases p t <;> simp <;> omega
theorem join_count {T : Day} {i k : Nat} {ta tb : Tour} (hi : T[i]? = some ta) (hk : T[k]? = some tb) (hik : i ≠ k) (ha : ne ta = true) (hb : ne tb = true) :
    ((((T.set i (ta ++ tb)).set k []).filter ne).length : Int) = ((T.filter ne).length : Int) - 1 := by
  obtain ⟨sa, hsa⟩ := ne_mem ha
  rw [count_sum, count_sum, sum_set _ _ k tb [] (by rw [List.getElem?_set_ne hik]; exact hk), sum_set _ _ i ta (ta ++ tb) hi]
  have hn : ne (ta ++ tb) = true := ne_of (s := sa) (by simp [hsa])
  simp only [ha, hb, hn, if_true]
  simp
theorem joinRS_eq {x : Inst} {ss : List Stop} {st : Day × Int} {g : Int → Option Int} (h : JI ss st.1 g) (hnum : st.2 = ((st.1.filter ne).length : Int)) {p : Pr} (hpa : p.a ∈ ss.map (·.c)) (hpb : p.b ∈ ss.map (·.c)) :
    joinRS x (st.1.filter ne) p = (joinS x st p).1.filter ne ∧ (joinS x st p).2 = (((joinS x st p).1.filter ne).length : Int) ∧ ∃ g', JI ss (joinS x st p).1 g' := by
  obtain ⟨i, a, sa, hia, hsa, hsac, hga, hpi⟩ := h.there hpa
  obtain ⟨k, b, sb, hkb, hsb, hsbc, hgb, hpk⟩ := h.there hpb
  have hgi : st.1.getD i [] = a := by rw [List.getD_eq_getElem?_getD, hia]; rfl
  have hgk : st.1.getD k [] = b := by rw [List.getD_eq_getElem?_getD, hkb]; rfl
  have hdef : joinS x st p = bif joinC x st.2 p i k a b then ((st.1.set i (a ++ b)).set k [], st.2 - 1) else st := by
    unfold joinS joinAt
    simp only [hpi, hpk, hgi, hgk]
  have hA := h.apt
  have hna := ne_of hsa
  have hnb := ne_of hsb
  have hnd := filter_nodup hA
  rw [hdef]
  have stay : joinC x st.2 p i k a b = false → joinRS x (st.1.filter ne) p = st.1.filter ne → joinRS x (st.1.filter ne) p = (bif joinC x st.2 p i k a b then ((st.1.set i (a ++ b)).set k [], st.2 - 1) else st).1.filter ne ∧ (bif joinC x st.2 p i k a b then ((st.1.set i (a ++ b)).set k [], st.2 - 1) else st).2 = (((bif joinC x st.2 p i k a b then ((st.1.set i (a ++ b)).set k [], st.2 - 1) else st).1.filter ne).length : Int) ∧ ∃ g', JI ss (bif joinC x st.2 p i k a b then ((st.1.set i (a ++ b)).set k [], st.2 - 1) else st).1 g' := by
    intro e1 e2
    rw [e1]
    exact ⟨e2, hnum, g, h⟩
  rcases find_place hA hia hsa (endF p.a) (fun u hu => by rw [hsac]; exact endF_mem hu) with ⟨fa, la⟩ | ⟨fa, ka, ha1, la⟩
  · have e1 : endC a ≠ some p.a := of_decide_eq_false fa
    refine stay (by simp [joinC, e1]) ?_
    unfold joinRS; rw [if_pos (.inl (by omega))]
  rcases find_place hA hkb hsb (headF p.b) (fun u hu => by rw [hsbc]; exact headF_mem hu) with ⟨fb, lb⟩ | ⟨fb, kb, hb1, lb⟩
  · have e1 : headC b ≠ some p.b := of_decide_eq_false fb
    refine stay (by simp [joinC, e1]) ?_
    unfold joinRS; rw [if_pos (.inr (.inl (by omega)))]
  have e1 : endC a = some p.a := of_decide_eq_true fa
  have e2 : headC b = some p.b := of_decide_eq_true fb
  have hab : ka = kb ↔ i = k := by
    constructor
    · rintro rfl
      obtain rfl : a = b := by rw [ha1] at hb1; exact Option.some.inj hb1
      exact hA.u i k a sa sa hia hsa a hkb hsa rfl
    · rintro rfl
      obtain rfl : a = b := by rw [hia] at hkb; exact Option.some.inj hkb
      exact nodup_idx hnd ha1 hb1
  have ga : (st.1.filter ne).getD (ka : Int).toNat [] = a := by rw [Int.toNat_natCast, List.getD_eq_getElem?_getD, ha1]; rfl
  have gb : (st.1.filter ne).getD (kb : Int).toNat [] = b := by rw [Int.toNat_natCast, List.getD_eq_getElem?_getD, hb1]; rfl
  by_cases hik : i = k
  · refine stay (by simp [joinC, hik]) ?_
    unfold joinRS; rw [if_pos (.inr (.inr (.inl (by rw [la, lb, hab.2 hik]))))]
  by_cases hfew : p.s ≤ 0 ∧ st.2 ≤ x.veh
  · refine stay (by simp [joinC, hfew.1, hfew.2]) ?_
    unfold joinRS; rw [if_pos (.inr (.inr (.inr ⟨hfew.1, by omega⟩)))]
  have hcond : ¬ (lastI (endF p.a) (st.1.filter ne) < 0 ∨ lastI (headF p.b) (st.1.filter ne) < 0 ∨ lastI (endF p.a) (st.1.filter ne) = lastI (headF p.b) (st.1.filter ne) ∨ (p.s ≤ 0 ∧ ((st.1.filter ne).length : Int) ≤ x.veh)) := by
    rw [la, lb]
    rintro (q | q | q | q)
    · omega
    · omega
    · exact hik (hab.1 (by omega))
    · exact hfew ⟨q.1, by omega⟩
  by_cases hmay : mayT x (a ++ b) = 0
  · have hc : joinC x st.2 p i k a b = true := by
      unfold joinC
      simp only [hik, e1, e2, hmay, Bool.and_eq_true, decide_eq_true_eq, ne_eq, not_false_eq_true, Bool.not_eq_true', Bool.and_eq_false_iff, decide_eq_false_iff_not, and_true, true_and]
      by_cases q : p.s ≤ 0
      · exact .inr fun e => hfew ⟨q, e⟩
      · exact .inl q
    rw [hc]
    simp only [cond_true]
    refine ⟨?_, ?_, _, h.join hia hkb hik⟩
    · unfold joinRS
      rw [if_neg hcond, la, lb, ga, gb, if_pos hmay, join_filter hA hia hkb hik hna hnb, ← nextD_eq hnd ha1 hb1]
      rfl
    · rw [join_count hia hkb hik hna hnb, hnum]
  · refine stay (by simp [joinC, hmay]) ?_
    unfold joinRS
    rw [if_neg hcond, la, lb, ga, gb, if_neg hmay]
theorem apart_filter (ss : List Stop) : (ss.map fun s => [s]).filter ne = apartD ss := by
  unfold apartD; rw [List.filter_eq_self]; intro t ht; obtain ⟨s, _, rfl⟩ := List.mem_map.1 ht; rfl
open Go Hp
theorem apartD_snoc (l : List Stop) (s : Stop) : apartD (l ++ [s]) = apartD l ++ [[s]] := by simp [apartD]
theorem apartD_len (l : List Stop) : (apartD l).length = l.length := by simp [apartD]
theorem joinRS_wf {x : Inst} {ss : List Stop} {T : Day} {g : Int → Option Int} (h : JI ss T g) (hss : ss.length ≤ 1000) : (T.filter ne).length ≤ 1000 ∧ (T.filter ne).flatten.length ≤ 1000 ∧ ∀ t ∈ T.filter ne, t ≠ [] := by
  have hf : (T.filter ne).flatten = T.flatten := by
    induction T with
    | nil => rfl
    | cons t T ih =>
      clear h
      have key : ∀ T : Day, (T.filter ne).flatten = T.flatten := by
        intro T
        induction T with
        | nil => rfl
        | cons t T ih =>
          rw [List.filter_cons]
          cases t with
          | nil => simpa using ih
          | cons s t => simp [ih]
      exact key _
  have hne : ∀ t ∈ T.filter ne, t ≠ [] := fun t ht e => by
    have := (List.mem_filter.1 ht).2
    rw [e] at this; cases this
  have hl := h.perm.length_eq
  have h1 := flat_len_ge (T.filter ne) hne
  rw [hf] at h1
  exact ⟨by omega, by rw [hf]; omega, hne⟩
set_option maxRecDepth 20000 in
theorem apartR_ok (l : List Stop) (hl : l.length ≤ 1048576) : Pure Tryz.prog 20 [L l] (.agg [L (apartD l)]) := by
  refine pwe Tryz.func20 Tryz.ntmps20 Tryz.results20 fun S nx hd => ?_
  repeat refine pw_seq ?_
  refine pwn ?_
  intro v0
  repeat refine pw_seq ?_
  refine pwn ?_
  intro v1
  refine pw_nilObX 1 0 66 1 rfl rfl fun v2 => ?_
  repeat refine pw_seq ?_
  refine pwn ?_
  intros
  repeat refine pw_seq ?_
  refine pw_block (pw_loopL (fun s : Nat × Nat => s.1 ≤ l.length) (fun (k, v2) => [(0, L l), (2, .ptr nx v0 0), (3, .ptr (nx + 1) v1 0), (4, I k)]) (fun (k, v2) => [.cells v0 35 [nilS], .cells v1 35 [.sl (nx + 2) v2 1 0 k], .cells v2 66 ((apartD (l.take k)).flatMap Enc.enc)]) (fun s => l.length - s.1) (0, v2) [] (by simp) (by simp) (by simp [apartD]) ?_)
  rintro ⟨k, v2⟩ hk
  simp only at hk ⊢
  repeat refine pw_seq ?_
  refine pwn ?_
  intros
  repeat refine pw_seq ?_
  refine pw_cond rfl (fun hc => ?_) (fun hc => ?_)
  · simp at hc
    obtain ⟨s, tl, a1, a2, a3, e1, e0⟩ := el 2 rfl l k hc
    have htl : ((apartD (l.take k)).flatMap Enc.enc : List PV).length = k := by rw [flen_list, apartD_len, List.length_take]; omega
    have htk : ((apartD (l.take k)).flatMap Enc.enc : List PV).take k = (apartD (l.take k)).flatMap Enc.enc := List.take_of_length_le (by omega)
    have hsn : ((apartD (l.take (k + 1))).flatMap Enc.enc : List PV) = (apartD (l.take k)).flatMap Enc.enc ++ [L [s]] := by rw [a3, apartD_snoc, List.flatMap_append]; rfl
    have g1 : 2 ≤ l.length * 2 - k * 2 := by omega
    generalize ((apartD (l.take k)).flatMap Enc.enc : List PV) = cs at *
    refine pw_skip (pw_seq (pw_block ?_))
    repeat refine pw_seq ?_
    refine pwY (some []) (Row.pures [0, 2, 3, 4, 5, 6, 7, 8] (.alt 1 (.alt 9 (Row.pures [10] (.alt 11 (.done) .stop)) .stop) .stop)) mixed (jn5 htl htk e0 hc g1) ?_
    refine ⟨by omega, ?_⟩
    intros
    repeat refine pw_seq ?_
    refine pwn ?_
    intros
    exact again_mk (k + 1, v2 + 1) [] hc (by simp; omega) (by simp [wrN k (by omega)]) rfl (by simp [hsn])
  · simp at hc
    obtain rfl : k = l.length := by omega
    have g1 : l.take l.length = l := List.take_length
    refine pw_exit ?_
    refine pw_frz 2 rfl ?_
    repeat refine pw_seq ?_
    refine pwn ?_
    intros
    repeat refine pw_seq ?_
    exact pw_ret (ret_pure hd (by simp; rfl) (by simp [oneOf, g1, apartD_len]))
open Go Go.Proofs Hp
structure SOk (x : Inst) (l : List Stop) : Prop where
  cust : x.cust.length ≤ 1048576
  arc : ArcOk x
  veh : 0 ≤ x.veh
  len : l.length ≤ 1000
  sm : ∀ s ∈ l, small s.c
  nd : (l.map (·.c)).Nodup
def basesZ (x : Inst) (l : List Stop) : List Day := [joinP x l, apartD l] ++ (bif (regretZ x l).2 then [(regretZ x l).1] else [])
def triesZ (x : Inst) (imp : Day → Day) (l : List Stop) : List Day := [apartD l, imp (joinP x l), imp (apartD l)] ++ (bif (regretZ x l).2 then [imp (regretZ x l).1] else [])
theorem regN_keeps {x : Inst} (hx : x.cust.length ≤ 1048576) : ∀ (n : Nat) (d : Day) (l : List Stop), l.length = n → RgOk x d l → RgOk x (regN x n d l).1 [] ∧ ((regN x n d l).2 = true → (regN x n d l).1.flatten.Perm (d.flatten ++ l))
  | 0, d, l, hl, h => by
    obtain rfl : l = [] := List.eq_nil_of_length_eq_zero hl
    exact ⟨h, fun _ => by simp [regN]⟩
  | n + 1, d, l, hl, h => by
    have hne : l ≠ [] := fun e => by rw [e] at hl; cases hl
    obtain ⟨k, hu, hk⟩ := urgent_in (x := x) (d := d) hne
    have hg : l.getD k default = l[k] := by rw [List.getD_eq_getElem?_getD, List.getElem?_eq_getElem hk]; rfl
    unfold regN
    rw [hu, Int.toNat_natCast, hg]
    cases hi : (insertD x d l[k]).2 with
    | false =>
      refine ⟨⟨h.ok, h.may, ?_⟩, fun e => by cases e⟩
      have := h.len
      simp only [cond_false, List.length_nil]; omega
    | true =>
      simp only [cond_true]
      obtain ⟨h1, h2⟩ := regN_keeps hx n (insertD x d l[k]).1 (l.eraseIdx k) (by rw [List.length_eraseIdx_of_lt hk]; omega) (h.step hx hk hi)
      refine ⟨h1, fun e => (h2 e).trans ?_⟩
      have hp := insertD_perm hi
      refine (hp.append_right _).trans ?_
      have he : (l[k] :: l.eraseIdx k).Perm l := by
        rw [List.eraseIdx_eq_take_drop_succ]
        have := List.perm_middle (a := l[k]) (l₁ := l.take k) (l₂ := l.drop (k + 1))
        refine this.symm.trans ?_
        rw [← List.drop_eq_getElem_cons hk, List.take_append_drop]
      rw [List.cons_append]
      refine List.perm_middle.symm.trans ?_
      exact he.append_left _
section
variable {x : Inst} {l : List Stop} (h : SOk x l)
include h
theorem SOk.apart : DayOk (apartD l) ∧ (apartD l).flatten = l ∧ (apartD l).length ≤ 1000 := by
  have hf : (apartD l).flatten = l := by
    unfold apartD
    clear h
    induction l with
    | nil => rfl
    | cons s l ih => simpa using ih
  refine ⟨⟨?_, fun t ht => ?_, fun t ht a ha => ?_⟩, hf, ?_⟩
  · rw [apartD_len]; have := h.len; omega
  · obtain ⟨s, _, rfl⟩ := List.mem_map.1 ht; simp
  · obtain ⟨s, hs, rfl⟩ := List.mem_map.1 ht
    simp at ha; subst ha; exact h.sm _ hs
  · rw [apartD_len]; exact h.len
theorem SOk.join : DayOk (joinP x l) ∧ (joinP x l).flatten.Perm l ∧ (joinP x l).length ≤ 1000 ∧ ∀ t ∈ joinP x l, t ≠ [] := by
  obtain ⟨g, hg⟩ := JI.begin l [] [] _ JI.nil (by simpa using h.nd)
  have key : ∀ (ps : List Pr) (st : Day × Int), (∃ g, JI l st.1 g) → st.2 = ((st.1.filter ne).length : Int) → (∀ p ∈ ps, p.a ∈ l.map (·.c) ∧ p.b ∈ l.map (·.c)) → ∃ g, JI l (ps.foldl (joinS x) st).1 g := by
    intro ps
    induction ps with
    | nil => intro st hg _ _; exact hg
    | cons p ps ih =>
      rintro st ⟨g, hg⟩ hn hp
      obtain ⟨h1, h2⟩ := hp p (by simp)
      obtain ⟨e1, e2, e3⟩ := joinRS_eq (x := x) hg hn h1 h2
      rw [List.foldl_cons]
      exact ih _ e3 e2 fun q hq => hp q (by simp [hq])
  obtain ⟨g', hg'⟩ := key (pairsP x (l.map (·.c))) (l.map fun s => [s], (l.length : Int)) ⟨g, by simpa using hg⟩ (by rw [apart_filter]; simp [apartD]) fun p hp => by
    have := prsAll_mem.1 ((pairsP_perm x _).subset hp)
    exact ⟨this.1, this.2.1⟩
  have hjp : joinP x l = ((pairsP x (l.map (·.c))).foldl (joinS x) (l.map fun s => [s], (l.length : Int))).1.filter ne := rfl
  obtain ⟨w1, w2, w3⟩ := joinRS_wf (x := x) hg' h.len
  have hfl : ∀ T : Day, (T.filter ne).flatten = T.flatten := by
    intro T
    induction T with
    | nil => rfl
    | cons t T ih =>
      rw [List.filter_cons]
      cases t with
      | nil => simpa using ih
      | cons s t => simp [ih]
  have hp : (joinP x l).flatten.Perm l := by rw [hjp, hfl]; exact hg'.perm
  rw [← hjp] at w1 w2 w3
  refine ⟨⟨by omega, fun t ht => ?_, fun t ht a ha => ?_⟩, hp, w1, w3⟩
  · have := (tour_sub ht).length_le; omega
  · exact h.sm a (hp.subset ((tour_sub ht).subset ha))
theorem SOk.regret : RgOk x (regretZ x l).1 [] ∧ ((regretZ x l).2 = true → (regretZ x l).1.flatten.Perm l) := by
  have := regN_keeps h.cust l.length [] l rfl (rgOk_begin h.veh h.len)
  simpa [regretZ] using this
end
def ImpP (x : Inst) (b : Int) (imp : Day → Day) (ds : List Day) : Prop := ∀ d ∈ ds, (∃ n, Pure Tryz.prog 57 [.agg (instL x), .agg [L d], I b] (.tup [.agg [L (imp d)], I n])) ∧ DayOk (imp d) ∧ (imp d).flatten.length ≤ 1048576
theorem solveP_ok (x : Inst) (l : List Stop) (b : Int) (imp : Day → Day) (h : SOk x l) (hI : fitsZ x l = 0 → ImpP x b imp (basesZ x l)) :
    Pure Tryz.prog 15 [.agg (instL x), L l, I b] (.tup [.agg [L (solveR x (fitsZ x l) (triesZ x imp l)).1], I (solveR x (fitsZ x l) (triesZ x imp l)).2]) := by
  have hF := fitsP_ok x l h.cust (by have := h.len; omega)
  by_cases he : fitsZ x l = 0
  case neg => exact solve_ok x (L l) b _ _ (plike_list l) h.cust hF (fun e => absurd e he) fun e => absurd e he
  have hI := hI he
  have hA := apartP_ok l (by have := h.len; omega)
  have hJ := join_all_ok x l h.arc h.cust h.len h.sm h.nd
  have hR := regretP_ok x l h.cust h.veh h.len
  obtain ⟨⟨n1, i1⟩, o1, f1⟩ := hI (joinP x l) (by simp [basesZ])
  obtain ⟨⟨n2, i2⟩, o2, f2⟩ := hI (apartD l) (by simp [basesZ])
  obtain ⟨a1, a2, a3⟩ := h.apart
  have h3 : (regretZ x l).2 = true → (∃ n, Pure Tryz.prog 57 [.agg (instL x), .agg [L (regretZ x l).1], I b] (.tup [.agg [L (imp (regretZ x l).1)], I n])) ∧ DayOk (imp (regretZ x l).1) ∧ (imp (regretZ x l).1).flatten.length ≤ 1048576 := fun e => hI _ (by simp [basesZ, e])
  have hlen := h.len
  have hit := tries_iter (fsL x (L l) b) [some (apartD l), some (imp (joinP x l)), some (imp (apartD l)), bif (regretZ x l).2 then some (imp (regretZ x l).1) else none] rfl (by simp) (by
    intro k f hf
    match k with
    | 0 => cases hf; exact ⟨_, _, L (apartD l), rfl, try1_ok (L l) (apartD l) (plike_list l) hA, fun d hd => by cases hd; rfl⟩
    | 1 => cases hf; exact ⟨_, _, L (imp (joinP x l)), rfl, try2_ok x (L l) b _ _ _ (plike_list l) hJ i1, fun d hd => by cases hd; rfl⟩
    | 2 => cases hf; exact ⟨_, _, L (imp (apartD l)), rfl, try3_ok x (L l) b _ _ _ (plike_list l) hA i2, fun d hd => by cases hd; rfl⟩
    | 3 =>
      cases hf
      cases hall : (regretZ x l).2 with
      | true =>
        obtain ⟨⟨n3, i3⟩, -⟩ := h3 hall
        rw [hall] at hR
        exact ⟨_, _, L (imp (regretZ x l).1), rfl, try4_ok x (L l) b _ _ true n3 (plike_list l) hR (fun _ => i3), fun d hd => by cases hd; rfl⟩
      | false =>
        rw [hall] at hR
        exact ⟨_, _, nilS, rfl, try4_ok x (L l) b _ [] false 0 (plike_list l) hR (fun e => by cases e), fun d hd => by cases hd⟩
    | k + 4 => cases hf)
  have hds : ([some (apartD l), some (imp (joinP x l)), some (imp (apartD l)), bif (regretZ x l).2 then some (imp (regretZ x l).1) else none] : List (Option Day)).filterMap id = triesZ x imp l := by
    unfold triesZ
    cases (regretZ x l).2 <;> rfl
  rw [hds] at hit
  refine solve_ok x (L l) b (fitsZ x l) (triesZ x imp l) (plike_list l) h.cust hF (fun _ => hit) fun _ d hd => ?_
  unfold triesZ at hd
  simp only [List.cons_append, List.nil_append, List.mem_cons] at hd
  rcases hd with rfl | rfl | rfl | hd
  · exact ⟨a1, by rw [a2]; omega⟩
  · exact ⟨o1, f1⟩
  · exact ⟨o2, f2⟩
  · cases hall : (regretZ x l).2 with
    | true =>
      rw [hall] at hd
      simp at hd; subst hd
      exact (h3 hall).2
    | false => rw [hall] at hd; simp at hd
open Go Go.Proofs Hp
theorem po_lit0 {P : Program} {r : Rd} {n : Nat} {F : Nat → PV} {S : Store} {o : Oper} {t e : TypeId} {len : Nat} {parts : Array (Nat × Operand)} {cs : List PV} {K : PV → Store → Prop} (ho : o.op = .buildSlice t len parts) (ht : P.underlying t = some (.slice e)) (h0 : P.cellsOf e ≠ 0) (hlen : len ≤ 1048576)
    (hl : litP P e len (parts.toList.map fun x => (x.1, ev F x.2)) = some cs)
    (hK : ∀ C : Ctx, S C.next = .dead → ∃ id v, Fresh C S id v ∧ K (.sl id v (P.cellsOf e) 0 len) (S.set id (.cells v e cs))) : PO P r n o F S K := by
  intro G hG C w a N st next Q' hnext
  have hmap : parts.toList.map (fun x => (x.1, ev G x.2)) = parts.toList.map (fun x => (x.1, ev F x.2)) := List.map_congr_left fun x hx => by
    rw [hG x.2 (by simp only [ho, Op.operands, List.mem_toArray, List.mem_map]; first | exact ⟨x, hx, rfl⟩ | (simp; exact ⟨x.1, by simpa using hx⟩))]
  rw [← hmap] at hl
  obtain ⟨vs, hrun, hr, hsz⟩ := litP_sound (w := w) ht (ev G) a.eval st.ev hl
  obtain ⟨id, ver, hfr, hK⟩ := hK C st.sim.free
  obtain ⟨k1, k2⟩ := st.sim.object' hfr e vs cs (Nat.le_of_eq hr.1) (fun i v _ hv => hr.2.1 i v hv) hr.2.2
  refine wpIn_of_run (x := .value (.slice (some ⟨w.heap.size, 0, none⟩) len len)) (w' := w.alloc (.cells vs e)) (by intro c hc; rw [ho] at hc; cases hc) ?_
    (hnext _ _ _ _ _ hK (rel_newsl C S w _ _ _ _ _ _ _ _ rfl (Nat.le_refl _) (by unfold maxN; omega) (by unfold maxLen; omega) hsz.symm) k1 k2)
  unfold execOp
  simp only [ho]
  have e1 : (parts.map fun x => (x.1, a.eval x.2)) = (parts.toList.map fun x => (x.1, a.eval x.2)).toArray := by
    apply Array.toList_inj.1; simp
  simp only [e1, hrun, Sem.run_bind, Sem.run_pure, Result.andThen_ok]
theorem po_litX {P : Program} {r : Rd} {n nx : Nat} {F : Nat → PV} {S : Store} {obs : List Ob} {o : Oper} {t e : TypeId} {len : Nat} {parts : Array (Nat × Operand)} {cs : List PV} {K : PV → Store → Prop} (ho : o.op = .buildSlice t len parts) (ht : P.underlying t = some (.slice e)) (h0 : P.cellsOf e ≠ 0) (hlen : len ≤ 1048576)
    (hl : litP P e len (parts.toList.map fun x => (x.1, ev F x.2)) = some cs) (hK : ∀ v, K (.sl (nx + obs.length) v (P.cellsOf e) 0 len) (ext S nx (obs ++ [.cells v e cs]))) : PO P r n o F (ext S nx obs) K :=
  po_lit0 ho ht h0 hlen hl (freshAt (X := fun id v => K (.sl id v (P.cellsOf e) 0 len) ((ext S nx obs).set id (.cells v e cs))) _ ext_new fun v => by rw [ext_push]; exact hK v)
open Go Go.Proofs
theorem pwLit {P : Program} {r : Rd} {n nx N : Nat} {Q : Exit → (Nat → PV) → Store → Prop} {F : Nat → PV} {S : Store} {obs : List Ob} {A : Prop} {R : Nat → KT → CT → HT → Prop} {id : Nat} {ops : Array Oper} {o : Oper} {os : List Oper} {t e : TypeId} {len : Nat} {parts : Array (Nat × Operand)}
    (D : List (Nat × Nat)) (cs : List PV) (ht : P.underlying t = some (.slice e)) (a : A) (h : ∀ v, R v (fun F' S' obs' => Q .normal F' (ext S' nx obs')) (CQ P r n nx ops fun F' S' obs' => Q .normal F' (ext S' nx obs')) (HQ P r n nx ops fun F' S' obs' => Q .normal F' (ext S' nx obs')))
    (hops : ops.toList = o :: os := by rfl) (hg : o.guard = none := by rfl) (ho : o.op = .buildSlice t len parts := by rfl) (h0 : P.cellsOf e ≠ 0 := by simp) (hlen : len ≤ 1048576 := by decide)
    (hl : litP P e len (parts.toList.map fun x => (x.1, ev F x.2)) = some cs := by simp [litP, fillP]) (hN : dstsBelow N ops = true := by rfl) (hD : guardsOk ops D = true := by rfl)
    (hR : A → ∀ v, XQ P nx D os (updO F o.dst (.sl (nx + obs.length) v (P.cellsOf e) 0 len)) S (obs ++ [.cells v e cs]) (R v) := by intro a v K Gc Gh X hX0 hX h; simp -implicitDefEqProofs [hX0, hX, a]; exact h) : PW P r n N (.region id ops false) Q F (ext S nx obs) := by
  refine pw_XS0 hN ?_
  rw [hops]
  unfold XS
  have : gd ops F o = some true := by unfold gd; rw [hg]
  rw [this]
  exact po_litX ho ht h0 hlen hl fun v => ⟨_, _, rfl, xs_q (by rw [hops]; exact List.suffix_cons _ _) hD (hR a v) (h v)⟩
def fzZ (x : Inst) (t : Tour) : Nat → Int
  | 0 => 0
  | i + 1 => fzZ x t i + arc x ((t.getD i default).c + 1) ((t.getD (i + 1) default).c + 1)
def bzZ (x : Inst) (t : Tour) : Nat → Int
  | 0 => 0
  | i + 1 => bzZ x t i + arc x ((t.getD (i + 1) default).c + 1) ((t.getD i default).c + 1)
theorem fzZ_bd {x : Inst} (h : ArcOk x) (t : Tour) : ∀ i : Nat, 0 ≤ fzZ x t i ∧ fzZ x t i ≤ 2147483648 * (i : Int)
  | 0 => by simp [fzZ]
  | i + 1 => by
    have h1 := fzZ_bd h t i
    have h2 := h ((t.getD i default).c + 1) ((t.getD (i + 1) default).c + 1)
    unfold fzZ; omega
theorem bzZ_bd {x : Inst} (h : ArcOk x) (t : Tour) : ∀ i : Nat, 0 ≤ bzZ x t i ∧ bzZ x t i ≤ 2147483648 * (i : Int)
  | 0 => by simp [bzZ]
  | i + 1 => by
    have h1 := bzZ_bd h t i
    have h2 := h ((t.getD (i + 1) default).c + 1) ((t.getD i default).c + 1)
    unfold bzZ; omega
structure Sm where
  f : List Int
  b : List Int
  l : List Int
  n : Int
instance : Enc Sm := ⟨fun s => [L s.f, L s.b, L s.l, I s.n], 4, fun _ => rfl, fun _ => rfl⟩
@[simp] theorem enc_sm (s : Sm) : Enc.enc s = [L s.f, L s.b, L s.l, I s.n] := rfl
@[simp high] theorem flen_sm (l : List Sm) : (l.flatMap Enc.enc).length = l.length * 4 := flat_length l
@[simp high] theorem ftake_sm (l : List Sm) : (l.flatMap Enc.enc).take (l.length * 4) = l.flatMap Enc.enc := flat_take' l
def smZ (x : Inst) (t : Tour) : Sm := ⟨(List.range t.length).map (fzZ x t), (List.range t.length).map (bzZ x t), (List.range (t.length + 1)).map fun i => loadZ (t.take i), wayZ x (t.map (·.c))⟩
abbrev rdL (x : Inst) (d : Day) : List PV := [I x.days, I x.veh, I x.cap, I x.len, L x.cust, L x.dist, L d, L (d.map (smZ x))]
structure MvDay (d : Day) : Prop where
  n : d.length ≤ 1000
  t : ∀ t ∈ d, t.length ≤ 1000
  s : ∀ t ∈ d, ∀ s ∈ t, small s.c ∧ 0 ≤ s.q ∧ s.q ≤ 2147483648
theorem loadZ_take {t : Tour} {i : Nat} {s : Stop} (h : t.take (i + 1) = t.take i ++ [s]) : loadZ (t.take (i + 1)) = loadZ (t.take i) + s.q := by rw [h, loadZ_snoc]
theorem map_range_snoc {α : Type} (f : Nat → α) (k : Nat) : (List.range (k + 1)).map f = (List.range k).map f ++ [f k] := by rw [List.range_succ, List.map_append]; rfl
theorem frz_smL (id v : Nat) (cs : List PV) (l : List Sm) : (l.flatMap Enc.enc).map (frzP id v cs) = (l.flatMap Enc.enc : List PV) := by
  induction l with
  | nil => rfl
  | cons s l ih => rw [List.flatMap_cons, List.map_append, ih]; rfl
set_option maxRecDepth 20000 in
set_option maxHeartbeats 3200000 in
theorem read_ok (x : Inst) (d : Day) (hx : ArcOk x) (hd' : MvDay d) : Pure Tryz.prog 118 [.agg (instL x), .agg [L d]] (.ip (rdL x d)) := by
  have hdn := hd'.n
  refine pwe Tryz.func118 Tryz.ntmps118 Tryz.results118 fun S nx hd => ?_
  repeat refine pw_seq ?_
  refine pwn ?_
  intro v0 v1
  repeat refine pw_seq ?_
  refine pwn ?_
  intro v2
  refine pw_nilObX 2 7 195 4 rfl rfl fun v3 => ?_
  repeat refine pw_seq ?_
  refine pwn ?_
  intros
  repeat refine pw_seq ?_
  refine pw_block (pw_loopL (fun s' : Nat × Nat => s'.1 ≤ d.length) (fun (k, v3) => [(2, .ptr nx v0 0), (5, .ptr (nx + 2) v2 0), (20, L d), (21, I d.length), (22, I k)]) (fun (k, v3) => [.cells v0 25 (instL x), .cells v1 35 [L d], .cells v2 193 [I x.days, I x.veh, I x.cap, I x.len, L x.cust, L x.dist, L d, .sl (nx + 3) v3 4 0 k], .cells v3 195 (((d.map (smZ x)).take k).flatMap Enc.enc)]) (fun s' => d.length - s'.1) (0, v3) [] (by simp) (by simp) (by simp) ?_)
  rintro ⟨k, v3⟩ hk
  simp only at hk ⊢
  repeat refine pw_seq ?_
  refine pwn ?_
  intros
  repeat refine pw_seq ?_
  refine pw_cond rfl (fun hc => ?_) (fun hc => ?_)
  · simp at hc
    obtain ⟨t, tl, a1, a2, a3, e0⟩ := el1 rfl d k hc
    have hk1 : 1 ≤ d.length - k := by omega
    have htm := List.mem_of_getElem? a1
    have htl := hd'.t t htm
    have hts := hd'.s t htm
    have hlw := lengthP_ok x t (by omega) (fun s hs => (hts s hs).1)
    have hwz := wayZ_bd hx (t.map (·.c))
    rw [List.length_map] at hwz
    rw [show W (wayZ x (t.map (·.c))) = wayZ x (t.map (·.c)) from wr _ (by omega) (by omega)] at hlw
    refine pw_skip (pw_seq (pw_block ?_))
    repeat refine pw_seq ?_
    refine pwN [] (jn3 e0 hc hk1) ?_
    intro v4
    repeat refine pw_seq ?_
    refine pwLit [] [I 0] Tryz.underlying62 trivial ?_
    intro v5
    refine pwc hlw ?_
    intro v6
    repeat refine pw_seq ?_
    refine pwn ?_
    intros
    refine pw_nilObX 6 0 3 1 rfl rfl fun v7 => ?_
    refine pw_nilObX 6 1 3 1 rfl rfl fun v8 => ?_
    repeat refine pw_seq ?_
    refine pwn ?_
    intros
    generalize hpc : (((d.map (smZ x)).take k).flatMap Enc.enc : List PV) = pc at *
    generalize hwl : wayZ x (t.map (·.c)) = wl at *
    repeat refine pw_seq ?_
    refine pw_block (pw_loopL (fun s' : Nat × Nat × Nat × Nat => s'.1 ≤ t.length) (fun (i, v5, v7, v8) => [(2, .ptr nx v0 0), (5, .ptr (nx + 2) v2 0), (7, .ptr (nx + 4) v4 0), (8, .ptr (nx + 6) v6 0), (9, I (fzZ x t (i - 1))), (10, I (bzZ x t (i - 1))), (20, L d), (21, I d.length), (22, I k), (32, L t), (33, I t.length), (34, I i)])
      (fun (i, v5, v7, v8) => [.cells v0 25 (instL x), .cells v1 35 [L d], .cells v2 193 [I x.days, I x.veh, I x.cap, I x.len, L x.cust, L x.dist, L d, .sl (nx + 3) v3 4 0 k], .cells v3 195 pc, .cells v4 66 [L t], .cells v5 3 (((List.range (i + 1)).map fun i => loadZ (t.take i)).flatMap Enc.enc),
        .cells v6 195 [.sl (nx + 7) v7 1 0 i, .sl (nx + 8) v8 1 0 i, .sl (nx + 5) v5 1 0 (i + 1), I wl], .cells v7 3 (((List.range i).map (fzZ x t)).flatMap Enc.enc), .cells v8 3 (((List.range i).map (bzZ x t)).flatMap Enc.enc)]) (fun s' => t.length - s'.1) (0, v5, v7, v8) [] (by simp) (by simp [fzZ, bzZ]) (by simp [loadZ]) ?_)
    rintro ⟨i, v5, v7, v8⟩ hi
    simp only at hi ⊢
    repeat refine pw_seq ?_
    refine pwn ?_
    intros
    repeat refine pw_seq ?_
    refine pw_cond rfl (fun hci => ?_) (fun hci => ?_)
    · simp at hci
      obtain ⟨s, ts, s1, s2, s3, -, s0⟩ := el 2 rfl t i hci
      have hi2 : 2 ≤ t.length * 2 - i * 2 := by omega
      obtain ⟨hsm, hq0, hq1⟩ := hts s (List.mem_of_getElem? s1)
      have hgs : t.getD i default = s := by rw [List.getD_eq_getElem?_getD, s1]; rfl
      have wi := wrN i (by omega)
      have f1 := map_range_snoc (fzZ x t) i
      have f2 := map_range_snoc (bzZ x t) i
      have f3 := map_range_snoc (fun i => loadZ (t.take i)) (i + 1)
      have hlz := loadZ_take s3
      have hlb := load_le (t := t.take i) (fun a ha => (hts a (List.mem_of_mem_take ha)).2)
      have hlt : (t.take i).length ≤ 1000 := by rw [List.length_take]; omega
      have wl1 : IntKind.i64.wrap (loadZ (t.take i) + s.q) = loadZ (t.take (i + 1)) := by rw [hlz]; exact wr _ (by omega) (by omega)
      have g1 : (((List.range i).map (fzZ x t)).flatMap Enc.enc : List PV).length = i := by rw [flen_int]; simp
      have g2 : (((List.range i).map (bzZ x t)).flatMap Enc.enc : List PV).length = i := by rw [flen_int]; simp
      have g3 : (((List.range (i + 1)).map fun i => loadZ (t.take i)).flatMap Enc.enc : List PV).length = i + 1 := by rw [flen_int]; simp
      obtain ⟨lz, tlz, z1, -, -, z0⟩ := el1 rfl ((List.range (i + 1)).map fun i => loadZ (t.take i)) i (by simp)
      have hlzz : lz = loadZ (t.take i) := by simpa using z1.symm
      have c1 : (((List.range (i + 1)).map (fzZ x t)).flatMap Enc.enc : List PV) = ((List.range i).map (fzZ x t)).flatMap Enc.enc ++ [I (fzZ x t i)] := by rw [f1, List.flatMap_append]; rfl
      have c2 : (((List.range (i + 1)).map (bzZ x t)).flatMap Enc.enc : List PV) = ((List.range i).map (bzZ x t)).flatMap Enc.enc ++ [I (bzZ x t i)] := by rw [f2, List.flatMap_append]; rfl
      have c3 : (((List.range (i + 1 + 1)).map fun i => loadZ (t.take i)).flatMap Enc.enc : List PV) = ((List.range (i + 1)).map fun i => loadZ (t.take i)).flatMap Enc.enc ++ [I (loadZ (t.take (i + 1)))] := by rw [f3, List.flatMap_append]; rfl
      rw [hlzz] at z0
      clear f1 f2 f3 z1 hlzz hlz
      generalize (((List.range i).map (fzZ x t)).flatMap Enc.enc : List PV) = fc at *
      generalize (((List.range i).map (bzZ x t)).flatMap Enc.enc : List PV) = bc at *
      generalize (((List.range (i + 1)).map fun i => loadZ (t.take i)).flatMap Enc.enc : List PV) = lc at *
      have t1 : fc.take i = fc := List.take_of_length_le (by omega)
      have t2 : bc.take i = bc := List.take_of_length_le (by omega)
      have t3 : lc.take (i + 1) = lc := List.take_of_length_le (by omega)
      refine pw_skip (pw_seq (pw_block ?_))
      repeat refine pw_seq ?_
      refine pwN [] (jn3 s0 hci hi2) ?_
      intro v9
      refine pw_seq ?_
      refine pw_joinK (nx := nx) (fun _ : Unit => True) (fun _ => [(2, .ptr nx v0 0), (5, .ptr (nx + 2) v2 0), (7, .ptr (nx + 4) v4 0), (8, .ptr (nx + 6) v6 0), (9, I (fzZ x t i)), (10, I (bzZ x t i)), (11, I i), (12, .ptr (nx + 9) v9 0), (20, L d), (21, I d.length), (22, I k), (32, L t), (33, I t.length), (34, I i)]) (fun _ => S)
        (fun _ => [.cells v0 25 (instL x), .cells v1 35 [L d], .cells v2 193 [I x.days, I x.veh, I x.cap, I x.len, L x.cust, L x.dist, L d, .sl (nx + 3) v3 4 0 k], .cells v3 195 pc, .cells v4 66 [L t], .cells v5 3 lc,
        .cells v6 195 [.sl (nx + 7) v7 1 0 i, .sl (nx + 8) v8 1 0 i, .sl (nx + 5) v5 1 0 (i + 1), I wl], .cells v7 3 fc, .cells v8 3 bc, .cells v9 43 [I s.c, I s.q]]) ?_ ?_
      · by_cases h0 : 0 < i
        · obtain ⟨j, rfl⟩ : ∃ j, i = j + 1 := ⟨i - 1, by omega⟩
          obtain ⟨p, tp, p1, -, -, -, p0⟩ := el 2 rfl t j (by omega)
          obtain ⟨hpm, -, -⟩ := hts p (List.mem_of_getElem? p1)
          have hgp : t.getD j default = p := by rw [List.getD_eq_getElem?_getD, p1]; rfl
          have hj2 : 2 ≤ t.length * 2 - j * 2 := by omega
          have hjl : j < t.length := by omega
          have wj : IntKind.i64.wrap (j : Int) = (j : Int) := wr _ (by omega) (by omega)
          have wp := small_wr hpm
          have ws := small_wr hsm
          have ar1 := arcP_ok x (p.c + 1) (s.c + 1)
          have ar2 := arcP_ok x (s.c + 1) (p.c + 1)
          have hfz : fzZ x t (j + 1) = fzZ x t j + arc x (p.c + 1) (s.c + 1) := by conv => lhs; unfold fzZ; rw [hgs, hgp]
          have hbz : bzZ x t (j + 1) = bzZ x t j + arc x (s.c + 1) (p.c + 1) := by conv => lhs; unfold bzZ; rw [hgs, hgp]
          have b1 := fzZ_bd hx t (j + 1)
          have b2 := bzZ_bd hx t (j + 1)
          have wf : IntKind.i64.wrap (fzZ x t j + arc x (p.c + 1) (s.c + 1)) = fzZ x t (j + 1) := by rw [hfz] at b1 ⊢; exact wr _ (by omega) (by omega)
          have wb : IntKind.i64.wrap (bzZ x t j + arc x (s.c + 1) (p.c + 1)) = bzZ x t (j + 1) := by rw [hbz] at b2 ⊢; exact wr _ (by omega) (by omega)
          simp only [Nat.add_sub_cancel]
          have h0' : (0 : Int) < ((j + 1 : Nat) : Int) := by omega
          repeat refine pw_seq ?_
          refine pwN [] (jn2 h0 h0') ?_
          intros
          repeat refine pw_seq ?_
          refine pw_ct (by simp) ?_
          repeat refine pw_seq ?_
          refine pwY (some [nx + 4, nx + 9]) (Row.pures [0, 1, 2, 3, 4, 5, 6, 7, 8, 9, 10, 11, 12] .done) mixed (jn6 wj p0 hjl hj2 wp ws) ?_
          intros
          repeat refine pw_seq ?_
          refine pwn ?_
          refine pwC [] ar1 wf ?_
          intros
          repeat refine pw_seq ?_
          refine pwn ?_
          refine pwC [] ar2 wb ?_
          intros
          exact at_mk () [] trivial (by simp) rfl (by simp)
        · obtain rfl : i = 0 := by omega
          repeat refine pw_seq ?_
          refine pwn ?_
          intros
          repeat refine pw_seq ?_
          refine pw_cf rfl ?_
          refine pw_skip ?_
          exact at_mk () [] trivial (by simp) rfl (by simp)
      · rintro ⟨⟩ -
        refine pw_seq ?_
        refine pw_joinK (nx := nx) (fun _ : Unit => True) (fun _ => [(2, .ptr nx v0 0), (5, .ptr (nx + 2) v2 0), (7, .ptr (nx + 4) v4 0), (8, .ptr (nx + 6) v6 0), (9, I (fzZ x t i)), (10, I (bzZ x t i)), (11, I i), (12, .ptr (nx + 9) v9 0), (20, L d), (21, I d.length), (22, I k), (32, L t), (33, I t.length), (34, I i)]) (fun _ => S)
          (fun _ => [.cells v0 25 (instL x), .cells v1 35 [L d], .cells v2 193 [I x.days, I x.veh, I x.cap, I x.len, L x.cust, L x.dist, L d, .sl (nx + 3) v3 4 0 k], .cells v3 195 pc, .cells v4 66 [L t], .cells v5 3 lc,
          .cells v6 195 [.sl (nx + 7) (v7 + 1) 1 0 (i + 1), .sl (nx + 8) (v8 + 1) 1 0 (i + 1), .sl (nx + 5) v5 1 0 (i + 1), I wl], .cells (v7 + 1) 3 (fc ++ [I (fzZ x t i)]), .cells (v8 + 1) 3 (bc ++ [I (bzZ x t i)]), .cells v9 43 [I s.c, I s.q]]) ?_ ?_
        · repeat refine pw_seq ?_
          refine pwY (some []) (Row.pures [0, 2, 3, 5, 7, 8] (.alt 1 (.alt 4 (.alt 6 (Row.pures [10] (.alt 9 (.alt 11 (Row.pures [12] (.alt 13 (.done) .stop)) .stop) .stop)) .stop) (.alt 6 (.alt 4 (Row.pures [10] (.alt 9 (.alt 11 (Row.pures [12] (.alt 13 (.done) .stop)) .stop) .stop)) .stop) .stop)) (.alt 6 (.alt 1 (.alt 4 (Row.pures [10] (.alt 9 (.alt 11 (Row.pures [12] (.alt 13 (.done) .stop)) .stop) .stop)) .stop) .stop) .stop))) mixed (jn4 g1 g2 t1 t2) ?_
          repeat' (first | refine And.intro (by omega) ?_ | apply And.intro)
          all_goals exact at_mk () [] trivial (by simp) rfl (by simp)
        · rintro ⟨⟩ -
          have z1 : (i : Int) < (i : Int) + 1 := by omega
          have z2 : i < i + 1 := by omega
          have z3 : 1 ≤ i + 1 - i := by omega
          repeat refine pw_seq ?_
          refine pwY (some [nx + 9]) (Row.pures [0, 2, 4, 7, 8] (.alt 1 (.alt 3 (Row.pures [5] (.alt 6 (Row.pures [9, 10] (.alt 11 (Row.pures [12] (.alt 13 (.done) .stop)) .stop)) .stop)) .stop) (.alt 3 (Row.pures [5] (.alt 1 (.alt 6 (Row.pures [9, 10] (.alt 11 (Row.pures [12] (.alt 13 (.done) .stop)) .stop)) .stop) (.alt 6 (Row.pures [9, 10] (.alt 1 (.alt 11 (Row.pures [12] (.alt 13 (.done) .stop)) .stop) .stop)) .stop))) .stop))) mixed (jn6 z0 z1 z2 z3 wl1 (jn2 g3 t3)) ?_
          repeat' (first | refine And.intro (by omega) ?_ | apply And.intro)
          all_goals
            intros
            repeat refine pw_seq ?_
            refine pwN [] wi ?_
            intros
            exact again_mk (i + 1, v5 + 1, v7 + 1, v8 + 1) [_] hci (by simp; omega) (by simp [wi]) rfl (by simp [c1, c2, c3]; rfl)
    · simp at hci
      obtain rfl : i = t.length := by omega
      refine pw_exit ?_
      clear hi hci
      have hsm : smZ x t = ⟨(List.range t.length).map (fzZ x t), (List.range t.length).map (bzZ x t), (List.range (t.length + 1)).map fun i => loadZ (t.take i), wl⟩ := by unfold smZ; rw [hwl]
      have g1 : (((List.range t.length).map (fzZ x t)).flatMap Enc.enc : List PV).length = t.length := by rw [flen_int]; simp
      have g2 : (((List.range t.length).map (bzZ x t)).flatMap Enc.enc : List PV).length = t.length := by rw [flen_int]; simp
      have g3 : (((List.range (t.length + 1)).map fun i => loadZ (t.take i)).flatMap Enc.enc : List PV).length = t.length + 1 := by rw [flen_int]; simp
      have hfz : ∀ id v cs, pc.map (frzP id v cs) = pc := fun id v cs => by rw [← hpc]; exact frz_smL id v cs _
      have hpl : pc.length = k * 4 := by rw [← hpc, flen_sm]; simp; omega
      have hpt : pc.take (k * 4) = pc := List.take_of_length_le (by omega)
      have hnew : (((d.map (smZ x)).take (k + 1)).flatMap Enc.enc : List PV) = pc ++ [L ((List.range t.length).map (fzZ x t)), L ((List.range t.length).map (bzZ x t)), L ((List.range (t.length + 1)).map fun i => loadZ (t.take i)), I wl] := by
        rw [← hpc, ← List.map_take, a3, List.map_append, List.flatMap_append, ← List.map_take, List.map_cons, hsm]; rfl
      have l1 : ((List.range t.length).map (fzZ x t)).length = t.length := by simp
      have l2 : ((List.range t.length).map (bzZ x t)).length = t.length := by simp
      have l3 : ((List.range (t.length + 1)).map fun i => loadZ (t.take i)).length = t.length + 1 := by simp
      generalize (List.range t.length).map (fzZ x t) = fl at *
      generalize (List.range t.length).map (bzZ x t) = bl at *
      generalize ((List.range (t.length + 1)).map fun i => loadZ (t.take i)) = ll at *
      clear g1 g2 g3
      refine pw_frz 8 rfl ?_
      simp only [List.map_cons, List.map_nil, List.set_cons_succ, List.set_cons_zero, frzO, hfz]
      refine pw_frz 7 rfl ?_
      simp only [List.map_cons, List.map_nil, List.set_cons_succ, List.set_cons_zero, frzO, hfz]
      refine pw_frz 5 rfl ?_
      simp only [List.map_cons, List.map_nil, List.set_cons_succ, List.set_cons_zero, frzO, hfz]
      repeat refine pw_seq ?_
      refine pwY (some [nx + 6]) (Row.pures [0, 1, 2, 3, 5, 6] (.alt 4 (.alt 7 (Row.pures [8, 9] (.alt 10 (.done) .stop)) .stop) .stop)) mixed (jn5 l1 l2 l3 hpl hpt) ?_
      refine ⟨by omega, ?_⟩
      intros
      repeat refine pw_seq ?_
      refine pwn ?_
      intros
      exact again_mk (k + 1, v3 + 1) [_, _, _, _, _] hc (by simp; omega) (by simp [wrN k (by omega)]) rfl (by simp [hnew, l1, l2, l3]; exact ⟨rfl, rfl, rfl, rfl, rfl⟩)
  · simp at hc
    obtain rfl : k = d.length := by omega
    rw [List.take_of_length_le (by simp)]
    refine pw_exit ?_
    have hml : ((d.map (smZ x)).flatMap Enc.enc : List PV).length = d.length * 4 := by rw [flen_sm]; simp
    refine pw_frz 3 rfl ?_
    repeat refine pw_seq ?_
    refine pwN [] hml ?_
    intros
    refine pw_frq 2 rfl ?_
    repeat refine pw_seq ?_
    exact pw_ret (ret_pure hd (by simp; rfl) (by simp [oneOf, hml]))
open Go Go.Proofs
def pathZ (x : Inst) : Int → List Int → Int
  | _, [] => 0
  | a, c :: l => arc x a (c + 1) + pathZ x (c + 1) l
theorem pathZ_app (x : Inst) : ∀ (l : List Int) (a : Int) (m : List Int), pathZ x a (l ++ m) = pathZ x a l + pathZ x (lastA a l) m
  | [], a, m => by simp [pathZ, lastA]
  | c :: l, a, m => by
    simp only [List.cons_append, pathZ, lastA]
    rw [pathZ_app x l (c + 1) m]; omega
theorem lastA_app : ∀ (l : List Int) (a : Int) (m : List Int), lastA a (l ++ m) = lastA (lastA a l) m
  | [], a, m => rfl
  | c :: l, a, m => by simp only [List.cons_append, lastA]; exact lastA_app l (c + 1) m
theorem wayS_path (x : Inst) : ∀ (l : List Int) (a : Int), wayS x a l = pathZ x a l + arc x (lastA a l) 0
  | [], a => by simp [wayS, pathZ, lastA]
  | c :: l, a => by
    simp only [wayS, pathZ, lastA]
    rw [wayS_path x l (c + 1)]; omega
def segZ (t : Tour) (f n : Nat) : Tour := (t.drop f).take n
theorem segZ_succ {t : Tour} {f n : Nat} {s : Stop} (h : t[f + n]? = some s) : segZ t f (n + 1) = segZ t f n ++ [s] := by
  have h' : (t.drop f)[n]? = some s := by rw [List.getElem?_drop]; exact h
  obtain ⟨h1, h2⟩ := List.getElem?_eq_some_iff.1 h'
  unfold segZ
  rw [List.take_succ_eq_append_getElem h1, h2]
theorem getD_some {t : Tour} {i : Nat} {s : Stop} (h : t[i]? = some s) : t.getD i default = s := by rw [List.getD_eq_getElem?_getD, h]; rfl
theorem seg_fore (x : Inst) (t : Tour) (f : Nat) (a : Int) : ∀ n, f + n < t.length → pathZ x a ((segZ t f (n + 1)).map (·.c)) = arc x a ((t.getD f default).c + 1) + (fzZ x t (f + n) - fzZ x t f) ∧ lastA a ((segZ t f (n + 1)).map (·.c)) = (t.getD (f + n) default).c + 1
  | 0, h => by
    have h0 : t[f + 0]? = some t[f] := List.getElem?_eq_getElem (by omega)
    rw [segZ_succ h0]
    have : segZ t f 0 = [] := by simp [segZ]
    rw [this, getD_some h0]
    simp only [Nat.add_zero] at *
    rw [getD_some h0]
    simp [pathZ, lastA]
  | n + 1, h => by
    obtain ⟨i1, i2⟩ := seg_fore x t f a n (by omega)
    have h0 : t[f + (n + 1)]? = some t[f + (n + 1)] := List.getElem?_eq_getElem (by omega)
    rw [segZ_succ h0, List.map_append, pathZ_app, lastA_app, i1, i2, getD_some h0]
    simp only [List.map_cons, List.map_nil, pathZ, lastA]
    have e : fzZ x t (f + (n + 1)) = fzZ x t (f + n) + arc x ((t.getD (f + n) default).c + 1) ((t.getD (f + (n + 1)) default).c + 1) := rfl
    rw [e, getD_some h0]
    exact ⟨by omega, trivial⟩
theorem seg_back (x : Inst) (t : Tour) (f : Nat) : ∀ (n : Nat) (a : Int), f + n < t.length → pathZ x a ((segZ t f (n + 1)).reverse.map (·.c)) = arc x a ((t.getD (f + n) default).c + 1) + (bzZ x t (f + n) - bzZ x t f) ∧ lastA a ((segZ t f (n + 1)).reverse.map (·.c)) = (t.getD f default).c + 1
  | 0, a, h => by
    have h0 : t[f + 0]? = some t[f] := List.getElem?_eq_getElem (by omega)
    rw [segZ_succ h0]
    have : segZ t f 0 = [] := by simp [segZ]
    rw [this, getD_some h0]
    simp only [Nat.add_zero] at *
    rw [getD_some h0]
    simp [pathZ, lastA]
  | n + 1, a, h => by
    have h0 : t[f + (n + 1)]? = some t[f + (n + 1)] := List.getElem?_eq_getElem (by omega)
    obtain ⟨i1, i2⟩ := seg_back x t f n ((t.getD (f + (n + 1)) default).c + 1) (by omega)
    rw [segZ_succ h0, List.reverse_append]
    simp only [List.reverse_cons, List.reverse_nil, List.nil_append, List.cons_append, List.map_cons, pathZ, lastA]
    rw [getD_some h0] at i1 i2 ⊢
    rw [i1, i2]
    have e : bzZ x t (f + (n + 1)) = bzZ x t (f + n) + arc x ((t.getD (f + (n + 1)) default).c + 1) ((t.getD (f + n) default).c + 1) := rfl
    rw [e, getD_some h0]
    exact ⟨by omega, rfl⟩
theorem seg_load (t : Tour) (f : Nat) : ∀ n, f + n ≤ t.length → loadZ (segZ t f n) = loadZ (t.take (f + n)) - loadZ (t.take f)
  | 0, _ => by simp [segZ, loadZ]
  | n + 1, h => by
    have h0 : t[f + n]? = some t[f + n] := List.getElem?_eq_getElem (by omega)
    have e : t.take (f + n + 1) = t.take (f + n) ++ [t[f + n]] := List.take_succ_eq_append_getElem (by omega)
    rw [segZ_succ h0, loadZ_snoc, seg_load t f n (by omega), ← Nat.add_assoc, e, loadZ_snoc]; omega
def lenS (x : Inst) (d : Day) (st : Int × Int) (p : Pc) : Int × Int :=
  if p.f < p.o then
    (bif p.b then (((d.getD p.t []).getD p.f default).c + 1, st.2 + (arc x st.1 (((d.getD p.t []).getD (p.o - 1) default).c + 1) + bzZ x (d.getD p.t []) (p.o - 1) - bzZ x (d.getD p.t []) p.f))
    else (((d.getD p.t []).getD (p.o - 1) default).c + 1, st.2 + (arc x st.1 (((d.getD p.t []).getD p.f default).c + 1) + fzZ x (d.getD p.t []) (p.o - 1) - fzZ x (d.getD p.t []) p.f)))
  else st
def lenR (x : Inst) (d : Day) (r : Rw5) : Int := (r.l.foldl (lenS x d) (0, 0)).2 + arc x (r.l.foldl (lenS x d) (0, 0)).1 0
def ldS (d : Day) (st : Int) (p : Pc) : Int := if p.f < p.o then st + (loadZ ((d.getD p.t []).take p.o) - loadZ ((d.getD p.t []).take p.f)) else st
def ldR (d : Day) (r : Rw5) : Int := r.l.foldl (ldS d) 0
theorem lenS_eq {x : Inst} {d : Day} {p : Pc} (h : PcOk d p) (g : List Stop) : lenS x d (lastA 0 (g.map (·.c)), pathZ x 0 (g.map (·.c))) p = (lastA 0 ((g ++ pieceZ d p).map (·.c)), pathZ x 0 ((g ++ pieceZ d p).map (·.c))) := by
  unfold lenS pieceZ
  by_cases hfo : p.f < p.o
  · obtain ⟨ht, ho⟩ := h hfo
    unfold tlen at ho
    rw [if_pos hfo, if_pos hfo]
    generalize d.getD p.t [] = t at *
    obtain ⟨n, hn⟩ : ∃ n, p.o = p.f + n + 1 := ⟨p.o - p.f - 1, by omega⟩
    have e1 : p.o - 1 = p.f + n := by omega
    have e2 : p.o - p.f = n + 1 := by omega
    rw [e1, e2, List.map_append, pathZ_app, lastA_app]
    cases p.b with
    | true =>
      simp only [cond_true]
      obtain ⟨i1, i2⟩ := seg_back x t p.f n (lastA 0 (g.map (·.c))) (by omega)
      unfold segZ at i1 i2
      rw [i1, i2]
      congr 1; omega
    | false =>
      simp only [cond_false]
      obtain ⟨i1, i2⟩ := seg_fore x t p.f (lastA 0 (g.map (·.c))) n (by omega)
      unfold segZ at i1 i2
      rw [i1, i2]
      congr 1; omega
  · rw [if_neg hfo, if_neg hfo, List.append_nil]
theorem len_fold {x : Inst} {d : Day} : ∀ (l : List Pc) (g : List Stop), (∀ p ∈ l, PcOk d p) → l.foldl (lenS x d) (lastA 0 (g.map (·.c)), pathZ x 0 (g.map (·.c))) = (lastA 0 ((g ++ l.flatMap (pieceZ d)).map (·.c)), pathZ x 0 ((g ++ l.flatMap (pieceZ d)).map (·.c)))
  | [], g, _ => by simp
  | p :: l, g, h => by
    rw [List.foldl_cons, lenS_eq (h p (by simp)), len_fold l _ fun q hq => h q (by simp [hq]), List.flatMap_cons, List.append_assoc]
theorem lenR_eq {x : Inst} {d : Day} {r : Rw5} (h : RwOk d r) (h0 : arc x 0 0 = 0) : lenR x d r = wayZ x ((gatherZ d r).map (·.c)) := by
  have := len_fold (x := x) r.l [] h
  simp only [List.map_nil, lastA, pathZ, List.nil_append] at this
  unfold lenR
  rw [this]
  simp only
  unfold gatherZ wayZ
  split
  · rename_i e
    rw [e]; simp [pathZ, lastA, h0]
  · rw [wayS_path]
theorem ldS_eq {d : Day} {p : Pc} (h : PcOk d p) (g : List Stop) : ldS d (loadZ g) p = loadZ (g ++ pieceZ d p) := by
  unfold ldS pieceZ
  by_cases hfo : p.f < p.o
  · obtain ⟨ht, ho⟩ := h hfo
    unfold tlen at ho
    rw [if_pos hfo, if_pos hfo, load_app]
    generalize d.getD p.t [] = t at *
    have := seg_load t p.f (p.o - p.f) (by omega)
    rw [show p.f + (p.o - p.f) = p.o by omega] at this
    have hr : ∀ l : Tour, loadZ l.reverse = loadZ l := fun l => by unfold loadZ; exact sum_perm ((List.reverse_perm l).map _)
    unfold segZ at this
    cases p.b with
    | true => simp only [cond_true]; rw [hr, this]
    | false => simp only [cond_false]; rw [this]
  · rw [if_neg hfo, if_neg hfo, List.append_nil]
theorem ldR_eq {d : Day} {r : Rw5} (h : RwOk d r) : ldR d r = loadZ (gatherZ d r) := by
  have key : ∀ (l : List Pc) (g : List Stop), (∀ p ∈ l, PcOk d p) → l.foldl (ldS d) (loadZ g) = loadZ (g ++ l.flatMap (pieceZ d)) := by
    intro l
    induction l with
    | nil => intro g _; simp
    | cons p l ih =>
      intro g h
      rw [List.foldl_cons, ldS_eq (h p (by simp)), ih _ fun q hq => h q (by simp [hq]), List.flatMap_cons, List.append_assoc]
  have := key r.l [] h
  simpa [ldR, gatherZ, loadZ] using this
open Go Go.Proofs
abbrev rdG (x : Inst) (d : Day) (sms : List Sm) : List PV := [I x.days, I x.veh, I x.cap, I x.len, L x.cust, L x.dist, L d, L sms]
theorem arc_bd {x : Inst} (h : ArcOk x) (a b : Int) : 0 ≤ arc x a b ∧ arc x a b ≤ 2147483648 := h a b
theorem sm_at {x : Inst} {d : Day} {sms : List Sm} (hs : sms = d.map (smZ x)) {k : Nat} (h : k < d.length) : ∃ (t : Tour) (td tf : List PV), d[k]? = some t ∧ d.getD k [] = t ∧ (d.flatMap Enc.enc : List PV).drop k = L t :: td ∧
    (sms.flatMap Enc.enc : List PV).drop (k * 4) = [L (smZ x t).f, L (smZ x t).b, L (smZ x t).l, I (smZ x t).n] ++ tf := by
  obtain ⟨t, td, a1, -, -, e0⟩ := el1 rfl d k h
  rw [hs]
  obtain ⟨s, ts, b1, -, -, -, f0⟩ := el 4 rfl (d.map (smZ x)) k (by simpa using h)
  have : s = smZ x t := by rw [List.getElem?_map, a1] at b1; exact (Option.some.inj b1).symm
  subst this
  exact ⟨t, td, ts, a1, by rw [List.getD_eq_getElem?_getD, a1]; rfl, e0, f0⟩
theorem rng_at {α : Type} [Enc α] (n : Nat) (hn : Enc.sz α = 1) (f : Nat → α) {i : Nat} (h : i < n) : ∃ tl, (((List.range n).map f).flatMap Enc.enc : List PV).drop i = Enc.enc (f i) ++ tl := by
  obtain ⟨s, ts, b1, -, -, f0⟩ := el1 hn ((List.range n).map f) i (by simpa using h)
  have : s = f i := by rw [List.getElem?_map, List.getElem?_range h] at b1; exact (Option.some.inj b1).symm
  subst this
  exact ⟨ts, f0⟩
set_option maxRecDepth 20000 in
set_option maxHeartbeats 3200000 in
theorem rlen_ok (x : Inst) (d : Day) (r : Rw5) (hx : ArcOk x) (hd' : MvDay d) (hr : RwOk d r) : Pure Tryz.prog 141 [.ip (rdL x d), .agg (rwL r)] (I (lenR x d r)) := by
  obtain ⟨sms, hsms⟩ : ∃ sms, sms = d.map (smZ x) := ⟨_, rfl⟩
  have hml : sms.length = d.length := by rw [hsms]; simp
  rw [show rdL x d = rdG x d sms from by rw [hsms]]
  have hdn := hd'.n
  have hat := fun k (h : k < 5) => rw_at r h
  have hz : lenR x d r = ((r.l.take 5).foldl (lenS x d) (0, 0)).2 + arc x ((r.l.take 5).foldl (lenS x d) (0, 0)).1 0 := by unfold lenR; rw [List.take_of_length_le (by simp [Rw5.l])]
  rw [hz]
  clear hz
  have hcl : (rwL r).length = 20 := rfl
  have hct : (rwL r).take 20 = rwL r := rfl
  generalize hrc : rwL r = rc at *
  refine pwe Tryz.func141 Tryz.ntmps141 Tryz.results141 fun S nx hd => ?_
  repeat refine pw_seq ?_
  refine pwn ?_
  intro v0
  repeat refine pw_seq ?_
  refine pwn ?_
  intros
  repeat refine pw_seq ?_
  refine pwN [] (jn2 hcl hct) ?_
  intros
  repeat refine pw_seq ?_
  refine pw_block (pw_loopL (fun k : Nat => k ≤ 5 ∧ -(8796093022208 * (k : Int)) ≤ ((r.l.take k).foldl (lenS x d) (0, 0)).2 ∧ ((r.l.take k).foldl (lenS x d) (0, 0)).2 ≤ 8796093022208 * k) (fun k => [(0, .ip (rdG x d sms)), (3, .ptr nx v0 0), (5, I ((r.l.take k).foldl (lenS x d) (0, 0)).1), (6, I ((r.l.take k).foldl (lenS x d) (0, 0)).2), (13, .agg rc), (14, I k)]) (fun _ => [.cells v0 168 rc]) (fun k => 5 - k) 0 [] (by simp) (by simp) (by simp) ?_)
  rintro k ⟨hk, hb1, hb2⟩
  by_cases hk5 : k < 5
  · obtain ⟨p, hp1, hp2, hp3⟩ := hat k hk5
    have hk5' : (k : Int) < 5 := by omega
    have hk6 : 4 ≤ 20 - k * 4 := by omega
    have hok := hr p (List.mem_of_getElem? hp1)
    have hnx : (r.l.take (k + 1)).foldl (lenS x d) (0, 0) = lenS x d ((r.l.take k).foldl (lenS x d) (0, 0)) p := by rw [hp3, List.foldl_append]; rfl
    generalize (r.l.take k).foldl (lenS x d) (0, 0) = st at *
    obtain ⟨at_, all⟩ := st
    simp only at hb1 hb2 ⊢
    have wk := wrN k (by omega)
    repeat refine pw_seq ?_
    refine pwN [] hk5' ?_
    intros
    repeat refine pw_seq ?_
    refine pw_ct rfl ?_
    refine pw_skip (pw_seq (pw_block ?_))
    repeat refine pw_seq ?_
    refine pwN [] (jn5 hp2 hk5 hk5' hcl hk6) ?_
    intro v3
    by_cases hfo : p.f < p.o
    case neg =>
      have hpz : lenS x d (at_, all) p = (at_, all) := by unfold lenS; rw [if_neg hfo]
      rw [hpz] at hnx
      have hfo' : p.o ≤ p.f := by omega
      repeat refine pw_seq ?_
      refine pwN [] hfo' ?_
      intros
      repeat refine pw_seq ?_
      refine pw_ct (by simp [hfo']) ?_
      refine pw_exit ?_
      repeat refine pw_seq ?_
      refine pwn ?_
      intros
      exact again_mk (k + 1) [_] ⟨by omega, by rw [hnx]; simp only; omega, by rw [hnx]; simp only; omega⟩ (by omega) (by simp [wk, hnx]) rfl (by simp; rfl)
    obtain ⟨ht, ho⟩ := hok hfo
    obtain ⟨t, td, tf, a1, hgt, e0, f0⟩ := sm_at hsms ht
    unfold tlen at ho
    rw [hgt] at ho
    have htm := List.mem_of_getElem? a1
    have htl := hd'.t t htm
    have hts := hd'.s t htm
    have ht1 : 1 ≤ d.length - p.t := by omega
    have ht4 : 4 ≤ d.length * 4 - p.t * 4 := by omega
    obtain ⟨n, hn⟩ : ∃ n, p.o = n + 1 := ⟨p.o - 1, by omega⟩
    have hfo' : ¬ p.o ≤ p.f := by omega
    have hst : lenS x d (at_, all) p = bif p.b then ((t.getD p.f default).c + 1, all + (arc x at_ ((t.getD n default).c + 1) + bzZ x t n - bzZ x t p.f)) else ((t.getD n default).c + 1, all + (arc x at_ ((t.getD p.f default).c + 1) + fzZ x t n - fzZ x t p.f)) := by
      unfold lenS; rw [if_pos hfo, hgt, show p.o - 1 = n by omega]
    rw [hst] at hnx
    clear hst
    obtain ⟨sf, tsf, s1, -, -, -, s0⟩ := el 2 rfl t p.f (by omega)
    obtain ⟨sl, tsl, l1, -, -, -, l0⟩ := el 2 rfl t n (by omega)
    have hgf : t.getD p.f default = sf := getD_some s1
    have hgl : t.getD n default = sl := getD_some l1
    rw [hgf, hgl] at hnx
    have q1 : p.f < t.length := by omega
    have q2 : n < t.length := by omega
    have q3 : 2 ≤ t.length * 2 - p.f * 2 := by omega
    have q4 : 2 ≤ t.length * 2 - n * 2 := by omega
    have wo : IntKind.i64.wrap ((p.o : Int) - 1) = (n : Int) := by rw [wr _ (by omega) (by omega)]; omega
    have wsf := small_wr (hts sf (List.mem_of_getElem? s1)).1
    have wsl := small_wr (hts sl (List.mem_of_getElem? l1)).1
    have bf1 := fzZ_bd hx t p.f
    have bf2 := fzZ_bd hx t n
    have bb1 := bzZ_bd hx t p.f
    have bb2 := bzZ_bd hx t n
    have hlen : ((List.range t.length).map (fzZ x t)).length = t.length ∧ ((List.range t.length).map (bzZ x t)).length = t.length := by simp
    obtain ⟨z1, hz1⟩ := rng_at t.length rfl (fzZ x t) q1
    obtain ⟨z2, hz2⟩ := rng_at t.length rfl (fzZ x t) q2
    obtain ⟨z3, hz3⟩ := rng_at t.length rfl (bzZ x t) q1
    obtain ⟨z4, hz4⟩ := rng_at t.length rfl (bzZ x t) q2
    have q5 : 1 ≤ t.length - p.f := by omega
    have q6 : 1 ≤ t.length - n := by omega
    simp only [smZ] at f0
    generalize hfl : (List.range t.length).map (fzZ x t) = fl at *
    generalize hbl : (List.range t.length).map (bzZ x t) = bl at *
    generalize ((List.range (t.length + 1)).map fun i => loadZ (t.take i)) = ll at *
    generalize wayZ x (t.map (·.c)) = wl at *
    obtain ⟨hl1, hl2⟩ := hlen
    have hfll : (fl.flatMap Enc.enc : List PV).length = t.length := by rw [flen_int, hl1]
    have hbll : (bl.flatMap Enc.enc : List PV).length = t.length := by rw [flen_int, hl2]
    repeat refine pw_seq ?_
    refine pwN [] hfo' ?_
    intros
    repeat refine pw_seq ?_
    refine pw_cf (by simp [hfo']) ?_
    refine pw_skip ?_
    repeat refine pw_seq ?_
    refine pwY (some [nx + 1]) (Row.pures [0, 1, 2, 3, 4, 5, 6, 7, 8, 9, 10, 11, 12, 13, 14, 15, 16, 17, 18, 19, 20] .done) mixed (jn6 e0 f0 ht ht1 ht4 hml) ?_
    intros
    repeat refine pw_seq ?_
    refine pwY (some [nx + 1]) (Row.pures [0, 1, 2, 3, 4, 5, 6] .done) mixed wo ?_
    intros
    refine pw_seq ?_
    cases hpb : p.b with
    | false =>
      rw [hpb] at hnx
      simp only [cond_false] at hnx
      have har := arc_bd hx at_ (sf.c + 1)
      have ar := arcP_ok x at_ (sf.c + 1)
      have w1 : IntKind.i64.wrap (arc x at_ (sf.c + 1) + fzZ x t n) = arc x at_ (sf.c + 1) + fzZ x t n := wr _ (by omega) (by omega)
      have w2 : IntKind.i64.wrap (arc x at_ (sf.c + 1) + fzZ x t n - fzZ x t p.f) = arc x at_ (sf.c + 1) + fzZ x t n - fzZ x t p.f := wr _ (by omega) (by omega)
      have w3 : IntKind.i64.wrap (all + (arc x at_ (sf.c + 1) + fzZ x t n - fzZ x t p.f)) = all + (arc x at_ (sf.c + 1) + fzZ x t n - fzZ x t p.f) := wr _ (by omega) (by omega)
      repeat refine pw_seq ?_
      refine pwN [] hpb ?_
      intros
      repeat refine pw_seq ?_
      refine pw_cf rfl ?_
      refine pw_skip ?_
      repeat refine pw_seq ?_
      refine pwY (some [nx + 1]) (Row.pures [0, 1, 2, 3, 4, 5, 6, 7, 8, 9, 10, 11, 12, 13, 14, 15, 16, 17, 18, 19, 20, 21, 22, 23, 24, 25, 26, 27] .done) mixed (jn6 s0 q1 q3 wsf wo (jn2 (jn6 hz1 hz2 hfll hl1 q2 q5) (jn4 q6 w1 w2 w3))) ?_
      refine pwP (ar) (jn6 s0 q1 q3 wsf wo (jn2 (jn6 hz1 hz2 hfll hl1 q2 q5) (jn4 q6 w1 w2 w3))) ?_
      intros
      repeat refine pw_seq ?_
      refine pwN [] (jn4 l0 q2 q4 wsl) ?_
      intros
      repeat refine pw_seq ?_
      refine pwn ?_
      intros
      exact again_mk (k + 1) [_] ⟨by omega, by rw [hnx]; simp only; omega, by rw [hnx]; simp only; omega⟩ (by omega) (by simp [wk, hnx]) rfl (by simp; rfl)
    | true =>
      rw [hpb] at hnx
      simp only [cond_true] at hnx
      have har := arc_bd hx at_ (sl.c + 1)
      have ar := arcP_ok x at_ (sl.c + 1)
      have w1 : IntKind.i64.wrap (arc x at_ (sl.c + 1) + bzZ x t n) = arc x at_ (sl.c + 1) + bzZ x t n := wr _ (by omega) (by omega)
      have w2 : IntKind.i64.wrap (arc x at_ (sl.c + 1) + bzZ x t n - bzZ x t p.f) = arc x at_ (sl.c + 1) + bzZ x t n - bzZ x t p.f := wr _ (by omega) (by omega)
      have w3 : IntKind.i64.wrap (all + (arc x at_ (sl.c + 1) + bzZ x t n - bzZ x t p.f)) = all + (arc x at_ (sl.c + 1) + bzZ x t n - bzZ x t p.f) := wr _ (by omega) (by omega)
      repeat refine pw_seq ?_
      refine pwN [] hpb ?_
      intros
      repeat refine pw_seq ?_
      refine pw_ct rfl ?_
      repeat refine pw_seq ?_
      refine pwY (some [nx + 1]) (Row.pures [0, 1, 2, 3, 4, 5, 6, 7, 8, 9, 10, 11, 12, 13] .done) mixed (jn4 f0 ht ht4 hml) ?_
      intros
      repeat refine pw_seq ?_
      refine pwY (some [nx + 1]) (Row.pures [0, 1, 2, 3, 4, 5, 6, 7, 8, 9, 10, 11, 12, 13, 14, 15, 16, 17, 18, 19, 20, 21, 22, 23, 24, 25, 26, 27] .done) mixed (jn6 l0 q2 q4 wsl wo (jn2 (jn6 hz3 hz4 hbll hl2 q1 q5) (jn4 q6 w1 w2 w3))) ?_
      refine pwP (ar) (jn6 l0 q2 q4 wsl wo (jn2 (jn6 hz3 hz4 hbll hl2 q1 q5) (jn4 q6 w1 w2 w3))) ?_
      intros
      repeat refine pw_seq ?_
      refine pwN [] (jn4 s0 q1 q3 wsf) ?_
      intros
      repeat refine pw_seq ?_
      refine pwn ?_
      intros
      exact again_mk (k + 1) [_] ⟨by omega, by rw [hnx]; simp only; omega, by rw [hnx]; simp only; omega⟩ (by omega) (by simp [wk, hnx]) rfl (by simp; rfl)
  · obtain rfl : k = 5 := by omega
    generalize (r.l.take 5).foldl (lenS x d) (0, 0) = st at *
    obtain ⟨at_, all⟩ := st
    simp only at hb1 hb2 ⊢
    have har := arc_bd hx at_ 0
    have ar := arcP_ok x at_ 0
    have w1 : IntKind.i64.wrap (all + arc x at_ 0) = all + arc x at_ 0 := wr _ (by omega) (by omega)
    repeat refine pw_seq ?_
    refine pwn ?_
    intros
    repeat refine pw_seq ?_
    refine pw_cf rfl ?_
    refine pw_exit ?_
    repeat refine pw_seq ?_
    refine pwn ?_
    refine pwC [] ar w1 ?_
    intros
    repeat refine pw_seq ?_
    exact pw_ret (ret_pure hd rfl rfl)
open Go Go.Proofs
set_option maxRecDepth 20000 in
set_option maxHeartbeats 3200000 in
theorem rload_ok (x : Inst) (d : Day) (r : Rw5) (hd' : MvDay d) (hr : RwOk d r) : Pure Tryz.prog 142 [.ip (rdL x d), .agg (rwL r)] (I (ldR d r)) := by
  obtain ⟨sms, hsms⟩ : ∃ sms, sms = d.map (smZ x) := ⟨_, rfl⟩
  have hml : sms.length = d.length := by rw [hsms]; simp
  rw [show rdL x d = rdG x d sms from by rw [hsms]]
  have hdn := hd'.n
  have hat := fun k (h : k < 5) => rw_at r h
  have hz : ldR d r = (r.l.take 5).foldl (ldS d) 0 := by unfold ldR; rw [List.take_of_length_le (by simp [Rw5.l])]
  rw [hz]
  clear hz
  have hcl : (rwL r).length = 20 := rfl
  have hct : (rwL r).take 20 = rwL r := rfl
  generalize hrc : rwL r = rc at *
  refine pwe Tryz.func142 Tryz.ntmps142 Tryz.results142 fun S nx hd => ?_
  repeat refine pw_seq ?_
  refine pwn ?_
  intro v0
  repeat refine pw_seq ?_
  refine pwn ?_
  intros
  repeat refine pw_seq ?_
  refine pwN [] (jn2 hcl hct) ?_
  intros
  repeat refine pw_seq ?_
  refine pw_block (pw_loopL (fun k : Nat => k ≤ 5 ∧ -(8796093022208 * (k : Int)) ≤ (r.l.take k).foldl (ldS d) 0 ∧ (r.l.take k).foldl (ldS d) 0 ≤ 8796093022208 * k) (fun k => [(0, .ip (rdG x d sms)), (3, .ptr nx v0 0), (5, I ((r.l.take k).foldl (ldS d) 0)), (8, .agg rc), (9, I k)]) (fun _ => [.cells v0 168 rc]) (fun k => 5 - k) 0 [] (by simp) (by simp) (by simp) ?_)
  rintro k ⟨hk, hb1, hb2⟩
  by_cases hk5 : k < 5
  · obtain ⟨p, hp1, hp2, hp3⟩ := hat k hk5
    have hk5' : (k : Int) < 5 := by omega
    have hk6 : 4 ≤ 20 - k * 4 := by omega
    have hok := hr p (List.mem_of_getElem? hp1)
    have hnx : (r.l.take (k + 1)).foldl (ldS d) 0 = ldS d ((r.l.take k).foldl (ldS d) 0) p := by rw [hp3, List.foldl_append]; rfl
    generalize (r.l.take k).foldl (ldS d) 0 = all at *
    have wk := wrN k (by omega)
    repeat refine pw_seq ?_
    refine pwN [] hk5' ?_
    intros
    repeat refine pw_seq ?_
    refine pw_ct rfl ?_
    refine pw_skip (pw_seq (pw_block ?_))
    repeat refine pw_seq ?_
    refine pwN [] (jn5 hp2 hk5 hk5' hcl hk6) ?_
    intro v3
    by_cases hfo : p.f < p.o
    case neg =>
      have hpz : ldS d all p = all := by unfold ldS; rw [if_neg hfo]
      rw [hpz] at hnx
      repeat refine pw_seq ?_
      refine pwN [] hfo ?_
      intros
      repeat refine pw_seq ?_
      refine pw_cf (by simp [hfo]) ?_
      refine pw_skip ?_
      repeat refine pw_seq ?_
      refine pwn ?_
      intros
      exact again_mk (k + 1) [_] ⟨by omega, by rw [hnx]; omega, by rw [hnx]; omega⟩ (by omega) (by simp [wk, hnx]) rfl (by simp; rfl)
    obtain ⟨ht, ho⟩ := hok hfo
    obtain ⟨t, td, tf, a1, hgt, e0, f0⟩ := sm_at hsms ht
    unfold tlen at ho
    rw [hgt] at ho
    have htm := List.mem_of_getElem? a1
    have htl := hd'.t t htm
    have hts := hd'.s t htm
    have ht4 : 4 ≤ d.length * 4 - p.t * 4 := by omega
    have hst : ldS d all p = all + (loadZ (t.take p.o) - loadZ (t.take p.f)) := by unfold ldS; rw [if_pos hfo, hgt]
    rw [hst] at hnx
    have b1 := load_le (t := t.take p.o) (fun a ha => (hts a (List.mem_of_mem_take ha)).2)
    have b2 := load_le (t := t.take p.f) (fun a ha => (hts a (List.mem_of_mem_take ha)).2)
    have b3 : (t.take p.o).length ≤ 1000 := by rw [List.length_take]; omega
    have b4 : (t.take p.f).length ≤ 1000 := by rw [List.length_take]; omega
    have w1 : IntKind.i64.wrap (loadZ (t.take p.o) - loadZ (t.take p.f)) = loadZ (t.take p.o) - loadZ (t.take p.f) := wr _ (by omega) (by omega)
    have w2 : IntKind.i64.wrap (all + (loadZ (t.take p.o) - loadZ (t.take p.f))) = all + (loadZ (t.take p.o) - loadZ (t.take p.f)) := wr _ (by omega) (by omega)
    obtain ⟨z1, hz1⟩ := rng_at (t.length + 1) rfl (fun i => loadZ (t.take i)) (show p.o < t.length + 1 by omega)
    obtain ⟨z2, hz2⟩ := rng_at (t.length + 1) rfl (fun i => loadZ (t.take i)) (show p.f < t.length + 1 by omega)
    have hll : ((List.range (t.length + 1)).map fun i => loadZ (t.take i)).length = t.length + 1 := by simp
    simp only [smZ] at f0
    generalize (List.range t.length).map (fzZ x t) = fl at *
    generalize (List.range t.length).map (bzZ x t) = bl at *
    generalize ((List.range (t.length + 1)).map fun i => loadZ (t.take i)) = ll at *
    generalize wayZ x (t.map (·.c)) = wl at *
    generalize loadZ (t.take p.o) = lo at *
    generalize loadZ (t.take p.f) = lf at *
    have hlf : (ll.flatMap Enc.enc : List PV).length = t.length + 1 := by rw [flen_int, hll]
    have q1 : p.o < t.length + 1 := by omega
    have q2 : p.f < t.length + 1 := by omega
    have q3 : 1 ≤ t.length + 1 - p.o := by omega
    have q4 : 1 ≤ t.length + 1 - p.f := by omega
    have q5 : (p.o : Int) < (t.length : Int) + 1 := by omega
    have q6 : (p.f : Int) < (t.length : Int) + 1 := by omega
    repeat refine pw_seq ?_
    refine pwN [] hfo ?_
    intros
    repeat refine pw_seq ?_
    refine pw_ct (by simp [hfo]) ?_
    repeat refine pw_seq ?_
    refine pwY (some [nx + 1]) (Row.pures [0, 1, 2, 3, 4, 5, 6, 7, 8, 9, 10, 11, 12, 13, 14, 15, 16, 17, 18, 19, 20, 21, 22, 23, 24, 25, 26, 27, 28, 29] .done) mixed (jn6 f0 ht ht4 hml hz1 (jn2 (jn6 hz2 hll hlf q1 q2 q3) (jn5 q4 q5 q6 w1 w2))) ?_
    intros
    repeat refine pw_seq ?_
    refine pwn ?_
    intros
    exact again_mk (k + 1) [_] ⟨by omega, by rw [hnx]; omega, by rw [hnx]; omega⟩ (by omega) (by simp [wk, hnx]) rfl (by simp; rfl)
  · obtain rfl : k = 5 := by omega
    repeat refine pw_seq ?_
    refine pwn ?_
    intros
    repeat refine pw_seq ?_
    refine pw_cf rfl ?_
    refine pw_exit ?_
    repeat refine pw_seq ?_
    refine pwn ?_
    intros
    repeat refine pw_seq ?_
    exact pw_ret (ret_pure hd rfl rfl)
def moreR (x : Inst) (d : Day) (m : Mv) (r1 r2 : Rw5) : Int := lenR x d r1 - wayZ x ((d.getD m.a []).map (·.c)) + (if m.a = m.b then 0 else lenR x d r2 - wayZ x ((d.getD m.b []).map (·.c)))
theorem lenR_bd {x : Inst} (hx : ArcOk x) {d : Day} (hd' : MvDay d) {r : Rw5} (hr : RwOk d r) : -52776558133248 ≤ lenR x d r ∧ lenR x d r ≤ 52776558133248 := by
  have key : ∀ k : Nat, k ≤ 5 → -(8796093022208 * (k : Int)) ≤ ((r.l.take k).foldl (lenS x d) (0, 0)).2 ∧ ((r.l.take k).foldl (lenS x d) (0, 0)).2 ≤ 8796093022208 * k := by
    intro k
    induction k with
    | zero => intro _; simp
    | succ k ih =>
      intro hk
      obtain ⟨h1, h2⟩ := ih (by omega)
      obtain ⟨p, hp1, -, hp3⟩ := rw_at r (show k < 5 by omega)
      have hok := hr p (List.mem_of_getElem? hp1)
      rw [hp3, List.foldl_append, List.foldl_cons, List.foldl_nil]
      generalize (r.l.take k).foldl (lenS x d) (0, 0) = st at *
      unfold lenS
      by_cases hfo : p.f < p.o
      · obtain ⟨ht, ho⟩ := hok hfo
        have htm : d.getD p.t [] ∈ d := List.mem_of_getElem? (i := p.t) (by rw [List.getD_eq_getElem?_getD, List.getElem?_eq_getElem ht]; rfl)
        have htl := hd'.t _ htm
        unfold tlen at ho
        generalize d.getD p.t [] = t at *
        have b1 := fzZ_bd hx t p.f
        have b2 := fzZ_bd hx t (p.o - 1)
        have b3 := bzZ_bd hx t p.f
        have b4 := bzZ_bd hx t (p.o - 1)
        rw [if_pos hfo]
        cases p.b with
        | true =>
          have := arc_bd hx st.1 ((t.getD (p.o - 1) default).c + 1)
          simp only [cond_true]; omega
        | false =>
          have := arc_bd hx st.1 ((t.getD p.f default).c + 1)
          simp only [cond_false]; omega
      · rw [if_neg hfo]; omega
  have h5 := key 5 (by omega)
  rw [List.take_of_length_le (by simp [Rw5.l])] at h5
  have := arc_bd hx (r.l.foldl (lenS x d) (0, 0)).1 0
  unfold lenR
  omega
set_option maxRecDepth 20000 in
set_option maxHeartbeats 3200000 in
theorem rmore_ok (x : Inst) (d : Day) (m : Mv) (r1 r2 : Rw5) (hx : ArcOk x) (hd' : MvDay d) (hr1 : RwOk d r1) (hr2 : RwOk d r2) (ha : m.a < d.length) (hb : m.b < d.length) : Pure Tryz.prog 121 [.ip (rdL x d), .agg (mvL m), .agg (rwL r1), .agg (rwL r2)] (I (moreR x d m r1 r2)) := by
  have l1 := rlen_ok x d r1 hx hd' hr1
  have l2 := rlen_ok x d r2 hx hd' hr2
  have b1 := lenR_bd hx hd' hr1
  have b2 := lenR_bd hx hd' hr2
  obtain ⟨sms, hsms⟩ : ∃ sms, sms = d.map (smZ x) := ⟨_, rfl⟩
  have hml : sms.length = d.length := by rw [hsms]; simp
  rw [show rdL x d = rdG x d sms from by rw [hsms]] at l1 l2 ⊢
  have hdn := hd'.n
  obtain ⟨ta, tda, tfa, a1, hga, -, fa⟩ := sm_at hsms ha
  obtain ⟨tb, tdb, tfb, c1, hgb, -, fb⟩ := sm_at hsms hb
  have wa := wayZ_bd hx (ta.map (·.c))
  have wb := wayZ_bd hx (tb.map (·.c))
  rw [List.length_map] at wa wb
  have hta := hd'.t ta (List.mem_of_getElem? a1)
  have htb := hd'.t tb (List.mem_of_getElem? c1)
  have hdef : moreR x d m r1 r2 = lenR x d r1 - wayZ x (ta.map (·.c)) + (if m.a = m.b then 0 else lenR x d r2 - wayZ x (tb.map (·.c))) := by unfold moreR; rw [hga, hgb]
  rw [hdef]
  clear hdef
  simp only [smZ] at fa fb
  generalize lenR x d r1 = k1 at *
  generalize lenR x d r2 = k2 at *
  generalize wayZ x (ta.map (·.c)) = wl at *
  generalize wayZ x (tb.map (·.c)) = wm at *
  have ha4 : 4 ≤ d.length * 4 - m.a * 4 := by omega
  have hb4 : 4 ≤ d.length * 4 - m.b * 4 := by omega
  have w1 : IntKind.i64.wrap (k1 - wl) = k1 - wl := wr _ (by omega) (by omega)
  have w2 : IntKind.i64.wrap (k2 - wm) = k2 - wm := wr _ (by omega) (by omega)
  have w3 : IntKind.i64.wrap (k1 - wl + (k2 - wm)) = k1 - wl + (k2 - wm) := wr _ (by omega) (by omega)
  have hc1 : (rwL r1).length = 20 := rfl
  have ht1 : (rwL r1).take 20 = rwL r1 := rfl
  have hc2 : (rwL r2).length = 20 := rfl
  have ht2 : (rwL r2).take 20 = rwL r2 := rfl
  generalize hrc1 : rwL r1 = rc1 at *
  generalize hrc2 : rwL r2 = rc2 at *
  refine pwe Tryz.func121 Tryz.ntmps121 Tryz.results121 fun S nx hd => ?_
  repeat refine pw_seq ?_
  refine pwn ?_
  intro v0 v1 v2
  repeat refine pw_seq ?_
  refine pwY (some [nx, nx + 1]) (Row.pures [0, 1, 2, 3, 4, 5, 6, 7, 8, 9, 10, 11, 12, 13] .done) mixed (jn6 hc1 ht1 fa ha ha4 (jn2 hml w1)) ?_
  refine pwP (l1) (jn6 hc1 ht1 fa ha ha4 (jn2 hml w1)) ?_
  intros
  by_cases hab : m.a = m.b
  · have hab' : (m.a : Int) = m.b := by omega
    rw [if_pos hab]
    repeat refine pw_seq ?_
    refine pwN [] hab' ?_
    intros
    repeat refine pw_seq ?_
    refine pw_cf (by simp [hab']) ?_
    refine pw_skip ?_
    repeat refine pw_seq ?_
    refine pwn ?_
    intros
    repeat refine pw_seq ?_
    exact pw_ret (ret_pure hd rfl (by simp [oneOf]))
  · have hab' : ¬ (m.a : Int) = m.b := by omega
    rw [if_neg hab]
    repeat refine pw_seq ?_
    refine pwN [] hab' ?_
    intros
    repeat refine pw_seq ?_
    refine pw_ct (by simp [hab']) ?_
    repeat refine pw_seq ?_
    refine pwY (some [nx, nx + 2]) (Row.pures [0, 1, 2, 3, 4, 5, 6, 7, 8, 9, 10, 11, 12, 13, 14, 15] .done) mixed (jn6 hc2 ht2 fb hb hb4 (jn3 hml w2 w3)) ?_
    refine pwP (l2) (jn6 hc2 ht2 fb hb hb4 (jn3 hml w2 w3)) ?_
    intros
    repeat refine pw_seq ?_
    refine pwn ?_
    intros
    repeat refine pw_seq ?_
    exact pw_ret (ret_pure hd rfl (by simp [oneOf]))
set_option maxRecDepth 20000 in
theorem rfits_ok (x : Inst) (d : Day) (r : Rw5) (hx : ArcOk x) (hd' : MvDay d) (hr : RwOk d r) : Pure Tryz.prog 122 [.ip (rdL x d), .agg (rwL r)] (B (decide (ldR d r ≤ x.cap ∧ lenR x d r ≤ x.len))) := by
  have l1 := rlen_ok x d r hx hd' hr
  have l2 := rload_ok x d r hd' hr
  obtain ⟨sms, hsms⟩ : ∃ sms, sms = d.map (smZ x) := ⟨_, rfl⟩
  rw [show rdL x d = rdG x d sms from by rw [hsms]] at l1 l2 ⊢
  generalize lenR x d r = k1 at *
  generalize ldR d r = k2 at *
  have hc1 : (rwL r).length = 20 := rfl
  have ht1 : (rwL r).take 20 = rwL r := rfl
  generalize hrc1 : rwL r = rc at *
  refine pwe Tryz.func122 Tryz.ntmps122 Tryz.results122 fun S nx hd => ?_
  repeat refine pw_seq ?_
  refine pwn ?_
  intro v0
  by_cases h1 : k2 ≤ x.cap
  · repeat refine pw_seq ?_
    refine pwY (some [nx]) (Row.pures [0, 1, 2, 3, 4, 5, 6, 7, 8, 9, 10, 11, 12, 13, 14, 15, 16, 17, 18, 19, 20] .done) mixed (jn3 hc1 ht1 h1) ?_
    refine pwP (l2) (jn3 hc1 ht1 h1) ?_
    refine pwP (l1) (jn3 hc1 ht1 h1) ?_
    intros
    repeat refine pw_seq ?_
    exact pw_ret (ret_pure hd rfl (by simp [oneOf, h1]))
  · repeat refine pw_seq ?_
    refine pwY (some [nx]) (Row.pures [0, 1, 2, 3, 4, 5, 6, 7, 8, 9, 10, 11, 12, 13, 14, 15, 16, 17, 18, 19, 20] .done) mixed (jn4 hc1 ht1 h1 undef_eq) ?_
    refine pwP (l2) (jn4 hc1 ht1 h1 undef_eq) ?_
    intros
    repeat refine pw_seq ?_
    exact pw_ret (ret_pure hd rfl (by simp [oneOf, h1]))
open Go Go.Proofs
theorem fl_at {α : Type} {W : Nat → List α} {n k i : Nat} {x : α} (hk : k < n) (h : (W k)[i]? = some x) : ((List.range n).flatMap W)[((List.range k).flatMap W).length + i]? = some x := by
  obtain ⟨m, rfl⟩ : ∃ m, n = k + (m + 1) := ⟨n - k - 1, by omega⟩
  have hi := (List.getElem?_eq_some_iff.1 h).1
  rw [List.range_add, List.flatMap_append, List.getElem?_append_right (Nat.le_add_right _ _), Nat.add_sub_cancel_left, List.range_succ_eq_map]
  simp only [List.map_cons, List.flatMap_cons, Nat.add_zero]
  rw [List.getElem?_append_left hi]
  exact h
theorem fl_len {α : Type} (W : Nat → List α) (k : Nat) : ((List.range (k + 1)).flatMap W).length = ((List.range k).flatMap W).length + (W k).length := by
  rw [List.range_succ, List.flatMap_append, List.length_append]; simp
def cellM (d : Day) (k a b i j : Nat) : Option Mv := if mayM d ⟨k, a, b, i, j⟩ = true then some ⟨k, a, b, i, j⟩ else none
def rowM (d : Day) (k a b i : Nat) : List Mv := (List.range (tlen d b + 1)).filterMap (cellM d k a b i)
def placesZ (d : Day) (k a b : Nat) : List Mv := (List.range (tlen d a + 1)).flatMap (rowM d k a b)
def movesK (d : Day) (k a : Nat) : List Mv := (List.range d.length).flatMap (placesZ d k a)
def movesA (d : Day) (k : Nat) : List Mv := (List.range d.length).flatMap (movesK d k)
def movesZ (d : Day) : List Mv := (List.range 4).flatMap (movesA d)
abbrev mvE (m : Mv) : List PV := [.agg (mvL m)]
set_option maxRecDepth 20000 in
set_option maxHeartbeats 3200000 in
theorem places_ok (d : Day) (k a b : Nat) (hdn : d.length ≤ 1048576) (hdt : ∀ t ∈ d, t.length ≤ 1000) (hk : k ≤ 3) (ha : a < d.length) (hb : b < d.length) :
    SubIt Tryz.prog 140 (fun y => [.agg [L d], .agg [I k, I a, I b, I 0, I 0], yld y]) ((placesZ d k a b).map mvE) (B true) := by
  refine sub_enter Tryz.func140 (by rfl) rfl Tryz.ntmps140 (congrArg Array.toList Tryz.results140) (by simp) fun y V keep nx J hJd hY A0 hA0 => ?_
  obtain ⟨ta, xa, a1, -, -, a0⟩ := el1 rfl d a ha
  obtain ⟨tb, xb, b1, -, -, b0⟩ := el1 rfl d b hb
  have ha1 : 1 ≤ d.length - a := by omega
  have hb1 : 1 ≤ d.length - b := by omega
  have la : tlen d a = ta.length := by unfold tlen; rw [List.getD_eq_getElem?_getD, a1]; rfl
  have lb : tlen d b = tb.length := by unfold tlen; rw [List.getD_eq_getElem?_getD, b1]; rfl
  have hal := hdt ta (List.mem_of_getElem? a1)
  have hbl := hdt tb (List.mem_of_getElem? b1)
  have hall : ∀ t ∈ d, t.length ≤ 1048576 := fun t ht => Nat.le_trans (hdt t ht) (by decide)
  have hlook := fun i j (hi : i ≤ 1048576) (hj : j ≤ 1048576) => lookMv_ok d ⟨k, a, b, i, j⟩ hdn hall hk ha hb hi hj
  have hpl : placesZ d k a b = (List.range (ta.length + 1)).flatMap (rowM d k a b) := by unfold placesZ; rw [la]
  have hrow : ∀ i, rowM d k a b i = (List.range (tb.length + 1)).filterMap (cellM d k a b i) := fun i => by unfold rowM; rw [lb]
  rw [hpl] at hY ⊢
  clear hpl la lb
  repeat refine pw_seq ?_
  refine pwn ?_
  intro v0 v1
  repeat refine pw_seq ?_
  refine pwn ?_
  intros
  repeat refine pw_seq ?_
  refine pw_block (pw_loopB (σ := Nat × Int × Store) (fun s' => s'.1 ≤ ta.length + 1 ∧ J ((List.range s'.1).flatMap (rowM d k a b)).length s'.2.2) (fun s' => [(2, yld y), (3, .ptr nx v0 0), (4, .ptr (nx + 1) v1 0)]) (fun s' => s'.2.2)
    (fun (i, jv, _) => [.cells v0 35 [L d], .cells v1 110 [I k, I a, I b, I i, I jv]]) (fun s' => ta.length + 1 - s'.1) (at_mk (0, 0, A0) [] (by simpa using hA0) (by simp) rfl (by simp)) ?_)
  rintro ⟨i, jv, A⟩ ⟨hi, hJ⟩
  simp only at hi hJ ⊢
  repeat refine pw_seq ?_
  refine pwY (some [nx, nx + 1]) (Row.pures [0, 1, 2, 3, 4, 5, 6, 7, 8, 9, 10] .done) mixed (jn3 a0 ha ha1) ?_
  intros
  repeat refine pw_seq ?_
  refine pw_cond rfl (fun hc => ?_) (fun hc => ?_)
  · simp at hc
    have hrl := fl_len (rowM d k a b) i
    refine pw_skip (pw_seq (pw_block ?_))
    repeat refine pw_seq ?_
    refine pwn ?_
    intros
    repeat refine pw_seq ?_
    refine pw_block (pw_loopB (σ := Nat × Store) (fun s' => s'.1 ≤ tb.length + 1 ∧ J (((List.range i).flatMap (rowM d k a b)).length + ((List.range s'.1).filterMap (cellM d k a b i)).length) s'.2) (fun s' => [(2, yld y), (3, .ptr nx v0 0), (4, .ptr (nx + 1) v1 0)]) (fun s' => s'.2)
      (fun (j, _) => [.cells v0 35 [L d], .cells v1 110 [I k, I a, I b, I i, I j]]) (fun s' => tb.length + 1 - s'.1) (at_mk (0, A) [] (by simpa using hJ) (by simp) rfl (by simp)) ?_)
    clear hJ A jv
    rintro ⟨j, A⟩ ⟨hj, hJ⟩
    simp only at hj hJ ⊢
    repeat refine pw_seq ?_
    refine pwY (some [nx, nx + 1]) (Row.pures [0, 1, 2, 3, 4, 5, 6, 7, 8, 9, 10] .done) mixed (jn3 b0 hb hb1) ?_
    intros
    repeat refine pw_seq ?_
    refine pw_cond rfl (fun hcj => ?_) (fun hcj => ?_)
    · simp at hcj
      have hlk := hlook i j (by omega) (by omega)
      have wj := wrN j (by omega)
      refine pw_skip (pw_seq (pw_block ?_))
      cases hm : mayM d ⟨k, a, b, i, j⟩ with
      | true =>
        have hce : cellM d k a b i j = some ⟨k, a, b, i, j⟩ := by unfold cellM; rw [if_pos hm]
        have hlo : lookM d ⟨k, a, b, i, j⟩ = ((cutM d ⟨k, a, b, i, j⟩).1, (cutM d ⟨k, a, b, i, j⟩).2, true) := by unfold lookM; rw [if_pos hm]
        rw [hlo] at hlk
        have hat := fm_at (n := tb.length + 1) (by omega) hce
        rw [← hrow] at hat
        have hat2 := fl_at (W := rowM d k a b) (n := ta.length + 1) (by omega) hat
        have hy : (((List.range (ta.length + 1)).flatMap (rowM d k a b)).map mvE)[((List.range i).flatMap (rowM d k a b)).length + ((List.range j).filterMap (cellM d k a b i)).length]? = some (mvE ⟨k, a, b, i, j⟩) := by
          rw [List.getElem?_map, hat2]; rfl
        have hnx := fm_some hce
        generalize (cutM d ⟨k, a, b, i, j⟩).1 = r1 at *
        generalize (cutM d ⟨k, a, b, i, j⟩).2 = r2 at *
        repeat refine pw_seq ?_
        refine pwn ?_
        refine pwc hlk ?_
        intro v2 v3
        intros
        repeat refine pw_seq ?_
        refine pw_N [(1, 50)] (by rfl) (by rfl) fun K Gc Gh hK hGc hGh X hX0 hX => ?_
        simp -implicitDefEqProofs [hX0, hX]
        try clear hX0 hX X
        refine hGh _ _ _ _ _ fun hsuf => po_yield rfl rfl rfl (hY _ _ _ _ hy hJ) ?_
        rintro _ ⟨A', hJ', rfl⟩
        refine ⟨_, _, rfl, ?_⟩
        clear hGc hGh
        clear Gc Gh
        refine xs_go hsuf (D := [(1, 50)]) (by rfl) fun Gc Gh hGc hGh X hX0 hX => ?_
        simp -implicitDefEqProofs [hX0, hX]
        try clear hX0 hX X
        intros
        refine hK _ _ _ ?_
        clear hK hGc hGh
        clear K Gc Gh
        repeat refine pw_seq ?_
        refine pw_cf rfl ?_
        refine pw_skip ?_
        repeat refine pw_seq ?_
        refine pwn ?_
        intros
        exact again_mk (j + 1, A') [_, _] ⟨by simp; omega, by rw [hnx]; exact hJ'⟩ (by simp; omega) (by simp) rfl (by simp [wj]; exact ⟨rfl, rfl⟩)
      | false =>
        have hce : cellM d k a b i j = none := by unfold cellM; rw [if_neg (by simp [hm])]
        have hlo : lookM d ⟨k, a, b, i, j⟩ = (rw0, rw0, false) := by unfold lookM; rw [if_neg (by simp [hm])]
        rw [hlo] at hlk
        have hnx := fm_none hce
        generalize rw0 = r0 at *
        repeat refine pw_seq ?_
        refine pwn ?_
        refine pwc hlk ?_
        intro v2 v3
        intros
        repeat refine pw_seq ?_
        refine pwN [(1, 50)] undef_eq ?_
        intros
        repeat refine pw_seq ?_
        refine pw_cf rfl ?_
        refine pw_skip ?_
        repeat refine pw_seq ?_
        refine pwn ?_
        intros
        exact again_mk (j + 1, A) [_, _] ⟨by simp; omega, by rw [hnx]; exact hJ⟩ (by simp; omega) (by simp) rfl (by simp [wj]; exact ⟨rfl, rfl⟩)
    · simp at hcj
      obtain rfl : j = tb.length + 1 := by omega
      rw [← hrow, ← hrl] at hJ
      refine pw_exit ?_
      have wi := wrN i (by omega)
      repeat refine pw_seq ?_
      refine pwn ?_
      intros
      exact again_mk (i + 1, ((tb.length + 1 : Nat) : Int), A) [] ⟨by simp; omega, hJ⟩ (by simp; omega) (by simp) rfl (by simp [wi])
  · simp at hc
    obtain rfl : i = ta.length + 1 := by omega
    refine pw_exit ?_
    repeat refine pw_seq ?_
    refine pwn ?_
    intros
    repeat refine pw_seq ?_
    exact pw_ret (ret_sub (hJd _ _ hJ) (by simp; rfl) (by simp [oneOf]) (by simpa using hJ))
set_option maxRecDepth 20000 in
theorem eachMv_ok (d : Day) : Pure Tryz.prog 119 [.agg [L d]] (.fn (.func 138) [] [.ip [L d]]) := by
  refine pwe Tryz.func119 Tryz.ntmps119 Tryz.results119 fun S nx hd => ?_
  repeat refine pw_seq ?_
  refine pwn ?_
  intro v0
  repeat refine pw_seq ?_
  refine pwn ?_
  intros
  refine pw_frq 0 rfl ?_
  repeat refine pw_seq ?_
  exact pw_ret (ret_pure hd (by simp; rfl) rfl)
set_option maxRecDepth 20000 in
set_option maxHeartbeats 3200000 in
theorem each_moves (d : Day) (hdn : d.length ≤ 1000) (hdt : ∀ t ∈ d, t.length ≤ 1000) : Iter Tryz.prog 138 [.ip [L d]] ((movesZ d).map mvE) := by
  have hpl := fun k a b (hk : k ≤ 3) (ha : a < d.length) (hb : b < d.length) => places_ok d k a b (by omega) hdt hk ha hb
  have hkinds := kinds_ok
  generalize kindsL = kl at hkinds
  refine iter_enter Tryz.func138 (by rfl) rfl Tryz.ntmps138 (congrArg Array.toList Tryz.results138) (by simp) fun l V keep nx J hJd hY A0 hA0 => ?_
  repeat refine pw_seq ?_
  refine pwn ?_
  refine pwc hkinds ?_
  intros
  repeat refine pw_seq ?_
  refine pw_block (pw_loopB (σ := Nat × Store) (fun s' => s'.1 ≤ 4 ∧ J ((List.range s'.1).flatMap (movesA d)).length s'.2) (fun s' => [(0, yld l), (1, .ip [L d]), (7, I s'.1)]) (fun s' => s'.2) (fun _ => []) (fun s' => 4 - s'.1) (at_mk (0, A0) [] (by simpa using hA0) (by simp) rfl (by simp)) ?_)
  rintro ⟨k, A⟩ ⟨hk, hJ⟩
  simp only at hk hJ ⊢
  by_cases hk4 : k < 4
  · have hk4' : (k : Int) < 4 := by omega
    have hlA := fl_len (movesA d) k
    repeat refine pw_seq ?_
    refine pwN [] hk4' ?_
    intros
    repeat refine pw_seq ?_
    refine pw_ct rfl ?_
    refine pw_skip (pw_seq (pw_block ?_))
    repeat refine pw_seq ?_
    refine pwn ?_
    intros
    repeat refine pw_seq ?_
    refine pwn ?_
    intros
    repeat refine pw_seq ?_
    refine pw_block (pw_loopB (σ := Nat × Store) (fun s' => s'.1 ≤ d.length ∧ J (((List.range k).flatMap (movesA d)).length + ((List.range s'.1).flatMap (movesK d k)).length) s'.2) (fun s' => [(0, yld l), (1, .ip [L d]), (3, I k), (7, I k), (12, I d.length), (13, I s'.1)]) (fun s' => s'.2) (fun _ => []) (fun s' => d.length - s'.1) (at_mk (0, A) [] (by simpa using hJ) (by simp) rfl (by simp)) ?_)
    clear hJ A
    rintro ⟨a, A⟩ ⟨ha, hJ⟩
    simp only at ha hJ ⊢
    repeat refine pw_seq ?_
    refine pwn ?_
    intros
    repeat refine pw_seq ?_
    refine pw_cond rfl (fun hca => ?_) (fun hca => ?_)
    · simp at hca
      have hlK := fl_len (movesK d k) a
      refine pw_skip (pw_seq (pw_block ?_))
      repeat refine pw_seq ?_
      refine pwn ?_
      intros
      repeat refine pw_seq ?_
      refine pwn ?_
      intros
      repeat refine pw_seq ?_
      refine pw_block (pw_loopB (σ := Nat × Store) (fun s' => s'.1 ≤ d.length ∧ J (((List.range k).flatMap (movesA d)).length + ((List.range a).flatMap (movesK d k)).length + ((List.range s'.1).flatMap (placesZ d k a)).length) s'.2) (fun s' => [(0, yld l), (1, .ip [L d]), (3, I k), (4, I a), (7, I k), (12, I d.length), (13, I a), (18, I d.length), (19, I s'.1)]) (fun s' => s'.2) (fun _ => []) (fun s' => d.length - s'.1) (at_mk (0, A) [] (by simpa using hJ) (by simp) rfl (by simp)) ?_)
      clear hJ A
      rintro ⟨b, A⟩ ⟨hb, hJ⟩
      simp only at hb hJ ⊢
      repeat refine pw_seq ?_
      refine pwn ?_
      intros
      repeat refine pw_seq ?_
      refine pw_cond rfl (fun hcb => ?_) (fun hcb => ?_)
      · simp at hcb
        have hw := hpl k a b (by omega) hca hcb
        have hlP := fl_len (placesZ d k a) b
        have hin : ∀ (i : Nat) (x : List PV), ((placesZ d k a b).map mvE)[i]? = some x → ((movesZ d).map mvE)[((List.range k).flatMap (movesA d)).length + ((List.range a).flatMap (movesK d k)).length + ((List.range b).flatMap (placesZ d k a)).length + i]? = some x := by
          intro i x hx
          rw [List.getElem?_map] at hx ⊢
          obtain ⟨m, hm, rfl⟩ := Option.map_eq_some_iff.1 hx
          have e1 := fl_at (W := placesZ d k a) (n := d.length) hcb hm
          have e2 := fl_at (W := movesK d k) (n := d.length) hca e1
          have e3 := fl_at (W := movesA d) (n := 4) hk4 e2
          rw [Nat.add_assoc, Nat.add_assoc]
          unfold movesZ
          rw [e3]; rfl
        refine pw_skip (pw_seq (pw_block ?_))
        repeat refine pw_seq ?_
        refine pwn ?_
        intros
        repeat refine pw_seq ?_
        refine pw_N [] (by rfl) (by rfl) fun K Gc Gh hK hGc hGh X hX0 hX => ?_
        simp -implicitDefEqProofs [hX0, hX]
        try clear hX0 hX X
        refine hGc _ _ _ _ _ _ _ fun hsuf => ((sub_use hw keep hY _ hin hJ _).mono ?_)
        rintro _ _ ⟨A', rfl, hJ', rfl⟩
        rw [List.length_map, Nat.add_assoc, ← hlP] at hJ'
        refine ⟨_, _, rfl, ?_⟩
        clear hGc hGh
        clear Gc Gh
        refine xs_go hsuf (D := []) (by rfl) fun Gc Gh hGc hGh X hX0 hX => ?_
        simp -implicitDefEqProofs [hX0, hX]
        clear hX0 hX X
        intros
        refine hK _ _ _ ?_
        clear hK hGc hGh
        clear K Gc Gh
        repeat refine pw_seq ?_
        refine pw_cf rfl ?_
        refine pw_skip ?_
        repeat refine pw_seq ?_
        refine pwn ?_
        intros
        exact again_mk (b + 1, A') [] ⟨hcb, hJ'⟩ (by simp; omega) (by simp [wrN b (by omega)]) rfl (by simp)
      · simp at hcb
        obtain rfl : b = d.length := by omega
        refine pw_exit ?_
        have hJ2 : J (((List.range k).flatMap (movesA d)).length + ((List.range (a + 1)).flatMap (movesK d k)).length) A := by rw [hlK, ← Nat.add_assoc]; exact hJ
        repeat refine pw_seq ?_
        refine pwn ?_
        intros
        exact again_mk (a + 1, A) [] ⟨hca, hJ2⟩ (by simp; omega) (by simp [wrN a (by omega)]) rfl (by simp)
    · simp at hca
      obtain rfl : a = d.length := by omega
      refine pw_exit ?_
      have hJ2 : J ((List.range (k + 1)).flatMap (movesA d)).length A := by rw [hlA]; exact hJ
      repeat refine pw_seq ?_
      refine pwn ?_
      intros
      exact again_mk (k + 1, A) [] ⟨hk4, hJ2⟩ (by simp; omega) (by simp [wrN k (by omega)]) rfl (by simp)
  · obtain rfl : k = 4 := by omega
    repeat refine pw_seq ?_
    refine pwn ?_
    intros
    repeat refine pw_seq ?_
    refine pw_cf rfl ?_
    refine pw_exit (ret_iter (hJd _ _ hJ) rfl ?_)
    rw [List.length_map]; exact hJ
open Go Go.Proofs
theorem cut_rows {d : Day} {m : Mv} (h : mayM d m = true) : m.k ≤ 3 ∧ m.a < d.length ∧ m.b < d.length ∧ RwOk d (cutM d m).1 ∧ RwOk d (cutM d m).2 := by
  unfold mayM at h
  rw [Bool.and_eq_true] at h
  obtain ⟨h1, h2⟩ := h
  have h1 := of_decide_eq_true h1
  refine ⟨h1.1, h1.2.1, h1.2.2, ?_⟩
  unfold mayZ at h2
  unfold cutM cutZ
  have e0 := rw0_ok d
  have key : ∀ p : Pc, PcOk d p ↔ (p.f < p.o → p.t < d.length ∧ p.o ≤ tlen d p.t) := fun _ => Iff.rfl
  by_cases k0 : m.k = 0
  · rw [if_pos k0] at h2 ⊢
    have h2 := of_decide_eq_true h2
    refine ⟨?_, e0⟩
    intro p hp
    simp only [Rw5.l, List.mem_cons, List.not_mem_nil, or_false] at hp
    rcases hp with rfl | rfl | rfl | rfl | rfl <;> refine (key _).2 ?_ <;> simp only [pc0] <;> omega
  rw [if_neg k0] at h2 ⊢
  by_cases k1 : m.k = 1
  · rw [if_pos k1] at h2 ⊢
    have h2 := of_decide_eq_true h2
    by_cases hab : m.a = m.b
    · rw [if_pos hab, hab] at h2
      rw [if_neg (by simp [hab])]
      by_cases hij : m.i < m.j
      · rw [if_pos hij]
        refine ⟨?_, e0⟩
        intro p hp
        simp only [Rw5.l, List.mem_cons, List.not_mem_nil, or_false] at hp
        rcases hp with rfl | rfl | rfl | rfl | rfl <;> refine (key _).2 ?_ <;> simp only [pc0] <;> (try rw [hab]) <;> omega
      · rw [if_neg hij]
        refine ⟨?_, e0⟩
        intro p hp
        simp only [Rw5.l, List.mem_cons, List.not_mem_nil, or_false] at hp
        rcases hp with rfl | rfl | rfl | rfl | rfl <;> refine (key _).2 ?_ <;> simp only [pc0] <;> (try rw [hab]) <;> omega
    · rw [if_neg hab] at h2
      rw [if_pos hab]
      constructor <;> intro p hp <;> simp only [Rw5.l, List.mem_cons, List.not_mem_nil, or_false] at hp <;> rcases hp with rfl | rfl | rfl | rfl | rfl <;> refine (key _).2 ?_ <;> simp only [pc0] <;> omega
  rw [if_neg k1] at h2 ⊢
  by_cases k2 : m.k = 2
  · rw [if_pos k2] at h2 ⊢
    have h2 := of_decide_eq_true h2
    by_cases hab : m.a = m.b
    · rw [if_pos hab]
      rw [hab] at h2
      refine ⟨?_, e0⟩
      intro p hp
      simp only [Rw5.l, List.mem_cons, List.not_mem_nil, or_false] at hp
      rcases hp with rfl | rfl | rfl | rfl | rfl <;> refine (key _).2 ?_ <;> simp only [pc0, hab] <;> omega
    · rw [if_neg hab]
      constructor <;> intro p hp <;> simp only [Rw5.l, List.mem_cons, List.not_mem_nil, or_false] at hp <;> rcases hp with rfl | rfl | rfl | rfl | rfl <;> refine (key _).2 ?_ <;> simp only [pc0] <;> omega
  rw [if_neg k2] at h2 ⊢
  have h2 := of_decide_eq_true h2
  constructor <;> intro p hp <;> simp only [Rw5.l, List.mem_cons, List.not_mem_nil, or_false] at hp <;> rcases hp with rfl | rfl | rfl | rfl | rfl <;> refine (key _).2 ?_ <;> simp only [pc0] <;> omega
theorem movesZ_mem {d : Day} {m : Mv} : m ∈ movesZ d → mayM d m = true ∧ m.i ≤ tlen d m.a ∧ m.j ≤ tlen d m.b := by
  unfold movesZ movesA movesK placesZ rowM cellM
  intro h
  simp only [List.mem_flatMap, List.mem_range, List.mem_filterMap] at h
  obtain ⟨k, hk, a, ha, b, hb, i, hi, j, hj, h⟩ := h
  split at h
  · rename_i hm
    cases h
    exact ⟨hm, by simp only; omega, by simp only; omega⟩
  · cases h
def mv0 : Mv := ⟨0, 0, 0, 0, 0⟩
def fitR (x : Inst) (d : Day) (r : Rw5) : Prop := ldR d r ≤ x.cap ∧ lenR x d r ≤ x.len
instance (x : Inst) (d : Day) (r : Rw5) : Decidable (fitR x d r) := by unfold fitR; infer_instance
def byM (x : Inst) (d : Day) (m : Mv) : Int := moreR x d m (cutM d m).1 (cutM d m).2
def mbS (x : Inst) (d : Day) (st : Mv × Int) (m : Mv) : Mv × Int := if byM x d m < st.2 ∧ fitR x d (cutM d m).1 ∧ fitR x d (cutM d m).2 then (m, byM x d m) else st
def mbZ (x : Inst) (d : Day) : Mv × Int := (movesZ d).foldl (mbS x d) (mv0, 0)
set_option maxRecDepth 20000 in
set_option maxHeartbeats 3200000 in
theorem best_ok (x : Inst) (d : Day) (hx : ArcOk x) (hd' : MvDay d) : Pure Tryz.prog 90 [.agg (instL x), .agg [L d]] (.tup [.agg (mvL (mbZ x d).1), I (mbZ x d).2, B (decide ((mbZ x d).2 < 0))]) := by
  have hdn := hd'.n
  have hit := each_moves d hdn hd'.t
  have hread := read_ok x d hx hd'
  have hfacts : ∀ m ∈ movesZ d, Pure Tryz.prog 120 [.agg [L d], .agg (mvL m)] (.tup [.agg (rwL (cutM d m).1), .agg (rwL (cutM d m).2), B true]) ∧ Pure Tryz.prog 121 [.ip (rdL x d), .agg (mvL m), .agg (rwL (cutM d m).1), .agg (rwL (cutM d m).2)] (I (byM x d m)) ∧
      Pure Tryz.prog 122 [.ip (rdL x d), .agg (rwL (cutM d m).1)] (B (decide (fitR x d (cutM d m).1))) ∧ Pure Tryz.prog 122 [.ip (rdL x d), .agg (rwL (cutM d m).2)] (B (decide (fitR x d (cutM d m).2))) := by
    intro m hm
    obtain ⟨h1, h2, h3⟩ := movesZ_mem hm
    obtain ⟨hk, ha, hb, r1, r2⟩ := cut_rows h1
    have hl : ∀ a, tlen d a ≤ 1000 := by
      intro a
      unfold tlen
      rw [List.getD_eq_getElem?_getD]
      cases hq : d[a]? with
      | none => simp
      | some l => exact hd'.t l (List.mem_of_getElem? hq)
    have hla := hl m.a
    have hlb := hl m.b
    have hlk := lookMv_ok d m (by omega) (fun t ht => Nat.le_trans (hd'.t t ht) (by decide)) hk ha hb (by omega) (by omega)
    unfold lookM at hlk
    rw [if_pos h1] at hlk
    exact ⟨hlk, rmore_ok x d m _ _ hx hd' r1 r2 ha hb, rfits_ok x d _ hx hd' r1, rfits_ok x d _ hx hd' r2⟩
  unfold mbZ
  generalize movesZ d = xs at *
  generalize rdL x d = rd at *
  have hea := eachMv_ok d
  refine pwe Tryz.func90 Tryz.ntmps90 Tryz.results90 fun S nx hd => ?_
  repeat refine pw_seq ?_
  refine pwn ?_
  intro v0 v1 v2
  repeat refine pw_seq ?_
  refine pwn ?_
  refine pwc hread ?_
  intro v3
  intros
  repeat refine pw_seq ?_
  refine pwn ?_
  intro v4 v5
  repeat refine pw_seq ?_
  refine pwn ?_
  refine pwc hea ?_
  intros
  repeat refine pw_seq ?_
  refine pw_block (pw_rangeFunc (xs := xs.map mvE) (σ := Mv × Int) (fun i st => st = (xs.take i).foldl (mbS x d) (mv0, 0)) [(2, .ptr nx v0 0), (3, .ptr (nx + 1) v1 0), (4, .ptr (nx + 2) v2 0), (7, .ptr (nx + 3) v3 0), (8, .ptr (nx + 4) v4 0), (9, .ptr (nx + 5) v5 0)] (fun _ => S)
    (fun (b, least) => [.cells v0 25 (instL x), .cells v1 35 [L d], .cells v2 110 [I 0, I 0, I 0, I 0, I 0], .cells v3 160 [.ip rd], .cells v4 110 (mvL b), .cells v5 3 [I least]]) (mv0, 0)
    hit rfl (by intro x hx; obtain ⟨y, _, rfl⟩ := List.mem_map.1 hx; rfl) (by decide) (by simp) (by simp) rfl (by simp [mv0]) (by simp [mv0]) ?_ ?_)
  · rintro l i ⟨b, least⟩ more y hst hy
    simp only at hst ⊢
    rw [List.getElem?_map] at hy
    obtain ⟨m, hm, rfl⟩ := Option.map_eq_some_iff.1 hy
    have hsucc := foldl_at (f := mbS x d) (b := (mv0, 0)) hm
    rw [← hst] at hsucc
    obtain ⟨f1, f2, f3, f4⟩ := hfacts m (List.mem_of_getElem? hm)
    unfold mbS at hsucc
    simp only at hsucc
    generalize (cutM d m).1 = r1 at *
    generalize (cutM d m).2 = r2 at *
    generalize byM x d m = by_ at *
    repeat refine pw_seq ?_
    refine pwn ?_
    intro v6
    refine pw_block ?_
    repeat refine pw_seq ?_
    refine pwn ?_
    refine pwc f1 ?_
    intro v7 v8
    intros
    repeat refine pw_seq ?_
    refine pwn ?_
    refine pwc f2 ?_
    intros
    by_cases hlt : by_ < least
    · repeat refine pw_seq ?_
      refine pwN [(3, 37), (8, 42)] hlt ?_
      refine pwC [(3, 37), (8, 42)] f3 hlt ?_
      by_cases hf1 : fitR x d r1
      · rw [decide_eq_true hf1]
        intros
        refine pwC [(3, 37), (8, 42)] f4 hlt ?_
        intros
        by_cases hf2 : fitR x d r2
        · rw [if_pos ⟨hlt, hf1, hf2⟩] at hsucc
          repeat refine pw_seq ?_
          refine pw_ct (by simp [hf2]) ?_
          repeat refine pw_seq ?_
          refine pwn ?_
          intros
          simp only [inBlockQ]
          exact rnd_mk (m, by_) [_, _, _] hsucc.symm rfl (by simp; exact ⟨rfl, rfl, rfl⟩)
        · rw [if_neg fun e => hf2 e.2.2] at hsucc
          repeat refine pw_seq ?_
          refine pw_cf (by simp [hf2]) ?_
          refine pw_skip ?_
          simp only [inBlockQ]
          exact rnd_mk (b, least) [_, _, _] hsucc.symm rfl (by simp; exact ⟨rfl, rfl, rfl⟩)
      · rw [decide_eq_false hf1]
        rw [if_neg fun e => hf1 e.2.1] at hsucc
        intros
        repeat refine pw_seq ?_
        refine pw_cf rfl ?_
        refine pw_skip ?_
        simp only [inBlockQ]
        exact rnd_mk (b, least) [_, _, _] hsucc.symm rfl (by simp; exact ⟨rfl, rfl, rfl⟩)
    · rw [if_neg fun e => hlt e.1] at hsucc
      repeat refine pw_seq ?_
      refine pwN [(3, 37), (8, 42)] (jn2 hlt undef_eq) ?_
      intros
      repeat refine pw_seq ?_
      refine pw_cf rfl ?_
      refine pw_skip ?_
      simp only [inBlockQ]
      exact rnd_mk (b, least) [_, _, _] hsucc.symm rfl (by simp; exact ⟨rfl, rfl, rfl⟩)
  · rintro ⟨b, least⟩ hst
    rw [List.take_of_length_le (by simp)] at hst
    simp only at hst ⊢
    rw [← hst]
    repeat refine pw_seq ?_
    refine pwY (some [nx + 4, nx + 5]) (Row.pures [0, 1, 2, 3] (.alt 4 (Row.pures [5, 6] .done) .stop)) mixed trivial ?_
    intros
    repeat refine pw_seq ?_
    exact pw_ret (ret_pure hd (by simp; rfl) (by simp [oneOf]))
open Go Go.Proofs
def mkT (d : Day) (m : Mv) (i : Nat) : Tour := if i = m.a then gatherZ d (cutM d m).1 else if i = m.b then gatherZ d (cutM d m).2 else d.getD i []
def mkT1 (d : Day) (m : Mv) (i : Nat) : Option Tour := if (mkT d m i).length = 0 then none else some (mkT d m i)
def mkZ (d : Day) (m : Mv) : Day := (List.range d.length).filterMap (mkT1 d m)
theorem gather_len {d : Day} {r : Rw5} {k : Nat} (h : ∀ t ∈ d, t.length ≤ k) : (gatherZ d r).length ≤ 5 * k := by
  have h1 := fun p => piece_len (d := d) (p := p) h
  have a1 := h1 r.a
  have a2 := h1 r.b
  have a3 := h1 r.c
  have a4 := h1 r.d
  have a5 := h1 r.e
  unfold gatherZ Rw5.l
  simp only [List.flatMap_cons, List.flatMap_nil, List.length_append, List.append_nil]
  omega
set_option maxRecDepth 20000 in
set_option maxHeartbeats 3200000 in
theorem make_ok (x : Inst) (d : Day) (m : Mv) (hdn : d.length ≤ 1000) (hdt : ∀ t ∈ d, t.length ≤ 1000) (hm : mayM d m = true) (hi : m.i ≤ 1048576) (hj : m.j ≤ 1048576) : Pure Tryz.prog 91 [.agg (instL x), .agg [L d], .agg (mvL m)] (.tup [.agg [L (mkZ d m)], I 0]) := by
  obtain ⟨hk, ha, hb, r1, r2⟩ := cut_rows hm
  have hlk := lookMv_ok d m (by omega) (fun t ht => Nat.le_trans (hdt t ht) (by decide)) hk ha hb hi hj
  unfold lookM at hlk
  rw [if_pos hm] at hlk
  have g1 := gather_ok d _ (by omega) hdt r1
  have g2 := gather_ok d _ (by omega) hdt r2
  have n1 := gather_len (r := (cutM d m).1) hdt
  have n2 := gather_len (r := (cutM d m).2) hdt
  have hmk : ∀ i, mkT d m i = if i = m.a then gatherZ d (cutM d m).1 else if i = m.b then gatherZ d (cutM d m).2 else d.getD i [] := fun _ => rfl
  generalize gatherZ d (cutM d m).1 = t1 at *
  generalize gatherZ d (cutM d m).2 = t2 at *
  generalize (cutM d m).1 = c1 at *
  generalize (cutM d m).2 = c2 at *
  have hme : mkZ d m = (List.range d.length).filterMap (mkT1 d m) := rfl
  rw [hme]
  clear hme
  refine pwe Tryz.func91 Tryz.ntmps91 Tryz.results91 fun S nx hd => ?_
  repeat refine pw_seq ?_
  refine pwn ?_
  intro v0 v1 v2 v3
  repeat refine pw_seq ?_
  refine pwn ?_
  refine pwc hlk ?_
  intro v4 v5
  intros
  repeat refine pw_seq ?_
  refine pwn ?_
  intros
  repeat refine pw_seq ?_
  refine pw_cf rfl ?_
  refine pw_skip ?_
  repeat refine pw_seq ?_
  refine pwn ?_
  intro v6
  refine pw_nilObX 6 0 66 1 rfl rfl fun v7 => ?_
  repeat refine pw_seq ?_
  refine pwn ?_
  intros
  repeat refine pw_seq ?_
  refine pw_block (pw_loopL (fun s' : Nat × Nat => s'.1 ≤ d.length) (fun (k, v7) => [(4, .ptr (nx + 1) v1 0), (5, .ptr (nx + 2) v2 0), (6, .ptr (nx + 3) v3 0), (8, .ptr (nx + 4) v4 0), (9, .ptr (nx + 5) v5 0), (11, .ptr (nx + 6) v6 0), (26, L d), (27, I d.length), (28, I k)])
    (fun (k, v7) => [.cells v0 25 (instL x), .cells v1 35 [L d], .cells v2 110 (mvL m), .cells v3 35 [nilS], .cells v4 168 (rwL c1), .cells v5 168 (rwL c2), .cells v6 35 [.sl (nx + 7) v7 1 0 ((List.range k).filterMap (mkT1 d m)).length], .cells v7 66 (((List.range k).filterMap (mkT1 d m)).flatMap Enc.enc)]) (fun s' => d.length - s'.1) (0, v7) [] (by simp) (by simp) (by simp) ?_)
  rintro ⟨k, v7⟩ hk0
  simp only at hk0 ⊢
  repeat refine pw_seq ?_
  refine pwn ?_
  intros
  repeat refine pw_seq ?_
  refine pw_cond rfl (fun hc => ?_) (fun hc => ?_)
  · simp at hc
    obtain ⟨t, tl, a1, a2, a3, e0⟩ := el1 rfl d k hc
    have hk1 : 1 ≤ d.length - k := by omega
    have htl := hdt t (List.mem_of_getElem? a1)
    have hcl := cloneP_ok t (by omega)
    have hgk : d.getD k [] = t := by rw [List.getD_eq_getElem?_getD, a1]; rfl
    have hmkk := hmk k
    have hlen : ((List.range k).filterMap (mkT1 d m)).length ≤ k := by have := List.length_filterMap_le (mkT1 d m) (List.range k); simpa using this
    have hnext : (List.range (k + 1)).filterMap (mkT1 d m) = (List.range k).filterMap (mkT1 d m) ++ (mkT1 d m k).toList := by
      rw [List.range_succ, List.filterMap_append]
      simp only [List.filterMap_cons, List.filterMap_nil]
      cases mkT1 d m k <;> rfl
    have hT1 : mkT1 d m k = if (mkT d m k).length = 0 then none else some (mkT d m k) := rfl
    rw [hgk] at hmkk
    have hTl : (mkT d m k).length ≤ 5000 := by rw [hmkk]; (repeat' split) <;> omega
    have hof : (((List.range k).filterMap (mkT1 d m)).flatMap Enc.enc : List PV).length = ((List.range k).filterMap (mkT1 d m)).length := flen_list _
    generalize (List.range k).filterMap (mkT1 d m) = out at *
    have hot : (out.flatMap Enc.enc : List PV).take out.length = out.flatMap Enc.enc := List.take_of_length_le (by omega)
    have wk := wrN k (by omega)
    refine pw_skip (pw_seq (pw_block ?_))
    repeat refine pw_seq ?_
    refine pwN [] (jn3 e0 hc hk1) ?_
    intro v8
    repeat refine pw_seq ?_
    refine pwn ?_
    refine pwc hcl ?_
    intros
    repeat refine pw_seq ?_
    refine pwn ?_
    intros
    repeat refine pw_seq ?_
    refine pw_joinK (nx := nx) (fun _ : Unit => True) (fun _ => [(4, .ptr (nx + 1) v1 0), (5, .ptr (nx + 2) v2 0), (6, .ptr (nx + 3) v3 0), (8, .ptr (nx + 4) v4 0), (9, .ptr (nx + 5) v5 0), (11, .ptr (nx + 6) v6 0), (14, L (mkT d m k)), (26, L d), (27, I d.length), (28, I k)]) (fun _ => S)
      (fun _ => [.cells v0 25 (instL x), .cells v1 35 [L d], .cells v2 110 (mvL m), .cells v3 35 [nilS], .cells v4 168 (rwL c1), .cells v5 168 (rwL c2), .cells v6 35 [.sl (nx + 7) v7 1 0 out.length], .cells v7 66 (out.flatMap Enc.enc), .cells v8 66 [L t]]) ?_ ?_
    · refine pw_block ?_
      by_cases h1 : k = m.a
      · rw [if_pos h1] at hmkk
        have h1' : (k : Int) = m.a := by omega
        rw [hmkk]
        repeat refine pw_seq ?_
        refine pwn ?_
        intros
        repeat refine pw_seq ?_
        refine pw_ct (by simp; omega) ?_
        repeat refine pw_seq ?_
        refine pwn ?_
        refine pwc g1 ?_
        intros
        simp only [inBlockQ]
        exact at_mk () [] trivial (by simp) rfl (by simp)
      · rw [if_neg h1] at hmkk
        have h1' : ¬ (k : Int) = m.a := by omega
        repeat refine pw_seq ?_
        refine pwn ?_
        intros
        repeat refine pw_seq ?_
        refine pw_cf (by simp; omega) ?_
        by_cases h2 : k = m.b
        · rw [if_pos h2] at hmkk
          have h2' : (k : Int) = m.b := by omega
          rw [hmkk]
          repeat refine pw_seq ?_
          refine pwn ?_
          intros
          repeat refine pw_seq ?_
          refine pw_ct (by simp; omega) ?_
          repeat refine pw_seq ?_
          refine pwn ?_
          refine pwc g2 ?_
          intros
          simp only [inBlockQ]
          exact at_mk () [] trivial (by simp) rfl (by simp)
        · rw [if_neg h2] at hmkk
          have h2' : ¬ (k : Int) = m.b := by omega
          rw [hmkk]
          repeat refine pw_seq ?_
          refine pwn ?_
          intros
          repeat refine pw_seq ?_
          refine pw_cf (by simp; omega) ?_
          refine pw_skip ?_
          simp only [inBlockQ]
          exact at_mk () [] trivial (by simp) rfl (by simp)
    · rintro ⟨⟩ -
      generalize mkT d m k = tt at *
      clear hmkk hcl e0
      by_cases h0 : tt.length = 0
      · have e : (mkT1 d m k).toList = [] := by rw [hT1, if_pos h0]; rfl
        have h0' : ¬ 0 < tt.length := by omega
        repeat refine pw_seq ?_
        refine pwN [] h0' ?_
        intros
        repeat refine pw_seq ?_
        refine pw_cf (by simp [h0']) ?_
        refine pw_skip ?_
        repeat refine pw_seq ?_
        refine pwn ?_
        intros
        exact again_mk (k + 1, v7) [_] (by simp; omega) (by simp; omega) (by simp [wk, hnext, e]) rfl (by simp [hnext, e]; rfl)
      · have e : (mkT1 d m k).toList = [tt] := by rw [hT1, if_neg h0]; rfl
        have h0' : 0 < tt.length := by omega
        repeat refine pw_seq ?_
        refine pwN [] h0' ?_
        intros
        repeat refine pw_seq ?_
        refine pw_ct (by simp [h0']) ?_
        repeat refine pw_seq ?_
        refine pwN [] (jn2 hof hot) ?_
        refine ⟨by omega, ?_⟩
        intros
        repeat refine pw_seq ?_
        refine pwn ?_
        intros
        exact again_mk (k + 1, v7 + 1) [_] (by simp; omega) (by simp; omega) (by simp [wk, hnext, e]) rfl (by simp [hnext, e]; rfl)
  · simp at hc
    obtain rfl : k = d.length := by omega
    refine pw_exit ?_
    refine pw_frz 7 rfl ?_
    repeat refine pw_seq ?_
    refine pwn ?_
    intros
    repeat refine pw_seq ?_
    exact pw_ret (ret_pure hd (by simp; rfl) (by simp [oneOf]))
open Go Go.Proofs
def kSt (d : Day) (s : Stop) (t k : Nat) : Nat := ((d.getD t []).take k).count s
theorem kSt0 (d : Day) (s : Stop) (t : Nat) : kSt d s t 0 = 0 := by simp [kSt]
theorem kSt1 (d : Day) (s : Stop) (t : Nat) : kSt d s t (tlen d t) = (d.getD t []).count s := by unfold kSt tlen; rw [List.take_length]
theorem piece_count (d : Day) (s : Stop) (p : Pc) : p.f ≤ p.o → (pieceZ d p).count s + kSt d s p.t p.f = kSt d s p.t p.o := by
  intro h
  unfold pieceZ kSt
  generalize d.getD p.t [] = u
  by_cases hf : p.f < p.o
  · rw [if_pos hf, show p.o = p.f + (p.o - p.f) by omega, List.take_add, List.count_append, show p.f + (p.o - p.f) - p.f = p.o - p.f by omega]
    cases p.b
    · rw [cond_false]; omega
    · rw [cond_true, List.count_reverse]; omega
  · rw [if_neg hf, show p.o = p.f by omega]; simp
theorem gather_count (d : Day) (s : Stop) (r : Rw5) : (gatherZ d r).count s = (pieceZ d r.a).count s + (pieceZ d r.b).count s + (pieceZ d r.c).count s + (pieceZ d r.d).count s + (pieceZ d r.e).count s := by
  unfold gatherZ Rw5.l
  simp only [List.flatMap_cons, List.flatMap_nil, List.count_append, List.append_nil]
  omega
theorem cut_count {d : Day} {m : Mv} (h : mayM d m = true) (s : Stop) : (gatherZ d (cutM d m).1).count s + (if m.a = m.b then 0 else (gatherZ d (cutM d m).2).count s) = (d.getD m.a []).count s + (if m.a = m.b then 0 else (d.getD m.b []).count s) := by
  unfold mayM at h
  rw [Bool.and_eq_true] at h
  obtain ⟨-, h2⟩ := h
  unfold mayZ at h2
  unfold cutM cutZ
  have e0 := kSt0 d s
  have ea := kSt0 d s m.a
  have eb := kSt0 d s m.b
  have la := kSt1 d s m.a
  have lb := kSt1 d s m.b
  have key := piece_count d s
  rw [gather_count, gather_count]
  by_cases k0 : m.k = 0
  · rw [if_pos k0] at h2 ⊢
    have h2 := of_decide_eq_true h2
    rw [if_pos h2.1.symm, if_pos h2.1.symm]
    have q1 := key ⟨m.a, 0, m.i, false⟩
    have q2 := key ⟨m.a, m.i, m.j + 1, true⟩
    have q3 := key ⟨m.a, m.j + 1, tlen d m.a, false⟩
    have q0 := key pc0
    simp only [pc0] at q1 q2 q3 q0 ⊢
    omega
  rw [if_neg k0] at h2 ⊢
  by_cases k1 : m.k = 1
  · rw [if_pos k1] at h2 ⊢
    have h2 := of_decide_eq_true h2
    by_cases hab : m.a = m.b
    · rw [if_pos hab] at h2
      rw [if_pos hab, if_pos hab, if_neg (by simp [hab])]
      rw [← hab] at h2
      by_cases hij : m.i < m.j
      · rw [if_pos hij]
        have q1 := key ⟨m.a, 0, m.i, false⟩
        have q2 := key ⟨m.a, m.i + 1, m.j + 1, false⟩
        have q3 := key ⟨m.a, m.i, m.i + 1, false⟩
        have q4 := key ⟨m.a, m.j + 1, tlen d m.a, false⟩
        have q0 := key pc0
        simp only [pc0] at q1 q2 q3 q4 q0 ⊢
        omega
      · rw [if_neg hij]
        have q1 := key ⟨m.a, 0, m.j, false⟩
        have q2 := key ⟨m.a, m.i, m.i + 1, false⟩
        have q3 := key ⟨m.a, m.j, m.i, false⟩
        have q4 := key ⟨m.a, m.i + 1, tlen d m.a, false⟩
        have q0 := key pc0
        simp only [pc0] at q1 q2 q3 q4 q0 ⊢
        omega
    · rw [if_neg hab] at h2
      rw [if_neg hab, if_neg hab, if_pos hab]
      have q1 := key ⟨m.a, 0, m.i, false⟩
      have q2 := key ⟨m.a, m.i + 1, tlen d m.a, false⟩
      have q3 := key ⟨m.b, 0, m.j, false⟩
      have q4 := key ⟨m.a, m.i, m.i + 1, false⟩
      have q5 := key ⟨m.b, m.j, tlen d m.b, false⟩
      have q0 := key pc0
      simp only [pc0] at q1 q2 q3 q4 q5 q0 ⊢
      omega
  rw [if_neg k1] at h2 ⊢
  by_cases k2 : m.k = 2
  · rw [if_pos k2] at h2 ⊢
    have h2 := of_decide_eq_true h2
    by_cases hab : m.a = m.b
    · rw [if_pos hab, if_pos hab, if_pos hab]
      rw [← hab] at h2 ⊢
      have q1 := key ⟨m.a, 0, m.i, false⟩
      have q2 := key ⟨m.a, m.j, m.j + 1, false⟩
      have q3 := key ⟨m.a, m.i + 1, m.j, false⟩
      have q4 := key ⟨m.a, m.i, m.i + 1, false⟩
      have q5 := key ⟨m.a, m.j + 1, tlen d m.a, false⟩
      simp only at q1 q2 q3 q4 q5 ⊢
      omega
    · rw [if_neg hab, if_neg hab, if_neg hab]
      have q1 := key ⟨m.a, 0, m.i, false⟩
      have q2 := key ⟨m.b, m.j, m.j + 1, false⟩
      have q3 := key ⟨m.a, m.i + 1, tlen d m.a, false⟩
      have q4 := key ⟨m.b, 0, m.j, false⟩
      have q5 := key ⟨m.a, m.i, m.i + 1, false⟩
      have q6 := key ⟨m.b, m.j + 1, tlen d m.b, false⟩
      have q0 := key pc0
      simp only [pc0] at q1 q2 q3 q4 q5 q6 q0 ⊢
      omega
  rw [if_neg k2] at h2 ⊢
  have h2 := of_decide_eq_true h2
  rw [if_neg (by omega), if_neg (by omega)]
  have q1 := key ⟨m.a, 0, m.i, false⟩
  have q2 := key ⟨m.b, m.j, tlen d m.b, false⟩
  have q3 := key ⟨m.b, 0, m.j, false⟩
  have q4 := key ⟨m.a, m.i, tlen d m.a, false⟩
  have q0 := key pc0
  simp only [pc0] at q1 q2 q3 q4 q0 ⊢
  omega
theorem set_flat {d : Day} {i : Nat} {u : Tour} (t : Tour) (h : d[i]? = some u) (s : Stop) : (d.set i t).flatten.count s + u.count s = t.count s + d.flatten.count s := by
  obtain ⟨hi, rfl⟩ := List.getElem?_eq_some_iff.1 h
  have e : d = d.take i ++ d[i] :: d.drop (i + 1) := by rw [← List.drop_eq_getElem_cons hi, List.take_append_drop]
  rw [List.set_eq_take_append_cons_drop, if_pos hi]
  conv => rhs; rw [e]
  simp only [List.flatten_append, List.flatten_cons, List.count_append]
  omega
theorem set_sum {d : Day} {i : Nat} {u : Tour} (t : Tour) (h : d[i]? = some u) (x : Inst) : costZ x (d.set i t) + wayZ x (u.map (·.c)) = wayZ x (t.map (·.c)) + costZ x d := by
  obtain ⟨hi, rfl⟩ := List.getElem?_eq_some_iff.1 h
  have e : d = d.take i ++ d[i] :: d.drop (i + 1) := by rw [← List.drop_eq_getElem_cons hi, List.take_append_drop]
  unfold costZ
  rw [List.set_eq_take_append_cons_drop, if_pos hi]
  conv => rhs; rw [e]
  simp only [List.map_append, List.map_cons, List.sum_append, List.sum_cons]
  omega
theorem mkT_map (d : Day) (m : Mv) : (List.range d.length).map (mkT d m) = (d.set m.b (gatherZ d (cutM d m).2)).set m.a (gatherZ d (cutM d m).1) := by
  refine List.ext_getElem? fun i => ?_
  by_cases hi : i < d.length
  · rw [List.getElem?_map, List.getElem?_range hi]
    simp only [Option.map_some, mkT, List.getElem?_set, List.length_set]
    by_cases h1 : i = m.a
    · rw [if_pos h1, if_pos h1.symm, if_pos (by omega)]
    · rw [if_neg h1, if_neg (fun e : m.a = i => h1 e.symm)]
      by_cases h2 : i = m.b
      · rw [if_pos h2, if_pos h2.symm, if_pos (by omega)]
      · rw [if_neg h2, if_neg (fun e : m.b = i => h2 e.symm), List.getD_eq_getElem?_getD, List.getElem?_eq_getElem hi]; rfl
  · rw [List.getElem?_eq_none (by simp; omega), List.getElem?_eq_none (by simp; omega)]
theorem fm_flat (d : Day) (m : Mv) : ∀ l : List Nat, (l.filterMap (mkT1 d m)).flatten = (l.map (mkT d m)).flatten ∧ ∀ x, costZ x (l.filterMap (mkT1 d m)) = costZ x (l.map (mkT d m))
  | [] => ⟨rfl, fun _ => rfl⟩
  | i :: l => by
    obtain ⟨h1, h2⟩ := fm_flat d m l
    have e : mkT1 d m i = if (mkT d m i).length = 0 then none else some (mkT d m i) := rfl
    rw [List.filterMap_cons, e, List.map_cons]
    by_cases h : (mkT d m i).length = 0
    · rw [if_pos h, List.length_eq_zero_iff.1 h]
      refine ⟨by simpa using h1, fun x => ?_⟩
      have := h2 x
      unfold costZ at this ⊢
      simpa [wayZ] using this
    · rw [if_neg h]
      refine ⟨by simpa using h1, fun x => ?_⟩
      have := h2 x
      unfold costZ at this ⊢
      simpa using this
theorem mk_mem {d : Day} {m : Mv} {t : Tour} (h : t ∈ mkZ d m) : t ≠ [] ∧ (t = gatherZ d (cutM d m).1 ∨ t = gatherZ d (cutM d m).2 ∨ t ∈ d) := by
  unfold mkZ at h
  obtain ⟨i, hi, h⟩ := List.mem_filterMap.1 h
  unfold mkT1 at h
  split at h
  · cases h
  · rename_i h0
    cases h
    refine ⟨fun e => h0 (by rw [e]; rfl), ?_⟩
    unfold mkT
    split
    · exact .inl rfl
    · split
      · exact .inr (.inl rfl)
      · refine .inr (.inr ?_)
        have hi := List.mem_range.1 hi
        rw [List.getD_eq_getElem?_getD, List.getElem?_eq_getElem hi]
        exact List.getElem_mem hi
theorem mk_len (d : Day) (m : Mv) : (mkZ d m).length ≤ d.length := by
  have := List.length_filterMap_le (mkT1 d m) (List.range d.length)
  simpa [mkZ] using this
theorem mk_perm {d : Day} {m : Mv} (h : mayM d m = true) : (mkZ d m).flatten.Perm d.flatten := by
  obtain ⟨-, ha, hb, -, -⟩ := cut_rows h
  refine List.perm_iff_count.2 fun s => ?_
  have hc := cut_count h s
  unfold mkZ
  rw [(fm_flat d m _).1, mkT_map]
  obtain ⟨ua, hua⟩ : ∃ u, d[m.a]? = some u := ⟨_, List.getElem?_eq_getElem ha⟩
  obtain ⟨ub, hub⟩ : ∃ u, d[m.b]? = some u := ⟨_, List.getElem?_eq_getElem hb⟩
  have ga : d.getD m.a [] = ua := by rw [List.getD_eq_getElem?_getD, hua]; rfl
  have gb : d.getD m.b [] = ub := by rw [List.getD_eq_getElem?_getD, hub]; rfl
  rw [ga, gb] at hc
  generalize gatherZ d (cutM d m).1 = t1 at *
  generalize gatherZ d (cutM d m).2 = t2 at *
  by_cases hab : m.a = m.b
  · rw [if_pos hab, if_pos hab] at hc
    rw [← hab, List.set_set]
    have := set_flat t1 hua s
    omega
  · rw [if_neg hab, if_neg hab] at hc
    have h1 := set_flat t2 hub s
    have h2 := set_flat (d := d.set m.b t2) (i := m.a) (u := ua) t1 (by rw [List.getElem?_set_ne (fun e => hab e.symm)]; exact hua) s
    omega
theorem mk_cost {x : Inst} {d : Day} {m : Mv} (h : mayM d m = true) (h0 : arc x 0 0 = 0) : costZ x (mkZ d m) = costZ x d + byM x d m := by
  obtain ⟨-, ha, hb, r1, r2⟩ := cut_rows h
  unfold mkZ byM moreR
  rw [(fm_flat d m _).2, mkT_map, lenR_eq r1 h0, lenR_eq r2 h0]
  obtain ⟨ua, hua⟩ : ∃ u, d[m.a]? = some u := ⟨_, List.getElem?_eq_getElem ha⟩
  obtain ⟨ub, hub⟩ : ∃ u, d[m.b]? = some u := ⟨_, List.getElem?_eq_getElem hb⟩
  have ga : d.getD m.a [] = ua := by rw [List.getD_eq_getElem?_getD, hua]; rfl
  have gb : d.getD m.b [] = ub := by rw [List.getD_eq_getElem?_getD, hub]; rfl
  rw [ga, gb]
  generalize gatherZ d (cutM d m).1 = t1 at *
  generalize gatherZ d (cutM d m).2 = t2 at *
  by_cases hab : m.a = m.b
  · rw [if_pos hab, ← hab, List.set_set]
    have := set_sum t1 hua x
    omega
  · rw [if_neg hab]
    have h1 := set_sum t2 hub x
    have h2 := set_sum (d := d.set m.b t2) (i := m.a) (u := ua) t1 (by rw [List.getElem?_set_ne (fun e => hab e.symm)]; exact hua) x
    omega
end Go.Proofs.YtafcjklojnhbnaaGreat.Pv
