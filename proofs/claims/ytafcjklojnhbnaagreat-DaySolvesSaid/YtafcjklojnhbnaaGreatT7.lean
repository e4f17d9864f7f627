/- A part of the proof of the statement that the last text of this claim proves; no condition is added. Packed by a program of the prover. -/
import Derived.Test.YtafcjklojnhbnaaGreatT6
namespace Go.Proofs.YtafcjklojnhbnaaGreat.Pv
open Go Go.Proofs
theorem pw_as {P : Program} {r : Rd} {n N : Nat} {Q : Exit → (Nat → PV) → Store → Prop} {F : Nat → PV} {S : Store} {c : Code} (L : List (Nat × PV)) (hL : ∀ x ∈ L, F x.1 = x.2) (h : PW P r n N c Q (fr L) S) : PW P r n N c Q F S := pw_forget (F' := fr L) (fr_of hL) h
theorem tail_once {A B : Prop} (h2 : A → B) (h1 : A) : B := h2 h1
def ownC (d : Day) (a b : Nat) (pa pb : PV) (k : Nat) : List PV := (List.range k).map fun q => if q = a then pa else if q = b then pb else L (tG d q)
theorem ownC_len (d : Day) (a b : Nat) (pa pb : PV) (k : Nat) : (ownC d a b pa pb k).length = k := by simp [ownC]
theorem ownC_snoc (d : Day) (a b : Nat) (pa pb : PV) (k : Nat) : ownC d a b pa pb (k + 1) = ownC d a b pa pb k ++ [if k = a then pa else if k = b then pb else L (tG d k)] := by
  unfold ownC; rw [List.range_succ, List.map_append]; rfl
theorem ownC_pa (d : Day) {a b k : Nat} (pa pa' pb : PV) (h : k ≤ a) : ownC d a b pa pb k = ownC d a b pa' pb k := by
  unfold ownC
  refine List.map_congr_left fun q hq => ?_
  have := List.mem_range.1 hq
  rw [if_neg (show ¬ q = a by omega), if_neg (show ¬ q = a by omega)]
theorem ownC_pb (d : Day) {a b k : Nat} (pa pb pb' : PV) (h : k ≤ b) : ownC d a b pa pb k = ownC d a b pa pb' k := by
  unfold ownC
  refine List.map_congr_left fun q hq => ?_
  have := List.mem_range.1 hq
  rw [if_neg (show ¬ q = b by omega), if_neg (show ¬ q = b by omega)]
theorem ownC_at (d : Day) (a b : Nat) (pa pb : PV) {k q : Nat} (h : q < k) : ∃ tl, (ownC d a b pa pb k).drop q = (if q = a then pa else if q = b then pb else L (tG d q)) :: tl := by
  have hl : q < (ownC d a b pa pb k).length := by rw [ownC_len]; exact h
  refine ⟨(ownC d a b pa pb k).drop (q + 1), ?_⟩
  rw [List.drop_eq_getElem_cons hl]
  congr 1
  simp [ownC]
theorem dayC (d : Day) : (d.flatMap Enc.enc : List PV) = d.map fun t => L t := by
  induction d with
  | nil => rfl
  | cons t d ih => rw [List.flatMap_cons, ih]; rfl
theorem ownC_all (d : Day) (a b : Nat) (pa pb : PV) : ownC d a b pa pb d.length = ((d.flatMap Enc.enc : List PV).set b pb).set a pa := by
  rw [dayC]
  refine List.ext_getElem? fun i => ?_
  unfold ownC
  by_cases hi : i < d.length
  · rw [List.getElem?_map, List.getElem?_range hi]
    simp only [Option.map_some, List.getElem?_set, List.length_set, List.length_map]
    by_cases h1 : i = a
    · rw [if_pos h1, if_pos h1.symm, if_pos (by omega)]
    · rw [if_neg h1, if_neg (fun e : a = i => h1 e.symm)]
      by_cases h2 : i = b
      · rw [if_pos h2, if_pos h2.symm, if_pos (by omega)]
      · rw [if_neg h2, if_neg (fun e : b = i => h2 e.symm), List.getElem?_map, List.getElem?_eq_getElem hi]
        simp [tG, List.getD_eq_getElem?_getD, List.getElem?_eq_getElem hi]
  · rw [List.getElem?_eq_none (by simp; omega), List.getElem?_eq_none (by simp; omega)]
theorem spliceT (d : Day) (k : Nat) (p : PV) (h : k < d.length) : splice (d.flatMap Enc.enc : List PV) k [p] = (d.flatMap Enc.enc : List PV).set k p := by
  have hl : k < (d.flatMap Enc.enc : List PV).length := by rw [flen_list]; exact h
  have := splice_at (d.flatMap Enc.enc : List PV) k ((d.flatMap Enc.enc : List PV)[k]) p hl
  rwa [List.set_getElem_self] at this
def turnK (A : Tour) (i j q : Nat) : Tour := (List.range A.length).map fun p => if i ≤ p ∧ p < q then sG A (i + j - p) else sG A p
theorem turnK_len (A : Tour) (i j q : Nat) : (turnK A i j q).length = A.length := by simp [turnK]
theorem turnK_zero (A : Tour) (i j : Nat) : turnK A i j i = A := by
  refine List.ext_getElem? fun p => ?_
  unfold turnK
  by_cases h : p < A.length
  · rw [List.getElem?_map, List.getElem?_range h, List.getElem?_eq_getElem h]
    simp only [Option.map_some]
    rw [if_neg (by omega)]
    simp [sG, List.getD_eq_getElem?_getD, List.getElem?_eq_getElem h]
  · rw [List.getElem?_eq_none (by simp; omega), List.getElem?_eq_none (by omega)]
theorem turnK_step (A : Tour) {i j q : Nat} (hi : i ≤ q) : (turnK A i j q).set q (sG A (i + j - q)) = turnK A i j (q + 1) := by
  refine List.ext_getElem? fun p => ?_
  unfold turnK
  rw [List.getElem?_set]
  by_cases h : p < A.length
  · rw [List.getElem?_map, List.getElem?_map, List.getElem?_range h]
    simp only [Option.map_some, List.length_map, List.length_range]
    by_cases e : q = p
    · subst e
      rw [if_pos rfl, if_pos h, if_pos (by omega)]
    · rw [if_neg e]
      by_cases h2 : i ≤ p ∧ p < q
      · rw [if_pos h2, if_pos (by omega)]
      · rw [if_neg h2, if_neg (by omega)]
  · rw [List.getElem?_eq_none (l := List.map _ _) (by simp; omega), List.getElem?_eq_none (l := List.map _ _) (by simp; omega)]
    split
    · simp; omega
    · rfl
theorem turnK_all (A : Tour) {i j : Nat} (hij : i < j) (hj : j < A.length) : turnK A i j (j + 1) = turnZ A i j := by
  have hA : ∀ p, p < A.length → A[p]? = some (sG A p) := fun p h => by rw [List.getElem?_eq_getElem h]; simp [sG, List.getD_eq_getElem?_getD, List.getElem?_eq_getElem h]
  have l1 : (A.take i).length = i := by simp; omega
  have l2 : ((A.drop i).take (j + 1 - i)).length = j + 1 - i := by simp; omega
  refine List.ext_getElem? fun p => ?_
  unfold turnZ
  by_cases h : p < A.length
  · have e : (turnK A i j (j + 1))[p]? = some (if i ≤ p ∧ p < j + 1 then sG A (i + j - p) else sG A p) := by
      unfold turnK; rw [List.getElem?_map, List.getElem?_range h]; rfl
    rw [e]
    by_cases h1 : p < i
    · rw [if_neg (by omega), List.append_assoc, List.getElem?_append_left (by omega), List.getElem?_take, if_pos h1, hA p h]
    · by_cases h2 : p < j + 1
      · rw [if_pos ⟨by omega, h2⟩, List.append_assoc, List.getElem?_append_right (by omega), l1, List.getElem?_append_left (by rw [List.length_reverse, l2]; omega), List.getElem?_reverse (by rw [l2]; omega), l2, List.getElem?_take, if_pos (by omega), List.getElem?_drop, show i + (j + 1 - i - 1 - (p - i)) = i + j - p by omega, hA _ (by omega)]
      · rw [if_neg (by omega), List.getElem?_append_right (by rw [List.length_append, List.length_reverse, l1, l2]; omega), List.length_append, List.length_reverse, l1, l2, List.getElem?_drop, show j + 1 + (p - (i + (j + 1 - i))) = p by omega, hA p h]
  · rw [List.getElem?_eq_none (by rw [turnK_len]; omega), List.getElem?_eq_none (by rw [List.length_append, List.length_append, List.length_reverse, l1, l2, List.length_drop]; omega)]
def obA (q a : Nat) (o : Ob) : Ob := if q ≤ a then .dead else o
theorem obA_le {q a : Nat} (h : q ≤ a) (o : Ob) : obA q a o = .dead := if_pos h
theorem obA_gt {q a : Nat} (h : ¬ q ≤ a) (o : Ob) : obA q a o = o := if_neg h
set_option maxRecDepth 20000 in
set_option maxHeartbeats 3200000 in
theorem make14_ok (d : Day) (m : Mv) (hdn : d.length ≤ 1000) (hdt : ∀ t ∈ d, t.length ≤ 1000) (hm : mayM d m = true) : Pure Tryz.prog 70 [.agg [L d], .agg (mvL m)] (.agg [L (mkZ d m)]) := by
  obtain ⟨hk, ha, hb, r1, r2⟩ := cut_rows hm
  rw [make_eq hm]
  have hlR : (toursR d m).length = d.length := by unfold toursR; (repeat' split) <;> simp
  have htR : ∀ t ∈ toursR d m, t.length ≤ 5000 := by
    rw [toursR_eq hm]
    intro t ht
    have n1 := gather_len (r := (cutM d m).1) hdt
    have n2 := gather_len (r := (cutM d m).2) hdt
    rcases List.mem_or_eq_of_mem_set ht with ht | rfl
    · rcases List.mem_or_eq_of_mem_set ht with ht | rfl
      · have := hdt t ht; omega
      · omega
    · omega
  obtain ⟨T, hT⟩ : ∃ T, T = toursR d m := ⟨_, rfl⟩
  rw [← hT] at hlR htR ⊢
  refine pwe Tryz.func70 Tryz.ntmps70 Tryz.results70 fun S nx hd => ?_
  repeat refine pw_seq ?_
  refine pwn ?_
  intro v0 v1 v2
  repeat refine pw_seq ?_
  refine pwn ?_
  intros
  refine pw_seq (pw_nilX 5 26 1 rfl fun v3 => ?_)
  repeat refine pw_seq ?_
  refine pwn ?_
  intros
  refine tail_once (A := ∀ v3, PW Tryz.prog nor 0 174 ?tl ?Q2 (fr [(2, .ptr nx v0 0), (4, .ptr (nx + 2) v2 0), (5, .sl (nx + 3) v3 1 0 d.length)]) (ext S nx [.cells v0 35 [L d], .cells v1 110 (mvL m), .cells v2 35 [nilS], .cells v3 26 (T.flatMap Enc.enc)])) ?h2 ?h1
  case h2 =>
    intro htail
    obtain ⟨k, a, b, i, j⟩ := m
    simp only at hk ha hb
    obtain ⟨ta, xa, a1, -, -, a0⟩ := el1 rfl d a ha
    obtain ⟨tb, xb, b1, -, -, b0⟩ := el1 rfl d b hb
    have ha1 : 1 ≤ d.length - a := by omega
    have hb1 : 1 ≤ d.length - b := by omega
    have ga : tG d a = ta := by unfold tG; rw [List.getD_eq_getElem?_getD, a1]; rfl
    have gb : tG d b = tb := by unfold tG; rw [List.getD_eq_getElem?_getD, b1]; rfl
    have hal := hdt ta (List.mem_of_getElem? a1)
    have hbl := hdt tb (List.mem_of_getElem? b1)
    have hmz : mayZ ⟨k, a, b, i, j⟩ ta.length tb.length = true := by
      unfold mayM at hm
      rw [Bool.and_eq_true] at hm
      rw [← ga, ← gb]; exact hm.2
    unfold mayZ at hmz
    unfold toursR at hT
    simp only [ga, gb] at hmz hT
    by_cases hfz : k = 1 ∨ k = 3
    · repeat refine pw_seq ?_
      refine pw_block (pw_loopL (fun s' : Nat × Nat => s'.1 ≤ d.length) (fun (q, v3) => [(2, .ptr nx v0 0), (3, .ptr (nx + 1) v1 0), (4, .ptr (nx + 2) v2 0), (5, .sl (nx + 3) v3 1 0 q), (6, I q)]) (fun (q, v3) => [.cells v0 35 [L d], .cells v1 110 [I k, I a, I b, I i, I j], .cells v2 35 [nilS], .cells v3 26 ((d.take q).flatMap Enc.enc)]) (fun s' => d.length - s'.1) (0, v3) [] (by simp) (by simp) (by simp) ?_)
      rintro ⟨q, v3⟩ hq
      simp only at hq ⊢
      repeat refine pw_seq ?_
      refine pwn ?_
      intros
      repeat refine pw_seq ?_
      refine pw_cond rfl (fun hc => ?_) (fun hc => ?_)
      · simp at hc
        obtain ⟨t, tl, c1, c2, c3, e0⟩ := el1 rfl d q hc
        have hq1 : 1 ≤ d.length - q := by omega
        have htl := hdt t (List.mem_of_getElem? c1)
        have hcp := copyP_ok t (by omega)
        have hof : ((d.take q).flatMap Enc.enc : List PV).length = q := by rw [flen_list, List.length_take]; omega
        have hot : ((d.take q).flatMap Enc.enc : List PV).take q = (d.take q).flatMap Enc.enc := List.take_of_length_le (by omega)
        have hon : ((d.take (q + 1)).flatMap Enc.enc : List PV) = (d.take q).flatMap Enc.enc ++ [L t] := by rw [c3, List.flatMap_append]; rfl
        generalize ((d.take q).flatMap Enc.enc : List PV) = cs at *
        refine pw_skip (pw_seq (pw_block ?_))
        repeat refine pw_seq ?_
        refine pwN [] (jn5 e0 hc hq1 hof hot) ?_
        refine pwC [] hcp (jn5 e0 hc hq1 hof hot) ?_
        refine ⟨by omega, ?_⟩
        intros
        repeat refine pw_seq ?_
        refine pwn ?_
        intros
        exact again_mk (q + 1, v3 + 1) [] hc (by simp; omega) (by simp [wrN q (by omega)]) rfl (by simp [hon])
      · simp at hc
        obtain rfl : q = d.length := by omega
        refine pw_exit ?_
        rw [List.take_length]
        clear hc hq
        repeat refine pw_seq ?_
        refine pwN [] (jn3 a0 ha ha1) ?_
        intros
        repeat refine pw_seq ?_
        refine pwN [] (jn3 b0 hb hb1) ?_
        intros
        repeat refine pw_seq ?_
        refine pwn ?_
        intros
        repeat refine pw_seq ?_
        refine pw_block ?_
        rcases hfz with rfl | rfl
        · rw [if_neg (by decide), if_pos rfl] at hmz hT
          have hz := of_decide_eq_true hmz
          obtain ⟨s, tl, s1, s2, s3, e1, e0⟩ := el 2 rfl ta i hz.1
          have hsG : sG ta i = s := by unfold sG; rw [List.getD_eq_getElem?_getD, s1]; rfl
          have hcut := cutR_ok ta i hz.1 (by omega)
          have hEl : (ta.take i ++ ta.drop (i + 1)).length = ta.length - 1 := by simp; omega
          rw [hsG] at hT
          generalize ta.take i ++ ta.drop (i + 1) = E at *
          have hdl : (d.set a E).length = d.length := by simp
          obtain ⟨t2, tl2, d1, -, -, d0⟩ := el1 rfl (d.set a E) b (by rw [hdl]; exact hb)
          have g2 : tG (d.set a E) b = t2 := by unfold tG; rw [List.getD_eq_getElem?_getD, d1]; rfl
          have hj2 : j ≤ t2.length ∧ t2.length ≤ 1000 := by
            by_cases hab : a = b
            · subst hab
              rw [List.getElem?_set_self ha] at d1
              cases d1
              have e := a1.symm.trans b1
              cases e
              have := hz.2
              rw [if_pos rfl] at this
              omega
            · rw [List.getElem?_set_ne hab, b1] at d1
              cases d1
              have := hz.2
              rw [if_neg hab] at this
              omega
          have hput := putR14_ok t2 j s hj2.1 (by omega)
          rw [g2] at hT
          have hsp1 : splice (d.flatMap Enc.enc : List PV) a [L E] = (d.set a E).flatMap Enc.enc := by rw [spliceT d a _ ha, enc_set]
          have hsp2 : splice ((d.set a E).flatMap Enc.enc : List PV) b [L (t2.take j ++ s :: t2.drop j)] = T.flatMap Enc.enc := by rw [spliceT _ b _ (by rw [hdl]; exact hb), enc_set, hT]
          repeat refine pw_seq ?_
          refine pwn ?_
          intros
          repeat refine pw_seq ?_
          refine pw_cf rfl ?_
          repeat refine pw_seq ?_
          refine pwn ?_
          intros
          repeat refine pw_seq ?_
          refine pw_ct rfl ?_
          repeat refine pw_seq ?_
          refine pwN [] (jn3 e1 e0 hz.1) ?_
          intro v4
          repeat refine pw_seq ?_
          refine pwY (some [nx + 1]) (Row.pures [0, 1, 2, 3, 4, 5, 6, 7] (.alt 8 (.done) .stop)) mixed ha ?_
          refine pwP (hcut) ha ?_
          refine ⟨by omega, ?_⟩
          intros
          show PW _ _ _ _ _ _ _ (ext _ _ _)
          rw [hsp1]
          repeat refine pw_seq ?_
          refine pwY (some [nx + 1, nx + 4]) (Row.pures [0, 1, 2, 3, 4, 5, 6, 8, 9, 10] (.alt 7 (Row.pures [11, 12] (.alt 13 (.done) .stop)) .stop)) mixed (jn4 d0 hb hb1 hdl) ?_
          refine pwP (hput) (jn4 d0 hb hb1 hdl) ?_
          refine ⟨by omega, ?_⟩
          intros
          rw [hsp2]
          simp only [inBlockQ]
          refine pw_to _ ?_ (htail v3)
          simp
        · rw [if_neg (by decide), if_neg (by decide), if_neg (by decide)] at hmz hT
          have hz := of_decide_eq_true hmz
          obtain ⟨z1, z2, z3⟩ := hz
          have A1 : (ta.take i).length = i := by simp; omega
          have A2 : (ta.drop i).length = ta.length - i := by simp
          have B1 : (tb.take j).length = j := by simp; omega
          have B2 : (tb.drop j).length = tb.length - j := by simp
          have hcA := copyO_ok (ta.take i) (by omega)
          have hcB := copyO_ok (tb.take j) (by omega)
          rw [lst_len _ A1, A1] at hcA
          rw [lst_len _ B1, B1] at hcB
          have a3 : (ta.flatMap Enc.enc : List PV).take (i * 2) = (ta.take i).flatMap Enc.enc := flat_take Enc.enc 2 (fun _ => rfl) ta i
          have a4 : (ta.flatMap Enc.enc : List PV).drop (i * 2) = (ta.drop i).flatMap Enc.enc := flat_drop Enc.enc 2 (fun _ => rfl) ta i
          have b3 : (tb.flatMap Enc.enc : List PV).take (j * 2) = (tb.take j).flatMap Enc.enc := flat_take Enc.enc 2 (fun _ => rfl) tb j
          have b4 : (tb.flatMap Enc.enc : List PV).drop (j * 2) = (tb.drop j).flatMap Enc.enc := flat_drop Enc.enc 2 (fun _ => rfl) tb j
          have a5 : ((ta.take i).flatMap Enc.enc : List PV).length = i * 2 := by rw [flen_stop, A1]
          have a6 : ((ta.take i).flatMap Enc.enc : List PV).take (i * 2) = (ta.take i).flatMap Enc.enc := List.take_of_length_le (by omega)
          have a7 : ((ta.drop i).flatMap Enc.enc : List PV).length = (ta.length - i) * 2 := by rw [flen_stop, A2]
          have a8 : ((ta.drop i).flatMap Enc.enc : List PV).take ((ta.length - i) * 2) = (ta.drop i).flatMap Enc.enc := List.take_of_length_le (by omega)
          have b5 : ((tb.take j).flatMap Enc.enc : List PV).length = j * 2 := by rw [flen_stop, B1]
          have b6 : ((tb.take j).flatMap Enc.enc : List PV).take (j * 2) = (tb.take j).flatMap Enc.enc := List.take_of_length_le (by omega)
          have b7 : ((tb.drop j).flatMap Enc.enc : List PV).length = (tb.length - j) * 2 := by rw [flen_stop, B2]
          have b8 : ((tb.drop j).flatMap Enc.enc : List PV).take ((tb.length - j) * 2) = (tb.drop j).flatMap Enc.enc := List.take_of_length_le (by omega)
          have hX : (L (ta.take i ++ tb.drop j) : PV) = .lst (i + (tb.length - j)) ((ta.take i).flatMap Enc.enc ++ (tb.drop j).flatMap Enc.enc) := by
            rw [lst_len _ (k := i + (tb.length - j)) (by rw [List.length_append, A1, B2]), List.flatMap_append]
          have hY : (L (tb.take j ++ ta.drop i) : PV) = .lst (j + (ta.length - i)) ((tb.take j).flatMap Enc.enc ++ (ta.drop i).flatMap Enc.enc) := by
            rw [lst_len _ (k := j + (ta.length - i)) (by rw [List.length_append, B1, A2]), List.flatMap_append]
          generalize ta.take i ++ tb.drop j = X at *
          generalize tb.take j ++ ta.drop i = Y at *
          generalize ((ta.take i).flatMap Enc.enc : List PV) = ca at *
          generalize ((ta.drop i).flatMap Enc.enc : List PV) = cb at *
          generalize ((tb.take j).flatMap Enc.enc : List PV) = da at *
          generalize ((tb.drop j).flatMap Enc.enc : List PV) = db at *
          repeat refine pw_seq ?_
          refine pwn ?_
          intros
          repeat refine pw_seq ?_
          refine pw_cf rfl ?_
          repeat refine pw_seq ?_
          refine pwn ?_
          intros
          repeat refine pw_seq ?_
          refine pw_cf rfl ?_
          repeat refine pw_seq ?_
          refine pwn ?_
          intros
          repeat refine pw_seq ?_
          refine pw_cf rfl ?_
          repeat refine pw_seq ?_
          refine pwn ?_
          intros
          repeat refine pw_seq ?_
          refine pw_ct rfl ?_
          repeat refine pw_seq ?_
          refine pw_Y (some [nx + 1]) (Row.pures [0, 1, 2, 3, 4, 5, 6, 8, 9, 10, 11] (.alt 7 (.alt 12 (Row.pures [13] (.alt 14 (.done) .stop)) .stop) .stop)) mixed (by rfl) (by rfl) (by rfl) fun K Gp Gc Gh hK hGp hGc hGh X hX0 hX1 hX2 hX => ?_
          simp -implicitDefEqProofs [hX0, hX1, hX2, hX, ha, a3, b4, a5, a6, b7, b8, z2, z3]
          try clear hX0 hX1 hX2 hX X
          refine hGc _ _ _ _ _ _ _ ?_
          refine ((hcA _ _ ext_dead).mono ?_).v
          rintro _ _ ⟨v4, rfl, rfl⟩
          rw [ext_pushK 0]
          refine ⟨by simp [Agree], ?_⟩
          clear hGp hGc hGh
          clear Gp Gc Gh
          refine px_go fun Gp Gc Gh hGp hGc hGh X hX0 hX1 hX2 hX => ?_
          simp -implicitDefEqProofs [hX0, hX1, hX2, hX, ha, a3, b4, a5, a6, b7, b8, z2, z3]
          try clear hX0 hX1 hX2 hX X
          refine ⟨by omega, ?_⟩
          refine ⟨by omega, ?_⟩
          refine hK _ _ _ ?_
          clear hK hGp hGc hGh
          clear K Gp Gc Gh
          show PW _ _ _ _ _ _ _ (ext _ _ _)
          rw [spliceT d a _ ha]
          have e4 : frzP (nx + 4) (v4 + 1) (ca ++ db) (.sl (nx + 4) (v4 + 1) 2 0 (i + (tb.length - j))) = L X := by
            rw [frz_self _ _ _ _ _ (by rw [List.length_append, a5, b7, Nat.add_mul]), hX]
          have n4 : frzP (nx + 4) (v4 + 1) (ca ++ db) (.sl (nx + 3) v3 1 0 d.length) = .sl (nx + 3) v3 1 0 d.length := by
            simp only [frzP]; rw [if_neg (by omega)]
          refine pw_as [(2, .ptr nx v0 0), (3, .ptr (nx + 1) v1 0), (4, .ptr (nx + 2) v2 0), (5, .sl (nx + 3) v3 1 0 d.length), (7, L ta), (8, L tb)] ?_ ?_
          · simp
          refine pw_frz 4 rfl ?_
          simp only [List.map_cons, List.map_nil, List.set_cons_succ, List.set_cons_zero, frzO, frz_set, e4, enc_set]
          refine pw_as [(2, .ptr nx v0 0), (3, .ptr (nx + 1) v1 0), (4, .ptr (nx + 2) v2 0), (5, .sl (nx + 3) v3 1 0 d.length), (7, L ta), (8, L tb)] ?_ ?_
          · simp [n4]
          clear e4 n4
          repeat refine pw_seq ?_
          refine pw_Y (some [nx + 1]) (Row.pures [0, 1, 2, 3, 4, 5, 6, 8, 9, 10, 11] (.alt 7 (.alt 12 (Row.pures [13] (.alt 14 (.done) .stop)) .stop) .stop)) mixed (by rfl) (by rfl) (by rfl) fun K Gp Gc Gh hK hGp hGc hGh X hX0 hX1 hX2 hX => ?_
          simp -implicitDefEqProofs [hX0, hX1, hX2, hX, hb, b3, a4, b5, b6, a7, a8, z2, z3]
          try clear hX0 hX1 hX2 hX X
          refine hGc _ _ _ _ _ _ _ ?_
          refine ((hcB _ _ ext_dead).mono ?_).v
          rintro _ _ ⟨v5, rfl, rfl⟩
          rw [ext_pushK 0]
          refine ⟨by simp [Agree], ?_⟩
          clear hGp hGc hGh
          clear Gp Gc Gh
          refine px_go fun Gp Gc Gh hGp hGc hGh X hX0 hX1 hX2 hX => ?_
          simp -implicitDefEqProofs [hX0, hX1, hX2, hX, hb, b3, a4, b5, b6, a7, a8, z2, z3]
          try clear hX0 hX1 hX2 hX X
          refine ⟨by omega, ?_⟩
          refine ⟨by omega, ?_⟩
          refine hK _ _ _ ?_
          clear hK hGp hGc hGh
          clear K Gp Gc Gh
          rw [spliceT (d.set a X) b _ (by rw [List.length_set]; exact hb)]
          simp only [inBlockQ]
          show PW _ _ _ _ _ _ _ (ext _ _ _)
          have e5 : frzP (nx + 5) (v5 + 1) (da ++ cb) (.sl (nx + 5) (v5 + 1) 2 0 (j + (ta.length - i))) = L Y := by
            rw [frz_self _ _ _ _ _ (by rw [List.length_append, b5, a7, Nat.add_mul]), hY]
          have n5 : frzP (nx + 5) (v5 + 1) (da ++ cb) (.sl (nx + 3) v3 1 0 d.length) = .sl (nx + 3) v3 1 0 d.length := by
            simp only [frzP]; rw [if_neg (by omega)]
          refine pw_as [(2, .ptr nx v0 0), (4, .ptr (nx + 2) v2 0), (5, .sl (nx + 3) v3 1 0 d.length)] ?_ ?_
          · simp
          refine pw_frz 5 rfl ?_
          simp only [List.map_cons, List.map_nil, List.set_cons_succ, List.set_cons_zero, frzO, frz_set, e5, enc_set]
          rw [← hT]
          refine pw_to _ ?_ (htail v3)
          simp [n5]
    · have hk02 : k = 0 ∨ k = 2 := by omega
      have hab : a ≤ b := by
        rcases hk02 with rfl | rfl
        · rw [if_pos rfl] at hmz
          have hz := of_decide_eq_true hmz
          omega
        · rw [if_neg (by decide), if_neg (by decide), if_pos rfl] at hmz
          have hz := of_decide_eq_true hmz
          omega
      obtain ⟨b', hb'⟩ : ∃ b', b' = if a = b then d.length else b := ⟨_, rfl⟩
      have hbb : a < b' ∧ b' ≤ d.length ∧ (b' < d.length → b' = b) := by
        rw [hb']
        split
        · exact ⟨ha, Nat.le_refl _, fun q => absurd q (Nat.lt_irrefl _)⟩
        · exact ⟨by omega, by omega, fun _ => rfl⟩
      show PW _ _ _ _ _ _ _ (ext _ _ _)
      rw [ext_deads 2]
      repeat refine pw_seq ?_
      refine pw_block (pw_loopL (fun s' : Nat × Nat × Nat × Nat => s'.1 ≤ d.length) (fun (q, v3, va, vb) => [(2, .ptr nx v0 0), (3, .ptr (nx + 1) v1 0), (4, .ptr (nx + 2) v2 0), (5, .sl (nx + 3) v3 1 0 q), (6, I q)]) (fun (q, v3, va, vb) => [.cells v0 35 [L d], .cells v1 110 [I k, I a, I b, I i, I j], .cells v2 35 [nilS], .cells v3 26 (ownC d a b' (.sl (nx + 4) va 2 0 ta.length) (.sl (nx + 5) vb 2 0 tb.length) q), obA q a (.cells va 43 (ta.flatMap Enc.enc)), obA q b' (.cells vb 43 (tb.flatMap Enc.enc))]) (fun s' => d.length - s'.1) (0, v3, 0, 0) [] (by simp) (by simp) (by simp [ownC, obA]) ?_)
      rintro ⟨q, v3, va, vb⟩ hq
      simp only at hq ⊢
      have hcl := ownC_len d a b' (.sl (nx + 4) va 2 0 ta.length) (.sl (nx + 5) vb 2 0 tb.length) q
      have hpa := fun va' => ownC_pa d (a := a) (b := b') (k := q) (.sl (nx + 4) va 2 0 ta.length) (.sl (nx + 4) va' 2 0 ta.length) (.sl (nx + 5) vb 2 0 tb.length)
      have hpb := fun vb' => ownC_pb d (a := a) (b := b') (k := q) (.sl (nx + 4) va 2 0 ta.length) (.sl (nx + 5) vb 2 0 tb.length) (.sl (nx + 5) vb' 2 0 tb.length)
      have hsn := fun va vb => ownC_snoc d a b' (.sl (nx + 4) va 2 0 ta.length) (.sl (nx + 5) vb 2 0 tb.length) q
      obtain ⟨cs, hcs⟩ : ∃ c, c = ownC d a b' (.sl (nx + 4) va 2 0 ta.length) (.sl (nx + 5) vb 2 0 tb.length) q := ⟨_, rfl⟩
      obtain ⟨oa, hoa⟩ : ∃ o, o = obA q a (.cells va 43 (ta.flatMap Enc.enc)) := ⟨_, rfl⟩
      obtain ⟨ob, hob⟩ : ∃ o, o = obA q b' (.cells vb 43 (tb.flatMap Enc.enc)) := ⟨_, rfl⟩
      rw [← hcs] at hcl
      rw [← hcs, ← hoa, ← hob]
      have hct : cs.take q = cs := List.take_of_length_le (by omega)
      repeat refine pw_seq ?_
      refine pwn ?_
      intros
      repeat refine pw_seq ?_
      refine pw_cond rfl (fun hc => ?_) (fun hc => ?_)
      · simp at hc
        obtain ⟨t, tl, c1, c2, c3, e0⟩ := el1 rfl d q hc
        have hq1 : 1 ≤ d.length - q := by omega
        have htl := hdt t (List.mem_of_getElem? c1)
        have gq : tG d q = t := by unfold tG; rw [List.getD_eq_getElem?_getD, c1]; rfl
        refine pw_skip (pw_seq (pw_block ?_))
        by_cases hqa : q = a
        · obtain rfl : ta = t := by rw [← ga, ← hqa, gq]
          rw [obA_le (by omega)] at hoa hob
          subst hoa hob
          refine pw_drop [_, _, _, _] [_, _] rfl ?_
          repeat refine pw_seq ?_
          refine pw_N [] (by rfl) (by rfl) fun K Gc Gh hK hGc hGh X hX0 hX => ?_
          simp -implicitDefEqProofs [hX0, hX, e0, hc, hq1, hcl, hct]
          try clear hX0 hX X
          refine hGc _ _ _ _ _ _ _ fun hsuf => ((copyO_ok ta (by omega) _ _ ext_dead).mono ?_).v
          rintro _ _ ⟨va', rfl, rfl⟩
          refine ⟨_, _, ext_pushK 0 _, ?_⟩
          clear hGc hGh
          clear Gc Gh
          refine xs_go hsuf (D := []) (by rfl) fun Gc Gh hGc hGh X hX0 hX => ?_
          simp -implicitDefEqProofs [hX0, hX, e0, hc, hq1, hcl, hct]
          clear hX0 hX X
          refine ⟨by omega, ?_⟩
          intros
          refine hK _ _ _ ?_
          clear hK hGc hGh
          clear K Gc Gh
          show PW _ _ _ _ _ _ _ (ext _ _ _)
          rw [ext_deads 1]
          repeat refine pw_seq ?_
          refine pwn ?_
          intros
          have hs2 := hsn va' vb
          rw [if_pos hqa, ← hpa va' (by omega), ← hcs] at hs2
          exact again_mk (q + 1, v3 + 1, va', vb) [] hc (by simp; omega) (by simp [wrN q (by omega)]) rfl (by simp [hs2, obA_gt (show ¬ q + 1 ≤ a by omega), obA_le (show q + 1 ≤ b' by omega)])
        by_cases hqb : q = b'
        · obtain rfl : tb = t := by rw [← gb, ← hbb.2.2 (by omega), ← hqb, gq]
          rw [obA_gt (by omega)] at hoa
          rw [obA_le (by omega)] at hob
          subst hoa hob
          refine pw_drop [_, _, _, _, _] [_] rfl ?_
          repeat refine pw_seq ?_
          refine pw_N [] (by rfl) (by rfl) fun K Gc Gh hK hGc hGh X hX0 hX => ?_
          simp -implicitDefEqProofs [hX0, hX, e0, hc, hq1, hcl, hct]
          try clear hX0 hX X
          refine hGc _ _ _ _ _ _ _ fun hsuf => ((copyO_ok tb (by omega) _ _ ext_dead).mono ?_).v
          rintro _ _ ⟨vb', rfl, rfl⟩
          refine ⟨_, _, ext_pushK 0 _, ?_⟩
          clear hGc hGh
          clear Gc Gh
          refine xs_go hsuf (D := []) (by rfl) fun Gc Gh hGc hGh X hX0 hX => ?_
          simp -implicitDefEqProofs [hX0, hX, e0, hc, hq1, hcl, hct]
          clear hX0 hX X
          refine ⟨by omega, ?_⟩
          intros
          refine hK _ _ _ ?_
          clear hK hGc hGh
          clear K Gc Gh
          repeat refine pw_seq ?_
          refine pwn ?_
          intros
          have hs2 := hsn va vb'
          rw [if_neg hqa, if_pos hqb, ← hpb vb' (by omega), ← hcs] at hs2
          exact again_mk (q + 1, v3 + 1, va, vb') [] hc (by simp; omega) (by simp [wrN q (by omega)]) rfl (by simp [hs2, obA_gt (show ¬ q + 1 ≤ a by omega), obA_gt (show ¬ q + 1 ≤ b' by omega)])
        · have hcp := copyP_ok t (by omega)
          have hs2 := hsn va vb
          rw [if_neg hqa, if_neg hqb, gq, ← hcs] at hs2
          have o1 : obA (q + 1) a (.cells va 43 (ta.flatMap Enc.enc)) = oa := by
            rw [hoa]; unfold obA
            by_cases h : q ≤ a
            · rw [if_pos h, if_pos (by omega)]
            · rw [if_neg h, if_neg (by omega)]
          have o2 : obA (q + 1) b' (.cells vb 43 (tb.flatMap Enc.enc)) = ob := by
            rw [hob]; unfold obA
            by_cases h : q ≤ b'
            · rw [if_pos h, if_pos (by omega)]
            · rw [if_neg h, if_neg (by omega)]
          repeat refine pw_seq ?_
          refine pwN [] (jn5 e0 hc hq1 hcl hct) ?_
          refine pwC [] hcp (jn5 e0 hc hq1 hcl hct) ?_
          refine ⟨by omega, ?_⟩
          intros
          repeat refine pw_seq ?_
          refine pwn ?_
          intros
          exact again_mk (q + 1, v3 + 1, va, vb) [] hc (by simp; omega) (by simp [wrN q (by omega)]) rfl (by simp [hs2, o1, o2])
      · simp at hc
        obtain rfl : q = d.length := by omega
        refine pw_exit ?_
        rw [obA_gt (by omega)] at hoa
        subst hoa
        obtain ⟨tla, hda⟩ := ownC_at d a b' (.sl (nx + 4) va 2 0 ta.length) (.sl (nx + 5) vb 2 0 tb.length) ha
        rw [if_pos rfl, ← hcs] at hda
        obtain ⟨tlb, hdb⟩ := ownC_at d a b' (.sl (nx + 4) va 2 0 ta.length) (.sl (nx + 5) vb 2 0 tb.length) hb
        rw [← hcs] at hdb
        rw [ownC_all] at hcs
        clear hpa hpb hsn hc hq hct
        rcases hk02 with rfl | rfl
        · rw [if_pos rfl] at hmz hT
          have hz := of_decide_eq_true hmz
          obtain ⟨z1, z2, z3⟩ := hz
          subst z1
          rw [if_pos rfl] at hb'
          rw [hb', List.set_eq_of_length_le (l := (d.flatMap Enc.enc : List PV)) (by rw [flen_list]; exact Nat.le_refl _)] at hcs
          repeat refine pw_seq ?_
          refine pwN [] (jn4 hda ha ha1 hcl) ?_
          intros
          repeat refine pw_seq ?_
          refine pwN [] (jn4 hda ha ha1 hcl) ?_
          intros
          repeat refine pw_seq ?_
          refine pwn ?_
          intros
          repeat refine pw_seq ?_
          refine pw_block ?_
          repeat refine pw_seq ?_
          refine pwn ?_
          intros
          repeat refine pw_seq ?_
          refine pw_ct rfl ?_
          repeat refine pw_seq ?_
          refine pwn ?_
          intros
          rw [obA_le (by omega)] at hob
          subst hob
          repeat refine pw_seq ?_
          refine pw_block (pw_loopL (fun q : Nat => i ≤ q ∧ q ≤ j + 1) (fun q => [(2, .ptr nx v0 0), (3, .ptr (nx + 1) v1 0), (4, .ptr (nx + 2) v2 0), (5, .sl (nx + 3) v3 1 0 d.length), (7, .sl (nx + 4) va 2 0 ta.length), (9, I q)]) (fun q => [.cells v0 35 [L d], .cells v1 110 [I 0, I b, I b, I i, I j], .cells v2 35 [nilS], .cells v3 26 cs, .cells va 43 ((turnK ta i j q).flatMap Enc.enc)]) (fun q => j + 1 - q) i [.dead] (by simp; omega) (by simp) (by simp [turnK_zero]) ?_)
          rintro q ⟨hq1, hq2⟩
          repeat refine pw_seq ?_
          refine pwn ?_
          intros
          repeat refine pw_seq ?_
          refine pw_cond rfl (fun hcq => ?_) (fun hcq => ?_)
          · simp at hcq
            obtain ⟨s, tl, s1, s2, s3, e1, e0⟩ := el 2 rfl ta (i + j - q) (by omega)
            have hs : sG ta (i + j - q) = s := by unfold sG; rw [List.getD_eq_getElem?_getD, s1]; rfl
            have hst := turnK_step ta (i := i) (j := j) (q := q) hq1
            rw [hs] at hst
            have hkl := turnK_len ta i j q
            have hsp := splice_stop (turnK ta i j q) q s (by omega)
            rw [hst] at hsp
            have hkf : ((turnK ta i j q).flatMap Enc.enc : List PV).length = ta.length * 2 := by rw [flen_stop, hkl]
            generalize (turnK ta i j q).flatMap Enc.enc = ck at *
            have w1 : IntKind.i64.wrap ((i : Int) + j) = ((i + j : Nat) : Int) := by rw [wr _ (by omega) (by omega)]; omega
            have w2 : IntKind.i64.wrap (((i + j : Nat) : Int) - q) = ((i + j - q : Nat) : Int) := by rw [wr _ (by omega) (by omega)]; omega
            have w3 : IntKind.i64.wrap ((i : Int) + j - q) = ((i + j - q : Nat) : Int) := by rw [wr _ (by omega) (by omega)]; omega
            have z4 : i + j - q < ta.length := by omega
            have z5 : 2 ≤ ta.length * 2 - (i + j - q) * 2 := by omega
            have z6 : q < ta.length := by omega
            refine pw_skip (pw_seq (pw_block ?_))
            repeat refine pw_seq ?_
            refine pwY (some [nx, nx + 1]) (Row.pures [0, 1, 2, 3, 4, 5, 6, 7, 8, 9, 10, 11, 12, 13, 14, 15, 16, 17, 18] (.alt 19 (.done) .stop)) mixed (jn6 a0 ha ha1 w1 w2 (jn2 (jn6 w3 e1 e0 z4 z5 z6) hkf)) ?_
            refine ⟨by omega, ?_⟩
            intros
            repeat refine pw_seq ?_
            refine pwn ?_
            intros
            exact again_mk (q + 1) [] (by simp; omega) (by simp; omega) (by simp [wrN q (by omega)]) rfl (by simp [hsp])
          · simp at hcq
            obtain rfl : q = j + 1 := by omega
            rw [turnK_all ta z2 z3]
            have htl : (turnZ ta i j).length = ta.length := by rw [← turnK_all ta z2 z3, turnK_len]
            refine pw_exit ?_
            show PW _ _ _ _ _ _ _ (ext _ _ _)
            have e4 : frzP (nx + 4) va ((turnZ ta i j).flatMap Enc.enc) (.sl (nx + 4) va 2 0 ta.length) = L (turnZ ta i j) := by
              rw [frz_self _ _ _ _ _ (by rw [flen_stop, htl]), lst_len _ htl]
            have n4 : frzP (nx + 4) va ((turnZ ta i j).flatMap Enc.enc) (.sl (nx + 3) v3 1 0 d.length) = .sl (nx + 3) v3 1 0 d.length := by
              simp only [frzP]; rw [if_neg (by omega)]
            refine pw_as [(2, .ptr nx v0 0), (4, .ptr (nx + 2) v2 0), (5, .sl (nx + 3) v3 1 0 d.length)] ?_ ?_
            · simp
            refine pw_frz 4 rfl ?_
            rw [hcs]
            simp only [List.map_cons, List.map_nil, List.set_cons_succ, List.set_cons_zero, frzO, frz_set, e4, enc_set]
            rw [← hT]
            refine pw_to _ ?_ (htail v3)
            simp [n4]
        · rw [if_neg (by decide), if_neg (by decide), if_pos rfl] at hmz hT
          have hz := of_decide_eq_true hmz
          obtain ⟨z0, z1, z2⟩ := hz
          obtain ⟨si, tli, s1, -, -, e1, e0⟩ := el 2 rfl ta i z1
          obtain ⟨sj, tlj, u1, -, -, f1, f0⟩ := el 2 rfl tb j z2
          have hsi : sG ta i = si := by unfold sG; rw [List.getD_eq_getElem?_getD, s1]; rfl
          have hsj : sG tb j = sj := by unfold sG; rw [List.getD_eq_getElem?_getD, u1]; rfl
          rw [hsi, hsj] at hT
          have z3 : 2 ≤ ta.length * 2 - i * 2 := by omega
          have z4 : 2 ≤ tb.length * 2 - j * 2 := by omega
          have hsp1 := splice_stop ta i sj z1
          by_cases hab2 : a = b
          · subst hab2
            obtain rfl : ta = tb := ga.symm.trans gb
            rw [if_pos rfl] at hb'
            rw [hb', List.set_eq_of_length_le (l := (d.flatMap Enc.enc : List PV)) (by rw [flen_list]; exact Nat.le_refl _)] at hcs
            rw [obA_le (by omega)] at hob
            subst hob
            have g2 : tG (d.set a (ta.set i sj)) a = ta.set i sj := by unfold tG; rw [List.getD_eq_getElem?_getD, List.getElem?_set_self ha]; rfl
            rw [g2, List.set_set] at hT
            have hsp2 := splice_stop (ta.set i sj) j si (by rw [List.length_set]; exact z2)
            have hl2 : ((ta.set i sj).set j si).length = ta.length := by simp
            have hf2 : ((ta.set i sj).flatMap Enc.enc : List PV).length = ta.length * 2 := by rw [flen_stop, List.length_set]
            repeat refine pw_seq ?_
            refine pwN [] (jn4 hda ha ha1 hcl) ?_
            intros
            repeat refine pw_seq ?_
            refine pwN [] (jn4 hda ha ha1 hcl) ?_
            intros
            repeat refine pw_seq ?_
            refine pwn ?_
            intros
            repeat refine pw_seq ?_
            refine pw_block ?_
            repeat refine pw_seq ?_
            refine pwn ?_
            intros
            repeat refine pw_seq ?_
            refine pw_cf rfl ?_
            repeat refine pw_seq ?_
            refine pwn ?_
            intros
            repeat refine pw_seq ?_
            refine pw_cf rfl ?_
            repeat refine pw_seq ?_
            refine pwn ?_
            intros
            repeat refine pw_seq ?_
            refine pw_ct rfl ?_
            repeat refine pw_seq ?_
            refine pwN [] (jn4 e1 e0 z1 z3) ?_
            intro v4
            repeat refine pw_seq ?_
            refine pwY (some [nx + 1]) (Row.pures [0, 1, 2, 3, 4, 5, 6] (.alt 7 (Row.pures [8] (.alt 9 (.done) .stop)) .stop)) mixed (jn5 f1 f0 z1 z2 z4) ?_
            refine ⟨by omega, ?_⟩
            intros
            show PW _ _ _ _ _ _ _ (ext _ _ _)
            rw [hsp1]
            repeat refine pw_seq ?_
            refine pwN [] (jn2 hf2 z2) ?_
            refine ⟨by omega, ?_⟩
            intros
            rw [hsp2]
            simp only [inBlockQ]
            show PW _ _ _ _ _ _ _ (ext _ _ _)
            generalize (ta.set i sj).set j si = X at *
            have e4 : frzP (nx + 4) va (X.flatMap Enc.enc) (.sl (nx + 4) va 2 0 ta.length) = L X := by
              rw [frz_self _ _ _ _ _ (by rw [flen_stop, hl2]), lst_len _ hl2]
            have n4 : frzP (nx + 4) va (X.flatMap Enc.enc) (.sl (nx + 3) v3 1 0 d.length) = .sl (nx + 3) v3 1 0 d.length := by
              simp only [frzP]; rw [if_neg (by omega)]
            refine pw_as [(2, .ptr nx v0 0), (4, .ptr (nx + 2) v2 0), (5, .sl (nx + 3) v3 1 0 d.length)] ?_ ?_
            · simp
            refine pw_frz 4 rfl ?_
            rw [hcs]
            simp only [List.map_cons, List.map_nil, List.set_cons_succ, List.set_cons_zero, frzO, frz_set, e4, enc_set]
            rw [← hT]
            refine pw_to _ ?_ (htail v3)
            simp [n4]
          · rw [if_neg hab2] at hb'
            rw [if_neg (fun e => hab2 e.symm), if_pos hb'.symm] at hdb
            rw [obA_gt (by omega)] at hob
            subst hob
            have g2 : tG (d.set a (ta.set i sj)) b = tb := by unfold tG; rw [List.getD_eq_getElem?_getD, List.getElem?_set_ne hab2, b1]; rfl
            rw [g2, List.set_comm _ _ hab2] at hT
            have hsp2 := splice_stop tb j si z2
            have hlX : (ta.set i sj).length = ta.length := by simp
            have hlY : (tb.set j si).length = tb.length := by simp
            repeat refine pw_seq ?_
            refine pwN [] (jn4 hda ha ha1 hcl) ?_
            intros
            repeat refine pw_seq ?_
            refine pwN [] (jn4 hdb hb hb1 hcl) ?_
            intros
            repeat refine pw_seq ?_
            refine pwn ?_
            intros
            repeat refine pw_seq ?_
            refine pw_block ?_
            repeat refine pw_seq ?_
            refine pwn ?_
            intros
            repeat refine pw_seq ?_
            refine pw_cf rfl ?_
            repeat refine pw_seq ?_
            refine pwn ?_
            intros
            repeat refine pw_seq ?_
            refine pw_cf rfl ?_
            repeat refine pw_seq ?_
            refine pwn ?_
            intros
            repeat refine pw_seq ?_
            refine pw_ct rfl ?_
            repeat refine pw_seq ?_
            refine pwN [] (jn4 e1 e0 z1 z3) ?_
            intro v4
            repeat refine pw_seq ?_
            refine pwY (some [nx + 1, nx + 5]) (Row.pures [0, 1, 2, 3, 4, 5, 6, 7, 8] (.alt 9 (.done) .stop)) mixed (jn5 f1 f0 z1 z2 z4) ?_
            refine ⟨by omega, ?_⟩
            intros
            show PW _ _ _ _ _ _ _ (ext _ _ _)
            rw [hsp1]
            repeat refine pw_seq ?_
            refine pwN [] z2 ?_
            refine ⟨by omega, ?_⟩
            intros
            rw [hsp2]
            simp only [inBlockQ]
            show PW _ _ _ _ _ _ _ (ext _ _ _)
            generalize ta.set i sj = X at *
            generalize tb.set j si = Y at *
            have e4 : frzP (nx + 4) va (X.flatMap Enc.enc) (.sl (nx + 4) va 2 0 ta.length) = L X := by
              rw [frz_self _ _ _ _ _ (by rw [flen_stop, hlX]), lst_len _ hlX]
            have m4 : frzP (nx + 4) va (X.flatMap Enc.enc) (.sl (nx + 5) vb 2 0 tb.length) = .sl (nx + 5) vb 2 0 tb.length := by
              simp only [frzP]; rw [if_neg (by omega)]
            have n4 : frzP (nx + 4) va (X.flatMap Enc.enc) (.sl (nx + 3) v3 1 0 d.length) = .sl (nx + 3) v3 1 0 d.length := by
              simp only [frzP]; rw [if_neg (by omega)]
            have e5 : frzP (nx + 5) vb (Y.flatMap Enc.enc) (.sl (nx + 5) vb 2 0 tb.length) = L Y := by
              rw [frz_self _ _ _ _ _ (by rw [flen_stop, hlY]), lst_len _ hlY]
            have n5 : frzP (nx + 5) vb (Y.flatMap Enc.enc) (.sl (nx + 3) v3 1 0 d.length) = .sl (nx + 3) v3 1 0 d.length := by
              simp only [frzP]; rw [if_neg (by omega)]
            refine pw_as [(2, .ptr nx v0 0), (4, .ptr (nx + 2) v2 0), (5, .sl (nx + 3) v3 1 0 d.length)] ?_ ?_
            · simp
            refine pw_frz 4 rfl ?_
            rw [hcs]
            simp only [List.map_cons, List.map_nil, List.set_cons_succ, List.set_cons_zero, frzO, List.map_set, frz_day, frz_flat, e4, m4]
            refine pw_as [(2, .ptr nx v0 0), (4, .ptr (nx + 2) v2 0), (5, .sl (nx + 3) v3 1 0 d.length)] ?_ ?_
            · simp [n4]
            refine pw_frz 5 rfl ?_
            simp only [List.map_cons, List.map_nil, List.set_cons_succ, List.set_cons_zero, frzO, List.map_set, frz_day, frz_flat, e5]
            have eL : frzP (nx + 5) vb (Y.flatMap Enc.enc) (L X) = L X := rfl
            rw [eL, hb', enc_set, enc_set, ← hT]
            refine pw_to _ ?_ (htail v3)
            simp [n5]
  case h1 =>
    intro v3
    clear hT hm r1 r2 ha hb hk hdt
    repeat refine pw_seq ?_
    refine pwn ?_
    intro v4
    refine pw_nilObX 4 0 66 1 rfl rfl fun v5 => ?_
    repeat refine pw_seq ?_
    refine pwn ?_
    intros
    repeat refine pw_seq ?_
    refine pw_block (pw_loopL (fun s' : Nat × Nat => s'.1 ≤ d.length) (fun (q, v5) => [(4, .ptr (nx + 2) v2 0), (5, .sl (nx + 3) v3 1 0 d.length), (12, .ptr (nx + 4) v4 0), (13, I q)]) (fun (q, v5) => [.cells v0 35 [L d], .cells v1 110 (mvL m), .cells v2 35 [nilS], .cells v3 26 (T.flatMap Enc.enc), .cells v4 35 [.sl (nx + 5) v5 1 0 ((T.take q).filter neT).length], .cells v5 66 (((T.take q).filter neT).flatMap Enc.enc)]) (fun s' => d.length - s'.1) (0, v5) [] (by simp) (by simp) (by simp) ?_)
    rintro ⟨q, v5⟩ hq
    simp only at hq ⊢
    obtain ⟨out, hout⟩ : ∃ o, o = (T.take q).filter neT := ⟨_, rfl⟩
    rw [← hout]
    repeat refine pw_seq ?_
    refine pwn ?_
    intros
    repeat refine pw_seq ?_
    refine pw_cond rfl (fun hc => ?_) (fun hc => ?_)
    · simp at hc
      obtain ⟨t, tl, c1, c2, c3, e0⟩ := el1 rfl T q (by omega)
      have hq1 : 1 ≤ d.length - q := by omega
      have htl := htR t (List.mem_of_getElem? c1)
      have hol : out.length ≤ q := by rw [hout]; exact Nat.le_trans (List.length_filter_le _ _) (by rw [List.length_take]; omega)
      have hof : (out.flatMap Enc.enc : List PV).length = out.length := flen_list _
      have hot : (out.flatMap Enc.enc : List PV).take out.length = out.flatMap Enc.enc := List.take_of_length_le (by omega)
      have hon : (T.take (q + 1)).filter neT = out ++ (if t.length = 0 then [] else [t]) := by
        rw [c3, List.filter_append, ← hout]
        by_cases h0 : t.length = 0
        · rw [if_pos h0]; simp [neT, h0]
        · rw [if_neg h0]; simp [neT, h0]
      refine pw_skip (pw_seq (pw_block ?_))
      repeat refine pw_seq ?_
      refine pwN [] (jn3 e0 hc hq1) ?_
      intros
      by_cases h0 : t.length = 0
      · rw [if_pos h0] at hon
        have h0' : ¬ 0 < t.length := by omega
        repeat refine pw_seq ?_
        refine pw_cf (by simp [h0']) ?_
        refine pw_skip ?_
        repeat refine pw_seq ?_
        refine pwn ?_
        intros
        exact again_mk (q + 1, v5) [] hc (by simp; omega) (by simp [wrN q (by omega)]) rfl (by simp [hon])
      · rw [if_neg h0] at hon
        have h0' : 0 < t.length := by omega
        repeat refine pw_seq ?_
        refine pw_ct (by simp [h0']) ?_
        repeat refine pw_seq ?_
        refine pwY (some [nx + 3]) (Row.pures [0, 2, 3, 4, 5, 6, 7] (.alt 1 (.alt 8 (Row.pures [9] (.alt 10 (.done) .stop)) .stop) .stop)) mixed (jn5 e0 hc hq1 hof hot) ?_
        refine ⟨by omega, ?_⟩
        intros
        repeat refine pw_seq ?_
        refine pwn ?_
        intros
        exact again_mk (q + 1, v5 + 1) [] hc (by simp; omega) (by simp [wrN q (by omega)]) rfl (by simp [hon])
    · simp at hc
      obtain rfl : q = d.length := by omega
      rw [List.take_of_length_le (by omega)] at hout
      rw [← hout]
      refine pw_exit ?_
      refine pw_frz 5 rfl ?_
      repeat refine pw_seq ?_
      refine pwn ?_
      intros
      repeat refine pw_seq ?_
      exact pw_ret (ret_pure hd (by simp; rfl) (by simp [oneOf]))
open Go Go.Proofs
theorem day_fit {x : Inst} {l : List Stop} (h : SOk x l) (h0 : arc x 0 0 = 0) {d : Day} (g : SG x l d) {m : Mv} (hm : mayM d m = true) : (dayT x (mkZ d m) = 0 ∨ dayT x (mkZ d m) = 14) ↔ (fitR x d (cutM d m).1 ∧ fitR x d (cutM d m).2) := by
  rw [fit_iff h h0 g hm]
  have hp : (mkZ d m).flatten.Perm l := (mk_perm hm).trans g.perm
  have hnd : ((mkZ d m).flatten.map (·.c)).Nodup := (hp.map _).nodup_iff.2 h.nd
  have hne : ∀ t, mayT x t ≠ 14 := by
    intro t
    unfold mayT
    (repeat' split) <;> decide
  generalize mkZ d m = e at *
  unfold dayT
  cases hf : e.find? (fun t => mayT x t != 0) with
  | some t =>
    have h1 := List.find?_some hf
    have h2 := List.mem_of_find?_eq_some hf
    simp only
    constructor
    · rintro (q | q)
      · rw [q] at h1; simp at h1
      · exact absurd q (hne t)
    · intro q
      rw [q t h2] at h1; simp at h1
  | none =>
    simp only
    rw [if_neg (by simpa using hnd)]
    refine ⟨fun _ t ht => ?_, fun _ => ?_⟩
    · have := List.find?_eq_none.1 hf t ht
      simpa using this
    · split
      · exact .inr rfl
      · exact .inl rfl
set_option maxRecDepth 20000 in
set_option maxHeartbeats 3200000 in
theorem best14_ok {x : Inst} {l : List Stop} (h : SOk x l) (h0 : arc x 0 0 = 0) (hl6 : l.length ≤ 6) {d : Day} (g : SG x l d) : Pure Tryz.prog 69 [.agg (instL x), .agg [L d]] (.tup [.agg (mvL (mbZ x d).1), I (mbZ x d).2, B (decide ((mbZ x d).2 < 0))]) := by
  have hv := g.mv h
  have hf6 : d.flatten.length ≤ 6 := by rw [g.perm.length_eq]; exact hl6
  have hd6 : d.length ≤ 6 := by
    have := flat_len_ge d fun t ht => (stops_good (g.may t ht)).2
    omega
  have ht6 : ∀ t ∈ d, t.length ≤ 6 := fun t ht => by have := (tour_sub ht).length_le; omega
  have hall := all14_ok d hd6 ht6
  have hcost := costR_ok x d (g.ok h)
  have cb := costZ_bd h.arc d
  rw [costZ_W h.arc (by omega) (by omega)] at hcost
  have hfacts : ∀ m ∈ movesZ d, ∃ (ex : Int), Pure Tryz.prog 70 [.agg [L d], .agg (mvL m)] (.agg [L (mkZ d m)]) ∧ Pure Tryz.prog 21 [.agg (instL x), .agg [L (mkZ d m)]] (I ex) ∧ IntKind.i64.wrap (ex - costZ x d) = byM x d m ∧
      Pure Tryz.prog 19 [.agg (instL x), .agg [L (mkZ d m)]] (I (dayT x (mkZ d m))) ∧ ((dayT x (mkZ d m) = 0 ∨ dayT x (mkZ d m) = 14) ↔ (fitR x d (cutM d m).1 ∧ fitR x d (cutM d m).2)) := by
    intro m hm
    have hmm := (movesZ_mem hm).1
    have hp := mk_perm hmm
    have hfl := hp.length_eq
    have hne : ∀ t ∈ mkZ d m, t ≠ [] := fun t ht => (mk_mem ht).1
    have hml := mk_len d m
    have ok : DayOk (mkZ d m) := by
      refine ⟨by omega, fun t ht => ?_, fun t ht s hs => ?_⟩
      · have := (tour_sub ht).length_le; omega
      · obtain ⟨u, hu, hsu⟩ := List.mem_flatten.1 (hp.subset ((tour_sub ht).subset hs))
        exact (hv.s u hu s hsu).1
    have cb2 := costZ_bd h.arc (mkZ d m)
    refine ⟨_, make14_ok d m hv.n hv.t hmm, costR_ok x _ ok, ?_, dayR_ok x _ h.cust ok.n ok.t (by omega), day_fit h h0 g hmm⟩
    rw [costZ_W h.arc (by omega) (by omega), mk_cost hmm h0]
    have := mk_cost (x := x) hmm h0
    rw [wr _ (by omega) (by omega)]
    omega
  generalize costZ x d = cz at *
  unfold mbZ
  have hml : (movesZ d).length ≤ 7056 := (mv_bd d hd6 ht6).2.2.2 4
  generalize movesZ d = ms at *
  refine pwe Tryz.func69 Tryz.ntmps69 Tryz.results69 fun S nx hd => ?_
  repeat refine pw_seq ?_
  refine pwn ?_
  intro v0 v1 v2
  repeat refine pw_seq ?_
  refine pwn ?_
  intro v3
  repeat refine pw_seq ?_
  refine pwn ?_
  intros
  repeat refine pw_seq ?_
  refine pwn ?_
  refine pwc hall ?_
  intros
  repeat refine pw_seq ?_
  refine pwn ?_
  refine pwc hcost ?_
  intros
  repeat refine pw_seq ?_
  refine pwn ?_
  intros
  repeat refine pw_seq ?_
  refine pw_block (pw_loopL (fun s' : Nat × (Mv × Int) => s'.1 ≤ ms.length ∧ s'.2 = (ms.take s'.1).foldl (mbS x d) (mv0, 0)) (fun (i, (b, least)) => [(2, .ptr nx v0 0), (3, .ptr (nx + 1) v1 0), (4, .ptr (nx + 2) v2 0), (7, .ptr (nx + 3) v3 0), (8, I least), (9, L ms), (10, I cz), (11, I i)]) (fun (i, (b, least)) => [.cells v0 25 (instL x), .cells v1 35 [L d], .cells v2 110 [I 0, I 0, I 0, I 0, I 0], .cells v3 110 (mvL b)]) (fun s' => ms.length - s'.1) (0, (mv0, 0)) [] ⟨by simp, by simp⟩ (by simp) (by simp [mv0]) ?_)
  rintro ⟨i, b, least⟩ ⟨hi, hst⟩
  simp only at hi hst ⊢
  repeat refine pw_seq ?_
  refine pwn ?_
  intros
  repeat refine pw_seq ?_
  refine pw_cond rfl (fun hc => ?_) (fun hc => ?_)
  · simp at hc
    obtain ⟨m, tl, c1, c2, c3, -, e0⟩ := el 5 rfl ms i hc
    have hsucc := foldl_at (f := mbS x d) (b := (mv0, 0)) c1
    rw [← hst] at hsucc
    obtain ⟨ex, f1, f2, f3, f4, f5⟩ := hfacts m (List.mem_of_getElem? c1)
    unfold mbS at hsucc
    simp only at hsucc
    have z5 : 5 ≤ ms.length * 5 - i * 5 := by omega
    generalize mkZ d m = e at *
    generalize byM x d m = by_ at *
    generalize dayT x e = te at *
    have wi := wrN i (by omega)
    refine pw_skip (pw_seq (pw_block ?_))
    repeat refine pw_seq ?_
    refine pwY (some [nx + 1]) (Row.pures [0, 1, 2, 3, 4, 5] (.alt 6 (.alt 7 (.done) .stop) .stop)) mixed (jn3 e0 hc z5) ?_
    refine pwP (f1) (jn3 e0 hc z5) ?_
    intro v4
    intros
    repeat refine pw_seq ?_
    refine pwN [] f3 ?_
    refine pwC [] f2 f3 ?_
    intros
    repeat refine pw_seq ?_
    refine pwn ?_
    refine pwc f4 ?_
    intros
    by_cases hlt : by_ < least
    · by_cases t0 : te = 0
      · rw [if_pos ⟨hlt, f5.1 (.inl t0)⟩] at hsucc
        repeat refine pw_seq ?_
        refine pwN [(3, 43), (6, 46)] (jn3 hlt t0 undef_eq) ?_
        intros
        repeat refine pw_seq ?_
        refine pw_ct rfl ?_
        repeat refine pw_seq ?_
        refine pwN [] (jn3 e0 hc z5) ?_
        intros
        repeat refine pw_seq ?_
        refine pwn ?_
        intros
        repeat refine pw_seq ?_
        refine pwn ?_
        intros
        exact again_mk (i + 1, (m, by_)) [_] ⟨by simp; omega, hsucc.symm⟩ (by simp; omega) (by simp [wi]) rfl (by simp; rfl)
      · by_cases t14 : te = 14
        · rw [if_pos ⟨hlt, f5.1 (.inr t14)⟩] at hsucc
          subst t14
          repeat refine pw_seq ?_
          refine pwN [(3, 43), (6, 46)] (jn2 hlt undef_eq) ?_
          intros
          repeat refine pw_seq ?_
          refine pw_ct rfl ?_
          repeat refine pw_seq ?_
          refine pwN [] (jn3 e0 hc z5) ?_
          intros
          repeat refine pw_seq ?_
          refine pwn ?_
          intros
          repeat refine pw_seq ?_
          refine pwn ?_
          intros
          exact again_mk (i + 1, (m, by_)) [_] ⟨by simp; omega, hsucc.symm⟩ (by simp; omega) (by simp [wi]) rfl (by simp; rfl)
        · rw [if_neg fun q => by rcases f5.2 q.2 with q | q; exact t0 q; exact t14 q] at hsucc
          repeat refine pw_seq ?_
          refine pwN [(3, 43), (6, 46)] (jn4 hlt t0 t14 undef_eq) ?_
          intros
          repeat refine pw_seq ?_
          refine pw_cf rfl ?_
          refine pw_skip ?_
          repeat refine pw_seq ?_
          refine pwn ?_
          intros
          exact again_mk (i + 1, (b, least)) [_] ⟨by simp; omega, hsucc.symm⟩ (by simp; omega) (by simp [wi]) rfl (by simp; rfl)
    · rw [if_neg fun q => hlt q.1] at hsucc
      repeat refine pw_seq ?_
      refine pwN [(3, 43), (6, 46)] (jn2 hlt undef_eq) ?_
      intros
      repeat refine pw_seq ?_
      refine pw_cf rfl ?_
      refine pw_skip ?_
      repeat refine pw_seq ?_
      refine pwn ?_
      intros
      exact again_mk (i + 1, (b, least)) [_] ⟨by simp; omega, hsucc.symm⟩ (by simp; omega) (by simp [wi]) rfl (by simp; rfl)
  · simp at hc
    obtain rfl : i = ms.length := by omega
    rw [List.take_length] at hst
    refine pw_exit ?_
    rw [← hst]
    repeat refine pw_seq ?_
    refine pwn ?_
    intros
    repeat refine pw_seq ?_
    exact pw_ret (ret_pure hd (by simp; rfl) (by simp [oneOf]))
theorem stepR_ok {x : Inst} {l : List Stop} (h : SOk x l) (h0 : arc x 0 0 = 0) (hl6 : l.length ≤ 6) : StepR x (stepZ x) (SG x l) := by
  intro d g
  have hv := g.mv h
  have hd1 : (stepZ x d).isSome = decide ((mbZ x d).2 < 0) := by
    unfold stepZ
    split
    · rename_i q; simp [q]
    · rename_i q; simp [q]
  refine ⟨_, _, _, _, _, _, by rw [hd1]; exact best14_ok h h0 hl6 g, fun e he => ⟨?_, (step_keeps h h0 g he).1⟩⟩
  unfold stepZ at he
  split at he
  · rename_i hb
    cases he
    obtain ⟨h1, -, -⟩ := step_of hb
    exact make14_ok d _ hv.n hv.t (movesZ_mem h1).1
  · cases he
open Go Go.Proofs Hp
theorem impR_of {x : Inst} {l : List Stop} (h : SOk x l) (h0 : arc x 0 0 = 0) (hl6 : l.length ≤ 6) (hf : fitsZ x l = 0) {b : Int} (hb : b ≤ 9223372036854775807) : ImpR x b (impZ x b) (basesZ x l) := by
  intro d hd
  have g := base_SG h hf d hd
  obtain ⟨g2, -, -⟩ := imp_keeps h h0 b.toNat d g
  refine ⟨improveR_ok x d b (stepZ x) (SG x l) hb (fun _ => g) (stepR_ok h h0 hl6), g2.ok h, ?_⟩
  have := (g2.len h).1
  show (impN (stepZ x) b.toNat d).flatten.length ≤ 1048576
  omega
theorem solR_ok {x : Inst} {l : List Stop} (h : SOk x l) (h0 : arc x 0 0 = 0) (hl6 : l.length ≤ 6) {b : Int} (hb : b ≤ 9223372036854775807) : Pure Tryz.prog 16 [.agg (instL x), L l, I b] (.tup [.agg [L (solZ x b l).1], I (solZ x b l).2]) :=
  solveRef_ok x l b _ h fun hf => impR_of h h0 hl6 hf hb
set_option maxRecDepth 20000 in
set_option maxHeartbeats 1600000 in
theorem daySolves_ok (x : Inst) (l : List Stop) (b : Int) (hx : InstOk x) (hl : l.length ≤ 9223372036854775807) (hs : ∀ s ∈ l, StopOk s) (hb : I64 b) : Pure Tryz.prog 4 [.agg (instL x), L l, I b] (B true) := by
  have hc := goodI_cust' x
  have hG := goodI_ok x hx
  have hg := goods_of (n := (goodI x).cust.length) hs
  have hgs := goodS_ok (goodI x) l hl hc hs
  have hsok := sok_of hg
  have hdg := goodI_diag x
  have hlv := lives15_ok
  have hg6 := hg.len
  generalize goodL (goodI x).cust.length [] l = g at *
  generalize goodI x = y at *
  have hbb : bud b ≤ 9223372036854775807 := by unfold bud; unfold I64 at hb; split <;> omega
  have s1 := solP_ok hsok hdg (b := bud b) hbb
  have s2 := solR_ok hsok hdg hg6 (b := bud b) hbb
  obtain ⟨p1, -, -⟩ := sol_ok hsok hdg (bud b)
  have hsame := sameD_ok (solZ y (bud b) g).1 (solZ y (bud b) g).1 p1.n p1.t
  rw [decide_eq_true rfl] at hsame
  generalize solZ y (bud b) g = p at *
  obtain ⟨d, e⟩ := p
  simp only at s1 s2 hsame
  refine pwe Tryz.func4 Tryz.ntmps4 Tryz.results4 fun S nx hd => ?_
  repeat refine pw_seq ?_
  refine pwn ?_
  intro v0
  repeat refine pw_seq ?_
  refine pwn ?_
  refine pwc hG ?_
  intro v1
  intros
  repeat refine pw_seq ?_
  refine pwn ?_
  refine pwc hgs ?_
  intros
  repeat refine pw_seq ?_
  refine pwn ?_
  intros
  repeat refine pw_seq ?_
  refine pw_joinK (nx := nx) (σ := Unit) (fun _ => True) (fun _ => [(2, I (bud b)), (7, .ptr (nx + 1) v1 0), (8, L g)]) (fun _ => S) (fun _ => [.cells v0 25 (instL x), .cells v1 25 (instL y)]) ?_ ?_
  · by_cases h0 : 50 < b
    · have e : bud b = b % 51 := by unfold bud; rw [if_pos h0]
      have w : b.tmod 51 = b % 51 := Int.tmod_eq_emod_of_nonneg (by omega)
      repeat refine pw_seq ?_
      refine pw_ct (by simp [h0]) ?_
      repeat refine pw_seq ?_
      refine pwN [] w ?_
      intros
      exact at_mk () [] trivial (by simp [e]) rfl (by simp)
    · have e : bud b = b := by unfold bud; rw [if_neg h0]
      repeat refine pw_seq ?_
      refine pw_cf (by simp [h0]) ?_
      refine pw_skip ?_
      exact at_mk () [] trivial (by simp [e]) rfl (by simp)
  rintro ⟨⟩ -
  repeat refine pw_seq ?_
  refine pwn ?_
  refine pwc s1 ?_
  intro v2
  intros
  repeat refine pw_seq ?_
  refine pwn ?_
  refine pwc s2 ?_
  intro v3
  intros
  repeat refine pw_seq ?_
  refine pwN [(3, 39), (8, 44)] trivial ?_
  refine pwC [(3, 39), (8, 44)] hsame trivial ?_
  refine pwC [(3, 39), (8, 44)] hlv trivial ?_
  intros
  repeat refine pw_seq ?_
  exact pw_ret (ret_pure hd rfl rfl)
end Go.Proofs.YtafcjklojnhbnaaGreat.Pv
namespace Go.Proofs.YtafcjklojnhbnaaGreat
open Go Go.ChangeShapes Go.WideShapes Go.ChangeAt Go.RowKit Pv
set_option maxRecDepth 100000 in
theorem daySolves_lifted (os : Os) (started : os.Started) (H : Type) (enc : TypeId × Value → H) :
    ReturnsInHanded {} Tryz.checked os 4 .any (Rows.daySolvesSpec.pre6 enc Tryz.prog Tryz.f4 Rows.daySolvesRow.domain false) (Rows.daySolvesSpec.post enc Tryz.prog Tryz.f4 false true false false) := by
  refine returnsInHanded_of_change (C := Tryz.checked) own0 started (by kernel_rfl) Tryz.func4
    (ChangeSpec.witness6 (enc := enc) (C := Tryz.checked) false ⟨#[], #[.agg #[.int .i64 0, .int .i64 0, .int .i64 0, .int .i64 0, .slice none 0 0, .slice none 0 0], .slice none 0 0, .int .i64 0], []⟩ 8 (by kernel_rfl) (by kernel_rfl) (by kernel_rfl) (by kernel_rfl)) ?_
  intro W base args ds gs before hval0 hW hcnd _
  have hval : ∀ (j : Nat) t v, Tryz.f4.params[j]? = some t → args[j]? = some v → Value.okWide Tryz.prog W .any base t v := hval0
  have hW' := hW
  obtain ⟨p, q, hA0, hV, rfl, hfz, hnd⟩ := hW
  have hA : DataW.TrodAll enc Tryz.prog W 0 (fun _ => true) true Tryz.f4.params.toList args.toList ds p := hA0
  rw [Tryz.params4] at hA hval
  obtain ⟨v0, v1, v2, d0, d1, d2, p0, p1, p2, rfl, rfl, rfl, h0, h1, h2⟩ := trodAll_three hA
  obtain ⟨rfl, rfl⟩ := trodVars_none hV
  obtain ⟨c0, rfl, _⟩ := okWide_struct Tryz.underlying25 (hval 0 _ v0 rfl rfl)
  obtain ⟨a0, k0, r0⟩ := rel_agg (opens_inst W) h0
  obtain ⟨b1, n1, m1, rfl⟩ := okWide_slice Tryz.underlying26 (hval 1 _ v1 rfl rfl)
  obtain ⟨a1, k1, r1⟩ := rel_cell (opens_stops W) rfl h1
  have r1 := r1 _ rfl
  obtain ⟨z2, rfl⟩ := okWide_int Tryz.underlying3 (hval 2 _ v2 rfl rfl)
  obtain ⟨a2, k2, r2⟩ := rel_cell ((opens_int Tryz.underlying3 : Opens Tryz.prog W 3 Int I64)) rfl h2
  have r2 := r2 _ rfl
  refine (pure_true ((daySolves_ok a0 a1 a2 k0 k1.1 k1.2 k2)) rfl (fun i c v hc hv => ?_)).mono fun e W' hq => ?_
  · match i with
    | 0 => cases hc; cases hv; exact r0
    | 1 => cases hc; cases hv; exact r1
    | 2 => cases hc; cases hv; exact r2
    | i + 3 => cases hc
  exact ⟨_, hq.1, law_end rfl rfl (of_decide_eq_true (by kernel_rfl)) hW' rfl rfl rfl hq.2⟩
theorem daySolves_holds : Rows.DaySolvesSaid :=
  OpenClaim.holds_of_wide 4 Tryz.f4 rfl rfl rfl rfl rfl rfl rfl ⟨rfl, rfl, rfl, rfl, rfl⟩ rfl rfl rfl rfl rfl (by kernel_rfl) Tryz.func4 (by kernel_rfl)
    (of_decide_eq_true (by kernel_rfl)) (by unfold Func.isWrapper; first | (rw [if_pos (by decide +kernel)]; kernel_rfl) | (rw [if_neg (by decide +kernel)]; exact ⟨rfl, rfl⟩))
    (fun os started H enc _ => daySolves_lifted os started H enc)
end Go.Proofs.YtafcjklojnhbnaaGreat
