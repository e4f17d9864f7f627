/- A part of the proof of the statement that the last text of this claim proves; no condition is added. Packed by a program of the prover. -/
import Derived.Test.YtafcjklojnhbnaaGreatT5
namespace Go.Proofs.YtafcjklojnhbnaaGreat.Pv
open Go Hp
theorem apartD_snoc (l : List Stop) (s : Stop) : apartD (l ++ [s]) = apartD l ++ [[s]] := by simp [apartD]
theorem apartD_len (l : List Stop) : (apartD l).length = l.length := by simp [apartD]
theorem joinRS_wf {x : Inst} {ss : List Stop} {T : Day} {g : Int → Option Int} (h : JI ss T g) (hss : ss.length ≤ 1000) : (T.filter ne).length ≤ 1000 ∧ (T.filter ne).flatten.length ≤ 1000 ∧ ∀ t ∈ T.filter ne, t ≠ [] := by
  have hf : (T.filter ne).flatten = T.flatten := by
    induction T with
    | nil => rfl
    | cons t T ih =>
      clear h
      have key : ∀ T : Day, (T.filter ne).flatten = T.flatten := by
        intro T
        induction T with
        | nil => rfl
        | cons t T ih =>
          rw [List.filter_cons]
          cases t with
          | nil => simpa using ih
          | cons s t => simp [ih]
      exact key _
  have hne : ∀ t ∈ T.filter ne, t ≠ [] := fun t ht e => by
    have := (List.mem_filter.1 ht).2
    rw [e] at this; cases this
  have hl := h.perm.length_eq
  have h1 := flat_len_ge (T.filter ne) hne
  rw [hf] at h1
  exact ⟨by omega, by rw [hf]; omega, hne⟩
set_option maxRecDepth 20000 in
theorem apartR_ok (l : List Stop) (hl : l.length ≤ 1048576) : Pure Tryz.prog 20 [L l] (.agg [L (apartD l)]) := by
  refine pwe Tryz.func20 Tryz.ntmps20 Tryz.results20 fun S nx hd => ?_
  repeat refine pw_seq ?_
  refine pwn ?_
  intro v0
  repeat refine pw_seq ?_
  refine pwn ?_
  intro v1
  refine pw_nilObX 1 0 66 1 rfl rfl fun v2 => ?_
  repeat refine pw_seq ?_
  refine pwn ?_
  intros
  repeat refine pw_seq ?_
  refine pw_block (pw_loopL (fun s : Nat × Nat => s.1 ≤ l.length) (fun (k, v2) => [(0, L l), (2, .ptr nx v0 0), (3, .ptr (nx + 1) v1 0), (4, I k)]) (fun (k, v2) => [.cells v0 35 [nilS], .cells v1 35 [.sl (nx + 2) v2 1 0 k], .cells v2 66 ((apartD (l.take k)).flatMap Enc.enc)]) (fun s => l.length - s.1) (0, v2) [] (by simp) (by simp) (by simp [apartD]) ?_)
  rintro ⟨k, v2⟩ hk
  simp only at hk ⊢
  repeat refine pw_seq ?_
  refine pwn ?_
  intros
  repeat refine pw_seq ?_
  refine pw_cond rfl (fun hc => ?_) (fun hc => ?_)
  · simp at hc
    obtain ⟨s, tl, a1, a2, a3, e1, e0⟩ := el 2 rfl l k hc
    have htl : ((apartD (l.take k)).flatMap Enc.enc : List PV).length = k := by rw [flen_list, apartD_len, List.length_take]; omega
    have htk : ((apartD (l.take k)).flatMap Enc.enc : List PV).take k = (apartD (l.take k)).flatMap Enc.enc := List.take_of_length_le (by omega)
    have hsn : ((apartD (l.take (k + 1))).flatMap Enc.enc : List PV) = (apartD (l.take k)).flatMap Enc.enc ++ [L [s]] := by rw [a3, apartD_snoc, List.flatMap_append]; rfl
    have g1 : 2 ≤ l.length * 2 - k * 2 := by omega
    generalize ((apartD (l.take k)).flatMap Enc.enc : List PV) = cs at *
    refine pw_skip (pw_seq (pw_block ?_))
    repeat refine pw_seq ?_
    refine pwY (some []) (Row.pures [0, 2, 3, 4, 5, 6, 7, 8] (.alt 1 (.alt 9 (Row.pures [10] (.alt 11 (.done) .stop)) .stop) .stop)) mixed (jn5 htl htk e0 hc g1) ?_
    refine ⟨by omega, ?_⟩
    intros
    repeat refine pw_seq ?_
    refine pwn ?_
    intros
    exact again_mk (k + 1, v2 + 1) [] hc (by simp; omega) (by simp [wrN k (by omega)]) rfl (by simp [hsn])
  · simp at hc
    obtain rfl : k = l.length := by omega
    have g1 : l.take l.length = l := List.take_length
    refine pw_exit ?_
    refine pw_frz 2 rfl ?_
    repeat refine pw_seq ?_
    refine pwn ?_
    intros
    repeat refine pw_seq ?_
    exact pw_ret (ret_pure hd (by simp; rfl) (by simp [oneOf, g1, apartD_len]))
set_option maxRecDepth 20000 in
set_option maxHeartbeats 1600000 in
theorem joinR_ok (x : Inst) (ss : List Stop) (hx : ArcOk x) (hxc : x.cust.length ≤ 1048576) (hss : ss.length ≤ 1000) (hs : ∀ s ∈ ss, small s.c) (hnd : (ss.map (·.c)).Nodup) : Pure Tryz.prog 40 [.agg (instL x), L ss] (.agg [L (joinP x ss)]) := by
  have hpl := pairsP_le (x := x) hnd (by simpa using hss)
  have hpr := pairsR_ok x ss hx hss hs hnd
  have hmem : ∀ p ∈ pairsP x (ss.map (·.c)), p.a ∈ ss.map (·.c) ∧ p.b ∈ ss.map (·.c) := fun p hp => by
    have := prsAll_mem.1 ((pairsP_perm x _).subset hp)
    exact ⟨this.1, this.2.1⟩
  rw [← joinR_eq hnd]
  generalize hps : pairsP x (ss.map (·.c)) = ps at *
  refine pwe Tryz.func40 Tryz.ntmps40 Tryz.results40 fun S nx hd => ?_
  repeat refine pw_seq ?_
  refine pwn ?_
  intro v0 v1
  repeat refine pw_seq ?_
  refine pwn ?_
  intro v2
  refine pw_nilObX 2 0 66 1 rfl rfl fun v3 => ?_
  repeat refine pw_seq ?_
  refine pwn ?_
  intros
  repeat refine pw_seq ?_
  refine pw_block (pw_loopL (fun s : Nat × Nat => s.1 ≤ ss.length) (fun (k, v3) => [(1, L ss), (2, .ptr nx v0 0), (4, .ptr (nx + 1) v1 0), (5, .ptr (nx + 2) v2 0), (6, I k)]) (fun (k, v3) => [.cells v0 25 (instL x), .cells v1 35 [nilS], .cells v2 35 [.sl (nx + 3) v3 1 0 k], .cells v3 66 ((apartD (ss.take k)).flatMap Enc.enc)]) (fun s => ss.length - s.1) (0, v3) [] (by simp) (by simp) (by simp [apartD]) ?_)
  rintro ⟨k, v3⟩ hk
  simp only at hk ⊢
  repeat refine pw_seq ?_
  refine pwn ?_
  intros
  repeat refine pw_seq ?_
  refine pw_cond rfl (fun hc => ?_) (fun hc => ?_)
  · simp at hc
    obtain ⟨s, tl, a1, a2, a3, e1, e0⟩ := el 2 rfl ss k hc
    have htl : ((apartD (ss.take k)).flatMap Enc.enc : List PV).length = k := by rw [flen_list, apartD_len, List.length_take]; omega
    have htk : ((apartD (ss.take k)).flatMap Enc.enc : List PV).take k = (apartD (ss.take k)).flatMap Enc.enc := List.take_of_length_le (by omega)
    have hsn : ((apartD (ss.take (k + 1))).flatMap Enc.enc : List PV) = (apartD (ss.take k)).flatMap Enc.enc ++ [L [s]] := by rw [a3, apartD_snoc, List.flatMap_append]; rfl
    have g1 : 2 ≤ ss.length * 2 - k * 2 := by omega
    generalize ((apartD (ss.take k)).flatMap Enc.enc : List PV) = cs at *
    refine pw_skip (pw_seq (pw_block ?_))
    repeat refine pw_seq ?_
    refine pwY (some []) (Row.pures [0, 2, 3, 4, 5, 6, 7, 8] (.alt 1 (.alt 9 (Row.pures [10] (.alt 11 (.done) .stop)) .stop) .stop)) mixed (jn5 htl htk e0 hc g1) ?_
    refine ⟨by omega, ?_⟩
    intros
    repeat refine pw_seq ?_
    refine pwn ?_
    intros
    exact again_mk (k + 1, v3 + 1) [] hc (by simp; omega) (by simp [wrN k (by omega)]) rfl (by simp [hsn])
  · simp at hc
    obtain rfl : k = ss.length := by omega
    have g1 : ss.take ss.length = ss := List.take_length
    refine pw_exit ?_
    rw [g1]
    refine pw_frz 3 rfl ?_
    have g2 : (PV.lst ss.length ((apartD ss).flatMap Enc.enc)) = L (apartD ss) := by rw [← apartD_len ss]
    repeat refine pw_seq ?_
    refine pwn ?_
    refine pwc hpr ?_
    intros
    repeat refine pw_seq ?_
    refine pwn ?_
    intros
    repeat refine pw_seq ?_
    refine pw_block (pw_loopL (fun s : Nat × Day => s.1 ≤ ps.length ∧ s.2 = (ps.take s.1).foldl (joinRS x) (apartD ss) ∧ ∃ T g, JI ss T g ∧ s.2 = T.filter ne ∧ ((T, ((T.filter ne).length : Int)) : Day × Int).1 = T) (fun (k, d) => [(2, .ptr nx v0 0), (4, .ptr (nx + 1) v1 0), (5, .ptr (nx + 2) v2 0), (7, L ps), (8, I k)]) (fun (k, d) => [.cells v0 25 (instL x), .cells v1 35 [nilS], .cells v2 35 [L d]]) (fun s => ps.length - s.1) (0, apartD ss) [.dead] ⟨by simp, by simp, (by
      obtain ⟨g, hg⟩ := JI.begin ss [] [] _ JI.nil (by simpa using hnd)
      exact ⟨_, g, by simpa using hg, (apart_filter ss).symm, rfl⟩)⟩ (by simp) (by simp [g2, apartD_len]) ?_)
    clear hk hc
    rintro ⟨k, d⟩ ⟨hk, hd', T, g, hI, hT, -⟩
    simp only at hk hd' hT ⊢
    obtain ⟨hdl, hdf, hdne⟩ := joinRS_wf (x := x) hI hss
    rw [← hT] at hdl hdf hdne
    repeat refine pw_seq ?_
    refine pwn ?_
    intros
    repeat refine pw_seq ?_
    refine pw_cond rfl (fun hc => ?_) (fun hc => ?_)
    · simp at hc
      obtain ⟨p, tl, a1, a2, a3, e1, e0⟩ := el 3 rfl ps k hc
      have hstep := joinRS_eq (x := x) (st := (T, ((T.filter ne).length : Int))) hI rfl (hmem p (List.mem_of_getElem? a1)).1 (hmem p (List.mem_of_getElem? a1)).2
      simp only at hstep
      rw [← hT] at hstep
      obtain ⟨s1, -, g', s3⟩ := hstep
      have hnx : (ps.take (k + 1)).foldl (joinRS x) (apartD ss) = joinRS x d p := by rw [a3, List.foldl_append, ← hd']; rfl
      have hgo : k + 1 ≤ ps.length ∧ joinRS x d p = (ps.take (k + 1)).foldl (joinRS x) (apartD ss) ∧ ∃ T g, JI ss T g ∧ joinRS x d p = T.filter ne ∧ ((T, ((T.filter ne).length : Int)) : Day × Int).1 = T := ⟨hc, hnx.symm, _, _, s3, s1, rfl⟩
      clear s3 s1 hnx hd' hI hT T g g'
      have gp : 3 ≤ ps.length * 3 - k * 3 := by omega
      refine pw_skip (pw_seq (pw_block ?_))
      repeat refine pw_seq ?_
      refine pwn ?_
      intros
      repeat refine pw_seq ?_
      refine pwn ?_
      intros
      repeat refine pw_seq ?_
      refine pwn ?_
      intros
      repeat refine pw_seq ?_
      refine pw_block (pw_loopL (fun j : Nat => j ≤ d.length) (fun j => [(2, .ptr nx v0 0), (4, .ptr (nx + 1) v1 0), (5, .ptr (nx + 2) v2 0), (7, L ps), (8, I k), (9, I (lastI (endF p.a) (d.take j))), (10, I (lastI (headF p.b) (d.take j))), (11, I j)]) (fun j => [.cells v0 25 (instL x), .cells v1 35 [nilS], .cells v2 35 [L d]]) (fun j => d.length - j) 0 [] (by simp) (by simp [lastI]) (by simp) ?_)
      rintro j hj
      repeat refine pw_seq ?_
      refine pwn ?_
      intros
      repeat refine pw_seq ?_
      refine pw_cond rfl (fun hcj => ?_) (fun hcj => ?_)
      · simp at hcj
        obtain ⟨t, tt, b1, b2, b3, f0⟩ := el1 rfl d j hcj
        have hj1 : 1 ≤ d.length - j := by omega
        have htn := hdne t (List.mem_of_getElem? b1)
        have htl : t.length ≤ 1000 := Nat.le_trans (tour_sub (List.mem_of_getElem? b1)).length_le hdf
        obtain ⟨m, hm⟩ : ∃ m, t.length = m + 1 := ⟨t.length - 1, by have : t.length ≠ 0 := fun e => htn (List.eq_nil_of_length_eq_zero e); omega⟩
        obtain ⟨la, tla, la1, la2, la3, la4, la5⟩ := el 2 rfl t m (by omega)
        obtain ⟨ha, tha, ha1, ha2, ha3, ha4, ha5⟩ := el 2 rfl t 0 (by omega)
        have w1 : IntKind.i64.wrap ((t.length : Int) - 1) = (m : Int) := by rw [wr _ (by omega) (by omega)]; omega
        have q1 : m < t.length := by omega
        have q2 : 2 ≤ t.length * 2 - m * 2 := by omega
        have q3 : 0 < t.length := by omega
        have q4 : 2 ≤ t.length * 2 := by omega
        have hkj : d.take j.succ = d.take j ++ [t] := b3
        have hEF : endF p.a t = decide (la.c = p.a) := by
          unfold endF endC
          rw [hm, Nat.add_sub_cancel, la1]
          simp
        have hHF : headF p.b t = decide (ha.c = p.b) := by
          unfold headF headC
          rw [ha1]
          simp
        have hdj : (d.take j).length = j := by rw [List.length_take]; omega
        have eE := lastI_snoc (endF p.a) t (d.take j)
        have eH := lastI_snoc (headF p.b) t (d.take j)
        rw [← b3, hdj, hEF] at eE
        rw [← b3, hdj, hHF] at eH
        have ha6 : (t.flatMap Enc.enc : List PV) = Enc.enc ha ++ tha := by simpa using ha5
        refine pw_skip (pw_seq (pw_block ?_))
        repeat refine pw_seq ?_
        refine pwN [] (jn3 f0 hcj hj1) ?_
        intros
        repeat refine pw_seq ?_
        refine pwY none (Row.pures [0, 1, 2, 3, 4, 5, 6, 7, 8, 9, 10, 11, 12] .done) mixed (jn6 la5 w1 q1 e0 hc (jn2 gp q2)) ?_
        intros
        repeat refine pw_seq ?_
        refine pw_joinK (nx := nx) (fun _ : Unit => True) (fun _ => [(2, .ptr nx v0 0), (4, .ptr (nx + 1) v1 0), (5, .ptr (nx + 2) v2 0), (7, L ps), (8, I k), (9, I (lastI (endF p.a) (d.take (j + 1)))), (10, I (lastI (headF p.b) (d.take j))), (11, I j), (12, L t)]) (fun _ => S) (fun _ => [.cells v0 25 (instL x), .cells v1 35 [nilS], .cells v2 35 [L d]]) ?_ ?_
        · repeat refine pw_seq ?_
          refine pw_cond rfl (fun hq => ?_) (fun hq => ?_)
          · simp at hq
            rw [if_pos (by simpa using hq)] at eE
            repeat refine pw_seq ?_
            refine pwn ?_
            intros
            exact at_mk () [] trivial (by simp [eE]) rfl (by simp)
          · simp at hq
            rw [if_neg (by simpa using hq)] at eE
            refine pw_skip ?_
            exact at_mk () [] trivial (by simp [eE]) rfl (by simp)
        · rintro ⟨⟩ -
          repeat refine pw_seq ?_
          refine pwY none (Row.pures [0, 1, 2, 3, 4, 5, 6, 7, 8, 9] .done) mixed (jn6 ha6 q3 q4 e0 hc gp) ?_
          intros
          repeat refine pw_seq ?_
          refine pw_cond rfl (fun hq => ?_) (fun hq => ?_)
          · simp at hq
            rw [if_pos (by simpa using hq)] at eH
            repeat refine pw_seq ?_
            refine pwn ?_
            intros
            repeat refine pw_seq ?_
            refine pwn ?_
            intros
            exact again_mk (j + 1) [] hcj (by omega) (by simp [wrN j (by omega), eH]) rfl (by simp)
          · simp at hq
            rw [if_neg (by simpa using hq)] at eH
            refine pw_skip ?_
            repeat refine pw_seq ?_
            refine pwn ?_
            intros
            exact again_mk (j + 1) [] hcj (by omega) (by simp [wrN j (by omega), eH]) rfl (by simp)
      · simp at hcj
        obtain rfl : j = d.length := by omega
        rw [List.take_length]
        refine pw_exit ?_
        clear hj hcj
        have hEs := lastI_spec (endF p.a) d
        have hHs := lastI_spec (headF p.b) d
        have hdef : joinRS x d p = joinRS x d p := rfl
        conv at hdef => rhs; unfold joinRS
        generalize hla : lastI (endF p.a) d = a at *
        generalize hlb : lastI (headF p.b) d = b at *
        have wk := wrN k (by omega)
        by_cases c1 : a < 0
        · rw [if_pos (.inl c1)] at hdef
          repeat refine pw_seq ?_
          refine pwN [(2, 82), (6, 86), (11, 91), (18, 98)] (jn2 c1 undef_eq) ?_
          intros
          repeat refine pw_seq ?_
          refine pw_ct rfl ?_
          refine pw_exit ?_
          repeat refine pw_seq ?_
          refine pwn ?_
          intros
          exact again_mk (k + 1, d) [] (by simpa [hdef] using hgo) (by simp; omega) (by simp [wk]) rfl (by simp)
        by_cases c2 : b < 0
        · rw [if_pos (.inr (.inl c2))] at hdef
          repeat refine pw_seq ?_
          refine pwN [(2, 82), (6, 86), (11, 91), (18, 98)] (jn3 c1 c2 undef_eq) ?_
          intros
          repeat refine pw_seq ?_
          refine pw_ct rfl ?_
          refine pw_exit ?_
          repeat refine pw_seq ?_
          refine pwn ?_
          intros
          exact again_mk (k + 1, d) [] (by simpa [hdef] using hgo) (by simp; omega) (by simp [wk]) rfl (by simp)
        by_cases c3 : a = b
        · rw [if_pos (.inr (.inr (.inl c3)))] at hdef
          subst c3
          repeat refine pw_seq ?_
          refine pwN [(2, 82), (6, 86), (11, 91), (18, 98)] (jn2 c1 undef_eq) ?_
          intros
          repeat refine pw_seq ?_
          refine pw_ct rfl ?_
          refine pw_exit ?_
          repeat refine pw_seq ?_
          refine pwn ?_
          intros
          exact again_mk (k + 1, d) [] (by simpa [hdef] using hgo) (by simp; omega) (by simp [wk]) rfl (by simp)
        have hstop : (p.s ≤ 0 ∧ (d.length : Int) ≤ x.veh) ∨ ¬ (p.s ≤ 0 ∧ (d.length : Int) ≤ x.veh) := Classical.em _
        rcases hEs with ⟨hEs, -⟩ | ⟨i, ta, i1, i2, i3⟩
        · exact absurd (by omega) c1
        rcases hHs with ⟨hHs, -⟩ | ⟨i', tb, j1, j2, j3⟩
        · exact absurd (by omega) c2
        subst i3 j3
        have hil := (List.getElem?_eq_some_iff.1 i1).1
        have hjl := (List.getElem?_eq_some_iff.1 j1).1
        have c3' : ¬ i = i' := fun e => c3 (by rw [e])
        have gti : d.getD (i : Int).toNat [] = ta := by rw [Int.toNat_natCast, List.getD_eq_getElem?_getD, i1]; rfl
        have gtj : d.getD (i' : Int).toNat [] = tb := by rw [Int.toNat_natCast, List.getD_eq_getElem?_getD, j1]; rfl
        rw [gti, gtj, Int.toNat_natCast, Int.toNat_natCast] at hdef
        have n1 : ¬ (i : Int) < 0 := by omega
        have n2 : ¬ (i' : Int) < 0 := by omega
        have n3 : ¬ (i : Int) = (i' : Int) := by omega
        rcases hstop with c4 | c4
        · rw [if_pos (.inr (.inr (.inr c4)))] at hdef
          obtain ⟨c5, c6⟩ := c4
          repeat refine pw_seq ?_
          refine pwN [(2, 82), (6, 86), (11, 91), (18, 98)] (jn6 n1 n2 n3 c3' e0 (jn4 hc gp c5 c6)) ?_
          intros
          repeat refine pw_seq ?_
          refine pw_ct rfl ?_
          refine pw_exit ?_
          repeat refine pw_seq ?_
          refine pwn ?_
          intros
          exact again_mk (k + 1, d) [] (by simpa [hdef] using hgo) (by simp; omega) (by simp [wk]) rfl (by simp)
        · rw [if_neg (by rintro (q | q | q | q); exact c1 q; exact c2 q; exact c3 q; exact c4 q)] at hdef
          obtain ⟨ti, ti0, x1, -, -, fi⟩ := el1 rfl d i hil
          obtain ⟨tj, tj0, y1, -, -, fj⟩ := el1 rfl d i' hjl
          obtain rfl : ta = ti := by rw [i1] at x1; exact Option.some.inj x1
          obtain rfl : tb = tj := by rw [j1] at y1; exact Option.some.inj y1
          have gi1 : 1 ≤ d.length - i := by omega
          have gj1 : 1 ≤ d.length - i' := by omega
          have tal : ta.length ≤ 1000 := Nat.le_trans (tour_sub (List.mem_of_getElem? i1)).length_le hdf
          have tbl : tb.length ≤ 1000 := Nat.le_trans (tour_sub (List.mem_of_getElem? j1)).length_le hdf
          have hmay := mayR_ok x (ta ++ tb) hxc (by simp; omega)
          have hgl : ∀ (Q : Prop), (p.s ≤ 0 → ¬ (d.length : Int) ≤ x.veh → Q) → (¬ p.s ≤ 0 → Q) → Q := fun Q h1 h2 => by
            by_cases q : p.s ≤ 0
            · exact h1 q fun e => c4 ⟨q, e⟩
            · exact h2 q
          have hcells : (ta.flatMap Enc.enc ++ tb.flatMap Enc.enc : List PV) = (ta ++ tb).flatMap Enc.enc := by rw [List.flatMap_append]
          have htaf : (ta.flatMap Enc.enc : List PV).take (ta.length * 2) = ta.flatMap Enc.enc := ftake_stop ta
          have htal : (ta.flatMap Enc.enc : List PV).length = ta.length * 2 := flen_stop ta
          have hsum : ta.length + tb.length = (ta ++ tb).length := by simp
          repeat refine pw_seq ?_
          refine pw_joinK (nx := nx) (fun _ : Unit => True) (fun _ => [(2, .ptr nx v0 0), (4, .ptr (nx + 1) v1 0), (5, .ptr (nx + 2) v2 0), (7, L ps), (8, I k), (9, I (i : Int)), (10, I (i' : Int)), (106, B false)]) (fun _ => S) (fun _ => [.cells v0 25 (instL x), .cells v1 35 [nilS], .cells v2 35 [L d]]) ?_ ?_
          · refine hgl _ (fun c5 c6 => ?_) (fun c5 => ?_)
            · repeat refine pw_seq ?_
              refine pwN [(2, 82), (6, 86), (11, 91), (18, 98)] (jn6 n1 n2 n3 c3' e0 (jn4 hc gp c5 c6)) ?_
              intros
              exact at_mk () [] trivial (by simp) rfl (by simp)
            · repeat refine pw_seq ?_
              refine pwN [(2, 82), (6, 86), (11, 91), (18, 98)] (jn6 n1 n2 n3 c3' e0 (jn4 hc gp c5 undef_eq)) ?_
              intros
              exact at_mk () [] trivial (by simp) rfl (by simp)
          · rintro ⟨⟩ -
            repeat refine pw_seq ?_
            refine pw_cf rfl ?_
            refine pw_skip ?_
            repeat refine pw_seq ?_
            refine pwn ?_
            intro v4
            repeat refine pw_seq ?_
            refine pwY (some [nx + 2]) (Row.pures [0, 2, 3, 4, 5, 6, 7] (.alt 1 (.alt 8 (Row.pures [9] (.alt 10 (.done) .stop)) .stop) .stop)) mixed (jn3 fi hil gi1) ?_
            refine ⟨by omega, ?_⟩
            intro v5
            intros
            repeat refine pw_seq ?_
            refine pwY (some [nx + 2]) (Row.pures [0, 2, 3, 4, 5, 6, 7] (.alt 1 (.alt 8 (Row.pures [9] (.alt 10 (.done) .stop)) .stop) .stop)) mixed (jn5 fj hjl gj1 htaf htal) ?_
            refine ⟨by omega, ?_⟩
            intros
            rw [hcells, hsum]
            generalize hu : ta ++ tb = u at *
            refine pw_frz 4 rfl ?_
            repeat refine pw_seq ?_
            refine pwn ?_
            refine pwc hmay ?_
            intros
            by_cases hm0 : mayT x u = 0
            case neg =>
              rw [if_neg hm0] at hdef
              repeat refine pw_seq ?_
              refine pw_ct (by simp [hm0]) ?_
              refine pw_exit ?_
              repeat refine pw_seq ?_
              refine pwn ?_
              intros
              exact again_mk (k + 1, d) [_, _] (by simpa [hdef] using hgo) (by simp; omega) (by simp [wk]) rfl (by simp; exact ⟨rfl, rfl⟩)
            rw [if_pos hm0] at hdef
            repeat refine pw_seq ?_
            refine pw_cf (by simp [hm0]) ?_
            refine pw_skip ?_
            repeat refine pw_seq ?_
            refine pwn ?_
            intro v6
            refine pw_nilObX 5 0 66 1 rfl rfl fun v7 => ?_
            repeat refine pw_seq ?_
            refine pwn ?_
            intros
            repeat refine pw_seq ?_
            refine pw_block (pw_loopL (fun s : Nat × Nat => s.1 ≤ d.length) (fun (j, v7) => [(2, .ptr nx v0 0), (4, .ptr (nx + 1) v1 0), (5, .ptr (nx + 2) v2 0), (7, L ps), (8, I k), (9, I (i : Int)), (10, I (i' : Int)), (13, .ptr (nx + 3) v4 0), (14, .ptr (nx + 5) v6 0), (15, I j)]) (fun (j, v7) => [.cells v0 25 (instL x), .cells v1 35 [nilS], .cells v2 35 [L d], .cells v4 66 [L u], .dead, .cells v6 35 [.sl (nx + 6) v7 1 0 (nextD d i i' u j).length], .cells v7 66 ((nextD d i i' u j).flatMap Enc.enc)]) (fun s => d.length - s.1) (0, v7) [] (by simp) (by simp) (by simp [nextD]) ?_)
            rintro ⟨j, v7⟩ hj
            simp only at hj ⊢
            have hnl := nextD_le d i i' u j
            have hns := nextD_succ d i i' u j
            have wj := wrN j (by omega)
            repeat refine pw_seq ?_
            refine pwn ?_
            intros
            repeat refine pw_seq ?_
            refine pw_cond rfl (fun hcj => ?_) (fun hcj => ?_)
            · simp at hcj
              obtain ⟨t, tt, b1, b2, b3, f0⟩ := el1 rfl d j hcj
              have hj1 : 1 ≤ d.length - j := by omega
              have htg : d.getD j [] = t := by rw [List.getD_eq_getElem?_getD, b1]; rfl
              rw [htg] at hns
              generalize nextD d i i' u j = nd at *
              have hnf : (nd.flatMap Enc.enc : List PV).length = nd.length := flen_list nd
              have hnt : (nd.flatMap Enc.enc : List PV).take nd.length = nd.flatMap Enc.enc := List.take_of_length_le (by omega)
              refine pw_skip (pw_seq (pw_block ?_))
              repeat refine pw_seq ?_
              refine pwn ?_
              intros
              repeat refine pw_seq ?_
              refine pw_cond rfl (fun hq => ?_) (fun hq => ?_)
              · simp at hq
                rw [if_pos (by omega)] at hns
                have hnc : ((nextD d i i' u (j + 1)).flatMap Enc.enc : List PV) = nd.flatMap Enc.enc ++ [L u] := by rw [hns, List.flatMap_append]; rfl
                repeat refine pw_seq ?_
                refine pwN [] (jn2 hnf hnt) ?_
                refine ⟨by omega, ?_⟩
                intros
                repeat refine pw_seq ?_
                refine pwn ?_
                intros
                exact again_mk (j + 1, v7 + 1) [] hcj (by simp; omega) (by simp [wj]) rfl (by simp [hns, hnc])
              · simp at hq
                rw [if_neg (by omega)] at hns
                repeat refine pw_seq ?_
                refine pwn ?_
                intros
                repeat refine pw_seq ?_
                refine pw_cond rfl (fun hq2 => ?_) (fun hq2 => ?_)
                · simp at hq2
                  rw [if_neg (by omega)] at hns
                  have hnc : ((nextD d i i' u (j + 1)).flatMap Enc.enc : List PV) = nd.flatMap Enc.enc ++ [L t] := by rw [hns, List.flatMap_append]; rfl
                  repeat refine pw_seq ?_
                  refine pwY (some [nx + 2]) (Row.pures [0, 2, 3, 4, 5, 6, 7] (.alt 1 (.alt 8 (Row.pures [9] (.alt 10 (.done) .stop)) .stop) .stop)) mixed (jn5 hnf hnt f0 hcj hj1) ?_
                  refine ⟨by omega, ?_⟩
                  intros
                  repeat refine pw_seq ?_
                  refine pwn ?_
                  intros
                  exact again_mk (j + 1, v7 + 1) [] hcj (by simp; omega) (by simp [wj]) rfl (by simp [hns, hnc])
                · simp at hq2
                  rw [if_pos (by omega), List.append_nil] at hns
                  refine pw_skip ?_
                  repeat refine pw_seq ?_
                  refine pwn ?_
                  intros
                  exact again_mk (j + 1, v7) [] hcj (by simp; omega) (by simp [wj]) rfl (by simp [hns])
            · simp at hcj
              obtain rfl : j = d.length := by omega
              refine pw_exit ?_
              have hnf : ((nextD d i i' u d.length).flatMap Enc.enc : List PV).length = (nextD d i i' u d.length).length := flen_list _
              refine pw_frz 6 rfl ?_
              repeat refine pw_seq ?_
              refine pwN [] hnf ?_
              intros
              repeat refine pw_seq ?_
              refine pwn ?_
              intros
              rw [hdef] at hgo
              exact again_mk (k + 1, nextD d i i' u d.length) [_, _, _, _] (by simpa using hgo) (by simp; omega) (by simp [wk]) rfl (by simp; exact ⟨rfl, rfl, rfl, rfl⟩)
    · simp at hc
      obtain rfl : k = ps.length := by omega
      rw [List.take_length] at hd'
      refine pw_exit ?_
      repeat refine pw_seq ?_
      refine pwn ?_
      intros
      repeat refine pw_seq ?_
      exact pw_ret (ret_pure hd (by simp; rfl) (by simp [oneOf, hd']))
open Go Go.Proofs Hp
structure SOk (x : Inst) (l : List Stop) : Prop where
  cust : x.cust.length ≤ 1048576
  arc : ArcOk x
  veh : 0 ≤ x.veh
  len : l.length ≤ 1000
  sm : ∀ s ∈ l, small s.c
  nd : (l.map (·.c)).Nodup
def basesZ (x : Inst) (l : List Stop) : List Day := [joinP x l, apartD l] ++ (bif (regretZ x l).2 then [(regretZ x l).1] else [])
def triesZ (x : Inst) (imp : Day → Day) (l : List Stop) : List Day := [apartD l, imp (joinP x l), imp (apartD l)] ++ (bif (regretZ x l).2 then [imp (regretZ x l).1] else [])
theorem regN_keeps {x : Inst} (hx : x.cust.length ≤ 1048576) : ∀ (n : Nat) (d : Day) (l : List Stop), l.length = n → RgOk x d l → RgOk x (regN x n d l).1 [] ∧ ((regN x n d l).2 = true → (regN x n d l).1.flatten.Perm (d.flatten ++ l))
  | 0, d, l, hl, h => by
    obtain rfl : l = [] := List.eq_nil_of_length_eq_zero hl
    exact ⟨h, fun _ => by simp [regN]⟩
  | n + 1, d, l, hl, h => by
    have hne : l ≠ [] := fun e => by rw [e] at hl; cases hl
    obtain ⟨k, hu, hk⟩ := urgent_in (x := x) (d := d) hne
    have hg : l.getD k default = l[k] := by rw [List.getD_eq_getElem?_getD, List.getElem?_eq_getElem hk]; rfl
    unfold regN
    rw [hu, Int.toNat_natCast, hg]
    cases hi : (insertD x d l[k]).2 with
    | false =>
      refine ⟨⟨h.ok, h.may, ?_⟩, fun e => by cases e⟩
      have := h.len
      simp only [cond_false, List.length_nil]; omega
    | true =>
      simp only [cond_true]
      obtain ⟨h1, h2⟩ := regN_keeps hx n (insertD x d l[k]).1 (l.eraseIdx k) (by rw [List.length_eraseIdx_of_lt hk]; omega) (h.step hx hk hi)
      refine ⟨h1, fun e => (h2 e).trans ?_⟩
      have hp := insertD_perm hi
      refine (hp.append_right _).trans ?_
      have he : (l[k] :: l.eraseIdx k).Perm l := by
        rw [List.eraseIdx_eq_take_drop_succ]
        have := List.perm_middle (a := l[k]) (l₁ := l.take k) (l₂ := l.drop (k + 1))
        refine this.symm.trans ?_
        rw [← List.drop_eq_getElem_cons hk, List.take_append_drop]
      rw [List.cons_append]
      refine List.perm_middle.symm.trans ?_
      exact he.append_left _
section
variable {x : Inst} {l : List Stop} (h : SOk x l)
include h
theorem SOk.apart : DayOk (apartD l) ∧ (apartD l).flatten = l ∧ (apartD l).length ≤ 1000 := by
  have hf : (apartD l).flatten = l := by
    unfold apartD
    clear h
    induction l with
    | nil => rfl
    | cons s l ih => simpa using ih
  refine ⟨⟨?_, fun t ht => ?_, fun t ht a ha => ?_⟩, hf, ?_⟩
  · rw [apartD_len]; have := h.len; omega
  · obtain ⟨s, _, rfl⟩ := List.mem_map.1 ht; simp
  · obtain ⟨s, hs, rfl⟩ := List.mem_map.1 ht
    simp at ha; subst ha; exact h.sm _ hs
  · rw [apartD_len]; exact h.len
theorem SOk.join : DayOk (joinP x l) ∧ (joinP x l).flatten.Perm l ∧ (joinP x l).length ≤ 1000 ∧ ∀ t ∈ joinP x l, t ≠ [] := by
  obtain ⟨g, hg⟩ := JI.begin l [] [] _ JI.nil (by simpa using h.nd)
  have key : ∀ (ps : List Pr) (st : Day × Int), (∃ g, JI l st.1 g) → st.2 = ((st.1.filter ne).length : Int) → (∀ p ∈ ps, p.a ∈ l.map (·.c) ∧ p.b ∈ l.map (·.c)) → ∃ g, JI l (ps.foldl (joinS x) st).1 g := by
    intro ps
    induction ps with
    | nil => intro st hg _ _; exact hg
    | cons p ps ih =>
      rintro st ⟨g, hg⟩ hn hp
      obtain ⟨h1, h2⟩ := hp p (by simp)
      obtain ⟨e1, e2, e3⟩ := joinRS_eq (x := x) hg hn h1 h2
      rw [List.foldl_cons]
      exact ih _ e3 e2 fun q hq => hp q (by simp [hq])
  obtain ⟨g', hg'⟩ := key (pairsP x (l.map (·.c))) (l.map fun s => [s], (l.length : Int)) ⟨g, by simpa using hg⟩ (by rw [apart_filter]; simp [apartD]) fun p hp => by
    have := prsAll_mem.1 ((pairsP_perm x _).subset hp)
    exact ⟨this.1, this.2.1⟩
  have hjp : joinP x l = ((pairsP x (l.map (·.c))).foldl (joinS x) (l.map fun s => [s], (l.length : Int))).1.filter ne := rfl
  obtain ⟨w1, w2, w3⟩ := joinRS_wf (x := x) hg' h.len
  have hfl : ∀ T : Day, (T.filter ne).flatten = T.flatten := by
    intro T
    induction T with
    | nil => rfl
    | cons t T ih =>
      rw [List.filter_cons]
      cases t with
      | nil => simpa using ih
      | cons s t => simp [ih]
  have hp : (joinP x l).flatten.Perm l := by rw [hjp, hfl]; exact hg'.perm
  rw [← hjp] at w1 w2 w3
  refine ⟨⟨by omega, fun t ht => ?_, fun t ht a ha => ?_⟩, hp, w1, w3⟩
  · have := (tour_sub ht).length_le; omega
  · exact h.sm a (hp.subset ((tour_sub ht).subset ha))
theorem SOk.regret : RgOk x (regretZ x l).1 [] ∧ ((regretZ x l).2 = true → (regretZ x l).1.flatten.Perm l) := by
  have := regN_keeps h.cust l.length [] l rfl (rgOk_begin h.veh h.len)
  simpa [regretZ] using this
end
def ImpP (x : Inst) (b : Int) (imp : Day → Day) (ds : List Day) : Prop := ∀ d ∈ ds, (∃ n, Pure Tryz.prog 57 [.agg (instL x), .agg [L d], I b] (.tup [.agg [L (imp d)], I n])) ∧ DayOk (imp d) ∧ (imp d).flatten.length ≤ 1048576
def ImpR (x : Inst) (b : Int) (imp : Day → Day) (ds : List Day) : Prop := ∀ d ∈ ds, Pure Tryz.prog 39 [.agg (instL x), .agg [L d], I b] (.agg [L (imp d)]) ∧ DayOk (imp d) ∧ (imp d).flatten.length ≤ 1048576
theorem solveP_ok (x : Inst) (l : List Stop) (b : Int) (imp : Day → Day) (h : SOk x l) (hI : fitsZ x l = 0 → ImpP x b imp (basesZ x l)) :
    Pure Tryz.prog 15 [.agg (instL x), L l, I b] (.tup [.agg [L (solveR x (fitsZ x l) (triesZ x imp l)).1], I (solveR x (fitsZ x l) (triesZ x imp l)).2]) := by
  have hF := fitsP_ok x l h.cust (by have := h.len; omega)
  by_cases he : fitsZ x l = 0
  case neg => exact solve_ok x (L l) b _ _ (plike_list l) h.cust hF (fun e => absurd e he) fun e => absurd e he
  have hI := hI he
  have hA := apartP_ok l (by have := h.len; omega)
  have hJ := join_all_ok x l h.arc h.cust h.len h.sm h.nd
  have hR := regretP_ok x l h.cust h.veh h.len
  obtain ⟨⟨n1, i1⟩, o1, f1⟩ := hI (joinP x l) (by simp [basesZ])
  obtain ⟨⟨n2, i2⟩, o2, f2⟩ := hI (apartD l) (by simp [basesZ])
  obtain ⟨a1, a2, a3⟩ := h.apart
  have h3 : (regretZ x l).2 = true → (∃ n, Pure Tryz.prog 57 [.agg (instL x), .agg [L (regretZ x l).1], I b] (.tup [.agg [L (imp (regretZ x l).1)], I n])) ∧ DayOk (imp (regretZ x l).1) ∧ (imp (regretZ x l).1).flatten.length ≤ 1048576 := fun e => hI _ (by simp [basesZ, e])
  have hlen := h.len
  have hit := tries_iter (fsL x (L l) b) [some (apartD l), some (imp (joinP x l)), some (imp (apartD l)), bif (regretZ x l).2 then some (imp (regretZ x l).1) else none] rfl (by simp) (by
    intro k f hf
    match k with
    | 0 => cases hf; exact ⟨_, _, L (apartD l), rfl, try1_ok (L l) (apartD l) (plike_list l) hA, fun d hd => by cases hd; rfl⟩
    | 1 => cases hf; exact ⟨_, _, L (imp (joinP x l)), rfl, try2_ok x (L l) b _ _ _ (plike_list l) hJ i1, fun d hd => by cases hd; rfl⟩
    | 2 => cases hf; exact ⟨_, _, L (imp (apartD l)), rfl, try3_ok x (L l) b _ _ _ (plike_list l) hA i2, fun d hd => by cases hd; rfl⟩
    | 3 =>
      cases hf
      cases hall : (regretZ x l).2 with
      | true =>
        obtain ⟨⟨n3, i3⟩, -⟩ := h3 hall
        rw [hall] at hR
        exact ⟨_, _, L (imp (regretZ x l).1), rfl, try4_ok x (L l) b _ _ true n3 (plike_list l) hR (fun _ => i3), fun d hd => by cases hd; rfl⟩
      | false =>
        rw [hall] at hR
        exact ⟨_, _, nilS, rfl, try4_ok x (L l) b _ [] false 0 (plike_list l) hR (fun e => by cases e), fun d hd => by cases hd⟩
    | k + 4 => cases hf)
  have hds : ([some (apartD l), some (imp (joinP x l)), some (imp (apartD l)), bif (regretZ x l).2 then some (imp (regretZ x l).1) else none] : List (Option Day)).filterMap id = triesZ x imp l := by
    unfold triesZ
    cases (regretZ x l).2 <;> rfl
  rw [hds] at hit
  refine solve_ok x (L l) b (fitsZ x l) (triesZ x imp l) (plike_list l) h.cust hF (fun _ => hit) fun _ d hd => ?_
  unfold triesZ at hd
  simp only [List.cons_append, List.nil_append, List.mem_cons] at hd
  rcases hd with rfl | rfl | rfl | hd
  · exact ⟨a1, by rw [a2]; omega⟩
  · exact ⟨o1, f1⟩
  · exact ⟨o2, f2⟩
  · cases hall : (regretZ x l).2 with
    | true =>
      rw [hall] at hd
      simp at hd; subst hd
      exact (h3 hall).2
    | false => rw [hall] at hd; simp at hd
theorem solveZ_app (x : Inst) (ds : List Day) (d : Day) : solveZ x (ds ++ [d]) = solveS x (solveZ x ds) d := by unfold solveZ; rw [List.foldl_append]; rfl
def bestAt (x : Inst) (ds : List Day) (at_ : Int) : Prop := ((solveZ x ds).2.2 = false ∧ at_ = -1) ∨ ((solveZ x ds).2.2 = true ∧ ∃ (k : Nat) (d : Day), at_ = k ∧ ds[k]? = some d ∧ (solveZ x ds).1 = d ∧ (solveZ x ds).2.1 = W (costZ x d))
theorem bestAt_step {x : Inst} {ds : List Day} {d : Day} {at_ : Int} (h : bestAt x ds at_) : bestAt x (ds ++ [d]) (if dayT x d = 0 ∧ ((solveZ x ds).2.2 = false ∨ W (costZ x d) < (solveZ x ds).2.1) then (ds.length : Int) else at_) := by
  unfold bestAt
  rw [solveZ_app]
  unfold solveS
  by_cases h1 : dayT x d = 0
  · rw [if_pos h1]
    by_cases h2 : (solveZ x ds).2.2 = false ∨ W (costZ x d) < (solveZ x ds).2.1
    · rw [if_pos h2, if_pos ⟨h1, h2⟩]
      exact .inr ⟨rfl, ds.length, d, rfl, by simp, rfl, rfl⟩
    · rw [if_neg h2, if_neg fun e => h2 e.2]
      rcases h with ⟨a, b⟩ | ⟨a, k, e, b, c, f, g⟩
      · exact absurd (.inl a) h2
      · exact .inr ⟨a, k, e, b, by rw [List.getElem?_append_left (List.getElem?_eq_some_iff.1 c).1]; exact c, f, g⟩
  · rw [if_neg h1, if_neg fun e => h1 e.1]
    rcases h with h | ⟨a, k, e, b, c, f, g⟩
    · exact .inl h
    · exact .inr ⟨a, k, e, b, by rw [List.getElem?_append_left (List.getElem?_eq_some_iff.1 c).1]; exact c, f, g⟩
open Go Go.Proofs Hp
theorem po_lit0 {P : Program} {r : Rd} {n : Nat} {F : Nat → PV} {S : Store} {o : Oper} {t e : TypeId} {len : Nat} {parts : Array (Nat × Operand)} {cs : List PV} {K : PV → Store → Prop} (ho : o.op = .buildSlice t len parts) (ht : P.underlying t = some (.slice e)) (h0 : P.cellsOf e ≠ 0) (hlen : len ≤ 1048576)
    (hl : litP P e len (parts.toList.map fun x => (x.1, ev F x.2)) = some cs)
    (hK : ∀ C : Ctx, S C.next = .dead → ∃ id v, Fresh C S id v ∧ K (.sl id v (P.cellsOf e) 0 len) (S.set id (.cells v e cs))) : PO P r n o F S K := by
  intro G hG C w a N st next Q' hnext
  have hmap : parts.toList.map (fun x => (x.1, ev G x.2)) = parts.toList.map (fun x => (x.1, ev F x.2)) := List.map_congr_left fun x hx => by
    rw [hG x.2 (by simp only [ho, Op.operands, List.mem_toArray, List.mem_map]; first | exact ⟨x, hx, rfl⟩ | (simp; exact ⟨x.1, by simpa using hx⟩))]
  rw [← hmap] at hl
  obtain ⟨vs, hrun, hr, hsz⟩ := litP_sound (w := w) ht (ev G) a.eval st.ev hl
  obtain ⟨id, ver, hfr, hK⟩ := hK C st.sim.free
  obtain ⟨k1, k2⟩ := st.sim.object' hfr e vs cs (Nat.le_of_eq hr.1) (fun i v _ hv => hr.2.1 i v hv) hr.2.2
  refine wpIn_of_run (x := .value (.slice (some ⟨w.heap.size, 0, none⟩) len len)) (w' := w.alloc (.cells vs e)) (by intro c hc; rw [ho] at hc; cases hc) ?_
    (hnext _ _ _ _ _ hK (rel_newsl C S w _ _ _ _ _ _ _ _ rfl (Nat.le_refl _) (by unfold maxN; omega) (by unfold maxLen; omega) hsz.symm) k1 k2)
  unfold execOp
  simp only [ho]
  have e1 : (parts.map fun x => (x.1, a.eval x.2)) = (parts.toList.map fun x => (x.1, a.eval x.2)).toArray := by
    apply Array.toList_inj.1; simp
  simp only [e1, hrun, Sem.run_bind, Sem.run_pure, Result.andThen_ok]
theorem po_litX {P : Program} {r : Rd} {n nx : Nat} {F : Nat → PV} {S : Store} {obs : List Ob} {o : Oper} {t e : TypeId} {len : Nat} {parts : Array (Nat × Operand)} {cs : List PV} {K : PV → Store → Prop} (ho : o.op = .buildSlice t len parts) (ht : P.underlying t = some (.slice e)) (h0 : P.cellsOf e ≠ 0) (hlen : len ≤ 1048576)
    (hl : litP P e len (parts.toList.map fun x => (x.1, ev F x.2)) = some cs) (hK : ∀ v, K (.sl (nx + obs.length) v (P.cellsOf e) 0 len) (ext S nx (obs ++ [.cells v e cs]))) : PO P r n o F (ext S nx obs) K :=
  po_lit0 ho ht h0 hlen hl (freshAt (X := fun id v => K (.sl id v (P.cellsOf e) 0 len) ((ext S nx obs).set id (.cells v e cs))) _ ext_new fun v => by rw [ext_push]; exact hK v)
set_option maxRecDepth 20000 in
set_option maxHeartbeats 1600000 in
theorem solveRef_ok (x : Inst) (l : List Stop) (b : Int) (imp : Day → Day) (h : SOk x l) (hI : fitsZ x l = 0 → ImpR x b imp (basesZ x l)) :
    Pure Tryz.prog 16 [.agg (instL x), L l, I b] (.tup [.agg [L (solveR x (fitsZ x l) (triesZ x imp l)).1], I (solveR x (fitsZ x l) (triesZ x imp l)).2]) := by
  have hlen := h.len
  have hF := fitsR_ok x l h.cust (by omega)
  by_cases he : fitsZ x l = 0
  case neg =>
    have hz : solveR x (fitsZ x l) (triesZ x imp l) = ([], fitsZ x l) := by unfold solveR; rw [if_neg he]
    rw [hz]
    clear hz
    refine pwe Tryz.func16 Tryz.ntmps16 Tryz.results16 fun S nx hd => ?_
    repeat refine pw_seq ?_
    refine pwn ?_
    intro v0 v1
    repeat refine pw_seq ?_
    refine pwn ?_
    refine pwc hF ?_
    intros
    repeat refine pw_seq ?_
    refine pwn ?_
    intros
    repeat refine pw_seq ?_
    refine pw_ct (by simp [he]) ?_
    repeat refine pw_seq ?_
    refine pwn ?_
    intros
    refine pw_nilC 1 0 rfl rfl ?_
    repeat refine pw_seq ?_
    exact pw_ret (ret_pure hd (by simp; rfl) (by simp [oneOf]))
  have hI := hI he
  have hA := apartR_ok l (by omega)
  have hJ := joinR_ok x l h.arc h.cust h.len h.sm h.nd
  have hR := regretR_ok x l h.cust h.arc h.veh h.len
  obtain ⟨i1, o1, f1⟩ := hI (joinP x l) (by simp [basesZ])
  obtain ⟨i2, o2, f2⟩ := hI (apartD l) (by simp [basesZ])
  obtain ⟨a1, a2, a3⟩ := h.apart
  have h3 : (regretZ x l).2 = true → Pure Tryz.prog 39 [.agg (instL x), .agg [L (regretZ x l).1], I b] (.agg [L (imp (regretZ x l).1)]) ∧ DayOk (imp (regretZ x l).1) ∧ (imp (regretZ x l).1).flatten.length ≤ 1048576 := fun e => hI _ (by simp [basesZ, e])
  have hds : ∀ d ∈ triesZ x imp l, DayOk d ∧ d.flatten.length ≤ 1048576 := by
    intro d hd
    unfold triesZ at hd
    simp only [List.cons_append, List.nil_append, List.mem_cons] at hd
    rcases hd with rfl | rfl | rfl | hd
    · exact ⟨a1, by rw [a2]; omega⟩
    · exact ⟨o1, f1⟩
    · exact ⟨o2, f2⟩
    · cases hall : (regretZ x l).2 with
      | true =>
        rw [hall] at hd
        simp at hd; subst hd
        exact (h3 hall).2
      | false => rw [hall] at hd; simp at hd
  have htz : triesZ x imp l = [apartD l, imp (joinP x l), imp (apartD l)] ++ (bif (regretZ x l).2 then [imp (regretZ x l).1] else []) := rfl
  generalize triesZ x imp l = ds at *
  generalize hap : apartD l = ap at *
  generalize hjo : joinP x l = jo at *
  generalize hre : regretZ x l = re at *
  obtain ⟨rd, all⟩ := re
  generalize hij : imp jo = ij at *
  generalize hia : imp ap = ia at *
  simp only at h3 htz
  have hxc := h.cust
  clear hap hjo hre h hI a1 a2 a3 o1 f1 o2 f2
  refine pwe Tryz.func16 Tryz.ntmps16 Tryz.results16 fun S nx hd => ?_
  repeat refine pw_seq ?_
  refine pwn ?_
  intro v0 v1
  repeat refine pw_seq ?_
  refine pwn ?_
  refine pwc hF ?_
  intros
  repeat refine pw_seq ?_
  refine pwn ?_
  intros
  repeat refine pw_seq ?_
  refine pw_cf (by simp [he]) ?_
  refine pw_skip ?_
  repeat refine pw_seq ?_
  refine pwn ?_
  refine pwc hA ?_
  intro v2
  intros
  repeat refine pw_seq ?_
  refine pw_Y (some [nx, nx + 2]) (Row.pures [0, 1, 2, 3, 4, 5, 6, 7, 8, 9, 10] (.alt 11 (Row.pures [12] .done) .stop)) mixed (by rfl) (by rfl) (by rfl) fun K Gp Gc Gh hK hGp hGc hGh X hX0 hX1 hX2 hX => ?_
  simp -implicitDefEqProofs [hX0, hX1, hX2, hX]
  try clear hX0 hX1 hX2 hX X
  refine hGp _ _ _ _ _ _ _ _ (hJ) ?_
  clear hGp hGc hGh
  clear Gp Gc Gh
  refine px_go fun Gp Gc Gh hGp hGc hGh X hX0 hX1 hX2 hX => ?_
  simp -implicitDefEqProofs [hX0, hX1, hX2, hX]
  try clear hX0 hX1 hX2 hX X
  refine hGp _ _ _ _ _ _ _ _ (i1) ?_
  clear hGp hGc hGh
  clear Gp Gc Gh
  refine px_go fun Gp Gc Gh hGp hGc hGh X hX0 hX1 hX2 hX => ?_
  simp -implicitDefEqProofs [hX0, hX1, hX2, hX]
  try clear hX0 hX1 hX2 hX X
  refine hGp _ _ _ _ _ _ _ _ (i2) ?_
  clear hGp hGc hGh
  clear Gp Gc Gh
  refine px_go fun Gp Gc Gh hGp hGc hGh X hX0 hX1 hX2 hX => ?_
  simp -implicitDefEqProofs [hX0, hX1, hX2, hX]
  try clear hX0 hX1 hX2 hX X
  refine hGh _ _ _ _ _ (by rfl) (po_litX (cs := [L ap, L ij, L ia]) rfl Tryz.underlying76 (by simp) (by decide) (by simp [litP, fillP]) fun v3 => ⟨by simp [Agree], ?_⟩)
  clear hGp hGc hGh
  clear Gp Gc Gh
  refine px_go fun Gp Gc Gh hGp hGc hGh X hX0 hX1 hX2 hX => ?_
  simp -implicitDefEqProofs [hX0, hX1, hX2, hX]
  try clear hX0 hX1 hX2 hX X
  refine hK _ _ _ ?_
  clear hK hGp hGc hGh
  clear K Gp Gc Gh
  repeat refine pw_seq ?_
  refine pwn ?_
  refine pwc hR ?_
  intro v4
  intros
  refine pw_seq ?_
  refine pw_joinK (nx := nx) (fun v : Nat => True) (fun v => [(3, .ptr nx v0 0), (6, .ptr (nx + 1) v1 0), (7, I 0), (10, .sl (nx + 3) v 1 0 ds.length)]) (fun _ => S) (fun v => [.cells v0 25 (instL x), .cells v1 35 [nilS], .cells v2 35 [L ap], .cells v 35 (ds.flatMap Enc.enc)]) ?_ ?_
  · cases all with
    | false =>
      simp only [cond_false] at htz
      repeat refine pw_seq ?_
      refine pwn ?_
      intros
      repeat refine pw_seq ?_
      refine pw_cf rfl ?_
      refine pw_skip ?_
      exact at_mk v3 [_] trivial (by simp [htz]) rfl (by simp [htz]; rfl)
    | true =>
      simp only [cond_true] at htz
      obtain ⟨i3, -, -⟩ := h3 rfl
      repeat refine pw_seq ?_
      refine pwn ?_
      intros
      repeat refine pw_seq ?_
      refine pw_ct rfl ?_
      repeat refine pw_seq ?_
      refine pwn ?_
      refine pwc i3 ?_
      intros
      exact at_mk (v3 + 1) [_] trivial (by simp [htz]) rfl (by simp [htz]; rfl)
  · intro v3 _
    have hdl : ds.length ≤ 4 := by rw [htz]; cases all <;> simp
    clear htz hij hia h3 hF hA hJ hR i1 i2
    repeat refine pw_seq ?_
    refine pwn ?_
    intros
    repeat refine pw_seq ?_
    refine pwn ?_
    intros
    repeat refine pw_seq ?_
    refine pw_block (pw_loopL (fun s' : Nat × Int => s'.1 ≤ ds.length ∧ bestAt x (ds.take s'.1) s'.2) (fun (k, at_) => [(3, .ptr nx v0 0), (6, .ptr (nx + 1) v1 0), (7, I 0), (10, .sl (nx + 3) v3 1 0 ds.length), (13, I at_), (14, I k)]) (fun _ => [.cells v0 25 (instL x), .cells v1 35 [nilS], .cells v2 35 [L ap], .cells v3 35 (ds.flatMap Enc.enc)]) (fun s' => ds.length - s'.1) (0, -1) [] ⟨by simp, .inl ⟨rfl, rfl⟩⟩ (by simp) (by simp) ?_)
    rintro ⟨k, at_⟩ ⟨hk, hb⟩
    simp only at hk hb ⊢
    repeat refine pw_seq ?_
    refine pwn ?_
    intros
    repeat refine pw_seq ?_
    refine pw_cond rfl (fun hc => ?_) (fun hc => ?_)
    · simp at hc
      obtain ⟨d, tl, a1, a2, a3, e0⟩ := el1 rfl ds k hc
      have hk1 : 1 ≤ ds.length - k := by omega
      obtain ⟨hdo, hdf⟩ := hds d (List.mem_of_getElem? a1)
      have hday := dayR_ok x d hxc hdo.1 hdo.2 hdf
      have hcost := costR_ok x d hdo
      have hstep := bestAt_step (d := d) hb
      rw [← a3] at hstep
      have hkl : (ds.take k).length = k := by rw [List.length_take]; omega
      rw [hkl] at hstep
      have wk := wrN k (by omega)
      refine pw_skip (pw_seq (pw_block ?_))
      repeat refine pw_seq ?_
      refine pwY (some [nx, nx + 3]) (Row.pures [0, 1, 2, 3, 4, 5, 6] .done) mixed (jn3 e0 hc hk1) ?_
      refine pwP (hday) trivial ?_
      intros
      by_cases h0 : dayT x d = 0
      case neg =>
        rw [if_neg fun e => h0 e.1] at hstep
        repeat refine pw_seq ?_
        refine pw_ct (by simp [h0]) ?_
        refine pw_exit ?_
        repeat refine pw_seq ?_
        refine pwn ?_
        intros
        exact again_mk (k + 1, at_) [] ⟨hc, hstep⟩ (by simp; omega) (by simp [wk]) rfl (by simp)
      repeat refine pw_seq ?_
      refine pw_cf (by simp [h0]) ?_
      refine pw_skip ?_
      rcases hb with ⟨hb1, rfl⟩ | ⟨hb1, j, e, rfl, hj, hb2, hb3⟩
      · rw [if_pos ⟨h0, .inl hb1⟩] at hstep
        repeat refine pw_seq ?_
        refine pwY (some [nx, nx + 3]) (Row.pures [0, 1, 2, 3, 4, 5, 6, 7, 8, 9, 10, 11, 12, 13, 14, 15, 16] .done) mixed undef_eq ?_
        intros
        repeat refine pw_seq ?_
        refine pw_ct rfl ?_
        repeat refine pw_seq ?_
        refine pwn ?_
        intros
        repeat refine pw_seq ?_
        refine pwn ?_
        intros
        exact again_mk (k + 1, (k : Int)) [] ⟨hc, hstep⟩ (by simp; omega) (by simp [wk]) rfl (by simp)
      · rw [List.getElem?_take] at hj
        have hjk : j < k := by
          rcases Nat.lt_or_ge j k with q | q
          · exact q
          · rw [if_neg (by omega)] at hj; cases hj
        rw [if_pos hjk] at hj
        obtain ⟨e', tl2, b1, b2, b3, f0⟩ := el1 rfl ds j (by omega)
        obtain rfl : e = e' := by rw [hj] at b1; exact Option.some.inj b1
        have hj1 : 1 ≤ ds.length - j := by omega
        have hjl : j < ds.length := by omega
        obtain ⟨hdo2, hdf2⟩ := hds e (List.mem_of_getElem? b1)
        have hcost2 := costR_ok x e hdo2
        rw [hb1, hb3] at hstep
        have nj : ¬ (j : Int) < 0 := by omega
        generalize W (costZ x d) = cd at *
        generalize W (costZ x e) = ce at *
        by_cases hlt : cd < ce
        · rw [if_pos ⟨h0, .inr hlt⟩] at hstep
          repeat refine pw_seq ?_
          refine pwY (some [nx, nx + 3]) (Row.pures [0, 1, 2, 3, 4, 5, 6, 7, 8, 9, 10, 11, 12, 13, 14, 15, 16] .done) mixed (jn6 nj e0 hc hk1 f0 (jn2 hjl hj1)) ?_
          refine pwP (hcost) (jn6 nj e0 hc hk1 f0 (jn2 hjl hj1)) ?_
          refine pwP (hcost2) (jn6 nj e0 hc hk1 f0 (jn2 hjl hj1)) ?_
          intros
          repeat refine pw_seq ?_
          refine pw_ct (by simp [hlt]) ?_
          repeat refine pw_seq ?_
          refine pwn ?_
          intros
          repeat refine pw_seq ?_
          refine pwn ?_
          intros
          exact again_mk (k + 1, (k : Int)) [] ⟨hc, hstep⟩ (by simp; omega) (by simp [wk]) rfl (by simp)
        · rw [if_neg (by rintro ⟨-, q⟩; rcases q with q | q; cases q; exact hlt q)] at hstep
          repeat refine pw_seq ?_
          refine pwY (some [nx, nx + 3]) (Row.pures [0, 1, 2, 3, 4, 5, 6, 7, 8, 9, 10, 11, 12, 13, 14, 15, 16] .done) mixed (jn6 nj e0 hc hk1 f0 (jn2 hjl hj1)) ?_
          refine pwP (hcost) (jn6 nj e0 hc hk1 f0 (jn2 hjl hj1)) ?_
          refine pwP (hcost2) (jn6 nj e0 hc hk1 f0 (jn2 hjl hj1)) ?_
          intros
          repeat refine pw_seq ?_
          refine pw_cf (by simp [hlt]) ?_
          refine pw_skip ?_
          repeat refine pw_seq ?_
          refine pwn ?_
          intros
          exact again_mk (k + 1, (j : Int)) [] ⟨hc, hstep⟩ (by simp; omega) (by simp [wk]) rfl (by simp)
    · simp at hc
      obtain rfl : k = ds.length := by omega
      rw [List.take_length] at hb
      refine pw_exit ?_
      rcases hb with ⟨hb1, rfl⟩ | ⟨hb1, j, e, rfl, hj, hb2, hb3⟩
      · repeat refine pw_seq ?_
        refine pwn ?_
        intros
        repeat refine pw_seq ?_
        refine pw_ct rfl ?_
        repeat refine pw_seq ?_
        refine pwn ?_
        intros
        refine pw_nilC 1 0 rfl rfl ?_
        repeat refine pw_seq ?_
        exact pw_ret (ret_pure hd (by simp; rfl) (by simp [oneOf, solveR, he, hb1]))
      · obtain ⟨e', tl2, b1, b2, b3, f0⟩ := el1 rfl ds j (List.getElem?_eq_some_iff.1 hj).1
        obtain rfl : e = e' := by rw [hj] at b1; exact Option.some.inj b1
        have hjl := (List.getElem?_eq_some_iff.1 hj).1
        have hj1 : 1 ≤ ds.length - j := by omega
        have nj : ¬ (j : Int) < 0 := by omega
        repeat refine pw_seq ?_
        refine pwN [] nj ?_
        intros
        repeat refine pw_seq ?_
        refine pw_cf rfl ?_
        refine pw_skip ?_
        repeat refine pw_seq ?_
        refine pwN [] (jn3 f0 hjl hj1) ?_
        intros
        repeat refine pw_seq ?_
        exact pw_ret (ret_pure hd (by simp; rfl) (by simp [oneOf, solveR, he, hb1, hb2]))
open Go Go.Proofs
theorem pwLit {P : Program} {r : Rd} {n nx N : Nat} {Q : Exit → (Nat → PV) → Store → Prop} {F : Nat → PV} {S : Store} {obs : List Ob} {A : Prop} {R : Nat → KT → CT → HT → Prop} {id : Nat} {ops : Array Oper} {o : Oper} {os : List Oper} {t e : TypeId} {len : Nat} {parts : Array (Nat × Operand)}
    (D : List (Nat × Nat)) (cs : List PV) (ht : P.underlying t = some (.slice e)) (a : A) (h : ∀ v, R v (fun F' S' obs' => Q .normal F' (ext S' nx obs')) (CQ P r n nx ops fun F' S' obs' => Q .normal F' (ext S' nx obs')) (HQ P r n nx ops fun F' S' obs' => Q .normal F' (ext S' nx obs')))
    (hops : ops.toList = o :: os := by rfl) (hg : o.guard = none := by rfl) (ho : o.op = .buildSlice t len parts := by rfl) (h0 : P.cellsOf e ≠ 0 := by simp) (hlen : len ≤ 1048576 := by decide)
    (hl : litP P e len (parts.toList.map fun x => (x.1, ev F x.2)) = some cs := by simp [litP, fillP]) (hN : dstsBelow N ops = true := by rfl) (hD : guardsOk ops D = true := by rfl)
    (hR : A → ∀ v, XQ P nx D os (updO F o.dst (.sl (nx + obs.length) v (P.cellsOf e) 0 len)) S (obs ++ [.cells v e cs]) (R v) := by intro a v K Gc Gh X hX0 hX h; simp -implicitDefEqProofs [hX0, hX, a]; exact h) : PW P r n N (.region id ops false) Q F (ext S nx obs) := by
  refine pw_XS0 hN ?_
  rw [hops]
  unfold XS
  have : gd ops F o = some true := by unfold gd; rw [hg]
  rw [this]
  exact po_litX ho ht h0 hlen hl fun v => ⟨_, _, rfl, xs_q (by rw [hops]; exact List.suffix_cons _ _) hD (hR a v) (h v)⟩
def fzZ (x : Inst) (t : Tour) : Nat → Int
  | 0 => 0
  | i + 1 => fzZ x t i + arc x ((t.getD i default).c + 1) ((t.getD (i + 1) default).c + 1)
def bzZ (x : Inst) (t : Tour) : Nat → Int
  | 0 => 0
  | i + 1 => bzZ x t i + arc x ((t.getD (i + 1) default).c + 1) ((t.getD i default).c + 1)
theorem fzZ_bd {x : Inst} (h : ArcOk x) (t : Tour) : ∀ i : Nat, 0 ≤ fzZ x t i ∧ fzZ x t i ≤ 2147483648 * (i : Int)
  | 0 => by simp [fzZ]
  | i + 1 => by
    have h1 := fzZ_bd h t i
    have h2 := h ((t.getD i default).c + 1) ((t.getD (i + 1) default).c + 1)
    unfold fzZ; omega
theorem bzZ_bd {x : Inst} (h : ArcOk x) (t : Tour) : ∀ i : Nat, 0 ≤ bzZ x t i ∧ bzZ x t i ≤ 2147483648 * (i : Int)
  | 0 => by simp [bzZ]
  | i + 1 => by
    have h1 := bzZ_bd h t i
    have h2 := h ((t.getD (i + 1) default).c + 1) ((t.getD i default).c + 1)
    unfold bzZ; omega
structure Sm where
  f : List Int
  b : List Int
  l : List Int
  n : Int
instance : Enc Sm := ⟨fun s => [L s.f, L s.b, L s.l, I s.n], 4, fun _ => rfl, fun _ => rfl⟩
@[simp] theorem enc_sm (s : Sm) : Enc.enc s = [L s.f, L s.b, L s.l, I s.n] := rfl
@[simp high] theorem flen_sm (l : List Sm) : (l.flatMap Enc.enc).length = l.length * 4 := flat_length l
@[simp high] theorem ftake_sm (l : List Sm) : (l.flatMap Enc.enc).take (l.length * 4) = l.flatMap Enc.enc := flat_take' l
def smZ (x : Inst) (t : Tour) : Sm := ⟨(List.range t.length).map (fzZ x t), (List.range t.length).map (bzZ x t), (List.range (t.length + 1)).map fun i => loadZ (t.take i), wayZ x (t.map (·.c))⟩
abbrev rdL (x : Inst) (d : Day) : List PV := [I x.days, I x.veh, I x.cap, I x.len, L x.cust, L x.dist, L d, L (d.map (smZ x))]
structure MvDay (d : Day) : Prop where
  n : d.length ≤ 1000
  t : ∀ t ∈ d, t.length ≤ 1000
  s : ∀ t ∈ d, ∀ s ∈ t, small s.c ∧ 0 ≤ s.q ∧ s.q ≤ 2147483648
theorem loadZ_take {t : Tour} {i : Nat} {s : Stop} (h : t.take (i + 1) = t.take i ++ [s]) : loadZ (t.take (i + 1)) = loadZ (t.take i) + s.q := by rw [h, loadZ_snoc]
theorem map_range_snoc {α : Type} (f : Nat → α) (k : Nat) : (List.range (k + 1)).map f = (List.range k).map f ++ [f k] := by rw [List.range_succ, List.map_append]; rfl
theorem frz_smL (id v : Nat) (cs : List PV) (l : List Sm) : (l.flatMap Enc.enc).map (frzP id v cs) = (l.flatMap Enc.enc : List PV) := by
  induction l with
  | nil => rfl
  | cons s l ih => rw [List.flatMap_cons, List.map_append, ih]; rfl
set_option maxRecDepth 20000 in
set_option maxHeartbeats 3200000 in
theorem read_ok (x : Inst) (d : Day) (hx : ArcOk x) (hd' : MvDay d) : Pure Tryz.prog 118 [.agg (instL x), .agg [L d]] (.ip (rdL x d)) := by
  have hdn := hd'.n
  refine pwe Tryz.func118 Tryz.ntmps118 Tryz.results118 fun S nx hd => ?_
  repeat refine pw_seq ?_
  refine pwn ?_
  intro v0 v1
  repeat refine pw_seq ?_
  refine pwn ?_
  intro v2
  refine pw_nilObX 2 7 195 4 rfl rfl fun v3 => ?_
  repeat refine pw_seq ?_
  refine pwn ?_
  intros
  repeat refine pw_seq ?_
  refine pw_block (pw_loopL (fun s' : Nat × Nat => s'.1 ≤ d.length) (fun (k, v3) => [(2, .ptr nx v0 0), (5, .ptr (nx + 2) v2 0), (20, L d), (21, I d.length), (22, I k)]) (fun (k, v3) => [.cells v0 25 (instL x), .cells v1 35 [L d], .cells v2 193 [I x.days, I x.veh, I x.cap, I x.len, L x.cust, L x.dist, L d, .sl (nx + 3) v3 4 0 k], .cells v3 195 (((d.map (smZ x)).take k).flatMap Enc.enc)]) (fun s' => d.length - s'.1) (0, v3) [] (by simp) (by simp) (by simp) ?_)
  rintro ⟨k, v3⟩ hk
  simp only at hk ⊢
  repeat refine pw_seq ?_
  refine pwn ?_
  intros
  repeat refine pw_seq ?_
  refine pw_cond rfl (fun hc => ?_) (fun hc => ?_)
  · simp at hc
    obtain ⟨t, tl, a1, a2, a3, e0⟩ := el1 rfl d k hc
    have hk1 : 1 ≤ d.length - k := by omega
    have htm := List.mem_of_getElem? a1
    have htl := hd'.t t htm
    have hts := hd'.s t htm
    have hlw := lengthP_ok x t (by omega) (fun s hs => (hts s hs).1)
    have hwz := wayZ_bd hx (t.map (·.c))
    rw [List.length_map] at hwz
    rw [show W (wayZ x (t.map (·.c))) = wayZ x (t.map (·.c)) from wr _ (by omega) (by omega)] at hlw
    refine pw_skip (pw_seq (pw_block ?_))
    repeat refine pw_seq ?_
    refine pwN [] (jn3 e0 hc hk1) ?_
    intro v4
    repeat refine pw_seq ?_
    refine pwLit [] [I 0] Tryz.underlying62 trivial ?_
    intro v5
    refine pwc hlw ?_
    intro v6
    repeat refine pw_seq ?_
    refine pwn ?_
    intros
    refine pw_nilObX 6 0 3 1 rfl rfl fun v7 => ?_
    refine pw_nilObX 6 1 3 1 rfl rfl fun v8 => ?_
    repeat refine pw_seq ?_
    refine pwn ?_
    intros
    generalize hpc : (((d.map (smZ x)).take k).flatMap Enc.enc : List PV) = pc at *
    generalize hwl : wayZ x (t.map (·.c)) = wl at *
    repeat refine pw_seq ?_
    refine pw_block (pw_loopL (fun s' : Nat × Nat × Nat × Nat => s'.1 ≤ t.length) (fun (i, v5, v7, v8) => [(2, .ptr nx v0 0), (5, .ptr (nx + 2) v2 0), (7, .ptr (nx + 4) v4 0), (8, .ptr (nx + 6) v6 0), (9, I (fzZ x t (i - 1))), (10, I (bzZ x t (i - 1))), (20, L d), (21, I d.length), (22, I k), (32, L t), (33, I t.length), (34, I i)])
      (fun (i, v5, v7, v8) => [.cells v0 25 (instL x), .cells v1 35 [L d], .cells v2 193 [I x.days, I x.veh, I x.cap, I x.len, L x.cust, L x.dist, L d, .sl (nx + 3) v3 4 0 k], .cells v3 195 pc, .cells v4 66 [L t], .cells v5 3 (((List.range (i + 1)).map fun i => loadZ (t.take i)).flatMap Enc.enc),
        .cells v6 195 [.sl (nx + 7) v7 1 0 i, .sl (nx + 8) v8 1 0 i, .sl (nx + 5) v5 1 0 (i + 1), I wl], .cells v7 3 (((List.range i).map (fzZ x t)).flatMap Enc.enc), .cells v8 3 (((List.range i).map (bzZ x t)).flatMap Enc.enc)]) (fun s' => t.length - s'.1) (0, v5, v7, v8) [] (by simp) (by simp [fzZ, bzZ]) (by simp [loadZ]) ?_)
    rintro ⟨i, v5, v7, v8⟩ hi
    simp only at hi ⊢
    repeat refine pw_seq ?_
    refine pwn ?_
    intros
    repeat refine pw_seq ?_
    refine pw_cond rfl (fun hci => ?_) (fun hci => ?_)
    · simp at hci
      obtain ⟨s, ts, s1, s2, s3, -, s0⟩ := el 2 rfl t i hci
      have hi2 : 2 ≤ t.length * 2 - i * 2 := by omega
      obtain ⟨hsm, hq0, hq1⟩ := hts s (List.mem_of_getElem? s1)
      have hgs : t.getD i default = s := by rw [List.getD_eq_getElem?_getD, s1]; rfl
      have wi := wrN i (by omega)
      have f1 := map_range_snoc (fzZ x t) i
      have f2 := map_range_snoc (bzZ x t) i
      have f3 := map_range_snoc (fun i => loadZ (t.take i)) (i + 1)
      have hlz := loadZ_take s3
      have hlb := load_le (t := t.take i) (fun a ha => (hts a (List.mem_of_mem_take ha)).2)
      have hlt : (t.take i).length ≤ 1000 := by rw [List.length_take]; omega
      have wl1 : IntKind.i64.wrap (loadZ (t.take i) + s.q) = loadZ (t.take (i + 1)) := by rw [hlz]; exact wr _ (by omega) (by omega)
      have g1 : (((List.range i).map (fzZ x t)).flatMap Enc.enc : List PV).length = i := by rw [flen_int]; simp
      have g2 : (((List.range i).map (bzZ x t)).flatMap Enc.enc : List PV).length = i := by rw [flen_int]; simp
      have g3 : (((List.range (i + 1)).map fun i => loadZ (t.take i)).flatMap Enc.enc : List PV).length = i + 1 := by rw [flen_int]; simp
      obtain ⟨lz, tlz, z1, -, -, z0⟩ := el1 rfl ((List.range (i + 1)).map fun i => loadZ (t.take i)) i (by simp)
      have hlzz : lz = loadZ (t.take i) := by simpa using z1.symm
      have c1 : (((List.range (i + 1)).map (fzZ x t)).flatMap Enc.enc : List PV) = ((List.range i).map (fzZ x t)).flatMap Enc.enc ++ [I (fzZ x t i)] := by rw [f1, List.flatMap_append]; rfl
      have c2 : (((List.range (i + 1)).map (bzZ x t)).flatMap Enc.enc : List PV) = ((List.range i).map (bzZ x t)).flatMap Enc.enc ++ [I (bzZ x t i)] := by rw [f2, List.flatMap_append]; rfl
      have c3 : (((List.range (i + 1 + 1)).map fun i => loadZ (t.take i)).flatMap Enc.enc : List PV) = ((List.range (i + 1)).map fun i => loadZ (t.take i)).flatMap Enc.enc ++ [I (loadZ (t.take (i + 1)))] := by rw [f3, List.flatMap_append]; rfl
      rw [hlzz] at z0
      clear f1 f2 f3 z1 hlzz hlz
      generalize (((List.range i).map (fzZ x t)).flatMap Enc.enc : List PV) = fc at *
      generalize (((List.range i).map (bzZ x t)).flatMap Enc.enc : List PV) = bc at *
      generalize (((List.range (i + 1)).map fun i => loadZ (t.take i)).flatMap Enc.enc : List PV) = lc at *
      have t1 : fc.take i = fc := List.take_of_length_le (by omega)
      have t2 : bc.take i = bc := List.take_of_length_le (by omega)
      have t3 : lc.take (i + 1) = lc := List.take_of_length_le (by omega)
      refine pw_skip (pw_seq (pw_block ?_))
      repeat refine pw_seq ?_
      refine pwN [] (jn3 s0 hci hi2) ?_
      intro v9
      refine pw_seq ?_
      refine pw_joinK (nx := nx) (fun _ : Unit => True) (fun _ => [(2, .ptr nx v0 0), (5, .ptr (nx + 2) v2 0), (7, .ptr (nx + 4) v4 0), (8, .ptr (nx + 6) v6 0), (9, I (fzZ x t i)), (10, I (bzZ x t i)), (11, I i), (12, .ptr (nx + 9) v9 0), (20, L d), (21, I d.length), (22, I k), (32, L t), (33, I t.length), (34, I i)]) (fun _ => S)
        (fun _ => [.cells v0 25 (instL x), .cells v1 35 [L d], .cells v2 193 [I x.days, I x.veh, I x.cap, I x.len, L x.cust, L x.dist, L d, .sl (nx + 3) v3 4 0 k], .cells v3 195 pc, .cells v4 66 [L t], .cells v5 3 lc,
        .cells v6 195 [.sl (nx + 7) v7 1 0 i, .sl (nx + 8) v8 1 0 i, .sl (nx + 5) v5 1 0 (i + 1), I wl], .cells v7 3 fc, .cells v8 3 bc, .cells v9 43 [I s.c, I s.q]]) ?_ ?_
      · by_cases h0 : 0 < i
        · obtain ⟨j, rfl⟩ : ∃ j, i = j + 1 := ⟨i - 1, by omega⟩
          obtain ⟨p, tp, p1, -, -, -, p0⟩ := el 2 rfl t j (by omega)
          obtain ⟨hpm, -, -⟩ := hts p (List.mem_of_getElem? p1)
          have hgp : t.getD j default = p := by rw [List.getD_eq_getElem?_getD, p1]; rfl
          have hj2 : 2 ≤ t.length * 2 - j * 2 := by omega
          have hjl : j < t.length := by omega
          have wj : IntKind.i64.wrap (j : Int) = (j : Int) := wr _ (by omega) (by omega)
          have wp := small_wr hpm
          have ws := small_wr hsm
          have ar1 := arcP_ok x (p.c + 1) (s.c + 1)
          have ar2 := arcP_ok x (s.c + 1) (p.c + 1)
          have hfz : fzZ x t (j + 1) = fzZ x t j + arc x (p.c + 1) (s.c + 1) := by conv => lhs; unfold fzZ; rw [hgs, hgp]
          have hbz : bzZ x t (j + 1) = bzZ x t j + arc x (s.c + 1) (p.c + 1) := by conv => lhs; unfold bzZ; rw [hgs, hgp]
          have b1 := fzZ_bd hx t (j + 1)
          have b2 := bzZ_bd hx t (j + 1)
          have wf : IntKind.i64.wrap (fzZ x t j + arc x (p.c + 1) (s.c + 1)) = fzZ x t (j + 1) := by rw [hfz] at b1 ⊢; exact wr _ (by omega) (by omega)
          have wb : IntKind.i64.wrap (bzZ x t j + arc x (s.c + 1) (p.c + 1)) = bzZ x t (j + 1) := by rw [hbz] at b2 ⊢; exact wr _ (by omega) (by omega)
          simp only [Nat.add_sub_cancel]
          have h0' : (0 : Int) < ((j + 1 : Nat) : Int) := by omega
          repeat refine pw_seq ?_
          refine pwN [] (jn2 h0 h0') ?_
          intros
          repeat refine pw_seq ?_
          refine pw_ct (by simp) ?_
          repeat refine pw_seq ?_
          refine pwY (some [nx + 4, nx + 9]) (Row.pures [0, 1, 2, 3, 4, 5, 6, 7, 8, 9, 10, 11, 12] .done) mixed (jn6 wj p0 hjl hj2 wp ws) ?_
          intros
          repeat refine pw_seq ?_
          refine pwn ?_
          refine pwC [] ar1 wf ?_
          intros
          repeat refine pw_seq ?_
          refine pwn ?_
          refine pwC [] ar2 wb ?_
          intros
          exact at_mk () [] trivial (by simp) rfl (by simp)
        · obtain rfl : i = 0 := by omega
          repeat refine pw_seq ?_
          refine pwn ?_
          intros
          repeat refine pw_seq ?_
          refine pw_cf rfl ?_
          refine pw_skip ?_
          exact at_mk () [] trivial (by simp) rfl (by simp)
      · rintro ⟨⟩ -
        refine pw_seq ?_
        refine pw_joinK (nx := nx) (fun _ : Unit => True) (fun _ => [(2, .ptr nx v0 0), (5, .ptr (nx + 2) v2 0), (7, .ptr (nx + 4) v4 0), (8, .ptr (nx + 6) v6 0), (9, I (fzZ x t i)), (10, I (bzZ x t i)), (11, I i), (12, .ptr (nx + 9) v9 0), (20, L d), (21, I d.length), (22, I k), (32, L t), (33, I t.length), (34, I i)]) (fun _ => S)
          (fun _ => [.cells v0 25 (instL x), .cells v1 35 [L d], .cells v2 193 [I x.days, I x.veh, I x.cap, I x.len, L x.cust, L x.dist, L d, .sl (nx + 3) v3 4 0 k], .cells v3 195 pc, .cells v4 66 [L t], .cells v5 3 lc,
          .cells v6 195 [.sl (nx + 7) (v7 + 1) 1 0 (i + 1), .sl (nx + 8) (v8 + 1) 1 0 (i + 1), .sl (nx + 5) v5 1 0 (i + 1), I wl], .cells (v7 + 1) 3 (fc ++ [I (fzZ x t i)]), .cells (v8 + 1) 3 (bc ++ [I (bzZ x t i)]), .cells v9 43 [I s.c, I s.q]]) ?_ ?_
        · repeat refine pw_seq ?_
          refine pwY (some []) (Row.pures [0, 2, 3, 5, 7, 8] (.alt 1 (.alt 4 (.alt 6 (Row.pures [10] (.alt 9 (.alt 11 (Row.pures [12] (.alt 13 (.done) .stop)) .stop) .stop)) .stop) (.alt 6 (.alt 4 (Row.pures [10] (.alt 9 (.alt 11 (Row.pures [12] (.alt 13 (.done) .stop)) .stop) .stop)) .stop) .stop)) (.alt 6 (.alt 1 (.alt 4 (Row.pures [10] (.alt 9 (.alt 11 (Row.pures [12] (.alt 13 (.done) .stop)) .stop) .stop)) .stop) .stop) .stop))) mixed (jn4 g1 g2 t1 t2) ?_
          repeat' (first | refine And.intro (by omega) ?_ | apply And.intro)
          all_goals exact at_mk () [] trivial (by simp) rfl (by simp)
        · rintro ⟨⟩ -
          have z1 : (i : Int) < (i : Int) + 1 := by omega
          have z2 : i < i + 1 := by omega
          have z3 : 1 ≤ i + 1 - i := by omega
          repeat refine pw_seq ?_
          refine pwY (some [nx + 9]) (Row.pures [0, 2, 4, 7, 8] (.alt 1 (.alt 3 (Row.pures [5] (.alt 6 (Row.pures [9, 10] (.alt 11 (Row.pures [12] (.alt 13 (.done) .stop)) .stop)) .stop)) .stop) (.alt 3 (Row.pures [5] (.alt 1 (.alt 6 (Row.pures [9, 10] (.alt 11 (Row.pures [12] (.alt 13 (.done) .stop)) .stop)) .stop) (.alt 6 (Row.pures [9, 10] (.alt 1 (.alt 11 (Row.pures [12] (.alt 13 (.done) .stop)) .stop) .stop)) .stop))) .stop))) mixed (jn6 z0 z1 z2 z3 wl1 (jn2 g3 t3)) ?_
          repeat' (first | refine And.intro (by omega) ?_ | apply And.intro)
          all_goals
            intros
            repeat refine pw_seq ?_
            refine pwN [] wi ?_
            intros
            exact again_mk (i + 1, v5 + 1, v7 + 1, v8 + 1) [_] hci (by simp; omega) (by simp [wi]) rfl (by simp [c1, c2, c3]; rfl)
    · simp at hci
      obtain rfl : i = t.length := by omega
      refine pw_exit ?_
      clear hi hci
      have hsm : smZ x t = ⟨(List.range t.length).map (fzZ x t), (List.range t.length).map (bzZ x t), (List.range (t.length + 1)).map fun i => loadZ (t.take i), wl⟩ := by unfold smZ; rw [hwl]
      have g1 : (((List.range t.length).map (fzZ x t)).flatMap Enc.enc : List PV).length = t.length := by rw [flen_int]; simp
      have g2 : (((List.range t.length).map (bzZ x t)).flatMap Enc.enc : List PV).length = t.length := by rw [flen_int]; simp
      have g3 : (((List.range (t.length + 1)).map fun i => loadZ (t.take i)).flatMap Enc.enc : List PV).length = t.length + 1 := by rw [flen_int]; simp
      have hfz : ∀ id v cs, pc.map (frzP id v cs) = pc := fun id v cs => by rw [← hpc]; exact frz_smL id v cs _
      have hpl : pc.length = k * 4 := by rw [← hpc, flen_sm]; simp; omega
      have hpt : pc.take (k * 4) = pc := List.take_of_length_le (by omega)
      have hnew : (((d.map (smZ x)).take (k + 1)).flatMap Enc.enc : List PV) = pc ++ [L ((List.range t.length).map (fzZ x t)), L ((List.range t.length).map (bzZ x t)), L ((List.range (t.length + 1)).map fun i => loadZ (t.take i)), I wl] := by
        rw [← hpc, ← List.map_take, a3, List.map_append, List.flatMap_append, ← List.map_take, List.map_cons, hsm]; rfl
      have l1 : ((List.range t.length).map (fzZ x t)).length = t.length := by simp
      have l2 : ((List.range t.length).map (bzZ x t)).length = t.length := by simp
      have l3 : ((List.range (t.length + 1)).map fun i => loadZ (t.take i)).length = t.length + 1 := by simp
      generalize (List.range t.length).map (fzZ x t) = fl at *
      generalize (List.range t.length).map (bzZ x t) = bl at *
      generalize ((List.range (t.length + 1)).map fun i => loadZ (t.take i)) = ll at *
      clear g1 g2 g3
      refine pw_frz 8 rfl ?_
      simp only [List.map_cons, List.map_nil, List.set_cons_succ, List.set_cons_zero, frzO, hfz]
      refine pw_frz 7 rfl ?_
      simp only [List.map_cons, List.map_nil, List.set_cons_succ, List.set_cons_zero, frzO, hfz]
      refine pw_frz 5 rfl ?_
      simp only [List.map_cons, List.map_nil, List.set_cons_succ, List.set_cons_zero, frzO, hfz]
      repeat refine pw_seq ?_
      refine pwY (some [nx + 6]) (Row.pures [0, 1, 2, 3, 5, 6] (.alt 4 (.alt 7 (Row.pures [8, 9] (.alt 10 (.done) .stop)) .stop) .stop)) mixed (jn5 l1 l2 l3 hpl hpt) ?_
      refine ⟨by omega, ?_⟩
      intros
      repeat refine pw_seq ?_
      refine pwn ?_
      intros
      exact again_mk (k + 1, v3 + 1) [_, _, _, _, _] hc (by simp; omega) (by simp [wrN k (by omega)]) rfl (by simp [hnew, l1, l2, l3]; exact ⟨rfl, rfl, rfl, rfl, rfl⟩)
  · simp at hc
    obtain rfl : k = d.length := by omega
    rw [List.take_of_length_le (by simp)]
    refine pw_exit ?_
    have hml : ((d.map (smZ x)).flatMap Enc.enc : List PV).length = d.length * 4 := by rw [flen_sm]; simp
    refine pw_frz 3 rfl ?_
    repeat refine pw_seq ?_
    refine pwN [] hml ?_
    intros
    refine pw_frq 2 rfl ?_
    repeat refine pw_seq ?_
    exact pw_ret (ret_pure hd (by simp; rfl) (by simp [oneOf, hml]))
open Go Go.Proofs
def pathZ (x : Inst) : Int → List Int → Int
  | _, [] => 0
  | a, c :: l => arc x a (c + 1) + pathZ x (c + 1) l
theorem pathZ_app (x : Inst) : ∀ (l : List Int) (a : Int) (m : List Int), pathZ x a (l ++ m) = pathZ x a l + pathZ x (lastA a l) m
  | [], a, m => by simp [pathZ, lastA]
  | c :: l, a, m => by
    simp only [List.cons_append, pathZ, lastA]
    rw [pathZ_app x l (c + 1) m]; omega
theorem lastA_app : ∀ (l : List Int) (a : Int) (m : List Int), lastA a (l ++ m) = lastA (lastA a l) m
  | [], a, m => rfl
  | c :: l, a, m => by simp only [List.cons_append, lastA]; exact lastA_app l (c + 1) m
theorem wayS_path (x : Inst) : ∀ (l : List Int) (a : Int), wayS x a l = pathZ x a l + arc x (lastA a l) 0
  | [], a => by simp [wayS, pathZ, lastA]
  | c :: l, a => by
    simp only [wayS, pathZ, lastA]
    rw [wayS_path x l (c + 1)]; omega
def segZ (t : Tour) (f n : Nat) : Tour := (t.drop f).take n
theorem segZ_succ {t : Tour} {f n : Nat} {s : Stop} (h : t[f + n]? = some s) : segZ t f (n + 1) = segZ t f n ++ [s] := by
  have h' : (t.drop f)[n]? = some s := by rw [List.getElem?_drop]; exact h
  obtain ⟨h1, h2⟩ := List.getElem?_eq_some_iff.1 h'
  unfold segZ
  rw [List.take_succ_eq_append_getElem h1, h2]
theorem getD_some {t : Tour} {i : Nat} {s : Stop} (h : t[i]? = some s) : t.getD i default = s := by rw [List.getD_eq_getElem?_getD, h]; rfl
theorem seg_fore (x : Inst) (t : Tour) (f : Nat) (a : Int) : ∀ n, f + n < t.length → pathZ x a ((segZ t f (n + 1)).map (·.c)) = arc x a ((t.getD f default).c + 1) + (fzZ x t (f + n) - fzZ x t f) ∧ lastA a ((segZ t f (n + 1)).map (·.c)) = (t.getD (f + n) default).c + 1
  | 0, h => by
    have h0 : t[f + 0]? = some t[f] := List.getElem?_eq_getElem (by omega)
    rw [segZ_succ h0]
    have : segZ t f 0 = [] := by simp [segZ]
    rw [this, getD_some h0]
    simp only [Nat.add_zero] at *
    rw [getD_some h0]
    simp [pathZ, lastA]
  | n + 1, h => by
    obtain ⟨i1, i2⟩ := seg_fore x t f a n (by omega)
    have h0 : t[f + (n + 1)]? = some t[f + (n + 1)] := List.getElem?_eq_getElem (by omega)
    rw [segZ_succ h0, List.map_append, pathZ_app, lastA_app, i1, i2, getD_some h0]
    simp only [List.map_cons, List.map_nil, pathZ, lastA]
    have e : fzZ x t (f + (n + 1)) = fzZ x t (f + n) + arc x ((t.getD (f + n) default).c + 1) ((t.getD (f + (n + 1)) default).c + 1) := rfl
    rw [e, getD_some h0]
    exact ⟨by omega, trivial⟩
theorem seg_back (x : Inst) (t : Tour) (f : Nat) : ∀ (n : Nat) (a : Int), f + n < t.length → pathZ x a ((segZ t f (n + 1)).reverse.map (·.c)) = arc x a ((t.getD (f + n) default).c + 1) + (bzZ x t (f + n) - bzZ x t f) ∧ lastA a ((segZ t f (n + 1)).reverse.map (·.c)) = (t.getD f default).c + 1
  | 0, a, h => by
    have h0 : t[f + 0]? = some t[f] := List.getElem?_eq_getElem (by omega)
    rw [segZ_succ h0]
    have : segZ t f 0 = [] := by simp [segZ]
    rw [this, getD_some h0]
    simp only [Nat.add_zero] at *
    rw [getD_some h0]
    simp [pathZ, lastA]
  | n + 1, a, h => by
    have h0 : t[f + (n + 1)]? = some t[f + (n + 1)] := List.getElem?_eq_getElem (by omega)
    obtain ⟨i1, i2⟩ := seg_back x t f n ((t.getD (f + (n + 1)) default).c + 1) (by omega)
    rw [segZ_succ h0, List.reverse_append]
    simp only [List.reverse_cons, List.reverse_nil, List.nil_append, List.cons_append, List.map_cons, pathZ, lastA]
    rw [getD_some h0] at i1 i2 ⊢
    rw [i1, i2]
    have e : bzZ x t (f + (n + 1)) = bzZ x t (f + n) + arc x ((t.getD (f + (n + 1)) default).c + 1) ((t.getD (f + n) default).c + 1) := rfl
    rw [e, getD_some h0]
    exact ⟨by omega, rfl⟩
theorem seg_load (t : Tour) (f : Nat) : ∀ n, f + n ≤ t.length → loadZ (segZ t f n) = loadZ (t.take (f + n)) - loadZ (t.take f)
  | 0, _ => by simp [segZ, loadZ]
  | n + 1, h => by
    have h0 : t[f + n]? = some t[f + n] := List.getElem?_eq_getElem (by omega)
    have e : t.take (f + n + 1) = t.take (f + n) ++ [t[f + n]] := List.take_succ_eq_append_getElem (by omega)
    rw [segZ_succ h0, loadZ_snoc, seg_load t f n (by omega), ← Nat.add_assoc, e, loadZ_snoc]; omega
def lenS (x : Inst) (d : Day) (st : Int × Int) (p : Pc) : Int × Int :=
  if p.f < p.o then
    (bif p.b then (((d.getD p.t []).getD p.f default).c + 1, st.2 + (arc x st.1 (((d.getD p.t []).getD (p.o - 1) default).c + 1) + bzZ x (d.getD p.t []) (p.o - 1) - bzZ x (d.getD p.t []) p.f))
    else (((d.getD p.t []).getD (p.o - 1) default).c + 1, st.2 + (arc x st.1 (((d.getD p.t []).getD p.f default).c + 1) + fzZ x (d.getD p.t []) (p.o - 1) - fzZ x (d.getD p.t []) p.f)))
  else st
def lenR (x : Inst) (d : Day) (r : Rw5) : Int := (r.l.foldl (lenS x d) (0, 0)).2 + arc x (r.l.foldl (lenS x d) (0, 0)).1 0
def ldS (d : Day) (st : Int) (p : Pc) : Int := if p.f < p.o then st + (loadZ ((d.getD p.t []).take p.o) - loadZ ((d.getD p.t []).take p.f)) else st
def ldR (d : Day) (r : Rw5) : Int := r.l.foldl (ldS d) 0
theorem lenS_eq {x : Inst} {d : Day} {p : Pc} (h : PcOk d p) (g : List Stop) : lenS x d (lastA 0 (g.map (·.c)), pathZ x 0 (g.map (·.c))) p = (lastA 0 ((g ++ pieceZ d p).map (·.c)), pathZ x 0 ((g ++ pieceZ d p).map (·.c))) := by
  unfold lenS pieceZ
  by_cases hfo : p.f < p.o
  · obtain ⟨ht, ho⟩ := h hfo
    unfold tlen at ho
    rw [if_pos hfo, if_pos hfo]
    generalize d.getD p.t [] = t at *
    obtain ⟨n, hn⟩ : ∃ n, p.o = p.f + n + 1 := ⟨p.o - p.f - 1, by omega⟩
    have e1 : p.o - 1 = p.f + n := by omega
    have e2 : p.o - p.f = n + 1 := by omega
    rw [e1, e2, List.map_append, pathZ_app, lastA_app]
    cases p.b with
    | true =>
      simp only [cond_true]
      obtain ⟨i1, i2⟩ := seg_back x t p.f n (lastA 0 (g.map (·.c))) (by omega)
      unfold segZ at i1 i2
      rw [i1, i2]
      congr 1; omega
    | false =>
      simp only [cond_false]
      obtain ⟨i1, i2⟩ := seg_fore x t p.f (lastA 0 (g.map (·.c))) n (by omega)
      unfold segZ at i1 i2
      rw [i1, i2]
      congr 1; omega
  · rw [if_neg hfo, if_neg hfo, List.append_nil]
theorem len_fold {x : Inst} {d : Day} : ∀ (l : List Pc) (g : List Stop), (∀ p ∈ l, PcOk d p) → l.foldl (lenS x d) (lastA 0 (g.map (·.c)), pathZ x 0 (g.map (·.c))) = (lastA 0 ((g ++ l.flatMap (pieceZ d)).map (·.c)), pathZ x 0 ((g ++ l.flatMap (pieceZ d)).map (·.c)))
  | [], g, _ => by simp
  | p :: l, g, h => by
    rw [List.foldl_cons, lenS_eq (h p (by simp)), len_fold l _ fun q hq => h q (by simp [hq]), List.flatMap_cons, List.append_assoc]
theorem lenR_eq {x : Inst} {d : Day} {r : Rw5} (h : RwOk d r) (h0 : arc x 0 0 = 0) : lenR x d r = wayZ x ((gatherZ d r).map (·.c)) := by
  have := len_fold (x := x) r.l [] h
  simp only [List.map_nil, lastA, pathZ, List.nil_append] at this
  unfold lenR
  rw [this]
  simp only
  unfold gatherZ wayZ
  split
  · rename_i e
    rw [e]; simp [pathZ, lastA, h0]
  · rw [wayS_path]
theorem ldS_eq {d : Day} {p : Pc} (h : PcOk d p) (g : List Stop) : ldS d (loadZ g) p = loadZ (g ++ pieceZ d p) := by
  unfold ldS pieceZ
  by_cases hfo : p.f < p.o
  · obtain ⟨ht, ho⟩ := h hfo
    unfold tlen at ho
    rw [if_pos hfo, if_pos hfo, load_app]
    generalize d.getD p.t [] = t at *
    have := seg_load t p.f (p.o - p.f) (by omega)
    rw [show p.f + (p.o - p.f) = p.o by omega] at this
    have hr : ∀ l : Tour, loadZ l.reverse = loadZ l := fun l => by unfold loadZ; exact sum_perm ((List.reverse_perm l).map _)
    unfold segZ at this
    cases p.b with
    | true => simp only [cond_true]; rw [hr, this]
    | false => simp only [cond_false]; rw [this]
  · rw [if_neg hfo, if_neg hfo, List.append_nil]
theorem ldR_eq {d : Day} {r : Rw5} (h : RwOk d r) : ldR d r = loadZ (gatherZ d r) := by
  have key : ∀ (l : List Pc) (g : List Stop), (∀ p ∈ l, PcOk d p) → l.foldl (ldS d) (loadZ g) = loadZ (g ++ l.flatMap (pieceZ d)) := by
    intro l
    induction l with
    | nil => intro g _; simp
    | cons p l ih =>
      intro g h
      rw [List.foldl_cons, ldS_eq (h p (by simp)), ih _ fun q hq => h q (by simp [hq]), List.flatMap_cons, List.append_assoc]
  have := key r.l [] h
  simpa [ldR, gatherZ, loadZ] using this
open Go Go.Proofs
abbrev rdG (x : Inst) (d : Day) (sms : List Sm) : List PV := [I x.days, I x.veh, I x.cap, I x.len, L x.cust, L x.dist, L d, L sms]
theorem arc_bd {x : Inst} (h : ArcOk x) (a b : Int) : 0 ≤ arc x a b ∧ arc x a b ≤ 2147483648 := h a b
theorem sm_at {x : Inst} {d : Day} {sms : List Sm} (hs : sms = d.map (smZ x)) {k : Nat} (h : k < d.length) : ∃ (t : Tour) (td tf : List PV), d[k]? = some t ∧ d.getD k [] = t ∧ (d.flatMap Enc.enc : List PV).drop k = L t :: td ∧
    (sms.flatMap Enc.enc : List PV).drop (k * 4) = [L (smZ x t).f, L (smZ x t).b, L (smZ x t).l, I (smZ x t).n] ++ tf := by
  obtain ⟨t, td, a1, -, -, e0⟩ := el1 rfl d k h
  rw [hs]
  obtain ⟨s, ts, b1, -, -, -, f0⟩ := el 4 rfl (d.map (smZ x)) k (by simpa using h)
  have : s = smZ x t := by rw [List.getElem?_map, a1] at b1; exact (Option.some.inj b1).symm
  subst this
  exact ⟨t, td, ts, a1, by rw [List.getD_eq_getElem?_getD, a1]; rfl, e0, f0⟩
theorem rng_at {α : Type} [Enc α] (n : Nat) (hn : Enc.sz α = 1) (f : Nat → α) {i : Nat} (h : i < n) : ∃ tl, (((List.range n).map f).flatMap Enc.enc : List PV).drop i = Enc.enc (f i) ++ tl := by
  obtain ⟨s, ts, b1, -, -, f0⟩ := el1 hn ((List.range n).map f) i (by simpa using h)
  have : s = f i := by rw [List.getElem?_map, List.getElem?_range h] at b1; exact (Option.some.inj b1).symm
  subst this
  exact ⟨ts, f0⟩
set_option maxRecDepth 20000 in
set_option maxHeartbeats 3200000 in
theorem rlen_ok (x : Inst) (d : Day) (r : Rw5) (hx : ArcOk x) (hd' : MvDay d) (hr : RwOk d r) : Pure Tryz.prog 141 [.ip (rdL x d), .agg (rwL r)] (I (lenR x d r)) := by
  obtain ⟨sms, hsms⟩ : ∃ sms, sms = d.map (smZ x) := ⟨_, rfl⟩
  have hml : sms.length = d.length := by rw [hsms]; simp
  rw [show rdL x d = rdG x d sms from by rw [hsms]]
  have hdn := hd'.n
  have hat := fun k (h : k < 5) => rw_at r h
  have hz : lenR x d r = ((r.l.take 5).foldl (lenS x d) (0, 0)).2 + arc x ((r.l.take 5).foldl (lenS x d) (0, 0)).1 0 := by unfold lenR; rw [List.take_of_length_le (by simp [Rw5.l])]
  rw [hz]
  clear hz
  have hcl : (rwL r).length = 20 := rfl
  have hct : (rwL r).take 20 = rwL r := rfl
  generalize hrc : rwL r = rc at *
  refine pwe Tryz.func141 Tryz.ntmps141 Tryz.results141 fun S nx hd => ?_
  repeat refine pw_seq ?_
  refine pwn ?_
  intro v0
  repeat refine pw_seq ?_
  refine pwn ?_
  intros
  repeat refine pw_seq ?_
  refine pwN [] (jn2 hcl hct) ?_
  intros
  repeat refine pw_seq ?_
  refine pw_block (pw_loopL (fun k : Nat => k ≤ 5 ∧ -(8796093022208 * (k : Int)) ≤ ((r.l.take k).foldl (lenS x d) (0, 0)).2 ∧ ((r.l.take k).foldl (lenS x d) (0, 0)).2 ≤ 8796093022208 * k) (fun k => [(0, .ip (rdG x d sms)), (3, .ptr nx v0 0), (5, I ((r.l.take k).foldl (lenS x d) (0, 0)).1), (6, I ((r.l.take k).foldl (lenS x d) (0, 0)).2), (13, .agg rc), (14, I k)]) (fun _ => [.cells v0 168 rc]) (fun k => 5 - k) 0 [] (by simp) (by simp) (by simp) ?_)
  rintro k ⟨hk, hb1, hb2⟩
  by_cases hk5 : k < 5
  · obtain ⟨p, hp1, hp2, hp3⟩ := hat k hk5
    have hk5' : (k : Int) < 5 := by omega
    have hk6 : 4 ≤ 20 - k * 4 := by omega
    have hok := hr p (List.mem_of_getElem? hp1)
    have hnx : (r.l.take (k + 1)).foldl (lenS x d) (0, 0) = lenS x d ((r.l.take k).foldl (lenS x d) (0, 0)) p := by rw [hp3, List.foldl_append]; rfl
    generalize (r.l.take k).foldl (lenS x d) (0, 0) = st at *
    obtain ⟨at_, all⟩ := st
    simp only at hb1 hb2 ⊢
    have wk := wrN k (by omega)
    repeat refine pw_seq ?_
    refine pwN [] hk5' ?_
    intros
    repeat refine pw_seq ?_
    refine pw_ct rfl ?_
    refine pw_skip (pw_seq (pw_block ?_))
    repeat refine pw_seq ?_
    refine pwN [] (jn5 hp2 hk5 hk5' hcl hk6) ?_
    intro v3
    by_cases hfo : p.f < p.o
    case neg =>
      have hpz : lenS x d (at_, all) p = (at_, all) := by unfold lenS; rw [if_neg hfo]
      rw [hpz] at hnx
      have hfo' : p.o ≤ p.f := by omega
      repeat refine pw_seq ?_
      refine pwN [] hfo' ?_
      intros
      repeat refine pw_seq ?_
      refine pw_ct (by simp [hfo']) ?_
      refine pw_exit ?_
      repeat refine pw_seq ?_
      refine pwn ?_
      intros
      exact again_mk (k + 1) [_] ⟨by omega, by rw [hnx]; simp only; omega, by rw [hnx]; simp only; omega⟩ (by omega) (by simp [wk, hnx]) rfl (by simp; rfl)
    obtain ⟨ht, ho⟩ := hok hfo
    obtain ⟨t, td, tf, a1, hgt, e0, f0⟩ := sm_at hsms ht
    unfold tlen at ho
    rw [hgt] at ho
    have htm := List.mem_of_getElem? a1
    have htl := hd'.t t htm
    have hts := hd'.s t htm
    have ht1 : 1 ≤ d.length - p.t := by omega
    have ht4 : 4 ≤ d.length * 4 - p.t * 4 := by omega
    obtain ⟨n, hn⟩ : ∃ n, p.o = n + 1 := ⟨p.o - 1, by omega⟩
    have hfo' : ¬ p.o ≤ p.f := by omega
    have hst : lenS x d (at_, all) p = bif p.b then ((t.getD p.f default).c + 1, all + (arc x at_ ((t.getD n default).c + 1) + bzZ x t n - bzZ x t p.f)) else ((t.getD n default).c + 1, all + (arc x at_ ((t.getD p.f default).c + 1) + fzZ x t n - fzZ x t p.f)) := by
      unfold lenS; rw [if_pos hfo, hgt, show p.o - 1 = n by omega]
    rw [hst] at hnx
    clear hst
    obtain ⟨sf, tsf, s1, -, -, -, s0⟩ := el 2 rfl t p.f (by omega)
    obtain ⟨sl, tsl, l1, -, -, -, l0⟩ := el 2 rfl t n (by omega)
    have hgf : t.getD p.f default = sf := getD_some s1
    have hgl : t.getD n default = sl := getD_some l1
    rw [hgf, hgl] at hnx
    have q1 : p.f < t.length := by omega
    have q2 : n < t.length := by omega
    have q3 : 2 ≤ t.length * 2 - p.f * 2 := by omega
    have q4 : 2 ≤ t.length * 2 - n * 2 := by omega
    have wo : IntKind.i64.wrap ((p.o : Int) - 1) = (n : Int) := by rw [wr _ (by omega) (by omega)]; omega
    have wsf := small_wr (hts sf (List.mem_of_getElem? s1)).1
    have wsl := small_wr (hts sl (List.mem_of_getElem? l1)).1
    have bf1 := fzZ_bd hx t p.f
    have bf2 := fzZ_bd hx t n
    have bb1 := bzZ_bd hx t p.f
    have bb2 := bzZ_bd hx t n
    have hlen : ((List.range t.length).map (fzZ x t)).length = t.length ∧ ((List.range t.length).map (bzZ x t)).length = t.length := by simp
    obtain ⟨z1, hz1⟩ := rng_at t.length rfl (fzZ x t) q1
    obtain ⟨z2, hz2⟩ := rng_at t.length rfl (fzZ x t) q2
    obtain ⟨z3, hz3⟩ := rng_at t.length rfl (bzZ x t) q1
    obtain ⟨z4, hz4⟩ := rng_at t.length rfl (bzZ x t) q2
    have q5 : 1 ≤ t.length - p.f := by omega
    have q6 : 1 ≤ t.length - n := by omega
    simp only [smZ] at f0
    generalize hfl : (List.range t.length).map (fzZ x t) = fl at *
    generalize hbl : (List.range t.length).map (bzZ x t) = bl at *
    generalize ((List.range (t.length + 1)).map fun i => loadZ (t.take i)) = ll at *
    generalize wayZ x (t.map (·.c)) = wl at *
    obtain ⟨hl1, hl2⟩ := hlen
    have hfll : (fl.flatMap Enc.enc : List PV).length = t.length := by rw [flen_int, hl1]
    have hbll : (bl.flatMap Enc.enc : List PV).length = t.length := by rw [flen_int, hl2]
    repeat refine pw_seq ?_
    refine pwN [] hfo' ?_
    intros
    repeat refine pw_seq ?_
    refine pw_cf (by simp [hfo']) ?_
    refine pw_skip ?_
    repeat refine pw_seq ?_
    refine pwY (some [nx + 1]) (Row.pures [0, 1, 2, 3, 4, 5, 6, 7, 8, 9, 10, 11, 12, 13, 14, 15, 16, 17, 18, 19, 20] .done) mixed (jn6 e0 f0 ht ht1 ht4 hml) ?_
    intros
    repeat refine pw_seq ?_
    refine pwY (some [nx + 1]) (Row.pures [0, 1, 2, 3, 4, 5, 6] .done) mixed wo ?_
    intros
    refine pw_seq ?_
    cases hpb : p.b with
    | false =>
      rw [hpb] at hnx
      simp only [cond_false] at hnx
      have har := arc_bd hx at_ (sf.c + 1)
      have ar := arcP_ok x at_ (sf.c + 1)
      have w1 : IntKind.i64.wrap (arc x at_ (sf.c + 1) + fzZ x t n) = arc x at_ (sf.c + 1) + fzZ x t n := wr _ (by omega) (by omega)
      have w2 : IntKind.i64.wrap (arc x at_ (sf.c + 1) + fzZ x t n - fzZ x t p.f) = arc x at_ (sf.c + 1) + fzZ x t n - fzZ x t p.f := wr _ (by omega) (by omega)
      have w3 : IntKind.i64.wrap (all + (arc x at_ (sf.c + 1) + fzZ x t n - fzZ x t p.f)) = all + (arc x at_ (sf.c + 1) + fzZ x t n - fzZ x t p.f) := wr _ (by omega) (by omega)
      repeat refine pw_seq ?_
      refine pwN [] hpb ?_
      intros
      repeat refine pw_seq ?_
      refine pw_cf rfl ?_
      refine pw_skip ?_
      repeat refine pw_seq ?_
      refine pwY (some [nx + 1]) (Row.pures [0, 1, 2, 3, 4, 5, 6, 7, 8, 9, 10, 11, 12, 13, 14, 15, 16, 17, 18, 19, 20, 21, 22, 23, 24, 25, 26, 27] .done) mixed (jn6 s0 q1 q3 wsf wo (jn2 (jn6 hz1 hz2 hfll hl1 q2 q5) (jn4 q6 w1 w2 w3))) ?_
      refine pwP (ar) (jn6 s0 q1 q3 wsf wo (jn2 (jn6 hz1 hz2 hfll hl1 q2 q5) (jn4 q6 w1 w2 w3))) ?_
      intros
      repeat refine pw_seq ?_
      refine pwN [] (jn4 l0 q2 q4 wsl) ?_
      intros
      repeat refine pw_seq ?_
      refine pwn ?_
      intros
      exact again_mk (k + 1) [_] ⟨by omega, by rw [hnx]; simp only; omega, by rw [hnx]; simp only; omega⟩ (by omega) (by simp [wk, hnx]) rfl (by simp; rfl)
    | true =>
      rw [hpb] at hnx
      simp only [cond_true] at hnx
      have har := arc_bd hx at_ (sl.c + 1)
      have ar := arcP_ok x at_ (sl.c + 1)
      have w1 : IntKind.i64.wrap (arc x at_ (sl.c + 1) + bzZ x t n) = arc x at_ (sl.c + 1) + bzZ x t n := wr _ (by omega) (by omega)
      have w2 : IntKind.i64.wrap (arc x at_ (sl.c + 1) + bzZ x t n - bzZ x t p.f) = arc x at_ (sl.c + 1) + bzZ x t n - bzZ x t p.f := wr _ (by omega) (by omega)
      have w3 : IntKind.i64.wrap (all + (arc x at_ (sl.c + 1) + bzZ x t n - bzZ x t p.f)) = all + (arc x at_ (sl.c + 1) + bzZ x t n - bzZ x t p.f) := wr _ (by omega) (by omega)
      repeat refine pw_seq ?_
      refine pwN [] hpb ?_
      intros
      repeat refine pw_seq ?_
      refine pw_ct rfl ?_
      repeat refine pw_seq ?_
      refine pwY (some [nx + 1]) (Row.pures [0, 1, 2, 3, 4, 5, 6, 7, 8, 9, 10, 11, 12, 13] .done) mixed (jn4 f0 ht ht4 hml) ?_
      intros
      repeat refine pw_seq ?_
      refine pwY (some [nx + 1]) (Row.pures [0, 1, 2, 3, 4, 5, 6, 7, 8, 9, 10, 11, 12, 13, 14, 15, 16, 17, 18, 19, 20, 21, 22, 23, 24, 25, 26, 27] .done) mixed (jn6 l0 q2 q4 wsl wo (jn2 (jn6 hz3 hz4 hbll hl2 q1 q5) (jn4 q6 w1 w2 w3))) ?_
      refine pwP (ar) (jn6 l0 q2 q4 wsl wo (jn2 (jn6 hz3 hz4 hbll hl2 q1 q5) (jn4 q6 w1 w2 w3))) ?_
      intros
      repeat refine pw_seq ?_
      refine pwN [] (jn4 s0 q1 q3 wsf) ?_
      intros
      repeat refine pw_seq ?_
      refine pwn ?_
      intros
      exact again_mk (k + 1) [_] ⟨by omega, by rw [hnx]; simp only; omega, by rw [hnx]; simp only; omega⟩ (by omega) (by simp [wk, hnx]) rfl (by simp; rfl)
  · obtain rfl : k = 5 := by omega
    generalize (r.l.take 5).foldl (lenS x d) (0, 0) = st at *
    obtain ⟨at_, all⟩ := st
    simp only at hb1 hb2 ⊢
    have har := arc_bd hx at_ 0
    have ar := arcP_ok x at_ 0
    have w1 : IntKind.i64.wrap (all + arc x at_ 0) = all + arc x at_ 0 := wr _ (by omega) (by omega)
    repeat refine pw_seq ?_
    refine pwn ?_
    intros
    repeat refine pw_seq ?_
    refine pw_cf rfl ?_
    refine pw_exit ?_
    repeat refine pw_seq ?_
    refine pwn ?_
    refine pwC [] ar w1 ?_
    intros
    repeat refine pw_seq ?_
    exact pw_ret (ret_pure hd rfl rfl)
open Go Go.Proofs
set_option maxRecDepth 20000 in
set_option maxHeartbeats 3200000 in
theorem rload_ok (x : Inst) (d : Day) (r : Rw5) (hd' : MvDay d) (hr : RwOk d r) : Pure Tryz.prog 142 [.ip (rdL x d), .agg (rwL r)] (I (ldR d r)) := by
  obtain ⟨sms, hsms⟩ : ∃ sms, sms = d.map (smZ x) := ⟨_, rfl⟩
  have hml : sms.length = d.length := by rw [hsms]; simp
  rw [show rdL x d = rdG x d sms from by rw [hsms]]
  have hdn := hd'.n
  have hat := fun k (h : k < 5) => rw_at r h
  have hz : ldR d r = (r.l.take 5).foldl (ldS d) 0 := by unfold ldR; rw [List.take_of_length_le (by simp [Rw5.l])]
  rw [hz]
  clear hz
  have hcl : (rwL r).length = 20 := rfl
  have hct : (rwL r).take 20 = rwL r := rfl
  generalize hrc : rwL r = rc at *
  refine pwe Tryz.func142 Tryz.ntmps142 Tryz.results142 fun S nx hd => ?_
  repeat refine pw_seq ?_
  refine pwn ?_
  intro v0
  repeat refine pw_seq ?_
  refine pwn ?_
  intros
  repeat refine pw_seq ?_
  refine pwN [] (jn2 hcl hct) ?_
  intros
  repeat refine pw_seq ?_
  refine pw_block (pw_loopL (fun k : Nat => k ≤ 5 ∧ -(8796093022208 * (k : Int)) ≤ (r.l.take k).foldl (ldS d) 0 ∧ (r.l.take k).foldl (ldS d) 0 ≤ 8796093022208 * k) (fun k => [(0, .ip (rdG x d sms)), (3, .ptr nx v0 0), (5, I ((r.l.take k).foldl (ldS d) 0)), (8, .agg rc), (9, I k)]) (fun _ => [.cells v0 168 rc]) (fun k => 5 - k) 0 [] (by simp) (by simp) (by simp) ?_)
  rintro k ⟨hk, hb1, hb2⟩
  by_cases hk5 : k < 5
  · obtain ⟨p, hp1, hp2, hp3⟩ := hat k hk5
    have hk5' : (k : Int) < 5 := by omega
    have hk6 : 4 ≤ 20 - k * 4 := by omega
    have hok := hr p (List.mem_of_getElem? hp1)
    have hnx : (r.l.take (k + 1)).foldl (ldS d) 0 = ldS d ((r.l.take k).foldl (ldS d) 0) p := by rw [hp3, List.foldl_append]; rfl
    generalize (r.l.take k).foldl (ldS d) 0 = all at *
    have wk := wrN k (by omega)
    repeat refine pw_seq ?_
    refine pwN [] hk5' ?_
    intros
    repeat refine pw_seq ?_
    refine pw_ct rfl ?_
    refine pw_skip (pw_seq (pw_block ?_))
    repeat refine pw_seq ?_
    refine pwN [] (jn5 hp2 hk5 hk5' hcl hk6) ?_
    intro v3
    by_cases hfo : p.f < p.o
    case neg =>
      have hpz : ldS d all p = all := by unfold ldS; rw [if_neg hfo]
      rw [hpz] at hnx
      repeat refine pw_seq ?_
      refine pwN [] hfo ?_
      intros
      repeat refine pw_seq ?_
      refine pw_cf (by simp [hfo]) ?_
      refine pw_skip ?_
      repeat refine pw_seq ?_
      refine pwn ?_
      intros
      exact again_mk (k + 1) [_] ⟨by omega, by rw [hnx]; omega, by rw [hnx]; omega⟩ (by omega) (by simp [wk, hnx]) rfl (by simp; rfl)
    obtain ⟨ht, ho⟩ := hok hfo
    obtain ⟨t, td, tf, a1, hgt, e0, f0⟩ := sm_at hsms ht
    unfold tlen at ho
    rw [hgt] at ho
    have htm := List.mem_of_getElem? a1
    have htl := hd'.t t htm
    have hts := hd'.s t htm
    have ht4 : 4 ≤ d.length * 4 - p.t * 4 := by omega
    have hst : ldS d all p = all + (loadZ (t.take p.o) - loadZ (t.take p.f)) := by unfold ldS; rw [if_pos hfo, hgt]
    rw [hst] at hnx
    have b1 := load_le (t := t.take p.o) (fun a ha => (hts a (List.mem_of_mem_take ha)).2)
    have b2 := load_le (t := t.take p.f) (fun a ha => (hts a (List.mem_of_mem_take ha)).2)
    have b3 : (t.take p.o).length ≤ 1000 := by rw [List.length_take]; omega
    have b4 : (t.take p.f).length ≤ 1000 := by rw [List.length_take]; omega
    have w1 : IntKind.i64.wrap (loadZ (t.take p.o) - loadZ (t.take p.f)) = loadZ (t.take p.o) - loadZ (t.take p.f) := wr _ (by omega) (by omega)
    have w2 : IntKind.i64.wrap (all + (loadZ (t.take p.o) - loadZ (t.take p.f))) = all + (loadZ (t.take p.o) - loadZ (t.take p.f)) := wr _ (by omega) (by omega)
    obtain ⟨z1, hz1⟩ := rng_at (t.length + 1) rfl (fun i => loadZ (t.take i)) (show p.o < t.length + 1 by omega)
    obtain ⟨z2, hz2⟩ := rng_at (t.length + 1) rfl (fun i => loadZ (t.take i)) (show p.f < t.length + 1 by omega)
    have hll : ((List.range (t.length + 1)).map fun i => loadZ (t.take i)).length = t.length + 1 := by simp
    simp only [smZ] at f0
    generalize (List.range t.length).map (fzZ x t) = fl at *
    generalize (List.range t.length).map (bzZ x t) = bl at *
    generalize ((List.range (t.length + 1)).map fun i => loadZ (t.take i)) = ll at *
    generalize wayZ x (t.map (·.c)) = wl at *
    generalize loadZ (t.take p.o) = lo at *
    generalize loadZ (t.take p.f) = lf at *
    have hlf : (ll.flatMap Enc.enc : List PV).length = t.length + 1 := by rw [flen_int, hll]
    have q1 : p.o < t.length + 1 := by omega
    have q2 : p.f < t.length + 1 := by omega
    have q3 : 1 ≤ t.length + 1 - p.o := by omega
    have q4 : 1 ≤ t.length + 1 - p.f := by omega
    have q5 : (p.o : Int) < (t.length : Int) + 1 := by omega
    have q6 : (p.f : Int) < (t.length : Int) + 1 := by omega
    repeat refine pw_seq ?_
    refine pwN [] hfo ?_
    intros
    repeat refine pw_seq ?_
    refine pw_ct (by simp [hfo]) ?_
    repeat refine pw_seq ?_
    refine pwY (some [nx + 1]) (Row.pures [0, 1, 2, 3, 4, 5, 6, 7, 8, 9, 10, 11, 12, 13, 14, 15, 16, 17, 18, 19, 20, 21, 22, 23, 24, 25, 26, 27, 28, 29] .done) mixed (jn6 f0 ht ht4 hml hz1 (jn2 (jn6 hz2 hll hlf q1 q2 q3) (jn5 q4 q5 q6 w1 w2))) ?_
    intros
    repeat refine pw_seq ?_
    refine pwn ?_
    intros
    exact again_mk (k + 1) [_] ⟨by omega, by rw [hnx]; omega, by rw [hnx]; omega⟩ (by omega) (by simp [wk, hnx]) rfl (by simp; rfl)
  · obtain rfl : k = 5 := by omega
    repeat refine pw_seq ?_
    refine pwn ?_
    intros
    repeat refine pw_seq ?_
    refine pw_cf rfl ?_
    refine pw_exit ?_
    repeat refine pw_seq ?_
    refine pwn ?_
    intros
    repeat refine pw_seq ?_
    exact pw_ret (ret_pure hd rfl rfl)
def moreR (x : Inst) (d : Day) (m : Mv) (r1 r2 : Rw5) : Int := lenR x d r1 - wayZ x ((d.getD m.a []).map (·.c)) + (if m.a = m.b then 0 else lenR x d r2 - wayZ x ((d.getD m.b []).map (·.c)))
theorem lenR_bd {x : Inst} (hx : ArcOk x) {d : Day} (hd' : MvDay d) {r : Rw5} (hr : RwOk d r) : -52776558133248 ≤ lenR x d r ∧ lenR x d r ≤ 52776558133248 := by
  have key : ∀ k : Nat, k ≤ 5 → -(8796093022208 * (k : Int)) ≤ ((r.l.take k).foldl (lenS x d) (0, 0)).2 ∧ ((r.l.take k).foldl (lenS x d) (0, 0)).2 ≤ 8796093022208 * k := by
    intro k
    induction k with
    | zero => intro _; simp
    | succ k ih =>
      intro hk
      obtain ⟨h1, h2⟩ := ih (by omega)
      obtain ⟨p, hp1, -, hp3⟩ := rw_at r (show k < 5 by omega)
      have hok := hr p (List.mem_of_getElem? hp1)
      rw [hp3, List.foldl_append, List.foldl_cons, List.foldl_nil]
      generalize (r.l.take k).foldl (lenS x d) (0, 0) = st at *
      unfold lenS
      by_cases hfo : p.f < p.o
      · obtain ⟨ht, ho⟩ := hok hfo
        have htm : d.getD p.t [] ∈ d := List.mem_of_getElem? (i := p.t) (by rw [List.getD_eq_getElem?_getD, List.getElem?_eq_getElem ht]; rfl)
        have htl := hd'.t _ htm
        unfold tlen at ho
        generalize d.getD p.t [] = t at *
        have b1 := fzZ_bd hx t p.f
        have b2 := fzZ_bd hx t (p.o - 1)
        have b3 := bzZ_bd hx t p.f
        have b4 := bzZ_bd hx t (p.o - 1)
        rw [if_pos hfo]
        cases p.b with
        | true =>
          have := arc_bd hx st.1 ((t.getD (p.o - 1) default).c + 1)
          simp only [cond_true]; omega
        | false =>
          have := arc_bd hx st.1 ((t.getD p.f default).c + 1)
          simp only [cond_false]; omega
      · rw [if_neg hfo]; omega
  have h5 := key 5 (by omega)
  rw [List.take_of_length_le (by simp [Rw5.l])] at h5
  have := arc_bd hx (r.l.foldl (lenS x d) (0, 0)).1 0
  unfold lenR
  omega
set_option maxRecDepth 20000 in
set_option maxHeartbeats 3200000 in
theorem rmore_ok (x : Inst) (d : Day) (m : Mv) (r1 r2 : Rw5) (hx : ArcOk x) (hd' : MvDay d) (hr1 : RwOk d r1) (hr2 : RwOk d r2) (ha : m.a < d.length) (hb : m.b < d.length) : Pure Tryz.prog 121 [.ip (rdL x d), .agg (mvL m), .agg (rwL r1), .agg (rwL r2)] (I (moreR x d m r1 r2)) := by
  have l1 := rlen_ok x d r1 hx hd' hr1
  have l2 := rlen_ok x d r2 hx hd' hr2
  have b1 := lenR_bd hx hd' hr1
  have b2 := lenR_bd hx hd' hr2
  obtain ⟨sms, hsms⟩ : ∃ sms, sms = d.map (smZ x) := ⟨_, rfl⟩
  have hml : sms.length = d.length := by rw [hsms]; simp
  rw [show rdL x d = rdG x d sms from by rw [hsms]] at l1 l2 ⊢
  have hdn := hd'.n
  obtain ⟨ta, tda, tfa, a1, hga, -, fa⟩ := sm_at hsms ha
  obtain ⟨tb, tdb, tfb, c1, hgb, -, fb⟩ := sm_at hsms hb
  have wa := wayZ_bd hx (ta.map (·.c))
  have wb := wayZ_bd hx (tb.map (·.c))
  rw [List.length_map] at wa wb
  have hta := hd'.t ta (List.mem_of_getElem? a1)
  have htb := hd'.t tb (List.mem_of_getElem? c1)
  have hdef : moreR x d m r1 r2 = lenR x d r1 - wayZ x (ta.map (·.c)) + (if m.a = m.b then 0 else lenR x d r2 - wayZ x (tb.map (·.c))) := by unfold moreR; rw [hga, hgb]
  rw [hdef]
  clear hdef
  simp only [smZ] at fa fb
  generalize lenR x d r1 = k1 at *
  generalize lenR x d r2 = k2 at *
  generalize wayZ x (ta.map (·.c)) = wl at *
  generalize wayZ x (tb.map (·.c)) = wm at *
  have ha4 : 4 ≤ d.length * 4 - m.a * 4 := by omega
  have hb4 : 4 ≤ d.length * 4 - m.b * 4 := by omega
  have w1 : IntKind.i64.wrap (k1 - wl) = k1 - wl := wr _ (by omega) (by omega)
  have w2 : IntKind.i64.wrap (k2 - wm) = k2 - wm := wr _ (by omega) (by omega)
  have w3 : IntKind.i64.wrap (k1 - wl + (k2 - wm)) = k1 - wl + (k2 - wm) := wr _ (by omega) (by omega)
  have hc1 : (rwL r1).length = 20 := rfl
  have ht1 : (rwL r1).take 20 = rwL r1 := rfl
  have hc2 : (rwL r2).length = 20 := rfl
  have ht2 : (rwL r2).take 20 = rwL r2 := rfl
  generalize hrc1 : rwL r1 = rc1 at *
  generalize hrc2 : rwL r2 = rc2 at *
  refine pwe Tryz.func121 Tryz.ntmps121 Tryz.results121 fun S nx hd => ?_
  repeat refine pw_seq ?_
  refine pwn ?_
  intro v0 v1 v2
  repeat refine pw_seq ?_
  refine pwY (some [nx, nx + 1]) (Row.pures [0, 1, 2, 3, 4, 5, 6, 7, 8, 9, 10, 11, 12, 13] .done) mixed (jn6 hc1 ht1 fa ha ha4 (jn2 hml w1)) ?_
  refine pwP (l1) (jn6 hc1 ht1 fa ha ha4 (jn2 hml w1)) ?_
  intros
  by_cases hab : m.a = m.b
  · have hab' : (m.a : Int) = m.b := by omega
    rw [if_pos hab]
    repeat refine pw_seq ?_
    refine pwN [] hab' ?_
    intros
    repeat refine pw_seq ?_
    refine pw_cf (by simp [hab']) ?_
    refine pw_skip ?_
    repeat refine pw_seq ?_
    refine pwn ?_
    intros
    repeat refine pw_seq ?_
    exact pw_ret (ret_pure hd rfl (by simp [oneOf]))
  · have hab' : ¬ (m.a : Int) = m.b := by omega
    rw [if_neg hab]
    repeat refine pw_seq ?_
    refine pwN [] hab' ?_
    intros
    repeat refine pw_seq ?_
    refine pw_ct (by simp [hab']) ?_
    repeat refine pw_seq ?_
    refine pwY (some [nx, nx + 2]) (Row.pures [0, 1, 2, 3, 4, 5, 6, 7, 8, 9, 10, 11, 12, 13, 14, 15] .done) mixed (jn6 hc2 ht2 fb hb hb4 (jn3 hml w2 w3)) ?_
    refine pwP (l2) (jn6 hc2 ht2 fb hb hb4 (jn3 hml w2 w3)) ?_
    intros
    repeat refine pw_seq ?_
    refine pwn ?_
    intros
    repeat refine pw_seq ?_
    exact pw_ret (ret_pure hd rfl (by simp [oneOf]))
set_option maxRecDepth 20000 in
theorem rfits_ok (x : Inst) (d : Day) (r : Rw5) (hx : ArcOk x) (hd' : MvDay d) (hr : RwOk d r) : Pure Tryz.prog 122 [.ip (rdL x d), .agg (rwL r)] (B (decide (ldR d r ≤ x.cap ∧ lenR x d r ≤ x.len))) := by
  have l1 := rlen_ok x d r hx hd' hr
  have l2 := rload_ok x d r hd' hr
  obtain ⟨sms, hsms⟩ : ∃ sms, sms = d.map (smZ x) := ⟨_, rfl⟩
  rw [show rdL x d = rdG x d sms from by rw [hsms]] at l1 l2 ⊢
  generalize lenR x d r = k1 at *
  generalize ldR d r = k2 at *
  have hc1 : (rwL r).length = 20 := rfl
  have ht1 : (rwL r).take 20 = rwL r := rfl
  generalize hrc1 : rwL r = rc at *
  refine pwe Tryz.func122 Tryz.ntmps122 Tryz.results122 fun S nx hd => ?_
  repeat refine pw_seq ?_
  refine pwn ?_
  intro v0
  by_cases h1 : k2 ≤ x.cap
  · repeat refine pw_seq ?_
    refine pwY (some [nx]) (Row.pures [0, 1, 2, 3, 4, 5, 6, 7, 8, 9, 10, 11, 12, 13, 14, 15, 16, 17, 18, 19, 20] .done) mixed (jn3 hc1 ht1 h1) ?_
    refine pwP (l2) (jn3 hc1 ht1 h1) ?_
    refine pwP (l1) (jn3 hc1 ht1 h1) ?_
    intros
    repeat refine pw_seq ?_
    exact pw_ret (ret_pure hd rfl (by simp [oneOf, h1]))
  · repeat refine pw_seq ?_
    refine pwY (some [nx]) (Row.pures [0, 1, 2, 3, 4, 5, 6, 7, 8, 9, 10, 11, 12, 13, 14, 15, 16, 17, 18, 19, 20] .done) mixed (jn4 hc1 ht1 h1 undef_eq) ?_
    refine pwP (l2) (jn4 hc1 ht1 h1 undef_eq) ?_
    intros
    repeat refine pw_seq ?_
    exact pw_ret (ret_pure hd rfl (by simp [oneOf, h1]))
open Go Go.Proofs
theorem fl_at {α : Type} {W : Nat → List α} {n k i : Nat} {x : α} (hk : k < n) (h : (W k)[i]? = some x) : ((List.range n).flatMap W)[((List.range k).flatMap W).length + i]? = some x := by
  obtain ⟨m, rfl⟩ : ∃ m, n = k + (m + 1) := ⟨n - k - 1, by omega⟩
  have hi := (List.getElem?_eq_some_iff.1 h).1
  rw [List.range_add, List.flatMap_append, List.getElem?_append_right (Nat.le_add_right _ _), Nat.add_sub_cancel_left, List.range_succ_eq_map]
  simp only [List.map_cons, List.flatMap_cons, Nat.add_zero]
  rw [List.getElem?_append_left hi]
  exact h
theorem fl_len {α : Type} (W : Nat → List α) (k : Nat) : ((List.range (k + 1)).flatMap W).length = ((List.range k).flatMap W).length + (W k).length := by
  rw [List.range_succ, List.flatMap_append, List.length_append]; simp
def cellM (d : Day) (k a b i j : Nat) : Option Mv := if mayM d ⟨k, a, b, i, j⟩ = true then some ⟨k, a, b, i, j⟩ else none
def rowM (d : Day) (k a b i : Nat) : List Mv := (List.range (tlen d b + 1)).filterMap (cellM d k a b i)
def placesZ (d : Day) (k a b : Nat) : List Mv := (List.range (tlen d a + 1)).flatMap (rowM d k a b)
def movesK (d : Day) (k a : Nat) : List Mv := (List.range d.length).flatMap (placesZ d k a)
def movesA (d : Day) (k : Nat) : List Mv := (List.range d.length).flatMap (movesK d k)
def movesZ (d : Day) : List Mv := (List.range 4).flatMap (movesA d)
abbrev mvE (m : Mv) : List PV := [.agg (mvL m)]
set_option maxRecDepth 20000 in
set_option maxHeartbeats 3200000 in
theorem places_ok (d : Day) (k a b : Nat) (hdn : d.length ≤ 1048576) (hdt : ∀ t ∈ d, t.length ≤ 1000) (hk : k ≤ 3) (ha : a < d.length) (hb : b < d.length) :
    SubIt Tryz.prog 140 (fun y => [.agg [L d], .agg [I k, I a, I b, I 0, I 0], yld y]) ((placesZ d k a b).map mvE) (B true) := by
  refine sub_enter Tryz.func140 (by rfl) rfl Tryz.ntmps140 (congrArg Array.toList Tryz.results140) (by simp) fun y V keep nx J hJd hY A0 hA0 => ?_
  obtain ⟨ta, xa, a1, -, -, a0⟩ := el1 rfl d a ha
  obtain ⟨tb, xb, b1, -, -, b0⟩ := el1 rfl d b hb
  have ha1 : 1 ≤ d.length - a := by omega
  have hb1 : 1 ≤ d.length - b := by omega
  have la : tlen d a = ta.length := by unfold tlen; rw [List.getD_eq_getElem?_getD, a1]; rfl
  have lb : tlen d b = tb.length := by unfold tlen; rw [List.getD_eq_getElem?_getD, b1]; rfl
  have hal := hdt ta (List.mem_of_getElem? a1)
  have hbl := hdt tb (List.mem_of_getElem? b1)
  have hall : ∀ t ∈ d, t.length ≤ 1048576 := fun t ht => Nat.le_trans (hdt t ht) (by decide)
  have hlook := fun i j (hi : i ≤ 1048576) (hj : j ≤ 1048576) => lookMv_ok d ⟨k, a, b, i, j⟩ hdn hall hk ha hb hi hj
  have hpl : placesZ d k a b = (List.range (ta.length + 1)).flatMap (rowM d k a b) := by unfold placesZ; rw [la]
  have hrow : ∀ i, rowM d k a b i = (List.range (tb.length + 1)).filterMap (cellM d k a b i) := fun i => by unfold rowM; rw [lb]
  rw [hpl] at hY ⊢
  clear hpl la lb
  repeat refine pw_seq ?_
  refine pwn ?_
  intro v0 v1
  repeat refine pw_seq ?_
  refine pwn ?_
  intros
  repeat refine pw_seq ?_
  refine pw_block (pw_loopB (σ := Nat × Int × Store) (fun s' => s'.1 ≤ ta.length + 1 ∧ J ((List.range s'.1).flatMap (rowM d k a b)).length s'.2.2) (fun s' => [(2, yld y), (3, .ptr nx v0 0), (4, .ptr (nx + 1) v1 0)]) (fun s' => s'.2.2)
    (fun (i, jv, _) => [.cells v0 35 [L d], .cells v1 110 [I k, I a, I b, I i, I jv]]) (fun s' => ta.length + 1 - s'.1) (at_mk (0, 0, A0) [] (by simpa using hA0) (by simp) rfl (by simp)) ?_)
  rintro ⟨i, jv, A⟩ ⟨hi, hJ⟩
  simp only at hi hJ ⊢
  repeat refine pw_seq ?_
  refine pwY (some [nx, nx + 1]) (Row.pures [0, 1, 2, 3, 4, 5, 6, 7, 8, 9, 10] .done) mixed (jn3 a0 ha ha1) ?_
  intros
  repeat refine pw_seq ?_
  refine pw_cond rfl (fun hc => ?_) (fun hc => ?_)
  · simp at hc
    have hrl := fl_len (rowM d k a b) i
    refine pw_skip (pw_seq (pw_block ?_))
    repeat refine pw_seq ?_
    refine pwn ?_
    intros
    repeat refine pw_seq ?_
    refine pw_block (pw_loopB (σ := Nat × Store) (fun s' => s'.1 ≤ tb.length + 1 ∧ J (((List.range i).flatMap (rowM d k a b)).length + ((List.range s'.1).filterMap (cellM d k a b i)).length) s'.2) (fun s' => [(2, yld y), (3, .ptr nx v0 0), (4, .ptr (nx + 1) v1 0)]) (fun s' => s'.2)
      (fun (j, _) => [.cells v0 35 [L d], .cells v1 110 [I k, I a, I b, I i, I j]]) (fun s' => tb.length + 1 - s'.1) (at_mk (0, A) [] (by simpa using hJ) (by simp) rfl (by simp)) ?_)
    clear hJ A jv
    rintro ⟨j, A⟩ ⟨hj, hJ⟩
    simp only at hj hJ ⊢
    repeat refine pw_seq ?_
    refine pwY (some [nx, nx + 1]) (Row.pures [0, 1, 2, 3, 4, 5, 6, 7, 8, 9, 10] .done) mixed (jn3 b0 hb hb1) ?_
    intros
    repeat refine pw_seq ?_
    refine pw_cond rfl (fun hcj => ?_) (fun hcj => ?_)
    · simp at hcj
      have hlk := hlook i j (by omega) (by omega)
      have wj := wrN j (by omega)
      refine pw_skip (pw_seq (pw_block ?_))
      cases hm : mayM d ⟨k, a, b, i, j⟩ with
      | true =>
        have hce : cellM d k a b i j = some ⟨k, a, b, i, j⟩ := by unfold cellM; rw [if_pos hm]
        have hlo : lookM d ⟨k, a, b, i, j⟩ = ((cutM d ⟨k, a, b, i, j⟩).1, (cutM d ⟨k, a, b, i, j⟩).2, true) := by unfold lookM; rw [if_pos hm]
        rw [hlo] at hlk
        have hat := fm_at (n := tb.length + 1) (by omega) hce
        rw [← hrow] at hat
        have hat2 := fl_at (W := rowM d k a b) (n := ta.length + 1) (by omega) hat
        have hy : (((List.range (ta.length + 1)).flatMap (rowM d k a b)).map mvE)[((List.range i).flatMap (rowM d k a b)).length + ((List.range j).filterMap (cellM d k a b i)).length]? = some (mvE ⟨k, a, b, i, j⟩) := by
          rw [List.getElem?_map, hat2]; rfl
        have hnx := fm_some hce
        generalize (cutM d ⟨k, a, b, i, j⟩).1 = r1 at *
        generalize (cutM d ⟨k, a, b, i, j⟩).2 = r2 at *
        repeat refine pw_seq ?_
        refine pwn ?_
        refine pwc hlk ?_
        intro v2 v3
        intros
        repeat refine pw_seq ?_
        refine pw_N [(1, 50)] (by rfl) (by rfl) fun K Gc Gh hK hGc hGh X hX0 hX => ?_
        simp -implicitDefEqProofs [hX0, hX]
        try clear hX0 hX X
        refine hGh _ _ _ _ _ fun hsuf => po_yield rfl rfl rfl (hY _ _ _ _ hy hJ) ?_
        rintro _ ⟨A', hJ', rfl⟩
        refine ⟨_, _, rfl, ?_⟩
        clear hGc hGh
        clear Gc Gh
        refine xs_go hsuf (D := [(1, 50)]) (by rfl) fun Gc Gh hGc hGh X hX0 hX => ?_
        simp -implicitDefEqProofs [hX0, hX]
        try clear hX0 hX X
        intros
        refine hK _ _ _ ?_
        clear hK hGc hGh
        clear K Gc Gh
        repeat refine pw_seq ?_
        refine pw_cf rfl ?_
        refine pw_skip ?_
        repeat refine pw_seq ?_
        refine pwn ?_
        intros
        exact again_mk (j + 1, A') [_, _] ⟨by simp; omega, by rw [hnx]; exact hJ'⟩ (by simp; omega) (by simp) rfl (by simp [wj]; exact ⟨rfl, rfl⟩)
      | false =>
        have hce : cellM d k a b i j = none := by unfold cellM; rw [if_neg (by simp [hm])]
        have hlo : lookM d ⟨k, a, b, i, j⟩ = (rw0, rw0, false) := by unfold lookM; rw [if_neg (by simp [hm])]
        rw [hlo] at hlk
        have hnx := fm_none hce
        generalize rw0 = r0 at *
        repeat refine pw_seq ?_
        refine pwn ?_
        refine pwc hlk ?_
        intro v2 v3
        intros
        repeat refine pw_seq ?_
        refine pwN [(1, 50)] undef_eq ?_
        intros
        repeat refine pw_seq ?_
        refine pw_cf rfl ?_
        refine pw_skip ?_
        repeat refine pw_seq ?_
        refine pwn ?_
        intros
        exact again_mk (j + 1, A) [_, _] ⟨by simp; omega, by rw [hnx]; exact hJ⟩ (by simp; omega) (by simp) rfl (by simp [wj]; exact ⟨rfl, rfl⟩)
    · simp at hcj
      obtain rfl : j = tb.length + 1 := by omega
      rw [← hrow, ← hrl] at hJ
      refine pw_exit ?_
      have wi := wrN i (by omega)
      repeat refine pw_seq ?_
      refine pwn ?_
      intros
      exact again_mk (i + 1, ((tb.length + 1 : Nat) : Int), A) [] ⟨by simp; omega, hJ⟩ (by simp; omega) (by simp) rfl (by simp [wi])
  · simp at hc
    obtain rfl : i = ta.length + 1 := by omega
    refine pw_exit ?_
    repeat refine pw_seq ?_
    refine pwn ?_
    intros
    repeat refine pw_seq ?_
    exact pw_ret (ret_sub (hJd _ _ hJ) (by simp; rfl) (by simp [oneOf]) (by simpa using hJ))
set_option maxRecDepth 20000 in
theorem eachMv_ok (d : Day) : Pure Tryz.prog 119 [.agg [L d]] (.fn (.func 138) [] [.ip [L d]]) := by
  refine pwe Tryz.func119 Tryz.ntmps119 Tryz.results119 fun S nx hd => ?_
  repeat refine pw_seq ?_
  refine pwn ?_
  intro v0
  repeat refine pw_seq ?_
  refine pwn ?_
  intros
  refine pw_frq 0 rfl ?_
  repeat refine pw_seq ?_
  exact pw_ret (ret_pure hd (by simp; rfl) rfl)
set_option maxRecDepth 20000 in
set_option maxHeartbeats 3200000 in
theorem each_moves (d : Day) (hdn : d.length ≤ 1000) (hdt : ∀ t ∈ d, t.length ≤ 1000) : Iter Tryz.prog 138 [.ip [L d]] ((movesZ d).map mvE) := by
  have hpl := fun k a b (hk : k ≤ 3) (ha : a < d.length) (hb : b < d.length) => places_ok d k a b (by omega) hdt hk ha hb
  have hkinds := kinds_ok
  generalize kindsL = kl at hkinds
  refine iter_enter Tryz.func138 (by rfl) rfl Tryz.ntmps138 (congrArg Array.toList Tryz.results138) (by simp) fun l V keep nx J hJd hY A0 hA0 => ?_
  repeat refine pw_seq ?_
  refine pwn ?_
  refine pwc hkinds ?_
  intros
  repeat refine pw_seq ?_
  refine pw_block (pw_loopB (σ := Nat × Store) (fun s' => s'.1 ≤ 4 ∧ J ((List.range s'.1).flatMap (movesA d)).length s'.2) (fun s' => [(0, yld l), (1, .ip [L d]), (7, I s'.1)]) (fun s' => s'.2) (fun _ => []) (fun s' => 4 - s'.1) (at_mk (0, A0) [] (by simpa using hA0) (by simp) rfl (by simp)) ?_)
  rintro ⟨k, A⟩ ⟨hk, hJ⟩
  simp only at hk hJ ⊢
  by_cases hk4 : k < 4
  · have hk4' : (k : Int) < 4 := by omega
    have hlA := fl_len (movesA d) k
    repeat refine pw_seq ?_
    refine pwN [] hk4' ?_
    intros
    repeat refine pw_seq ?_
    refine pw_ct rfl ?_
    refine pw_skip (pw_seq (pw_block ?_))
    repeat refine pw_seq ?_
    refine pwn ?_
    intros
    repeat refine pw_seq ?_
    refine pwn ?_
    intros
    repeat refine pw_seq ?_
    refine pw_block (pw_loopB (σ := Nat × Store) (fun s' => s'.1 ≤ d.length ∧ J (((List.range k).flatMap (movesA d)).length + ((List.range s'.1).flatMap (movesK d k)).length) s'.2) (fun s' => [(0, yld l), (1, .ip [L d]), (3, I k), (7, I k), (12, I d.length), (13, I s'.1)]) (fun s' => s'.2) (fun _ => []) (fun s' => d.length - s'.1) (at_mk (0, A) [] (by simpa using hJ) (by simp) rfl (by simp)) ?_)
    clear hJ A
    rintro ⟨a, A⟩ ⟨ha, hJ⟩
    simp only at ha hJ ⊢
    repeat refine pw_seq ?_
    refine pwn ?_
    intros
    repeat refine pw_seq ?_
    refine pw_cond rfl (fun hca => ?_) (fun hca => ?_)
    · simp at hca
      have hlK := fl_len (movesK d k) a
      refine pw_skip (pw_seq (pw_block ?_))
      repeat refine pw_seq ?_
      refine pwn ?_
      intros
      repeat refine pw_seq ?_
      refine pwn ?_
      intros
      repeat refine pw_seq ?_
      refine pw_block (pw_loopB (σ := Nat × Store) (fun s' => s'.1 ≤ d.length ∧ J (((List.range k).flatMap (movesA d)).length + ((List.range a).flatMap (movesK d k)).length + ((List.range s'.1).flatMap (placesZ d k a)).length) s'.2) (fun s' => [(0, yld l), (1, .ip [L d]), (3, I k), (4, I a), (7, I k), (12, I d.length), (13, I a), (18, I d.length), (19, I s'.1)]) (fun s' => s'.2) (fun _ => []) (fun s' => d.length - s'.1) (at_mk (0, A) [] (by simpa using hJ) (by simp) rfl (by simp)) ?_)
      clear hJ A
      rintro ⟨b, A⟩ ⟨hb, hJ⟩
      simp only at hb hJ ⊢
      repeat refine pw_seq ?_
      refine pwn ?_
      intros
      repeat refine pw_seq ?_
      refine pw_cond rfl (fun hcb => ?_) (fun hcb => ?_)
      · simp at hcb
        have hw := hpl k a b (by omega) hca hcb
        have hlP := fl_len (placesZ d k a) b
        have hin : ∀ (i : Nat) (x : List PV), ((placesZ d k a b).map mvE)[i]? = some x → ((movesZ d).map mvE)[((List.range k).flatMap (movesA d)).length + ((List.range a).flatMap (movesK d k)).length + ((List.range b).flatMap (placesZ d k a)).length + i]? = some x := by
          intro i x hx
          rw [List.getElem?_map] at hx ⊢
          obtain ⟨m, hm, rfl⟩ := Option.map_eq_some_iff.1 hx
          have e1 := fl_at (W := placesZ d k a) (n := d.length) hcb hm
          have e2 := fl_at (W := movesK d k) (n := d.length) hca e1
          have e3 := fl_at (W := movesA d) (n := 4) hk4 e2
          rw [Nat.add_assoc, Nat.add_assoc]
          unfold movesZ
          rw [e3]; rfl
        refine pw_skip (pw_seq (pw_block ?_))
        repeat refine pw_seq ?_
        refine pwn ?_
        intros
        repeat refine pw_seq ?_
        refine pw_N [] (by rfl) (by rfl) fun K Gc Gh hK hGc hGh X hX0 hX => ?_
        simp -implicitDefEqProofs [hX0, hX]
        try clear hX0 hX X
        refine hGc _ _ _ _ _ _ _ fun hsuf => ((sub_use hw keep hY _ hin hJ _).mono ?_)
        rintro _ _ ⟨A', rfl, hJ', rfl⟩
        rw [List.length_map, Nat.add_assoc, ← hlP] at hJ'
        refine ⟨_, _, rfl, ?_⟩
        clear hGc hGh
        clear Gc Gh
        refine xs_go hsuf (D := []) (by rfl) fun Gc Gh hGc hGh X hX0 hX => ?_
        simp -implicitDefEqProofs [hX0, hX]
        clear hX0 hX X
        intros
        refine hK _ _ _ ?_
        clear hK hGc hGh
        clear K Gc Gh
        repeat refine pw_seq ?_
        refine pw_cf rfl ?_
        refine pw_skip ?_
        repeat refine pw_seq ?_
        refine pwn ?_
        intros
        exact again_mk (b + 1, A') [] ⟨hcb, hJ'⟩ (by simp; omega) (by simp [wrN b (by omega)]) rfl (by simp)
      · simp at hcb
        obtain rfl : b = d.length := by omega
        refine pw_exit ?_
        have hJ2 : J (((List.range k).flatMap (movesA d)).length + ((List.range (a + 1)).flatMap (movesK d k)).length) A := by rw [hlK, ← Nat.add_assoc]; exact hJ
        repeat refine pw_seq ?_
        refine pwn ?_
        intros
        exact again_mk (a + 1, A) [] ⟨hca, hJ2⟩ (by simp; omega) (by simp [wrN a (by omega)]) rfl (by simp)
    · simp at hca
      obtain rfl : a = d.length := by omega
      refine pw_exit ?_
      have hJ2 : J ((List.range (k + 1)).flatMap (movesA d)).length A := by rw [hlA]; exact hJ
      repeat refine pw_seq ?_
      refine pwn ?_
      intros
      exact again_mk (k + 1, A) [] ⟨hk4, hJ2⟩ (by simp; omega) (by simp [wrN k (by omega)]) rfl (by simp)
  · obtain rfl : k = 4 := by omega
    repeat refine pw_seq ?_
    refine pwn ?_
    intros
    repeat refine pw_seq ?_
    refine pw_cf rfl ?_
    refine pw_exit (ret_iter (hJd _ _ hJ) rfl ?_)
    rw [List.length_map]; exact hJ
open Go Go.Proofs
theorem cut_rows {d : Day} {m : Mv} (h : mayM d m = true) : m.k ≤ 3 ∧ m.a < d.length ∧ m.b < d.length ∧ RwOk d (cutM d m).1 ∧ RwOk d (cutM d m).2 := by
  unfold mayM at h
  rw [Bool.and_eq_true] at h
  obtain ⟨h1, h2⟩ := h
  have h1 := of_decide_eq_true h1
  refine ⟨h1.1, h1.2.1, h1.2.2, ?_⟩
  unfold mayZ at h2
  unfold cutM cutZ
  have e0 := rw0_ok d
  have key : ∀ p : Pc, PcOk d p ↔ (p.f < p.o → p.t < d.length ∧ p.o ≤ tlen d p.t) := fun _ => Iff.rfl
  by_cases k0 : m.k = 0
  · rw [if_pos k0] at h2 ⊢
    have h2 := of_decide_eq_true h2
    refine ⟨?_, e0⟩
    intro p hp
    simp only [Rw5.l, List.mem_cons, List.not_mem_nil, or_false] at hp
    rcases hp with rfl | rfl | rfl | rfl | rfl <;> refine (key _).2 ?_ <;> simp only [pc0] <;> omega
  rw [if_neg k0] at h2 ⊢
  by_cases k1 : m.k = 1
  · rw [if_pos k1] at h2 ⊢
    have h2 := of_decide_eq_true h2
    by_cases hab : m.a = m.b
    · rw [if_pos hab, hab] at h2
      rw [if_neg (by simp [hab])]
      by_cases hij : m.i < m.j
      · rw [if_pos hij]
        refine ⟨?_, e0⟩
        intro p hp
        simp only [Rw5.l, List.mem_cons, List.not_mem_nil, or_false] at hp
        rcases hp with rfl | rfl | rfl | rfl | rfl <;> refine (key _).2 ?_ <;> simp only [pc0] <;> (try rw [hab]) <;> omega
      · rw [if_neg hij]
        refine ⟨?_, e0⟩
        intro p hp
        simp only [Rw5.l, List.mem_cons, List.not_mem_nil, or_false] at hp
        rcases hp with rfl | rfl | rfl | rfl | rfl <;> refine (key _).2 ?_ <;> simp only [pc0] <;> (try rw [hab]) <;> omega
    · rw [if_neg hab] at h2
      rw [if_pos hab]
      constructor <;> intro p hp <;> simp only [Rw5.l, List.mem_cons, List.not_mem_nil, or_false] at hp <;> rcases hp with rfl | rfl | rfl | rfl | rfl <;> refine (key _).2 ?_ <;> simp only [pc0] <;> omega
  rw [if_neg k1] at h2 ⊢
  by_cases k2 : m.k = 2
  · rw [if_pos k2] at h2 ⊢
    have h2 := of_decide_eq_true h2
    by_cases hab : m.a = m.b
    · rw [if_pos hab]
      rw [hab] at h2
      refine ⟨?_, e0⟩
      intro p hp
      simp only [Rw5.l, List.mem_cons, List.not_mem_nil, or_false] at hp
      rcases hp with rfl | rfl | rfl | rfl | rfl <;> refine (key _).2 ?_ <;> simp only [pc0, hab] <;> omega
    · rw [if_neg hab]
      constructor <;> intro p hp <;> simp only [Rw5.l, List.mem_cons, List.not_mem_nil, or_false] at hp <;> rcases hp with rfl | rfl | rfl | rfl | rfl <;> refine (key _).2 ?_ <;> simp only [pc0] <;> omega
  rw [if_neg k2] at h2 ⊢
  have h2 := of_decide_eq_true h2
  constructor <;> intro p hp <;> simp only [Rw5.l, List.mem_cons, List.not_mem_nil, or_false] at hp <;> rcases hp with rfl | rfl | rfl | rfl | rfl <;> refine (key _).2 ?_ <;> simp only [pc0] <;> omega
theorem movesZ_mem {d : Day} {m : Mv} : m ∈ movesZ d → mayM d m = true ∧ m.i ≤ tlen d m.a ∧ m.j ≤ tlen d m.b := by
  unfold movesZ movesA movesK placesZ rowM cellM
  intro h
  simp only [List.mem_flatMap, List.mem_range, List.mem_filterMap] at h
  obtain ⟨k, hk, a, ha, b, hb, i, hi, j, hj, h⟩ := h
  split at h
  · rename_i hm
    cases h
    exact ⟨hm, by simp only; omega, by simp only; omega⟩
  · cases h
def mv0 : Mv := ⟨0, 0, 0, 0, 0⟩
def fitR (x : Inst) (d : Day) (r : Rw5) : Prop := ldR d r ≤ x.cap ∧ lenR x d r ≤ x.len
instance (x : Inst) (d : Day) (r : Rw5) : Decidable (fitR x d r) := by unfold fitR; infer_instance
def byM (x : Inst) (d : Day) (m : Mv) : Int := moreR x d m (cutM d m).1 (cutM d m).2
def mbS (x : Inst) (d : Day) (st : Mv × Int) (m : Mv) : Mv × Int := if byM x d m < st.2 ∧ fitR x d (cutM d m).1 ∧ fitR x d (cutM d m).2 then (m, byM x d m) else st
def mbZ (x : Inst) (d : Day) : Mv × Int := (movesZ d).foldl (mbS x d) (mv0, 0)
set_option maxRecDepth 20000 in
set_option maxHeartbeats 3200000 in
theorem best_ok (x : Inst) (d : Day) (hx : ArcOk x) (hd' : MvDay d) : Pure Tryz.prog 90 [.agg (instL x), .agg [L d]] (.tup [.agg (mvL (mbZ x d).1), I (mbZ x d).2, B (decide ((mbZ x d).2 < 0))]) := by
  have hdn := hd'.n
  have hit := each_moves d hdn hd'.t
  have hread := read_ok x d hx hd'
  have hfacts : ∀ m ∈ movesZ d, Pure Tryz.prog 120 [.agg [L d], .agg (mvL m)] (.tup [.agg (rwL (cutM d m).1), .agg (rwL (cutM d m).2), B true]) ∧ Pure Tryz.prog 121 [.ip (rdL x d), .agg (mvL m), .agg (rwL (cutM d m).1), .agg (rwL (cutM d m).2)] (I (byM x d m)) ∧
      Pure Tryz.prog 122 [.ip (rdL x d), .agg (rwL (cutM d m).1)] (B (decide (fitR x d (cutM d m).1))) ∧ Pure Tryz.prog 122 [.ip (rdL x d), .agg (rwL (cutM d m).2)] (B (decide (fitR x d (cutM d m).2))) := by
    intro m hm
    obtain ⟨h1, h2, h3⟩ := movesZ_mem hm
    obtain ⟨hk, ha, hb, r1, r2⟩ := cut_rows h1
    have hl : ∀ a, tlen d a ≤ 1000 := by
      intro a
      unfold tlen
      rw [List.getD_eq_getElem?_getD]
      cases hq : d[a]? with
      | none => simp
      | some l => exact hd'.t l (List.mem_of_getElem? hq)
    have hla := hl m.a
    have hlb := hl m.b
    have hlk := lookMv_ok d m (by omega) (fun t ht => Nat.le_trans (hd'.t t ht) (by decide)) hk ha hb (by omega) (by omega)
    unfold lookM at hlk
    rw [if_pos h1] at hlk
    exact ⟨hlk, rmore_ok x d m _ _ hx hd' r1 r2 ha hb, rfits_ok x d _ hx hd' r1, rfits_ok x d _ hx hd' r2⟩
  unfold mbZ
  generalize movesZ d = xs at *
  generalize rdL x d = rd at *
  have hea := eachMv_ok d
  refine pwe Tryz.func90 Tryz.ntmps90 Tryz.results90 fun S nx hd => ?_
  repeat refine pw_seq ?_
  refine pwn ?_
  intro v0 v1 v2
  repeat refine pw_seq ?_
  refine pwn ?_
  refine pwc hread ?_
  intro v3
  intros
  repeat refine pw_seq ?_
  refine pwn ?_
  intro v4 v5
  repeat refine pw_seq ?_
  refine pwn ?_
  refine pwc hea ?_
  intros
  repeat refine pw_seq ?_
  refine pw_block (pw_rangeFunc (xs := xs.map mvE) (σ := Mv × Int) (fun i st => st = (xs.take i).foldl (mbS x d) (mv0, 0)) [(2, .ptr nx v0 0), (3, .ptr (nx + 1) v1 0), (4, .ptr (nx + 2) v2 0), (7, .ptr (nx + 3) v3 0), (8, .ptr (nx + 4) v4 0), (9, .ptr (nx + 5) v5 0)] (fun _ => S)
    (fun (b, least) => [.cells v0 25 (instL x), .cells v1 35 [L d], .cells v2 110 [I 0, I 0, I 0, I 0, I 0], .cells v3 160 [.ip rd], .cells v4 110 (mvL b), .cells v5 3 [I least]]) (mv0, 0)
    hit rfl (by intro x hx; obtain ⟨y, _, rfl⟩ := List.mem_map.1 hx; rfl) (by decide) (by simp) (by simp) rfl (by simp [mv0]) (by simp [mv0]) ?_ ?_)
  · rintro l i ⟨b, least⟩ more y hst hy
    simp only at hst ⊢
    rw [List.getElem?_map] at hy
    obtain ⟨m, hm, rfl⟩ := Option.map_eq_some_iff.1 hy
    have hsucc := foldl_at (f := mbS x d) (b := (mv0, 0)) hm
    rw [← hst] at hsucc
    obtain ⟨f1, f2, f3, f4⟩ := hfacts m (List.mem_of_getElem? hm)
    unfold mbS at hsucc
    simp only at hsucc
    generalize (cutM d m).1 = r1 at *
    generalize (cutM d m).2 = r2 at *
    generalize byM x d m = by_ at *
    repeat refine pw_seq ?_
    refine pwn ?_
    intro v6
    refine pw_block ?_
    repeat refine pw_seq ?_
    refine pwn ?_
    refine pwc f1 ?_
    intro v7 v8
    intros
    repeat refine pw_seq ?_
    refine pwn ?_
    refine pwc f2 ?_
    intros
    by_cases hlt : by_ < least
    · repeat refine pw_seq ?_
      refine pwN [(3, 37), (8, 42)] hlt ?_
      refine pwC [(3, 37), (8, 42)] f3 hlt ?_
      by_cases hf1 : fitR x d r1
      · rw [decide_eq_true hf1]
        intros
        refine pwC [(3, 37), (8, 42)] f4 hlt ?_
        intros
        by_cases hf2 : fitR x d r2
        · rw [if_pos ⟨hlt, hf1, hf2⟩] at hsucc
          repeat refine pw_seq ?_
          refine pw_ct (by simp [hf2]) ?_
          repeat refine pw_seq ?_
          refine pwn ?_
          intros
          simp only [inBlockQ]
          exact rnd_mk (m, by_) [_, _, _] hsucc.symm rfl (by simp; exact ⟨rfl, rfl, rfl⟩)
        · rw [if_neg fun e => hf2 e.2.2] at hsucc
          repeat refine pw_seq ?_
          refine pw_cf (by simp [hf2]) ?_
          refine pw_skip ?_
          simp only [inBlockQ]
          exact rnd_mk (b, least) [_, _, _] hsucc.symm rfl (by simp; exact ⟨rfl, rfl, rfl⟩)
      · rw [decide_eq_false hf1]
        rw [if_neg fun e => hf1 e.2.1] at hsucc
        intros
        repeat refine pw_seq ?_
        refine pw_cf rfl ?_
        refine pw_skip ?_
        simp only [inBlockQ]
        exact rnd_mk (b, least) [_, _, _] hsucc.symm rfl (by simp; exact ⟨rfl, rfl, rfl⟩)
    · rw [if_neg fun e => hlt e.1] at hsucc
      repeat refine pw_seq ?_
      refine pwN [(3, 37), (8, 42)] (jn2 hlt undef_eq) ?_
      intros
      repeat refine pw_seq ?_
      refine pw_cf rfl ?_
      refine pw_skip ?_
      simp only [inBlockQ]
      exact rnd_mk (b, least) [_, _, _] hsucc.symm rfl (by simp; exact ⟨rfl, rfl, rfl⟩)
  · rintro ⟨b, least⟩ hst
    rw [List.take_of_length_le (by simp)] at hst
    simp only at hst ⊢
    rw [← hst]
    repeat refine pw_seq ?_
    refine pwY (some [nx + 4, nx + 5]) (Row.pures [0, 1, 2, 3] (.alt 4 (Row.pures [5, 6] .done) .stop)) mixed trivial ?_
    intros
    repeat refine pw_seq ?_
    exact pw_ret (ret_pure hd (by simp; rfl) (by simp [oneOf]))
open Go Go.Proofs
def mkT (d : Day) (m : Mv) (i : Nat) : Tour := if i = m.a then gatherZ d (cutM d m).1 else if i = m.b then gatherZ d (cutM d m).2 else d.getD i []
def mkT1 (d : Day) (m : Mv) (i : Nat) : Option Tour := if (mkT d m i).length = 0 then none else some (mkT d m i)
def mkZ (d : Day) (m : Mv) : Day := (List.range d.length).filterMap (mkT1 d m)
theorem gather_len {d : Day} {r : Rw5} {k : Nat} (h : ∀ t ∈ d, t.length ≤ k) : (gatherZ d r).length ≤ 5 * k := by
  have h1 := fun p => piece_len (d := d) (p := p) h
  have a1 := h1 r.a
  have a2 := h1 r.b
  have a3 := h1 r.c
  have a4 := h1 r.d
  have a5 := h1 r.e
  unfold gatherZ Rw5.l
  simp only [List.flatMap_cons, List.flatMap_nil, List.length_append, List.append_nil]
  omega
set_option maxRecDepth 20000 in
set_option maxHeartbeats 3200000 in
theorem make_ok (x : Inst) (d : Day) (m : Mv) (hdn : d.length ≤ 1000) (hdt : ∀ t ∈ d, t.length ≤ 1000) (hm : mayM d m = true) (hi : m.i ≤ 1048576) (hj : m.j ≤ 1048576) : Pure Tryz.prog 91 [.agg (instL x), .agg [L d], .agg (mvL m)] (.tup [.agg [L (mkZ d m)], I 0]) := by
  obtain ⟨hk, ha, hb, r1, r2⟩ := cut_rows hm
  have hlk := lookMv_ok d m (by omega) (fun t ht => Nat.le_trans (hdt t ht) (by decide)) hk ha hb hi hj
  unfold lookM at hlk
  rw [if_pos hm] at hlk
  have g1 := gather_ok d _ (by omega) hdt r1
  have g2 := gather_ok d _ (by omega) hdt r2
  have n1 := gather_len (r := (cutM d m).1) hdt
  have n2 := gather_len (r := (cutM d m).2) hdt
  have hmk : ∀ i, mkT d m i = if i = m.a then gatherZ d (cutM d m).1 else if i = m.b then gatherZ d (cutM d m).2 else d.getD i [] := fun _ => rfl
  generalize gatherZ d (cutM d m).1 = t1 at *
  generalize gatherZ d (cutM d m).2 = t2 at *
  generalize (cutM d m).1 = c1 at *
  generalize (cutM d m).2 = c2 at *
  have hme : mkZ d m = (List.range d.length).filterMap (mkT1 d m) := rfl
  rw [hme]
  clear hme
  refine pwe Tryz.func91 Tryz.ntmps91 Tryz.results91 fun S nx hd => ?_
  repeat refine pw_seq ?_
  refine pwn ?_
  intro v0 v1 v2 v3
  repeat refine pw_seq ?_
  refine pwn ?_
  refine pwc hlk ?_
  intro v4 v5
  intros
  repeat refine pw_seq ?_
  refine pwn ?_
  intros
  repeat refine pw_seq ?_
  refine pw_cf rfl ?_
  refine pw_skip ?_
  repeat refine pw_seq ?_
  refine pwn ?_
  intro v6
  refine pw_nilObX 6 0 66 1 rfl rfl fun v7 => ?_
  repeat refine pw_seq ?_
  refine pwn ?_
  intros
  repeat refine pw_seq ?_
  refine pw_block (pw_loopL (fun s' : Nat × Nat => s'.1 ≤ d.length) (fun (k, v7) => [(4, .ptr (nx + 1) v1 0), (5, .ptr (nx + 2) v2 0), (6, .ptr (nx + 3) v3 0), (8, .ptr (nx + 4) v4 0), (9, .ptr (nx + 5) v5 0), (11, .ptr (nx + 6) v6 0), (26, L d), (27, I d.length), (28, I k)])
    (fun (k, v7) => [.cells v0 25 (instL x), .cells v1 35 [L d], .cells v2 110 (mvL m), .cells v3 35 [nilS], .cells v4 168 (rwL c1), .cells v5 168 (rwL c2), .cells v6 35 [.sl (nx + 7) v7 1 0 ((List.range k).filterMap (mkT1 d m)).length], .cells v7 66 (((List.range k).filterMap (mkT1 d m)).flatMap Enc.enc)]) (fun s' => d.length - s'.1) (0, v7) [] (by simp) (by simp) (by simp) ?_)
  rintro ⟨k, v7⟩ hk0
  simp only at hk0 ⊢
  repeat refine pw_seq ?_
  refine pwn ?_
  intros
  repeat refine pw_seq ?_
  refine pw_cond rfl (fun hc => ?_) (fun hc => ?_)
  · simp at hc
    obtain ⟨t, tl, a1, a2, a3, e0⟩ := el1 rfl d k hc
    have hk1 : 1 ≤ d.length - k := by omega
    have htl := hdt t (List.mem_of_getElem? a1)
    have hcl := cloneP_ok t (by omega)
    have hgk : d.getD k [] = t := by rw [List.getD_eq_getElem?_getD, a1]; rfl
    have hmkk := hmk k
    have hlen : ((List.range k).filterMap (mkT1 d m)).length ≤ k := by have := List.length_filterMap_le (mkT1 d m) (List.range k); simpa using this
    have hnext : (List.range (k + 1)).filterMap (mkT1 d m) = (List.range k).filterMap (mkT1 d m) ++ (mkT1 d m k).toList := by
      rw [List.range_succ, List.filterMap_append]
      simp only [List.filterMap_cons, List.filterMap_nil]
      cases mkT1 d m k <;> rfl
    have hT1 : mkT1 d m k = if (mkT d m k).length = 0 then none else some (mkT d m k) := rfl
    rw [hgk] at hmkk
    have hTl : (mkT d m k).length ≤ 5000 := by rw [hmkk]; (repeat' split) <;> omega
    have hof : (((List.range k).filterMap (mkT1 d m)).flatMap Enc.enc : List PV).length = ((List.range k).filterMap (mkT1 d m)).length := flen_list _
    generalize (List.range k).filterMap (mkT1 d m) = out at *
    have hot : (out.flatMap Enc.enc : List PV).take out.length = out.flatMap Enc.enc := List.take_of_length_le (by omega)
    have wk := wrN k (by omega)
    refine pw_skip (pw_seq (pw_block ?_))
    repeat refine pw_seq ?_
    refine pwN [] (jn3 e0 hc hk1) ?_
    intro v8
    repeat refine pw_seq ?_
    refine pwn ?_
    refine pwc hcl ?_
    intros
    repeat refine pw_seq ?_
    refine pwn ?_
    intros
    repeat refine pw_seq ?_
    refine pw_joinK (nx := nx) (fun _ : Unit => True) (fun _ => [(4, .ptr (nx + 1) v1 0), (5, .ptr (nx + 2) v2 0), (6, .ptr (nx + 3) v3 0), (8, .ptr (nx + 4) v4 0), (9, .ptr (nx + 5) v5 0), (11, .ptr (nx + 6) v6 0), (14, L (mkT d m k)), (26, L d), (27, I d.length), (28, I k)]) (fun _ => S)
      (fun _ => [.cells v0 25 (instL x), .cells v1 35 [L d], .cells v2 110 (mvL m), .cells v3 35 [nilS], .cells v4 168 (rwL c1), .cells v5 168 (rwL c2), .cells v6 35 [.sl (nx + 7) v7 1 0 out.length], .cells v7 66 (out.flatMap Enc.enc), .cells v8 66 [L t]]) ?_ ?_
    · refine pw_block ?_
      by_cases h1 : k = m.a
      · rw [if_pos h1] at hmkk
        have h1' : (k : Int) = m.a := by omega
        rw [hmkk]
        repeat refine pw_seq ?_
        refine pwn ?_
        intros
        repeat refine pw_seq ?_
        refine pw_ct (by simp; omega) ?_
        repeat refine pw_seq ?_
        refine pwn ?_
        refine pwc g1 ?_
        intros
        simp only [inBlockQ]
        exact at_mk () [] trivial (by simp) rfl (by simp)
      · rw [if_neg h1] at hmkk
        have h1' : ¬ (k : Int) = m.a := by omega
        repeat refine pw_seq ?_
        refine pwn ?_
        intros
        repeat refine pw_seq ?_
        refine pw_cf (by simp; omega) ?_
        by_cases h2 : k = m.b
        · rw [if_pos h2] at hmkk
          have h2' : (k : Int) = m.b := by omega
          rw [hmkk]
          repeat refine pw_seq ?_
          refine pwn ?_
          intros
          repeat refine pw_seq ?_
          refine pw_ct (by simp; omega) ?_
          repeat refine pw_seq ?_
          refine pwn ?_
          refine pwc g2 ?_
          intros
          simp only [inBlockQ]
          exact at_mk () [] trivial (by simp) rfl (by simp)
        · rw [if_neg h2] at hmkk
          have h2' : ¬ (k : Int) = m.b := by omega
          rw [hmkk]
          repeat refine pw_seq ?_
          refine pwn ?_
          intros
          repeat refine pw_seq ?_
          refine pw_cf (by simp; omega) ?_
          refine pw_skip ?_
          simp only [inBlockQ]
          exact at_mk () [] trivial (by simp) rfl (by simp)
    · rintro ⟨⟩ -
      generalize mkT d m k = tt at *
      clear hmkk hcl e0
      by_cases h0 : tt.length = 0
      · have e : (mkT1 d m k).toList = [] := by rw [hT1, if_pos h0]; rfl
        have h0' : ¬ 0 < tt.length := by omega
        repeat refine pw_seq ?_
        refine pwN [] h0' ?_
        intros
        repeat refine pw_seq ?_
        refine pw_cf (by simp [h0']) ?_
        refine pw_skip ?_
        repeat refine pw_seq ?_
        refine pwn ?_
        intros
        exact again_mk (k + 1, v7) [_] (by simp; omega) (by simp; omega) (by simp [wk, hnext, e]) rfl (by simp [hnext, e]; rfl)
      · have e : (mkT1 d m k).toList = [tt] := by rw [hT1, if_neg h0]; rfl
        have h0' : 0 < tt.length := by omega
        repeat refine pw_seq ?_
        refine pwN [] h0' ?_
        intros
        repeat refine pw_seq ?_
        refine pw_ct (by simp [h0']) ?_
        repeat refine pw_seq ?_
        refine pwN [] (jn2 hof hot) ?_
        refine ⟨by omega, ?_⟩
        intros
        repeat refine pw_seq ?_
        refine pwn ?_
        intros
        exact again_mk (k + 1, v7 + 1) [_] (by simp; omega) (by simp; omega) (by simp [wk, hnext, e]) rfl (by simp [hnext, e]; rfl)
  · simp at hc
    obtain rfl : k = d.length := by omega
    refine pw_exit ?_
    refine pw_frz 7 rfl ?_
    repeat refine pw_seq ?_
    refine pwn ?_
    intros
    repeat refine pw_seq ?_
    exact pw_ret (ret_pure hd (by simp; rfl) (by simp [oneOf]))
open Go Go.Proofs
def kSt (d : Day) (s : Stop) (t k : Nat) : Nat := ((d.getD t []).take k).count s
theorem kSt0 (d : Day) (s : Stop) (t : Nat) : kSt d s t 0 = 0 := by simp [kSt]
theorem kSt1 (d : Day) (s : Stop) (t : Nat) : kSt d s t (tlen d t) = (d.getD t []).count s := by unfold kSt tlen; rw [List.take_length]
theorem piece_count (d : Day) (s : Stop) (p : Pc) : p.f ≤ p.o → (pieceZ d p).count s + kSt d s p.t p.f = kSt d s p.t p.o := by
  intro h
  unfold pieceZ kSt
  generalize d.getD p.t [] = u
  by_cases hf : p.f < p.o
  · rw [if_pos hf, show p.o = p.f + (p.o - p.f) by omega, List.take_add, List.count_append, show p.f + (p.o - p.f) - p.f = p.o - p.f by omega]
    cases p.b
    · rw [cond_false]; omega
    · rw [cond_true, List.count_reverse]; omega
  · rw [if_neg hf, show p.o = p.f by omega]; simp
theorem gather_count (d : Day) (s : Stop) (r : Rw5) : (gatherZ d r).count s = (pieceZ d r.a).count s + (pieceZ d r.b).count s + (pieceZ d r.c).count s + (pieceZ d r.d).count s + (pieceZ d r.e).count s := by
  unfold gatherZ Rw5.l
  simp only [List.flatMap_cons, List.flatMap_nil, List.count_append, List.append_nil]
  omega
theorem cut_count {d : Day} {m : Mv} (h : mayM d m = true) (s : Stop) : (gatherZ d (cutM d m).1).count s + (if m.a = m.b then 0 else (gatherZ d (cutM d m).2).count s) = (d.getD m.a []).count s + (if m.a = m.b then 0 else (d.getD m.b []).count s) := by
  unfold mayM at h
  rw [Bool.and_eq_true] at h
  obtain ⟨-, h2⟩ := h
  unfold mayZ at h2
  unfold cutM cutZ
  have e0 := kSt0 d s
  have ea := kSt0 d s m.a
  have eb := kSt0 d s m.b
  have la := kSt1 d s m.a
  have lb := kSt1 d s m.b
  have key := piece_count d s
  rw [gather_count, gather_count]
  by_cases k0 : m.k = 0
  · rw [if_pos k0] at h2 ⊢
    have h2 := of_decide_eq_true h2
    rw [if_pos h2.1.symm, if_pos h2.1.symm]
    have q1 := key ⟨m.a, 0, m.i, false⟩
    have q2 := key ⟨m.a, m.i, m.j + 1, true⟩
    have q3 := key ⟨m.a, m.j + 1, tlen d m.a, false⟩
    have q0 := key pc0
    simp only [pc0] at q1 q2 q3 q0 ⊢
    omega
  rw [if_neg k0] at h2 ⊢
  by_cases k1 : m.k = 1
  · rw [if_pos k1] at h2 ⊢
    have h2 := of_decide_eq_true h2
    by_cases hab : m.a = m.b
    · rw [if_pos hab] at h2
      rw [if_pos hab, if_pos hab, if_neg (by simp [hab])]
      rw [← hab] at h2
      by_cases hij : m.i < m.j
      · rw [if_pos hij]
        have q1 := key ⟨m.a, 0, m.i, false⟩
        have q2 := key ⟨m.a, m.i + 1, m.j + 1, false⟩
        have q3 := key ⟨m.a, m.i, m.i + 1, false⟩
        have q4 := key ⟨m.a, m.j + 1, tlen d m.a, false⟩
        have q0 := key pc0
        simp only [pc0] at q1 q2 q3 q4 q0 ⊢
        omega
      · rw [if_neg hij]
        have q1 := key ⟨m.a, 0, m.j, false⟩
        have q2 := key ⟨m.a, m.i, m.i + 1, false⟩
        have q3 := key ⟨m.a, m.j, m.i, false⟩
        have q4 := key ⟨m.a, m.i + 1, tlen d m.a, false⟩
        have q0 := key pc0
        simp only [pc0] at q1 q2 q3 q4 q0 ⊢
        omega
    · rw [if_neg hab] at h2
      rw [if_neg hab, if_neg hab, if_pos hab]
      have q1 := key ⟨m.a, 0, m.i, false⟩
      have q2 := key ⟨m.a, m.i + 1, tlen d m.a, false⟩
      have q3 := key ⟨m.b, 0, m.j, false⟩
      have q4 := key ⟨m.a, m.i, m.i + 1, false⟩
      have q5 := key ⟨m.b, m.j, tlen d m.b, false⟩
      have q0 := key pc0
      simp only [pc0] at q1 q2 q3 q4 q5 q0 ⊢
      omega
  rw [if_neg k1] at h2 ⊢
  by_cases k2 : m.k = 2
  · rw [if_pos k2] at h2 ⊢
    have h2 := of_decide_eq_true h2
    by_cases hab : m.a = m.b
    · rw [if_pos hab, if_pos hab, if_pos hab]
      rw [← hab] at h2 ⊢
      have q1 := key ⟨m.a, 0, m.i, false⟩
      have q2 := key ⟨m.a, m.j, m.j + 1, false⟩
      have q3 := key ⟨m.a, m.i + 1, m.j, false⟩
      have q4 := key ⟨m.a, m.i, m.i + 1, false⟩
      have q5 := key ⟨m.a, m.j + 1, tlen d m.a, false⟩
      simp only at q1 q2 q3 q4 q5 ⊢
      omega
    · rw [if_neg hab, if_neg hab, if_neg hab]
      have q1 := key ⟨m.a, 0, m.i, false⟩
      have q2 := key ⟨m.b, m.j, m.j + 1, false⟩
      have q3 := key ⟨m.a, m.i + 1, tlen d m.a, false⟩
      have q4 := key ⟨m.b, 0, m.j, false⟩
      have q5 := key ⟨m.a, m.i, m.i + 1, false⟩
      have q6 := key ⟨m.b, m.j + 1, tlen d m.b, false⟩
      have q0 := key pc0
      simp only [pc0] at q1 q2 q3 q4 q5 q6 q0 ⊢
      omega
  rw [if_neg k2] at h2 ⊢
  have h2 := of_decide_eq_true h2
  rw [if_neg (by omega), if_neg (by omega)]
  have q1 := key ⟨m.a, 0, m.i, false⟩
  have q2 := key ⟨m.b, m.j, tlen d m.b, false⟩
  have q3 := key ⟨m.b, 0, m.j, false⟩
  have q4 := key ⟨m.a, m.i, tlen d m.a, false⟩
  have q0 := key pc0
  simp only [pc0] at q1 q2 q3 q4 q0 ⊢
  omega
theorem set_flat {d : Day} {i : Nat} {u : Tour} (t : Tour) (h : d[i]? = some u) (s : Stop) : (d.set i t).flatten.count s + u.count s = t.count s + d.flatten.count s := by
  obtain ⟨hi, rfl⟩ := List.getElem?_eq_some_iff.1 h
  have e : d = d.take i ++ d[i] :: d.drop (i + 1) := by rw [← List.drop_eq_getElem_cons hi, List.take_append_drop]
  rw [List.set_eq_take_append_cons_drop, if_pos hi]
  conv => rhs; rw [e]
  simp only [List.flatten_append, List.flatten_cons, List.count_append]
  omega
theorem set_sum {d : Day} {i : Nat} {u : Tour} (t : Tour) (h : d[i]? = some u) (x : Inst) : costZ x (d.set i t) + wayZ x (u.map (·.c)) = wayZ x (t.map (·.c)) + costZ x d := by
  obtain ⟨hi, rfl⟩ := List.getElem?_eq_some_iff.1 h
  have e : d = d.take i ++ d[i] :: d.drop (i + 1) := by rw [← List.drop_eq_getElem_cons hi, List.take_append_drop]
  unfold costZ
  rw [List.set_eq_take_append_cons_drop, if_pos hi]
  conv => rhs; rw [e]
  simp only [List.map_append, List.map_cons, List.sum_append, List.sum_cons]
  omega
theorem mkT_map (d : Day) (m : Mv) : (List.range d.length).map (mkT d m) = (d.set m.b (gatherZ d (cutM d m).2)).set m.a (gatherZ d (cutM d m).1) := by
  refine List.ext_getElem? fun i => ?_
  by_cases hi : i < d.length
  · rw [List.getElem?_map, List.getElem?_range hi]
    simp only [Option.map_some, mkT, List.getElem?_set, List.length_set]
    by_cases h1 : i = m.a
    · rw [if_pos h1, if_pos h1.symm, if_pos (by omega)]
    · rw [if_neg h1, if_neg (fun e : m.a = i => h1 e.symm)]
      by_cases h2 : i = m.b
      · rw [if_pos h2, if_pos h2.symm, if_pos (by omega)]
      · rw [if_neg h2, if_neg (fun e : m.b = i => h2 e.symm), List.getD_eq_getElem?_getD, List.getElem?_eq_getElem hi]; rfl
  · rw [List.getElem?_eq_none (by simp; omega), List.getElem?_eq_none (by simp; omega)]
theorem fm_flat (d : Day) (m : Mv) : ∀ l : List Nat, (l.filterMap (mkT1 d m)).flatten = (l.map (mkT d m)).flatten ∧ ∀ x, costZ x (l.filterMap (mkT1 d m)) = costZ x (l.map (mkT d m))
  | [] => ⟨rfl, fun _ => rfl⟩
  | i :: l => by
    obtain ⟨h1, h2⟩ := fm_flat d m l
    have e : mkT1 d m i = if (mkT d m i).length = 0 then none else some (mkT d m i) := rfl
    rw [List.filterMap_cons, e, List.map_cons]
    by_cases h : (mkT d m i).length = 0
    · rw [if_pos h, List.length_eq_zero_iff.1 h]
      refine ⟨by simpa using h1, fun x => ?_⟩
      have := h2 x
      unfold costZ at this ⊢
      simpa [wayZ] using this
    · rw [if_neg h]
      refine ⟨by simpa using h1, fun x => ?_⟩
      have := h2 x
      unfold costZ at this ⊢
      simpa using this
theorem mk_mem {d : Day} {m : Mv} {t : Tour} (h : t ∈ mkZ d m) : t ≠ [] ∧ (t = gatherZ d (cutM d m).1 ∨ t = gatherZ d (cutM d m).2 ∨ t ∈ d) := by
  unfold mkZ at h
  obtain ⟨i, hi, h⟩ := List.mem_filterMap.1 h
  unfold mkT1 at h
  split at h
  · cases h
  · rename_i h0
    cases h
    refine ⟨fun e => h0 (by rw [e]; rfl), ?_⟩
    unfold mkT
    split
    · exact .inl rfl
    · split
      · exact .inr (.inl rfl)
      · refine .inr (.inr ?_)
        have hi := List.mem_range.1 hi
        rw [List.getD_eq_getElem?_getD, List.getElem?_eq_getElem hi]
        exact List.getElem_mem hi
theorem mk_len (d : Day) (m : Mv) : (mkZ d m).length ≤ d.length := by
  have := List.length_filterMap_le (mkT1 d m) (List.range d.length)
  simpa [mkZ] using this
theorem mk_perm {d : Day} {m : Mv} (h : mayM d m = true) : (mkZ d m).flatten.Perm d.flatten := by
  obtain ⟨-, ha, hb, -, -⟩ := cut_rows h
  refine List.perm_iff_count.2 fun s => ?_
  have hc := cut_count h s
  unfold mkZ
  rw [(fm_flat d m _).1, mkT_map]
  obtain ⟨ua, hua⟩ : ∃ u, d[m.a]? = some u := ⟨_, List.getElem?_eq_getElem ha⟩
  obtain ⟨ub, hub⟩ : ∃ u, d[m.b]? = some u := ⟨_, List.getElem?_eq_getElem hb⟩
  have ga : d.getD m.a [] = ua := by rw [List.getD_eq_getElem?_getD, hua]; rfl
  have gb : d.getD m.b [] = ub := by rw [List.getD_eq_getElem?_getD, hub]; rfl
  rw [ga, gb] at hc
  generalize gatherZ d (cutM d m).1 = t1 at *
  generalize gatherZ d (cutM d m).2 = t2 at *
  by_cases hab : m.a = m.b
  · rw [if_pos hab, if_pos hab] at hc
    rw [← hab, List.set_set]
    have := set_flat t1 hua s
    omega
  · rw [if_neg hab, if_neg hab] at hc
    have h1 := set_flat t2 hub s
    have h2 := set_flat (d := d.set m.b t2) (i := m.a) (u := ua) t1 (by rw [List.getElem?_set_ne (fun e => hab e.symm)]; exact hua) s
    omega
theorem mk_cost {x : Inst} {d : Day} {m : Mv} (h : mayM d m = true) (h0 : arc x 0 0 = 0) : costZ x (mkZ d m) = costZ x d + byM x d m := by
  obtain ⟨-, ha, hb, r1, r2⟩ := cut_rows h
  unfold mkZ byM moreR
  rw [(fm_flat d m _).2, mkT_map, lenR_eq r1 h0, lenR_eq r2 h0]
  obtain ⟨ua, hua⟩ : ∃ u, d[m.a]? = some u := ⟨_, List.getElem?_eq_getElem ha⟩
  obtain ⟨ub, hub⟩ : ∃ u, d[m.b]? = some u := ⟨_, List.getElem?_eq_getElem hb⟩
  have ga : d.getD m.a [] = ua := by rw [List.getD_eq_getElem?_getD, hua]; rfl
  have gb : d.getD m.b [] = ub := by rw [List.getD_eq_getElem?_getD, hub]; rfl
  rw [ga, gb]
  generalize gatherZ d (cutM d m).1 = t1 at *
  generalize gatherZ d (cutM d m).2 = t2 at *
  by_cases hab : m.a = m.b
  · rw [if_pos hab, ← hab, List.set_set]
    have := set_sum t1 hua x
    omega
  · rw [if_neg hab]
    have h1 := set_sum t2 hub x
    have h2 := set_sum (d := d.set m.b t2) (i := m.a) (u := ua) t1 (by rw [List.getElem?_set_ne (fun e => hab e.symm)]; exact hua) x
    omega
open Go Go.Proofs Hp
theorem solveZ_mem (x : Inst) : ∀ (ds : List Day) (st : Day × Int × Bool), (ds.foldl (solveS x) st).2.2 = true → ds.foldl (solveS x) st = st ∨ (∃ d ∈ ds, dayT x d = 0 ∧ ds.foldl (solveS x) st = (d, W (costZ x d), true))
  | [], st, _ => .inl rfl
  | d :: ds, st, h => by
    rw [List.foldl_cons] at h ⊢
    rcases solveZ_mem x ds _ h with e | ⟨d2, h1, h2, h3⟩
    · rw [e]
      unfold solveS
      split
      · rename_i h0
        split
        · exact .inr ⟨d, by simp, h0, rfl⟩
        · exact .inl rfl
      · exact .inl rfl
    · exact .inr ⟨d2, by simp [h1], h2, h3⟩
theorem solveR_mem {x : Inst} {e : Int} {ds : List Day} (h : (solveR x e ds).2 = 0) : e = 0 ∧ (solveR x e ds).1 ∈ ds ∧ dayT x (solveR x e ds).1 = 0 := by
  unfold solveR at h ⊢
  by_cases he : e = 0
  · rw [if_pos he] at h ⊢
    cases hz : (solveZ x ds).2.2 with
    | false => rw [hz] at h; cases h
    | true =>
      refine ⟨he, ?_⟩
      rcases solveZ_mem x ds ([], 0, false) hz with q | ⟨d, h1, h2, h3⟩
      · have : (solveZ x ds).2.2 = false := by unfold solveZ; rw [q]
        rw [this] at hz; cases hz
      · have : solveZ x ds = (d, W (costZ x d), true) := h3
        rw [this]; exact ⟨h1, h2⟩
  · rw [if_neg he] at h; exact absurd h he
theorem goodI_arc (x : Inst) : ArcOk (goodI x) := by
  refine arcOk_of fun row hr d hd => ?_
  simp only [goodI, List.mem_map] at hr
  obtain ⟨a, _, rfl⟩ := hr
  unfold goodRow at hd
  obtain ⟨b, _, rfl⟩ := List.mem_map.1 hd
  split
  · have := rnd_le (arc x a b) 0 60 (by omega); omega
  · omega
theorem goodI_veh (x : Inst) : 0 ≤ (goodI x).veh := (rnd_le x.veh 0 5 (by omega)).1
theorem sok_of {x : Inst} {l : List Stop} (h : Goods (goodI x).cust.length l) : SOk (goodI x) l :=
  ⟨goodI_cust' x, goodI_arc x, goodI_veh x, by have := h.len; omega, fun s hs => by have := h.each s hs; have := goodI_cust x; unfold small; omega, h.nd⟩
open Go Go.Proofs
structure SG (x : Inst) (l : List Stop) (d : Day) : Prop where
  may : ∀ t ∈ d, mayT x t = 0
  perm : d.flatten.Perm l
def goodT (x : Inst) (t : Tour) : Prop := (∀ s ∈ t, goodS x s = true) ∧ (t.map (·.c)).Nodup ∧ t.length ≤ 1000
theorem stops_good {x : Inst} {t : Tour} (h : mayT x t = 0) : (∀ s ∈ t, goodS x s = true) ∧ t ≠ [] := by
  have := ((mayT_zero x t).1 h).1
  unfold stopsB at this
  rw [Bool.and_eq_true, List.all_eq_true] at this
  refine ⟨this.1, fun e => ?_⟩
  subst e
  simp at this
theorem load_bd {x : Inst} : ∀ t : Tour, (∀ s ∈ t, goodS x s = true) → 0 ≤ loadZ t ∧ loadZ t ≤ 2147483648 * (t.length : Int)
  | [], _ => by simp [loadZ]
  | s :: t, h => by
    have h1 := load_bd t fun s hs => h s (by simp [hs])
    have h2 := h s (by simp)
    simp [goodS] at h2
    unfold loadZ at h1 ⊢
    simp only [List.map_cons, List.sum_cons, List.length_cons]
    omega
theorem mayT_good {x : Inst} (hx : ArcOk x) {t : Tour} (h : goodT x t) (hn : t ≠ []) : mayT x t = 0 ↔ loadZ t ≤ x.cap ∧ wayZ x (t.map (·.c)) ≤ x.len := by
  obtain ⟨h1, h2, h3⟩ := h
  have b1 := load_bd t h1
  have b2 := wayZ_bd hx (t.map (·.c))
  rw [List.length_map] at b2
  have w1 : W (loadZ t) = loadZ t := wr _ (by omega) (by omega)
  have w2 : W (wayZ x (t.map (·.c))) = wayZ x (t.map (·.c)) := wr _ (by omega) (by omega)
  rw [mayT_zero, w1, w2]
  have : stopsB x t = true := by
    unfold stopsB
    rw [Bool.and_eq_true, List.all_eq_true]
    exact ⟨h1, by cases t <;> simp at hn ⊢⟩
  exact ⟨fun e => e.2.2, fun e => ⟨this, h2, e⟩⟩
theorem SG.each {x : Inst} {l : List Stop} {d : Day} (g : SG x l d) : ∀ s ∈ l, goodS x s = true := by
  intro s hs
  obtain ⟨t, ht, hst⟩ := List.mem_flatten.1 (g.perm.symm.subset hs)
  exact (stops_good (g.may t ht)).1 s hst
section
variable {x : Inst} {l : List Stop} (h : SOk x l)
include h
theorem SG.len {d : Day} (g : SG x l d) : d.flatten.length ≤ 1000 ∧ d.length ≤ 1000 := by
  have h1 := flat_len_ge d fun t ht => (stops_good (g.may t ht)).2
  have h2 := g.perm.length_eq
  have h3 := h.len
  omega
theorem SG.tour {d : Day} (g : SG x l d) {e : Day} (he : e.flatten.Perm l) {t : Tour} (ht : t ∈ e) : goodT x t := by
  have hs := tour_sub ht
  have hl := h.len
  refine ⟨fun s q => g.each s (he.subset (hs.subset q)), ?_, ?_⟩
  · exact ((he.map _).nodup_iff.2 h.nd).sublist (hs.map _)
  · have := hs.length_le
    have := he.length_eq
    omega
theorem SG.mv {d : Day} (g : SG x l d) : MvDay d := by
  refine ⟨(g.len h).2, fun t ht => (g.tour h g.perm ht).2.2, fun t ht s hs => ?_⟩
  have := (g.tour h g.perm ht).1 s hs
  have hc := h.cust
  simp [goodS] at this
  unfold small
  omega
theorem SG.ok {d : Day} (g : SG x l d) : DayOk d := by
  have h1 := g.len h
  have h2 := g.mv h
  exact ⟨by omega, fun t ht => Nat.le_trans (h2.t t ht) (by decide), fun t ht s hs => (h2.s t ht s hs).1⟩
end
theorem fitR_eq {x : Inst} {d : Day} {r : Rw5} (hr : RwOk d r) (h0 : arc x 0 0 = 0) : fitR x d r ↔ loadZ (gatherZ d r) ≤ x.cap ∧ wayZ x ((gatherZ d r).map (·.c)) ≤ x.len := by
  unfold fitR
  rw [lenR_eq hr h0, ldR_eq hr]
theorem cut_rw0 {d : Day} {m : Mv} (h : mayM d m = true) (hab : m.a = m.b) : gatherZ d (cutM d m).2 = [] := by
  have e0 : gatherZ d rw0 = [] := rfl
  unfold mayM at h
  rw [Bool.and_eq_true] at h
  obtain ⟨-, h2⟩ := h
  unfold mayZ at h2
  unfold cutM cutZ
  by_cases k0 : m.k = 0
  · rw [if_pos k0]; exact e0
  rw [if_neg k0] at h2 ⊢
  by_cases k1 : m.k = 1
  · rw [if_pos k1, if_neg (by simp [hab])]
    split <;> exact e0
  rw [if_neg k1] at h2 ⊢
  by_cases k2 : m.k = 2
  · rw [if_pos k2, if_pos hab]; exact e0
  rw [if_neg k2] at h2
  have h2 := of_decide_eq_true h2
  omega
theorem mk_mem1 {d : Day} {m : Mv} (h : mayM d m = true) (hn : gatherZ d (cutM d m).1 ≠ []) : gatherZ d (cutM d m).1 ∈ mkZ d m := by
  obtain ⟨-, ha, -⟩ := cut_rows h
  refine List.mem_filterMap.2 ⟨m.a, List.mem_range.2 ha, ?_⟩
  have e : mkT d m m.a = gatherZ d (cutM d m).1 := by unfold mkT; rw [if_pos rfl]
  unfold mkT1
  rw [e, if_neg fun q => hn (List.length_eq_zero_iff.1 q)]
theorem mk_mem2 {d : Day} {m : Mv} (h : mayM d m = true) (hab : m.a ≠ m.b) (hn : gatherZ d (cutM d m).2 ≠ []) : gatherZ d (cutM d m).2 ∈ mkZ d m := by
  obtain ⟨-, -, hb, -⟩ := cut_rows h
  refine List.mem_filterMap.2 ⟨m.b, List.mem_range.2 hb, ?_⟩
  have e : mkT d m m.b = gatherZ d (cutM d m).2 := by unfold mkT; rw [if_neg fun q => hab q.symm, if_pos rfl]
  unfold mkT1
  rw [e, if_neg fun q => hn (List.length_eq_zero_iff.1 q)]
theorem fit_iff {x : Inst} {l : List Stop} (h : SOk x l) (h0 : arc x 0 0 = 0) {d : Day} (g : SG x l d) {m : Mv} (hm : mayM d m = true) : (fitR x d (cutM d m).1 ∧ fitR x d (cutM d m).2) ↔ ∀ t ∈ mkZ d m, mayT x t = 0 := by
  obtain ⟨-, ha, hb, r1, r2⟩ := cut_rows hm
  have hp : (mkZ d m).flatten.Perm l := (mk_perm hm).trans g.perm
  rw [fitR_eq r1 h0, fitR_eq r2 h0]
  have hz : 0 ≤ x.cap ∧ 0 ≤ x.len := by
    have ht := g.may _ (List.getElem_mem ha)
    have hg := g.tour h g.perm (List.getElem_mem ha)
    have := (mayT_good h.arc hg (stops_good ht).2).1 ht
    have b1 := load_bd _ hg.1
    have b2 := wayZ_bd h.arc (d[m.a].map (·.c))
    omega
  have e0 : loadZ [] = 0 ∧ wayZ x (([] : Tour).map (·.c)) = 0 := ⟨rfl, rfl⟩
  constructor
  · rintro ⟨q1, q2⟩ t ht
    obtain ⟨hn, h3⟩ := mk_mem ht
    have hg := g.tour h hp ht
    rcases h3 with rfl | rfl | h3
    · exact (mayT_good h.arc hg hn).2 q1
    · exact (mayT_good h.arc hg hn).2 q2
    · exact g.may t h3
  · intro hall
    constructor
    · by_cases hn : gatherZ d (cutM d m).1 = []
      · rw [hn, e0.1, e0.2]; exact hz
      · have ht := mk_mem1 hm hn
        exact (mayT_good h.arc (g.tour h hp ht) hn).1 (hall _ ht)
    · by_cases hn : gatherZ d (cutM d m).2 = []
      · rw [hn, e0.1, e0.2]; exact hz
      · by_cases hab : m.a = m.b
        · exact absurd (cut_rw0 hm hab) hn
        · have ht := mk_mem2 hm hab hn
          exact (mayT_good h.arc (g.tour h hp ht) hn).1 (hall _ ht)
theorem mb_mem (x : Inst) (d : Day) : ∀ (ms : List Mv) (st : Mv × Int), (ms.foldl (mbS x d) st = st) ∨ (∃ m ∈ ms, (ms.foldl (mbS x d) st) = (m, byM x d m) ∧ fitR x d (cutM d m).1 ∧ fitR x d (cutM d m).2)
  | [], st => .inl rfl
  | m :: ms, st => by
    rw [List.foldl_cons]
    rcases mb_mem x d ms (mbS x d st m) with e | ⟨m2, h1, h2, h3⟩
    · rw [e]
      unfold mbS
      split
      · rename_i hc
        exact .inr ⟨m, by simp, rfl, hc.2⟩
      · exact .inl rfl
    · exact .inr ⟨m2, by simp [h1], h2, h3⟩
def stepZ (x : Inst) (d : Day) : Option Day := if (mbZ x d).2 < 0 then some (mkZ d (mbZ x d).1) else none
theorem step_of {x : Inst} {d : Day} (hb : (mbZ x d).2 < 0) : (mbZ x d).1 ∈ movesZ d ∧ byM x d (mbZ x d).1 < 0 ∧ fitR x d (cutM d (mbZ x d).1).1 ∧ fitR x d (cutM d (mbZ x d).1).2 := by
  rcases mb_mem x d (movesZ d) (mv0, 0) with e | ⟨m, h1, h2, h3⟩
  · unfold mbZ at hb; rw [e] at hb; cases hb
  · unfold mbZ at hb ⊢
    rw [h2] at hb ⊢
    exact ⟨h1, hb, h3⟩
theorem step_keeps {x : Inst} {l : List Stop} (h : SOk x l) (h0 : arc x 0 0 = 0) {d e : Day} (g : SG x l d) (hs : stepZ x d = some e) : SG x l e ∧ costZ x e < costZ x d ∧ e.length ≤ d.length := by
  unfold stepZ at hs
  split at hs
  · rename_i hb
    cases hs
    obtain ⟨h1, h2, h3⟩ := step_of hb
    have hm := (movesZ_mem h1).1
    refine ⟨⟨(fit_iff h h0 g hm).1 h3, (mk_perm hm).trans g.perm⟩, ?_, mk_len _ _⟩
    rw [mk_cost hm h0]; omega
  · cases hs
theorem stepP_ok {x : Inst} {l : List Stop} (h : SOk x l) (h0 : arc x 0 0 = 0) : StepP x (stepZ x) (SG x l) := by
  intro d g
  have hv := g.mv h
  have hl : ∀ a, tlen d a ≤ 1000 := by
    intro a
    unfold tlen
    rw [List.getD_eq_getElem?_getD]
    cases hq : d[a]? with
    | none => simp
    | some l => exact hv.t l (List.mem_of_getElem? hq)
  have hd1 : (stepZ x d).isSome = decide ((mbZ x d).2 < 0) := by
    unfold stepZ
    split
    · rename_i q; simp [q]
    · rename_i q; simp [q]
  refine ⟨_, _, _, _, _, _, by rw [hd1]; exact best_ok x d h.arc hv, fun e he => ⟨?_, (step_keeps h h0 g he).1⟩⟩
  unfold stepZ at he
  split at he
  · rename_i hb
    cases he
    obtain ⟨h1, -, -⟩ := step_of hb
    obtain ⟨h1, h2, h3⟩ := movesZ_mem h1
    have := hl (mbZ x d).1.a
    have := hl (mbZ x d).1.b
    exact make_ok x d _ hv.n hv.t h1 (by omega) (by omega)
  · cases he
theorem imp_keeps {x : Inst} {l : List Stop} (h : SOk x l) (h0 : arc x 0 0 = 0) : ∀ (n : Nat) (d : Day), SG x l d → SG x l (impN (stepZ x) n d) ∧ costZ x (impN (stepZ x) n d) ≤ costZ x d ∧ (impN (stepZ x) n d).length ≤ d.length
  | 0, d, g => ⟨g, Int.le_refl _, Nat.le_refl _⟩
  | n + 1, d, g => by
    unfold impN
    cases hs : stepZ x d with
    | none => exact ⟨g, Int.le_refl _, Nat.le_refl _⟩
    | some e =>
      obtain ⟨a, b, c⟩ := step_keeps h h0 g hs
      obtain ⟨a', b', c'⟩ := imp_keeps h h0 n e a
      exact ⟨a', by simp only; omega, by simp only; omega⟩
open Go Go.Proofs Hp
theorem goodI_diag (x : Inst) : arc (goodI x) 0 0 = 0 := by
  have h1 : (goodI x).dist[0]? = some (goodRow x (x.cust.take 6).length 0) := by
    unfold goodI
    rw [List.getElem?_map, List.getElem?_range (by omega)]; rfl
  have h2 : (goodRow x (x.cust.take 6).length 0)[0]? = some 0 := by
    unfold goodRow
    rw [List.getElem?_map, List.getElem?_range (by omega)]; rfl
  unfold arc
  split
  · rfl
  · rw [List.getD_eq_getElem?_getD, List.getD_eq_getElem?_getD]
    show (((goodI x).dist[0]?).getD [])[0]?.getD 0 = 0
    rw [h1]
    show ((goodRow x (x.cust.take 6).length 0)[0]?).getD 0 = 0
    rw [h2]; rfl
theorem fits_zero {x : Inst} {l : List Stop} (h : fitsZ x l = 0) : ∀ s ∈ l, mayT x [s] = 0 := by
  unfold fitsZ at h
  intro s hs
  cases hf : l.find? (fun s => mayT x [s] != 0) with
  | some s2 =>
    have := List.find?_some hf
    rw [hf] at h
    simp only at h
    rw [h] at this; simp at this
  | none =>
    have := List.find?_eq_none.1 hf s hs
    simpa using this
theorem join_may {x : Inst} {l : List Stop} (h : SOk x l) (hf : fitsZ x l = 0) : ∀ t ∈ joinP x l, mayT x t = 0 := by
  have key : ∀ (ps : List Pr) (st : Day × Int), (∀ t ∈ st.1, t.length ≤ 1 ∨ mayT x t = 0) → ∀ t ∈ (ps.foldl (joinS x) st).1, t.length ≤ 1 ∨ mayT x t = 0 := by
    intro ps
    induction ps with
    | nil => intro st h; exact h
    | cons p ps ih =>
      intro st hst
      rw [List.foldl_cons]
      refine ih _ fun t ht => ?_
      unfold joinS joinAt at ht
      generalize placeT st.1 p.a = i at ht
      generalize placeT st.1 p.b = k at ht
      generalize st.1.getD i [] = a at ht
      generalize st.1.getD k [] = b at ht
      cases hc : joinC x st.2 p i k a b with
      | false => rw [hc] at ht; exact hst t ht
      | true =>
        rw [hc] at ht
        simp only [cond_true] at ht
        unfold joinC at hc
        simp only [Bool.and_eq_true, decide_eq_true_eq] at hc
        rcases List.mem_or_eq_of_mem_set ht with ht | ht
        · rcases List.mem_or_eq_of_mem_set ht with ht | ht
          · exact hst t ht
          · rw [ht]; exact .inr hc.2
        · rw [ht]; exact .inl (by simp)
  intro t ht
  obtain ⟨-, hp, -, hne⟩ := h.join
  have hs := tour_sub ht
  have h1 := key (pairsP x (l.map fun s : Stop => s.c)) (l.map fun s => [s], (l.length : Int)) (fun t ht => by obtain ⟨s, _, rfl⟩ := List.mem_map.1 ht; simp) t (List.mem_filter.1 ht).1
  rcases h1 with h1 | h1
  · have := hne t ht
    match t, h1, this with
    | [s], _, _ => exact fits_zero hf s (hp.subset (hs.subset (by simp)))
  · exact h1
theorem base_SG {x : Inst} {l : List Stop} (h : SOk x l) (hf : fitsZ x l = 0) : ∀ d ∈ basesZ x l, SG x l d := by
  intro d hd
  unfold basesZ at hd
  simp only [List.cons_append, List.nil_append, List.mem_cons] at hd
  rcases hd with rfl | rfl | hd
  · exact ⟨join_may h hf, h.join.2.1⟩
  · refine ⟨fun t ht => ?_, by rw [h.apart.2.1]⟩
    obtain ⟨s, hs, rfl⟩ := List.mem_map.1 ht
    exact fits_zero hf s hs
  · cases hall : (regretZ x l).2 with
    | false => rw [hall] at hd; simp at hd
    | true =>
      rw [hall] at hd
      simp at hd; subst hd
      obtain ⟨r, hp⟩ := h.regret
      exact ⟨((dayT_zero x _).1 r.may).1, hp hall⟩
def impZ (x : Inst) (b : Int) (d : Day) : Day := impN (stepZ x) b.toNat d
def solZ (x : Inst) (b : Int) (l : List Stop) : Day × Int := solveR x (fitsZ x l) (triesZ x (impZ x b) l)
theorem impP_of {x : Inst} {l : List Stop} (h : SOk x l) (h0 : arc x 0 0 = 0) (hf : fitsZ x l = 0) {b : Int} (hb : b ≤ 9223372036854775807) : ImpP x b (impZ x b) (basesZ x l) := by
  intro d hd
  have g := base_SG h hf d hd
  obtain ⟨g2, -, -⟩ := imp_keeps h h0 b.toNat d g
  have o := g.ok h
  refine ⟨⟨_, improveP_ok x d b (stepZ x) (SG x l) hb o.n o.t (fun _ => g) (stepP_ok h h0)⟩, g2.ok h, ?_⟩
  have := (g2.len h).1
  show (impN (stepZ x) b.toNat d).flatten.length ≤ 1048576
  omega
theorem solP_ok {x : Inst} {l : List Stop} (h : SOk x l) (h0 : arc x 0 0 = 0) {b : Int} (hb : b ≤ 9223372036854775807) : Pure Tryz.prog 15 [.agg (instL x), L l, I b] (.tup [.agg [L (solZ x b l).1], I (solZ x b l).2]) :=
  solveP_ok x l b _ h fun hf => impP_of h h0 hf hb
theorem try_SG {x : Inst} {l : List Stop} (h : SOk x l) (h0 : arc x 0 0 = 0) (hf : fitsZ x l = 0) (b : Int) : ∀ d ∈ triesZ x (impZ x b) l, SG x l d := by
  have hb := base_SG h hf
  have hi := fun d g => (imp_keeps h h0 b.toNat d g).1
  intro d hd
  unfold triesZ at hd
  unfold basesZ at hb
  simp only [List.cons_append, List.nil_append, List.mem_cons] at hd hb
  rcases hd with rfl | rfl | rfl | hd
  · exact hb _ (.inr (.inl rfl))
  · exact hi _ (hb _ (.inl rfl))
  · exact hi _ (hb _ (.inr (.inl rfl)))
  · cases hall : (regretZ x l).2 with
    | false => rw [hall] at hd; simp at hd
    | true =>
      rw [hall] at hd
      simp at hd; subst hd
      exact hi _ (hb _ (.inr (.inr (by rw [hall]; simp))))
theorem solveR_none {x : Inst} {e : Int} {ds : List Day} (h : (solveR x e ds).2 ≠ 0) : (solveR x e ds).1 = [] := by
  unfold solveR at h ⊢
  by_cases he : e = 0
  · rw [if_pos he] at h ⊢
    cases hz : (solveZ x ds).2.2 with
    | true => rw [hz] at h; exact absurd rfl h
    | false => rfl
  · rw [if_neg he]
section
variable {x : Inst} {l : List Stop} (h : SOk x l) (h0 : arc x 0 0 = 0) (b : Int)
include h h0
theorem sol_ok : DayOk (solZ x b l).1 ∧ (solZ x b l).1.length ≤ 1000 ∧ (solZ x b l).1.flatten.length ≤ 1000 := by
  by_cases he : (solZ x b l).2 = 0
  · obtain ⟨hf, hm, -⟩ := solveR_mem he
    have g := try_SG h h0 hf b _ hm
    exact ⟨g.ok h, (g.len h).2, (g.len h).1⟩
  · have : (solZ x b l).1 = [] := solveR_none he
    rw [this]; exact ⟨⟨by simp, by simp, by simp⟩, by simp, by simp⟩
end
open Go Go.Proofs Hp
def bud (b : Int) : Int := if 50 < b then b % 51 else b
open Go Go.Proofs
set_option maxRecDepth 20000 in
theorem copyO_ok (l : List Stop) (hl : l.length ≤ 1048576) (S : Store) (nx : Nat) (hd : DeadFrom nx S) :
    Spec Tryz.prog 98 [L l] S (fun p S' => ∃ v, p = .sl (nx + 0) v 2 0 l.length ∧ S' = S.set (nx + 0) (.cells v 43 (l.flatMap Enc.enc))) := by
  have hf : (l.flatMap Enc.enc : List PV).length = l.length * 2 := flen_stop l
  have ht : (l.flatMap Enc.enc : List PV).take (l.length * 2) = l.flatMap Enc.enc := List.take_of_length_le (by omega)
  refine pwea hd Tryz.func98 Tryz.ntmps98 Tryz.results98 ?_
  repeat refine pw_seq ?_
  refine pwn ?_
  intros
  repeat refine pw_seq ?_
  refine pwn ?_
  intros
  refine pw_seq (pw_nilX 3 43 2 rfl fun v0 => ?_)
  repeat refine pw_seq ?_
  refine pwN [] (jn2 hf ht) ?_
  refine ⟨by omega, ?_⟩
  intros
  repeat refine pw_seq ?_
  have he := ext_push (S := S) (nx := nx) (obs := []) (.cells (v0 + 1) 43 (l.flatMap Enc.enc))
  rw [ext_nil hd] at he
  exact pw_ret ⟨_, S.set (nx + 0) (.cells (v0 + 1) 43 (l.flatMap Enc.enc)), by simp; rfl, ⟨v0 + 1, rfl, rfl⟩, fun o => .inl (congrFun he o)⟩
theorem copyP_ok (l : List Stop) (hl : l.length ≤ 1048576) : Pure Tryz.prog 98 [L l] (L l) :=
  own_pure 0 (copyO_ok l hl) (flen_stop l).symm
theorem lst_len (a : List Stop) {k : Nat} (h : a.length = k) : (L a : PV) = .lst k (a.flatMap Enc.enc) := by rw [← h]
set_option maxRecDepth 20000 in
theorem cutR_ok (l : List Stop) (k : Nat) (hk : k < l.length) (hl : l.length ≤ 1048576) : Pure Tryz.prog 99 [L l, I k] (L (l.take k ++ l.drop (k + 1))) := by
  have ha : (l.take k).length = k := by simp; omega
  have hb : (l.drop (k + 1)).length = l.length - (k + 1) := by simp
  have hc := copyO_ok (l.take k) (by omega)
  rw [lst_len _ ha, ha] at hc
  have w1 : IntKind.i64.wrap ((k : Int) + 1) = ((k + 1 : Nat) : Int) := wrN k (by omega)
  have f1 : (l.flatMap Enc.enc : List PV).take (k * 2) = (l.take k).flatMap Enc.enc := flat_take Enc.enc 2 (fun _ => rfl) l k
  have f2 : (l.flatMap Enc.enc : List PV).drop ((k + 1) * 2) = (l.drop (k + 1)).flatMap Enc.enc := flat_drop Enc.enc 2 (fun _ => rfl) l (k + 1)
  have f3 : ((l.take k).flatMap Enc.enc : List PV).length = k * 2 := by rw [flen_stop, ha]
  have f4 : ((l.take k).flatMap Enc.enc : List PV).take (k * 2) = (l.take k).flatMap Enc.enc := List.take_of_length_le (by omega)
  have f5 : ((l.drop (k + 1)).flatMap Enc.enc : List PV).length = (l.length - (k + 1)) * 2 := by rw [flen_stop, hb]
  have f6 : ((l.drop (k + 1)).flatMap Enc.enc : List PV).take ((l.length - (k + 1)) * 2) = (l.drop (k + 1)).flatMap Enc.enc := List.take_of_length_le (by omega)
  have hr : (L (l.take k ++ l.drop (k + 1)) : PV) = .lst (k + (l.length - (k + 1))) ((l.take k).flatMap Enc.enc ++ (l.drop (k + 1)).flatMap Enc.enc) := by
    rw [lst_len _ (by rw [List.length_append, ha, hb]), List.flatMap_append]
  rw [hr]
  clear hr
  have q1 : k ≤ l.length := by omega
  have q0 : 0 ≤ (k : Int) + 1 := by omega
  have q2 : k + 1 ≤ l.length := by omega
  generalize ((l.take k).flatMap Enc.enc : List PV) = ca at *
  generalize ((l.drop (k + 1)).flatMap Enc.enc : List PV) = cb at *
  refine pwe Tryz.func99 Tryz.ntmps99 Tryz.results99 fun S nx hd => ?_
  repeat refine pw_seq ?_
  refine pwn ?_
  intros
  repeat refine pw_seq ?_
  refine pw_N [] (by rfl) (by rfl) fun K Gc Gh hK hGc hGh X hX0 hX => ?_
  simp -implicitDefEqProofs [hX0, hX, f1, q1]
  try clear hX0 hX X
  refine hGc _ _ _ _ _ _ _ fun hsuf => ((hc _ _ ext_dead).mono ?_).v
  rintro _ _ ⟨v0, rfl, rfl⟩
  refine ⟨_, _, ext_pushK 0 _, ?_⟩
  clear hGc hGh
  clear Gc Gh
  refine xs_go hsuf (D := []) (by rfl) fun Gc Gh hGc hGh X hX0 hX => ?_
  simp -implicitDefEqProofs [hX0, hX, f1, q1]
  clear hX0 hX X
  intros
  refine hK _ _ _ ?_
  clear hK hGc hGh
  clear K Gc Gh
  repeat refine pw_seq ?_
  refine pwN [] (jn6 f2 f3 f4 f5 f6 (jn4 w1 q0 q2 hk)) ?_
  refine ⟨by omega, ?_⟩
  intros
  refine pw_frz 0 rfl ?_
  repeat refine pw_seq ?_
  exact pw_ret (ret_pure hd (by simp; rfl) (by simp [oneOf, f3, f5, Nat.add_mul]))
set_option maxRecDepth 20000 in
theorem putR14_ok (l : List Stop) (k : Nat) (s : Stop) (hk : k ≤ l.length) (hl : l.length ≤ 1048576) : Pure Tryz.prog 100 [L l, I k, .agg [I s.c, I s.q]] (L (l.take k ++ s :: l.drop k)) := by
  have ha : (l.take k).length = k := by simp; omega
  have hb : (l.drop k).length = l.length - k := by simp
  have hc := copyO_ok (l.take k) (by omega)
  rw [lst_len _ ha, ha] at hc
  have f1 : (l.flatMap Enc.enc : List PV).take (k * 2) = (l.take k).flatMap Enc.enc := flat_take Enc.enc 2 (fun _ => rfl) l k
  have f2 : (l.flatMap Enc.enc : List PV).drop (k * 2) = (l.drop k).flatMap Enc.enc := flat_drop Enc.enc 2 (fun _ => rfl) l k
  have f3 : ((l.take k).flatMap Enc.enc : List PV).length = k * 2 := by rw [flen_stop, ha]
  have f4 : ((l.take k).flatMap Enc.enc : List PV).take (k * 2) = (l.take k).flatMap Enc.enc := List.take_of_length_le (by omega)
  have f5 : ((l.drop k).flatMap Enc.enc : List PV).length = (l.length - k) * 2 := by rw [flen_stop, hb]
  have f6 : ((l.drop k).flatMap Enc.enc : List PV).take ((l.length - k) * 2) = (l.drop k).flatMap Enc.enc := List.take_of_length_le (by omega)
  have f7 : ((l.take k).flatMap Enc.enc ++ [I s.c, I s.q] : List PV).length = (k + 1) * 2 := by rw [List.length_append, f3]; simp; omega
  have f8 : ((l.take k).flatMap Enc.enc ++ [I s.c, I s.q] : List PV).take ((k + 1) * 2) = (l.take k).flatMap Enc.enc ++ [I s.c, I s.q] := List.take_of_length_le (by omega)
  have hr : (L (l.take k ++ s :: l.drop k) : PV) = .lst (k + 1 + (l.length - k)) ((l.take k).flatMap Enc.enc ++ [I s.c, I s.q] ++ (l.drop k).flatMap Enc.enc) := by
    rw [lst_len _ (k := k + 1 + (l.length - k)) (by rw [List.length_append, List.length_cons, ha, hb]; omega), List.flatMap_append, List.flatMap_cons]; simp
  rw [hr]
  clear hr
  generalize ((l.take k).flatMap Enc.enc : List PV) = ca at *
  generalize ((l.drop k).flatMap Enc.enc : List PV) = cb at *
  refine pwe Tryz.func100 Tryz.ntmps100 Tryz.results100 fun S nx hd => ?_
  repeat refine pw_seq ?_
  refine pwn ?_
  intro v0
  repeat refine pw_seq ?_
  refine pw_N [] (by rfl) (by rfl) fun K Gc Gh hK hGc hGh X hX0 hX => ?_
  simp -implicitDefEqProofs [hX0, hX, f1, hk]
  try clear hX0 hX X
  refine hGc _ _ _ _ _ _ _ fun hsuf => ((hc _ _ ext_dead).mono ?_).v
  rintro _ _ ⟨v1, rfl, rfl⟩
  refine ⟨_, _, ext_pushK 0 _, ?_⟩
  clear hGc hGh
  clear Gc Gh
  refine xs_go hsuf (D := []) (by rfl) fun Gc Gh hGc hGh X hX0 hX => ?_
  simp -implicitDefEqProofs [hX0, hX, f1, hk]
  clear hX0 hX X
  intros
  refine hK _ _ _ ?_
  clear hK hGc hGh
  clear K Gc Gh
  repeat refine pw_seq ?_
  refine pwN [] (jn2 f3 f4) ?_
  refine ⟨by omega, ?_⟩
  intros
  show PW _ _ _ _ _ _ _ (ext _ _ _)
  generalize hcc : (ca ++ [I s.c, I s.q] : List PV) = cc at *
  repeat refine pw_seq ?_
  refine pwN [] (jn6 f2 f5 f6 f7 f8 hk) ?_
  refine ⟨by omega, ?_⟩
  intros
  refine pw_frz 1 rfl ?_
  repeat refine pw_seq ?_
  exact pw_ret (ret_pure hd (by simp; rfl) (by simp [oneOf, f7, f5, Nat.add_mul]))
open Go Go.Proofs
set_option maxRecDepth 20000 in
set_option maxHeartbeats 3200000 in
theorem may14_ok (d : Day) (k a b i j : Nat) (hdn : d.length ≤ 1048576) (hdt : ∀ t ∈ d, t.length ≤ 1048576) (hk : k ≤ 3) (ha : a < d.length) (hb : b < d.length) : Pure Tryz.prog 130 [.agg [L d], .agg [I k, I a, I b, I i, I j]] (B (mayM d ⟨k, a, b, i, j⟩)) := by
  obtain ⟨ta, xa, a1, -, -, a0⟩ := el1 rfl d a ha
  obtain ⟨tb, xb, b1, -, -, b0⟩ := el1 rfl d b hb
  have ha1 : 1 ≤ d.length - a := by omega
  have hb1 : 1 ≤ d.length - b := by omega
  have la : tlen d a = ta.length := by unfold tlen; rw [List.getD_eq_getElem?_getD, a1]; rfl
  have lb : tlen d b = tb.length := by unfold tlen; rw [List.getD_eq_getElem?_getD, b1]; rfl
  have hz : mayM d ⟨k, a, b, i, j⟩ = mayZ ⟨k, a, b, i, j⟩ ta.length tb.length := by
    unfold mayM
    rw [la, lb, decide_eq_true ⟨hk, ha, hb⟩, Bool.true_and]
  rw [hz]
  clear hz
  have hsame : a = b → ta.length = tb.length := fun e => by subst e; rw [← la, lb]
  have na : ¬ d.length ≤ a := by omega
  have nb : ¬ d.length ≤ b := by omega
  have z1 : ¬ (a : Int) < 0 := by omega
  have z2 : ¬ (b : Int) < 0 := by omega
  have z3 : ¬ (i : Int) < 0 := by omega
  have z4 : ¬ (j : Int) < 0 := by omega
  clear la lb a1 b1
  unfold mayZ
  simp only
  refine pwe Tryz.func130 Tryz.ntmps130 Tryz.results130 fun S nx hd => ?_
  repeat refine pw_seq ?_
  refine pwn ?_
  intro v0 v1
  repeat refine pw_seq ?_
  refine pwn ?_
  intros
  repeat refine pw_seq ?_
  refine pwN [(3, 14), (8, 19), (14, 25), (20, 31), (25, 36)] (jn6 z1 z2 z3 z4 na (jn2 nb undef_eq)) ?_
  intros
  repeat refine pw_seq ?_
  refine pw_cf rfl ?_
  refine pw_skip ?_
  repeat refine pw_seq ?_
  refine pwN [] (jn3 a0 ha ha1) ?_
  intros
  repeat refine pw_seq ?_
  refine pwN [] (jn3 b0 hb hb1) ?_
  intros
  generalize ta.length = la at *
  generalize tb.length = lb at *
  clear a0 b0
  match k, hk with
  | 0, _ =>
    rw [if_pos rfl]
    repeat refine pw_seq ?_
    refine pwn ?_
    intros
    repeat refine pw_seq ?_
    refine pw_ct rfl ?_
    by_cases h1 : a = b
    case neg =>
      have h1' : ¬ (a : Int) = b := by omega
      have h1s : ¬ b = a := fun e => h1 e.symm
      repeat refine pw_seq ?_
      refine pwN [(5, 65), (12, 72)] (jn2 h1' undef_eq) ?_
      intros
      repeat refine pw_seq ?_
      exact pw_ret (ret_pure hd rfl (by simp [h1s, oneOf]))
    subst h1
    by_cases h2 : i < j
    case neg =>
      repeat refine pw_seq ?_
      refine pwN [(5, 65), (12, 72)] (jn2 h2 undef_eq) ?_
      intros
      repeat refine pw_seq ?_
      exact pw_ret (ret_pure hd rfl (by simp [h2, oneOf]))
    by_cases h3 : j < la
    case neg =>
      repeat refine pw_seq ?_
      refine pwN [(5, 65), (12, 72)] (jn2 h2 h3) ?_
      intros
      repeat refine pw_seq ?_
      exact pw_ret (ret_pure hd rfl (by simp [h3, oneOf]))
    repeat refine pw_seq ?_
    refine pwN [(5, 65), (12, 72)] (jn2 h2 h3) ?_
    intros
    repeat refine pw_seq ?_
    exact pw_ret (ret_pure hd rfl (by simp [h2, h3, oneOf]))
  | 1, _ =>
    rw [if_neg (by decide), if_pos rfl]
    by_cases h1 : a = b
    · have := hsame h1
      subst this
      subst h1
      repeat refine pw_seq ?_
      refine pwn ?_
      intros
      repeat refine pw_seq ?_
      refine pw_cf rfl ?_
      refine pw_skip ?_
      repeat refine pw_seq ?_
      refine pwn ?_
      intros
      repeat refine pw_seq ?_
      refine pw_ct rfl ?_
      repeat refine pw_seq ?_
      refine pwn ?_
      intros
      repeat refine pw_seq ?_
      refine pw_ct rfl ?_
      by_cases h2 : i < la
      case neg =>
        repeat refine pw_seq ?_
        refine pwN [(4, 90)] (jn2 h2 undef_eq) ?_
        intros
        repeat refine pw_seq ?_
        exact pw_ret (ret_pure hd rfl (by simp [h2, oneOf]))
      repeat refine pw_seq ?_
      refine pwN [(4, 90)] h2 ?_
      intros
      repeat refine pw_seq ?_
      exact pw_ret (ret_pure hd rfl (by simp [h2, oneOf]))
    · have h1' : ¬ (a : Int) = b := by omega
      repeat refine pw_seq ?_
      refine pwn ?_
      intros
      repeat refine pw_seq ?_
      refine pw_cf rfl ?_
      refine pw_skip ?_
      repeat refine pw_seq ?_
      refine pwn ?_
      intros
      repeat refine pw_seq ?_
      refine pw_ct rfl ?_
      repeat refine pw_seq ?_
      refine pwn ?_
      intros
      repeat refine pw_seq ?_
      refine pw_cf (by simp [h1']) ?_
      refine pw_skip ?_
      by_cases h2 : i < la
      case neg =>
        repeat refine pw_seq ?_
        refine pwN [(4, 100)] (jn2 h2 undef_eq) ?_
        intros
        repeat refine pw_seq ?_
        exact pw_ret (ret_pure hd rfl (by simp [h1, h2, oneOf]))
      repeat refine pw_seq ?_
      refine pwN [(4, 100)] h2 ?_
      intros
      repeat refine pw_seq ?_
      exact pw_ret (ret_pure hd rfl (by simp [h1, h2, oneOf]))
  | 2, _ =>
    rw [if_neg (by decide), if_neg (by decide), if_pos rfl]
    repeat refine pw_seq ?_
    refine pwn ?_
    intros
    repeat refine pw_seq ?_
    refine pw_cf rfl ?_
    refine pw_skip ?_
    repeat refine pw_seq ?_
    refine pwn ?_
    intros
    repeat refine pw_seq ?_
    refine pw_cf rfl ?_
    refine pw_skip ?_
    repeat refine pw_seq ?_
    refine pwn ?_
    intros
    repeat refine pw_seq ?_
    refine pw_ct rfl ?_
    repeat refine pw_seq ?_
    refine pwn ?_
    intros
    by_cases h1 : a = b
    · have := hsame h1
      subst this
      subst h1
      repeat refine pw_seq ?_
      refine pw_ct (by simp) ?_
      by_cases h2 : i < j
      case neg =>
        have h2' : j ≤ i := by omega
        repeat refine pw_seq ?_
        refine pwN [(5, 119)] (jn2 h2 undef_eq) ?_
        intros
        repeat refine pw_seq ?_
        exact pw_ret (ret_pure hd rfl (by simp [h2', oneOf]))
      have h2' : ¬ j ≤ i := by omega
      by_cases h3 : j < la
      case neg =>
        repeat refine pw_seq ?_
        refine pwN [(5, 119)] (jn2 h2 h3) ?_
        intros
        repeat refine pw_seq ?_
        exact pw_ret (ret_pure hd rfl (by simp [h3, oneOf]))
      have h4 : i < la := by omega
      repeat refine pw_seq ?_
      refine pwN [(5, 119)] (jn2 h2 h3) ?_
      intros
      repeat refine pw_seq ?_
      exact pw_ret (ret_pure hd rfl (by simp [h2', h3, h4, oneOf]))
    · have h1' : ¬ (a : Int) = b := by omega
      repeat refine pw_seq ?_
      refine pw_cf (by simp [h1']) ?_
      refine pw_skip ?_
      by_cases h2 : a < b
      case neg =>
        have h2' : b < a := by omega
        repeat refine pw_seq ?_
        refine pwN [(5, 130), (11, 136)] (jn2 h2 undef_eq) ?_
        intros
        repeat refine pw_seq ?_
        exact pw_ret (ret_pure hd rfl (by simp [h2', oneOf]))
      have h2' : ¬ (b < a ∨ a = b ∧ j ≤ i) := by omega
      by_cases h3 : i < la
      case neg =>
        repeat refine pw_seq ?_
        refine pwN [(5, 130), (11, 136)] (jn3 h2 h3 undef_eq) ?_
        intros
        repeat refine pw_seq ?_
        exact pw_ret (ret_pure hd rfl (by simp [h3, oneOf]))
      repeat refine pw_seq ?_
      refine pwN [(5, 130), (11, 136)] (jn2 h2 h3) ?_
      intros
      repeat refine pw_seq ?_
      exact pw_ret (ret_pure hd rfl (by simp [h2', h3, oneOf]))
  | 3, _ =>
    rw [if_neg (by decide), if_neg (by decide), if_neg (by decide)]
    repeat refine pw_seq ?_
    refine pwn ?_
    intros
    repeat refine pw_seq ?_
    refine pw_cf rfl ?_
    refine pw_skip ?_
    repeat refine pw_seq ?_
    refine pwn ?_
    intros
    repeat refine pw_seq ?_
    refine pw_cf rfl ?_
    refine pw_skip ?_
    repeat refine pw_seq ?_
    refine pwn ?_
    intros
    repeat refine pw_seq ?_
    refine pw_cf rfl ?_
    refine pw_skip ?_
    by_cases h2 : a < b
    case neg =>
      repeat refine pw_seq ?_
      refine pwN [(3, 145), (10, 152), (16, 158)] (jn2 h2 undef_eq) ?_
      intros
      repeat refine pw_seq ?_
      exact pw_ret (ret_pure hd rfl (by simp [h2, oneOf]))
    by_cases h3 : i ≤ la
    case neg =>
      repeat refine pw_seq ?_
      refine pwN [(3, 145), (10, 152), (16, 158)] (jn3 h2 h3 undef_eq) ?_
      intros
      repeat refine pw_seq ?_
      exact pw_ret (ret_pure hd rfl (by simp [h3, oneOf]))
    repeat refine pw_seq ?_
    refine pwN [(3, 145), (10, 152), (16, 158)] (jn2 h2 h3) ?_
    intros
    repeat refine pw_seq ?_
    exact pw_ret (ret_pure hd rfl (by simp [h2, h3, oneOf]))
open Go Go.Proofs
instance : Enc Mv := ⟨fun m => mvL m, 5, fun _ => rfl, fun _ => rfl⟩
@[simp] theorem enc_mv (m : Mv) : Enc.enc m = mvL m := rfl
@[simp high] theorem flen_mv (l : List Mv) : (l.flatMap Enc.enc).length = l.length * 5 := flat_length l
@[simp high] theorem ftake_mv (l : List Mv) : (l.flatMap Enc.enc).take (l.length * 5) = l.flatMap Enc.enc := flat_take' l
theorem fmvN {α : Type} {W : Nat → List α} {c : Nat} : ∀ n : Nat, (∀ i, i < n → (W i).length ≤ c) → ((List.range n).flatMap W).length ≤ c * n
  | 0, _ => by simp
  | n + 1, h => by
    rw [fl_len]
    have h1 := fmvN n fun i hi => h i (by omega)
    have h2 := h n (by omega)
    rw [Nat.mul_add]; omega
theorem fl_snoc {α : Type} (W : Nat → List α) (k : Nat) : (List.range (k + 1)).flatMap W = (List.range k).flatMap W ++ W k := by
  rw [List.range_succ, List.flatMap_append]; simp
theorem mv_bd (d : Day) (hdn : d.length ≤ 6) (hdt : ∀ t ∈ d, t.length ≤ 6) : (∀ k a b i, b < d.length → (rowM d k a b i).length ≤ 7) ∧ (∀ k a b, a < d.length → b < d.length → (placesZ d k a b).length ≤ 49) ∧ (∀ k a, a < d.length → (movesK d k a).length ≤ 294) ∧ ∀ k, ((List.range k).flatMap (movesA d)).length ≤ 1764 * k := by
  have nR : ∀ k a b i, b < d.length → (rowM d k a b i).length ≤ 7 := by
    intro k a b i hb
    have h1 := List.length_filterMap_le (cellM d k a b i) (List.range (tlen d b + 1))
    rw [List.length_range] at h1
    have h2 : tlen d b ≤ 6 := by unfold tlen; rw [List.getD_eq_getElem?_getD, List.getElem?_eq_getElem hb]; exact hdt _ (List.getElem_mem hb)
    unfold rowM; omega
  have nP : ∀ k a b, a < d.length → b < d.length → (placesZ d k a b).length ≤ 49 := by
    intro k a b ha hb
    have h1 := fmvN (W := rowM d k a b) (c := 7) (tlen d a + 1) fun i _ => nR k a b i hb
    have h2 : tlen d a ≤ 6 := by unfold tlen; rw [List.getD_eq_getElem?_getD, List.getElem?_eq_getElem ha]; exact hdt _ (List.getElem_mem ha)
    unfold placesZ; omega
  have nK : ∀ k a, a < d.length → (movesK d k a).length ≤ 294 := by
    intro k a ha
    have h1 := fmvN (W := placesZ d k a) (c := 49) d.length fun b hb => nP k a b ha hb
    unfold movesK; omega
  have nA : ∀ k, (movesA d k).length ≤ 1764 := by
    intro k
    have h1 := fmvN (W := movesK d k) (c := 294) d.length fun a ha => nK k a ha
    unfold movesA; omega
  have lA := fun k => fmvN (W := movesA d) (c := 1764) k fun i _ => nA i
  exact ⟨nR, nP, nK, lA⟩
set_option maxRecDepth 20000 in
set_option maxHeartbeats 3200000 in
theorem all14_ok (d : Day) (hdn : d.length ≤ 6) (hdt : ∀ t ∈ d, t.length ≤ 6) : Pure Tryz.prog 97 [.agg [L d]] (L (movesZ d)) := by
  have hmay := fun k a b i j (hk : k ≤ 3) (ha : a < d.length) (hb : b < d.length) => may14_ok d k a b i j (by omega) (fun t ht => Nat.le_trans (hdt t ht) (by decide)) hk ha hb
  obtain ⟨nR, nP, nK, lA⟩ := mv_bd d hdn hdt
  refine pwe Tryz.func97 Tryz.ntmps97 Tryz.results97 fun S nx hd => ?_
  repeat refine pw_seq ?_
  refine pwn ?_
  intro v0
  repeat refine pw_seq ?_
  refine pwn ?_
  intros
  refine pw_seq (pw_nilX 3 110 5 rfl fun v1 => ?_)
  repeat refine pw_seq ?_
  refine pwn ?_
  intros
  repeat refine pw_seq ?_
  refine pw_block (pw_loopL (fun s' : Nat × Nat => s'.1 ≤ 4) (fun (k, v1) => [(1, .ptr nx v0 0), (3, .sl (nx + 1) v1 5 0 ((List.range k).flatMap (movesA d)).length), (4, I k)]) (fun (k, v1) => [.cells v0 35 [L d], .cells v1 110 (((List.range k).flatMap (movesA d)).flatMap Enc.enc)]) (fun s' => 4 - s'.1) (0, v1) [] (by simp) (by simp) (by simp) ?_)
  rintro ⟨k, v1⟩ hk
  simp only at hk ⊢
  by_cases hk4 : k < 4
  · have hk4' : (k : Int) < 4 := by omega
    have wk := wrN k (by omega)
    have hOA := lA k
    have hsA := fl_snoc (movesA d) k
    have hEA : movesA d k = (List.range d.length).flatMap (movesK d k) := rfl
    generalize (List.range k).flatMap (movesA d) = oA at *
    repeat refine pw_seq ?_
    refine pwN [] hk4' ?_
    intros
    repeat refine pw_seq ?_
    refine pw_ct rfl ?_
    refine pw_skip (pw_seq (pw_block ?_))
    repeat refine pw_seq ?_
    refine pwn ?_
    intros
    repeat refine pw_seq ?_
    refine pw_block (pw_loopL (fun s' : Nat × Nat => s'.1 ≤ d.length) (fun (a, v1) => [(1, .ptr nx v0 0), (3, .sl (nx + 1) v1 5 0 (oA ++ (List.range a).flatMap (movesK d k)).length), (4, I k), (5, I a)]) (fun (a, v1) => [.cells v0 35 [L d], .cells v1 110 ((oA ++ (List.range a).flatMap (movesK d k)).flatMap Enc.enc)]) (fun s' => d.length - s'.1) (0, v1) [] (by simp) (by simp) (by simp) ?_)
    clear v1
    rintro ⟨a, v1⟩ ha
    simp only at ha ⊢
    obtain ⟨oK, hoK⟩ : ∃ o, o = oA ++ (List.range a).flatMap (movesK d k) := ⟨_, rfl⟩
    rw [← hoK]
    repeat refine pw_seq ?_
    refine pwn ?_
    intros
    repeat refine pw_seq ?_
    refine pw_cond rfl (fun hca => ?_) (fun hca => ?_)
    · simp at hca
      have wa := wrN a (by omega)
      have hOK := fmvN (W := movesK d k) (c := 294) a fun i hi => nK k i (by omega)
      have hsK : oA ++ (List.range (a + 1)).flatMap (movesK d k) = oK ++ movesK d k a := by rw [hoK, fl_snoc, List.append_assoc]
      have hEK : movesK d k a = (List.range d.length).flatMap (placesZ d k a) := rfl
      have hOK2 : oK.length ≤ 20000 := by rw [hoK, List.length_append]; omega
      refine pw_skip (pw_seq (pw_block ?_))
      repeat refine pw_seq ?_
      refine pwn ?_
      intros
      repeat refine pw_seq ?_
      refine pw_block (pw_loopL (fun s' : Nat × Nat => s'.1 ≤ d.length) (fun (b, v1) => [(1, .ptr nx v0 0), (3, .sl (nx + 1) v1 5 0 (oK ++ (List.range b).flatMap (placesZ d k a)).length), (4, I k), (5, I a), (6, I b)]) (fun (b, v1) => [.cells v0 35 [L d], .cells v1 110 ((oK ++ (List.range b).flatMap (placesZ d k a)).flatMap Enc.enc)]) (fun s' => d.length - s'.1) (0, v1) [] (by simp) (by simp) (by simp) ?_)
      clear v1
      rintro ⟨b, v1⟩ hb
      simp only at hb ⊢
      obtain ⟨oP, hoP⟩ : ∃ o, o = oK ++ (List.range b).flatMap (placesZ d k a) := ⟨_, rfl⟩
      rw [← hoP]
      repeat refine pw_seq ?_
      refine pwn ?_
      intros
      repeat refine pw_seq ?_
      refine pw_cond rfl (fun hcb => ?_) (fun hcb => ?_)
      · simp at hcb
        have wb := wrN b (by omega)
        have hOP := fmvN (W := placesZ d k a) (c := 49) b fun i hi => nP k a i hca (by omega)
        have hsP : oK ++ (List.range (b + 1)).flatMap (placesZ d k a) = oP ++ placesZ d k a b := by rw [hoP, fl_snoc, List.append_assoc]
        obtain ⟨ta, xa, a1, -, -, a0⟩ := el1 rfl d a hca
        obtain ⟨tb, xb, b1, -, -, b0⟩ := el1 rfl d b hcb
        have ha1 : 1 ≤ d.length - a := by omega
        have hb1 : 1 ≤ d.length - b := by omega
        have hal := hdt ta (List.mem_of_getElem? a1)
        have hbl := hdt tb (List.mem_of_getElem? b1)
        have la : tlen d a = ta.length := by unfold tlen; rw [List.getD_eq_getElem?_getD, a1]; rfl
        have lb : tlen d b = tb.length := by unfold tlen; rw [List.getD_eq_getElem?_getD, b1]; rfl
        have hEP : placesZ d k a b = (List.range (ta.length + 1)).flatMap (rowM d k a b) := by unfold placesZ; rw [la]
        have hER : ∀ i, rowM d k a b i = (List.range (tb.length + 1)).filterMap (cellM d k a b i) := fun i => by unfold rowM; rw [lb]
        have hOP2 : oP.length ≤ 30000 := by rw [hoP, List.length_append]; omega
        refine pw_skip (pw_seq (pw_block ?_))
        repeat refine pw_seq ?_
        refine pwn ?_
        intros
        repeat refine pw_seq ?_
        refine pw_block (pw_loopL (fun s' : Nat × Nat => s'.1 ≤ ta.length + 1) (fun (i, v1) => [(1, .ptr nx v0 0), (3, .sl (nx + 1) v1 5 0 (oP ++ (List.range i).flatMap (rowM d k a b)).length), (4, I k), (5, I a), (6, I b), (7, I i)]) (fun (i, v1) => [.cells v0 35 [L d], .cells v1 110 ((oP ++ (List.range i).flatMap (rowM d k a b)).flatMap Enc.enc)]) (fun s' => ta.length + 1 - s'.1) (0, v1) [] (by simp) (by simp) (by simp) ?_)
        clear v1
        rintro ⟨i, v1⟩ hi
        simp only at hi ⊢
        obtain ⟨oR, hoR⟩ : ∃ o, o = oP ++ (List.range i).flatMap (rowM d k a b) := ⟨_, rfl⟩
        rw [← hoR]
        repeat refine pw_seq ?_
        refine pwN [] (jn3 a0 hca ha1) ?_
        intros
        repeat refine pw_seq ?_
        refine pw_cond rfl (fun hci => ?_) (fun hci => ?_)
        · simp at hci
          have wi := wrN i (by omega)
          have hOR := fmvN (W := rowM d k a b) (c := 7) i fun q _ => nR k a b q hcb
          have hsR : oP ++ (List.range (i + 1)).flatMap (rowM d k a b) = oR ++ rowM d k a b i := by rw [hoR, fl_snoc, List.append_assoc]
          have hOR2 : oR.length ≤ 40000 := by rw [hoR, List.length_append]; omega
          have hERi := hER i
          refine pw_skip (pw_seq (pw_block ?_))
          repeat refine pw_seq ?_
          refine pwn ?_
          intros
          repeat refine pw_seq ?_
          refine pw_block (pw_loopL (fun s' : Nat × Nat => s'.1 ≤ tb.length + 1) (fun (j, v1) => [(1, .ptr nx v0 0), (3, .sl (nx + 1) v1 5 0 (oR ++ (List.range j).filterMap (cellM d k a b i)).length), (4, I k), (5, I a), (6, I b), (7, I i), (8, I j)]) (fun (j, v1) => [.cells v0 35 [L d], .cells v1 110 ((oR ++ (List.range j).filterMap (cellM d k a b i)).flatMap Enc.enc)]) (fun s' => tb.length + 1 - s'.1) (0, v1) [] (by simp) (by simp) (by simp) ?_)
          clear v1
          rintro ⟨j, v1⟩ hj
          simp only at hj ⊢
          obtain ⟨oC, hoC⟩ : ∃ o, o = oR ++ (List.range j).filterMap (cellM d k a b i) := ⟨_, rfl⟩
          rw [← hoC]
          repeat refine pw_seq ?_
          refine pwN [] (jn3 b0 hcb hb1) ?_
          intros
          repeat refine pw_seq ?_
          refine pw_cond rfl (fun hcj => ?_) (fun hcj => ?_)
          · simp at hcj
            have wj := wrN j (by omega)
            have hm := hmay k a b i j (by omega) hca hcb
            have hOC : ((List.range j).filterMap (cellM d k a b i)).length ≤ j := by have := List.length_filterMap_le (cellM d k a b i) (List.range j); simpa using this
            have hsC : oR ++ (List.range (j + 1)).filterMap (cellM d k a b i) = oC ++ (cellM d k a b i j).toList := by
              rw [hoC, List.range_succ, List.filterMap_append, List.append_assoc]
              simp only [List.filterMap_cons, List.filterMap_nil]
              cases cellM d k a b i j <;> rfl
            have hOC2 : oC.length ≤ 50000 := by rw [hoC, List.length_append]; omega
            have hC : cellM d k a b i j = if mayM d ⟨k, a, b, i, j⟩ = true then some ⟨k, a, b, i, j⟩ else none := rfl
            refine pw_skip (pw_seq (pw_block ?_))
            repeat refine pw_seq ?_
            refine pwn ?_
            intro v2
            repeat refine pw_seq ?_
            refine pwn ?_
            refine pwc hm ?_
            intros
            cases hmm : mayM d ⟨k, a, b, i, j⟩ with
            | true =>
              rw [hmm, if_pos rfl] at hC
              repeat refine pw_seq ?_
              refine pwn ?_
              intros
              repeat refine pw_seq ?_
              refine pw_ct rfl ?_
              repeat refine pw_seq ?_
              refine pwn ?_
              refine ⟨by omega, ?_⟩
              intros
              repeat refine pw_seq ?_
              refine pwn ?_
              intros
              exact again_mk (j + 1, v1 + 1) [_] (by simp; omega) (by simp; omega) (by simp [wj, hsC, hC]) rfl (by simp [hsC, hC]; rfl)
            | false =>
              rw [hmm, if_neg (by simp)] at hC
              repeat refine pw_seq ?_
              refine pwn ?_
              intros
              repeat refine pw_seq ?_
              refine pw_cf rfl ?_
              refine pw_skip ?_
              repeat refine pw_seq ?_
              refine pwn ?_
              intros
              exact again_mk (j + 1, v1) [_] (by simp; omega) (by simp; omega) (by simp [wj, hsC, hC]) rfl (by simp [hsC, hC]; rfl)
          · simp at hcj
            obtain rfl : j = tb.length + 1 := by omega
            rw [show oC = oP ++ (List.range (i + 1)).flatMap (rowM d k a b) from by rw [hoC, hsR, hERi]]
            refine pw_exit ?_
            repeat refine pw_seq ?_
            refine pwn ?_
            intros
            exact again_mk (i + 1, v1) [] (by simp; omega) (by simp; omega) (by simp [wi]) rfl (by simp)
        · simp at hci
          obtain rfl : i = ta.length + 1 := by omega
          rw [show oR = oK ++ (List.range (b + 1)).flatMap (placesZ d k a) from by rw [hoR, hsP, hEP]]
          refine pw_exit ?_
          repeat refine pw_seq ?_
          refine pwn ?_
          intros
          exact again_mk (b + 1, v1) [] hcb (by simp; omega) (by simp [wb]) rfl (by simp)
      · simp at hcb
        obtain rfl : b = d.length := by omega
        rw [show oP = oA ++ (List.range (a + 1)).flatMap (movesK d k) from by rw [hoP, hsK, hEK]]
        refine pw_exit ?_
        repeat refine pw_seq ?_
        refine pwn ?_
        intros
        exact again_mk (a + 1, v1) [] hca (by simp; omega) (by simp [wa]) rfl (by simp)
    · simp at hca
      obtain rfl : a = d.length := by omega
      rw [show oK = (List.range (k + 1)).flatMap (movesA d) from by rw [hoK, hsA, hEA]]
      refine pw_exit ?_
      repeat refine pw_seq ?_
      refine pwn ?_
      intros
      exact again_mk (k + 1, v1) [] hk4 (by simp; omega) (by simp [wk]) rfl (by simp)
  · obtain rfl : k = 4 := by omega
    have hE : movesZ d = (List.range 4).flatMap (movesA d) := rfl
    rw [← hE]
    repeat refine pw_seq ?_
    refine pwn ?_
    intros
    repeat refine pw_seq ?_
    refine pw_cf rfl ?_
    refine pw_exit ?_
    refine pw_frz 1 rfl ?_
    repeat refine pw_seq ?_
    refine pwn ?_
    intros
    repeat refine pw_seq ?_
    exact pw_ret (ret_pure hd (by simp; rfl) (by simp [oneOf]))
open Go Go.Proofs
def tG (d : Day) (t : Nat) : Tour := d.getD t []
def sG (u : Tour) (i : Nat) : Stop := u.getD i default
def turnZ (A : Tour) (i j : Nat) : Tour := A.take i ++ ((A.drop i).take (j + 1 - i)).reverse ++ A.drop (j + 1)
def toursR (d : Day) (m : Mv) : Day :=
  if m.k = 0 then d.set m.a (turnZ (tG d m.a) m.i m.j)
  else if m.k = 1 then (d.set m.a ((tG d m.a).take m.i ++ (tG d m.a).drop (m.i + 1))).set m.b ((tG (d.set m.a ((tG d m.a).take m.i ++ (tG d m.a).drop (m.i + 1))) m.b).take m.j ++ sG (tG d m.a) m.i :: (tG (d.set m.a ((tG d m.a).take m.i ++ (tG d m.a).drop (m.i + 1))) m.b).drop m.j)
  else if m.k = 2 then (d.set m.a ((tG d m.a).set m.i (sG (tG d m.b) m.j))).set m.b ((tG (d.set m.a ((tG d m.a).set m.i (sG (tG d m.b) m.j))) m.b).set m.j (sG (tG d m.a) m.i))
  else (d.set m.a ((tG d m.a).take m.i ++ (tG d m.b).drop m.j)).set m.b ((tG d m.b).take m.j ++ (tG d m.a).drop m.i)
def neT (t : Tour) : Bool := !decide (t.length = 0)
theorem pz (d : Day) (t f o : Nat) : pieceZ d ⟨t, f, o, false⟩ = ((tG d t).drop f).take (o - f) := by
  unfold pieceZ tG
  simp only [cond_false]
  split
  · rfl
  · rw [show o - f = 0 by omega]; simp
theorem pzb (d : Day) (t f o : Nat) : pieceZ d ⟨t, f, o, true⟩ = (((tG d t).drop f).take (o - f)).reverse := by
  unfold pieceZ tG
  simp only [cond_true]
  split
  · rfl
  · rw [show o - f = 0 by omega]; simp
theorem pz0 (d : Day) : pieceZ d pc0 = [] := rfl
theorem one_at {A : Tour} {i : Nat} (h : i < A.length) : (A.drop i).take 1 = [sG A i] := by
  have e : sG A i = A[i] := by unfold sG; rw [List.getD_eq_getElem?_getD, List.getElem?_eq_getElem h]; rfl
  rw [List.drop_eq_getElem_cons h, List.take_succ_cons, List.take_zero, e]
theorem all_at (A : Tour) (i : Nat) : (A.drop i).take (A.length - i) = A.drop i := List.take_of_length_le (by simp)
theorem gatherL (d : Day) (a b c e f : Pc) : gatherZ d ⟨a, b, c, e, f⟩ = pieceZ d a ++ (pieceZ d b ++ (pieceZ d c ++ (pieceZ d e ++ pieceZ d f))) := by
  unfold gatherZ Rw5.l; simp
theorem toursR_eq {d : Day} {m : Mv} (h : mayM d m = true) : toursR d m = (d.set m.b (gatherZ d (cutM d m).2)).set m.a (gatherZ d (cutM d m).1) := by
  obtain ⟨hk, ha, hb, -, -⟩ := cut_rows h
  unfold mayM at h
  rw [Bool.and_eq_true] at h
  obtain ⟨-, h2⟩ := h
  have lA : tlen d m.a = (tG d m.a).length := rfl
  have lB : tlen d m.b = (tG d m.b).length := rfl
  have gs : ∀ (t : Nat) (u : Tour), t < d.length → tG (d.set t u) t = u := fun t u ht => by unfold tG; rw [List.getD_eq_getElem?_getD, List.getElem?_set_self ht]; rfl
  have gn : ∀ (t q : Nat) (u : Tour), t ≠ q → tG (d.set t u) q = tG d q := fun t q u ht => by unfold tG; rw [List.getD_eq_getElem?_getD, List.getElem?_set_ne ht, ← List.getD_eq_getElem?_getD]
  unfold mayZ at h2
  rw [lA, lB] at h2
  unfold cutM cutZ toursR
  rw [lA, lB]
  by_cases k0 : m.k = 0
  · rw [if_pos k0] at h2 ⊢
    rw [if_pos k0]
    have h2 := of_decide_eq_true h2
    simp only
    rw [h2.1, List.set_set, gatherL, pz, pzb, pz, pz0, List.drop_zero, Nat.sub_zero, all_at]
    simp [turnZ]
  rw [if_neg k0] at h2 ⊢
  rw [if_neg k0]
  by_cases k1 : m.k = 1
  · rw [if_pos k1] at h2 ⊢
    rw [if_pos k1]
    have h2 := of_decide_eq_true h2
    by_cases hab : m.a = m.b
    · rw [if_pos hab] at h2
      rw [if_neg (by simp [hab]), ← hab, gs _ _ ha, List.set_set]
      rw [← hab] at h2
      have hl : ((tG d m.a).take m.i).length = m.i := by simp; omega
      by_cases hij : m.i < m.j
      · rw [if_pos hij]
        simp only
        rw [List.set_set, gatherL, pz, pz, pz, pz, pz0, List.drop_zero, Nat.sub_zero, all_at, show m.i + 1 - m.i = 1 by omega, one_at h2.1]
        congr 1
        rw [List.take_append, hl, List.take_of_length_le (l := (tG d m.a).take m.i) (by omega), List.drop_append, hl, List.drop_of_length_le (l := (tG d m.a).take m.i) (by omega), List.drop_drop, show m.i + 1 + (m.j - m.i) = m.j + 1 by omega, show m.j + 1 - (m.i + 1) = m.j - m.i by omega]
        simp
      · rw [if_neg hij]
        simp only
        rw [List.set_set, gatherL, pz, pz, pz, pz, pz0, List.drop_zero, Nat.sub_zero, all_at, show m.i + 1 - m.i = 1 by omega, one_at h2.1]
        congr 1
        rw [List.take_append_of_le_length (by omega), List.take_take, show min m.j m.i = m.j by omega, List.drop_append_of_le_length (by omega), List.drop_take]
        simp
    · rw [if_neg hab] at h2
      rw [if_pos hab, gn _ _ _ hab]
      simp only
      rw [gatherL, gatherL, pz, pz, pz, pz, pz, pz0, List.drop_zero, List.drop_zero, Nat.sub_zero, Nat.sub_zero, all_at, all_at, show m.i + 1 - m.i = 1 by omega, one_at h2.1, List.set_comm _ _ hab]
      simp
  rw [if_neg k1] at h2 ⊢
  rw [if_neg k1]
  by_cases k2 : m.k = 2
  · rw [if_pos k2] at h2 ⊢
    rw [if_pos k2]
    have h2 := of_decide_eq_true h2
    obtain ⟨h20, h21, h22⟩ := h2
    by_cases hab : m.a = m.b
    · rw [if_pos hab, ← hab, gs _ _ ha, List.set_set]
      rw [← hab] at h22
      have hij : m.i < m.j := by omega
      simp only
      rw [List.set_set, gatherL, pz, pz, pz, pz, pz, List.drop_zero, Nat.sub_zero, all_at, show m.i + 1 - m.i = 1 by omega, show m.j + 1 - m.j = 1 by omega, one_at h21, one_at h22]
      congr 1
      rw [List.set_eq_take_append_cons_drop, if_pos (by simp; omega), List.take_set, List.drop_set_of_lt (by omega), List.set_eq_take_append_cons_drop, if_pos (by simp; omega), List.take_take, show min m.i m.j = m.i by omega, List.drop_take]
      simp
    · rw [if_neg hab, gn _ _ _ hab]
      simp only
      rw [gatherL, gatherL, pz, pz, pz, pz, pz, pz, pz0, List.drop_zero, List.drop_zero, Nat.sub_zero, Nat.sub_zero, all_at, all_at, show m.i + 1 - m.i = 1 by omega, show m.j + 1 - m.j = 1 by omega, one_at h21, one_at h22, List.set_comm _ _ hab]
      rw [List.set_eq_take_append_cons_drop (l := tG d m.a), if_pos h21, List.set_eq_take_append_cons_drop (l := tG d m.b), if_pos h22]
      simp
  rw [if_neg k2] at h2 ⊢
  rw [if_neg k2]
  have h2 := of_decide_eq_true h2
  have hab : m.a ≠ m.b := by omega
  simp only
  rw [gatherL, gatherL, pz, pz, pz, pz, pz0, List.drop_zero, List.drop_zero, Nat.sub_zero, Nat.sub_zero, all_at, all_at, List.set_comm _ _ hab]
  simp
theorem fm_filter (d : Day) (m : Mv) : ∀ l : List Nat, l.filterMap (mkT1 d m) = (l.map (mkT d m)).filter neT
  | [] => rfl
  | i :: l => by
    have e : mkT1 d m i = if (mkT d m i).length = 0 then none else some (mkT d m i) := rfl
    rw [List.filterMap_cons, e, List.map_cons, List.filter_cons, fm_filter d m l]
    by_cases h : (mkT d m i).length = 0
    · rw [if_pos h]; simp [neT, h]
    · rw [if_neg h]; simp [neT, h]
theorem make_eq {d : Day} {m : Mv} (h : mayM d m = true) : mkZ d m = (toursR d m).filter neT := by
  unfold mkZ
  rw [fm_filter, mkT_map, toursR_eq h]
end Go.Proofs.YtafcjklojnhbnaaGreat.Pv
