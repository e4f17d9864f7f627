/- savings.Join: told by a function of all pairs. -/
import Derived.Test.YtafcjklojnhbnaaGreatVl
import Derived.Test.YtafcjklojnhbnaaGreatVi
namespace Go.Proofs.YtafcjklojnhbnaaGreat.Pv
open Go Hp

/-- The joiner's state behind i pairs. -/
def joinTo (x : Inst) (ss : List Stop) (i : Nat) : Day × Int := ((pairsP x (ss.map (·.c))).take i).foldl (joinS x) (ss.map fun s => [s], (ss.length : Int))
theorem joinTo_zero (x : Inst) (ss : List Stop) : joinTo x ss 0 = (ss.map fun s => [s], (ss.length : Int)) := by simp [joinTo]
theorem joinTo_succ {x : Inst} {ss : List Stop} {i : Nat} {p : Pr} (h : (pairsP x (ss.map (·.c)))[i]? = some p) : joinTo x ss (i + 1) = joinS x (joinTo x ss i) p := by
  unfold joinTo
  obtain ⟨h1, e⟩ := List.getElem?_eq_some_iff.1 h
  rw [List.take_succ_eq_append_getElem h1, e, List.foldl_append]; rfl
theorem joinTo_all (x : Inst) (ss : List Stop) : joinTo x ss (pairsP x (ss.map (·.c))).length = joinAll x ss := by simp [joinTo, joinAll]
theorem joinS_num (x : Inst) (T : Day) (num : Int) (p : Pr) : num - 1 ≤ (joinS x (T, num) p).2 ∧ (joinS x (T, num) p).2 ≤ num := by
  unfold joinS joinAt
  cases joinC x (T, num).2 p (placeT (T, num).1 p.a) (placeT (T, num).1 p.b) ((T, num).1.getD (placeT (T, num).1 p.a) []) ((T, num).1.getD (placeT (T, num).1 p.b) []) <;> simp <;> omega

set_option maxRecDepth 20000 in
set_option maxHeartbeats 1600000 in
theorem join_all_ok (x : Inst) (ss : List Stop) (hx : ArcOk x) (hxc : x.cust.length ≤ 1048576) (hss : ss.length ≤ 1000) (hs : ∀ s ∈ ss, small s.c) (hnd : (ss.map (·.c)).Nodup) : Pure Tryz.prog 61 [.agg (instL x), L ss] (.agg [L (joinP x ss)]) := by
  have hpl := pairsP_le (x := x) hnd (by simpa using hss)
  have hkey : KeyOk (.int .i64) keyI := keyOk_int .i64
  have hdist : ∀ k s, ss[k]? = some s → s.c ∉ (ss.take k).map (·.c) := by
    intro k s h hm
    obtain ⟨s', h1, h2⟩ := List.mem_map.1 hm
    obtain ⟨j, hj⟩ := List.mem_iff_getElem?.1 h1
    rw [List.getElem?_take] at hj
    split at hj
    · rename_i hjk
      have e1 : (ss.map (·.c))[j]? = some s.c := by rw [List.getElem?_map, hj, ← h2]; rfl
      have e2 : (ss.map (·.c))[k]? = some s.c := by rw [List.getElem?_map, h]; rfl
      obtain ⟨g1, g2⟩ := List.getElem?_eq_some_iff.1 e1
      obtain ⟨g3, g4⟩ := List.getElem?_eq_some_iff.1 e2
      exact List.pairwise_iff_getElem.1 hnd j k g1 g3 hjk (g2.trans g4.symm)
    · cases hj
  refine pure_enter Tryz.func61 (by rfl) rfl Tryz.ntmps61 (congrArg Array.toList Tryz.results61) (by simp) fun S nx hd => ?_
  repeat refine pw_seq ?_
  refine pw_N [] (by rfl) (by rfl) fun K Gc Gh hK hGc hGh X hX0 hX => ?_
  simp -implicitDefEqProofs [hX0, hX]
  try clear hX0 hX X
  intro v0 v1
  refine hK _ _ _ ?_
  clear hK hGc hGh
  clear K Gc Gh
  repeat refine pw_seq ?_
  refine pw_N [] (by rfl) (by rfl) fun K Gc Gh hK hGc hGh X hX0 hX => ?_
  simp -implicitDefEqProofs [hX0, hX]
  try clear hX0 hX X
  intro v2 v3 v4
  refine hK _ _ _ ?_
  clear hK hGc hGh
  clear K Gc Gh
  refine pw_nilObX 3 6 26 1 rfl rfl fun v5 => ?_
  repeat refine pw_seq ?_
  refine pw_N [] (by rfl) (by rfl) fun K Gc Gh hK hGc hGh X hX0 hX => ?_
  simp -implicitDefEqProofs [hX0, hX]
  try clear hX0 hX X
  intros
  refine hK _ _ _ ?_
  clear hK hGc hGh
  clear K Gc Gh
  repeat refine pw_seq ?_
  refine pw_block (pw_loopL (fun s : Nat × Day × List (Value × PV) × (Int → Option Int) × Nat => s.1 ≤ ss.length ∧ s.2.1 = (ss.take s.1).map (fun s => [s]) ∧ MapIs keyI I s.2.2.1 s.2.2.2.1 ∧ JI (ss.take s.1) s.2.1 s.2.2.2.1) (fun (k, T, es, g, v5) => [(1, L ss), (2, .ptr nx v0 0), (4, .ptr (nx + 1) v1 0), (5, .ptr (nx + 4) v4 0), (18, L ss), (19, I ss.length), (20, I k)])
    (fun (k, T, es, g, v5) => [.cells v0 25 (instL x), .cells v1 35 [.sc (.slice none 0 0)], .map v2 es, .cells v3 136 (jcells x (nx + 5) v5 k ss.length (nx + 2) v2), .cells v4 133 [.ptr (nx + 3) v3 0], .cells v5 26 (T.flatMap Enc.enc)]) (fun s => ss.length - s.1) (0, [], [], fun _ => none, v5) [] ⟨by simp, by simp, mapIs_nil _ _, by simpa using JI.nil⟩ (by simp) (by simp) ?_)
  rintro ⟨k, T, es, g, v5⟩ ⟨hk, hT, hm, hI⟩
  simp only at hk hT hm hI ⊢
  have hTl : T.length = k := by rw [hT]; simp; omega
  repeat refine pw_seq ?_
  refine pw_N [] (by rfl) (by rfl) fun K Gc Gh hK hGc hGh X hX0 hX => ?_
  simp -implicitDefEqProofs [hX0, hX]
  try clear hX0 hX X
  intros
  refine hK _ _ _ ?_
  clear hK hGc hGh
  clear K Gc Gh
  repeat refine pw_seq ?_
  refine pw_cond rfl (fun hq => ?_) (fun hq => ?_)
  · simp at hq
    obtain ⟨s, tl, a1, a2, a3, e1, e0⟩ := el 2 rfl ss k hq
    obtain ⟨rs, f1, _, _, f4, _⟩ := hm.find hkey s.c
    have hnew := f4 (k : Int)
    have hIn := hI.snoc s (hdist k s a1)
    have hkl : (ss.take k).length = k := by simp; omega
    rw [hkl, ← a3] at hIn
    have hTs : T ++ [[s]] = (ss.take (k + 1)).map fun s => [s] := by rw [a3, hT]; simp
    have htf : (T.flatMap Enc.enc).take k = T.flatMap Enc.enc := List.take_of_length_le (by rw [flen_list]; omega)
    have htl : (T.flatMap Enc.enc).length = k := by rw [flen_list, hTl]
    refine pw_skip (pw_seq (pw_block ?_))
    repeat refine pw_seq ?_
    refine pw_N [] (by rfl) (by rfl) fun K Gc Gh hK hGc hGh X hX0 hX => ?_
    simp -implicitDefEqProofs [hX0, hX, e0, hq]
    try clear hX0 hX X
    intro v6
    refine hK _ _ _ ?_
    clear hK hGc hGh
    clear K Gc Gh
    repeat refine pw_seq ?_
    refine pw_Y (some [nx + 4, nx + 6]) (Row.pures [0, 1, 2, 3, 5, 6, 7] (.alt 4 (.alt 8 (Row.pures [9, 10] (.alt 11 (.done) .stop)) .stop) .stop)) mixed (by rfl) (by rfl) (by rfl) fun K Gp Gc Gh hK hGp hGc hGh X hX0 hX1 hX2 hX => ?_
    simp -implicitDefEqProofs [hX0, hX1, hX2, hX, htf]
    try clear hX0 hX1 hX2 hX X
    refine ⟨⟨by omega, by omega⟩, ?_⟩
    refine hK _ _ _ ?_
    clear hK hGp hGc hGh
    clear K Gp Gc Gh
    repeat refine pw_seq ?_
    refine pw_Y (some [nx + 3, nx + 4, nx + 6]) (Row.pures [0, 1, 2, 3, 4, 5, 6] (.alt 7 (.done) .stop)) mixed (by rfl) (by rfl) (by rfl) fun K Gp Gc Gh hK hGp hGc hGh X hX0 hX1 hX2 hX => ?_
    simp -implicitDefEqProofs [hX1, hX2, hX]
    try clear hX0 hX1 hX2 hX X
    refine hGh _ _ _ _ _ (by rfl) (po_mapUpdate (.inl rfl) Tryz.underlying134 Tryz.underlying3 rfl rfl rfl (by simp) f1 ?_)
    rw [ext_set _ (by omega) (by simp), show nx + 2 - nx = 2 from by omega]
    refine ⟨by simp [Agree], ?_⟩
    clear hGp hGc hGh
    clear Gp Gc Gh
    refine px_go fun Gp Gc Gh hGp hGc hGh X hX0 hX1 hX2 hX => ?_
    simp -implicitDefEqProofs [hX0]
    try clear hX0 hX1 hX2 hX X
    refine hK _ _ _ ?_
    clear hK hGp hGc hGh
    clear K Gp Gc Gh
    repeat refine pw_seq ?_
    refine pw_N [] (by rfl) (by rfl) fun K Gc Gh hK hGc hGh X hX0 hX => ?_
    simp -implicitDefEqProofs [hX0, hX]
    try clear hX0 hX X
    intros
    refine hK _ _ _ ?_
    clear hK hGc hGh
    clear K Gc Gh
    exact again_mk (k + 1, T ++ [[s]], putP (keyI s.c) (I k) es rs, updM g s.c (some (k : Int)), v5 + 1) [_] ⟨hq, hTs, hnew, hIn⟩ (by simp; omega) (by simp [wrN k (by omega)]) rfl (by simp; rfl)
  · simp at hq
    obtain rfl : k = ss.length := by omega
    rw [List.take_length] at hT hI
    refine pw_exit ?_
    repeat refine pw_seq ?_
    refine pw_N [] (by rfl) (by rfl) fun K Gc Gh hK hGc hGh X hX0 hX => ?_
    simp -implicitDefEqProofs [hX]
    try clear hX0 hX X
    refine hGc _ _ _ _ _ _ _ fun hsuf => ((eachP_ok x ss _).mono ?_).v
    rintro _ _ ⟨rfl, rfl⟩
    refine ⟨_, _, rfl, ?_⟩
    clear hGc hGh
    clear Gc Gh
    refine xs_go hsuf (D := []) (by rfl) fun Gc Gh hGc hGh X hX0 hX => ?_
    simp -implicitDefEqProofs [hX0]
    try clear hX0 hX X
    intros
    refine hK _ _ _ ?_
    clear hK hGc hGh
    clear K Gc Gh
    repeat refine pw_seq ?_
    refine pw_block (pw_rangeFunc (xs := (pairsP x (ss.map (·.c))).map prV) (σ := Day × Int × List (Value × PV) × (Int → Option Int)) (fun i s => (s.1, s.2.1) = joinTo x ss i ∧ i ≤ (pairsP x (ss.map (·.c))).length ∧ MapIs keyI I s.2.2.1 s.2.2.2 ∧ JI ss s.1 s.2.2.2 ∧ (ss.length : Int) - i ≤ s.2.1 ∧ s.2.1 ≤ ss.length) [(4, .ptr (nx + 1) v1 0), (5, .ptr (nx + 4) v4 0)] (fun _ => S)
      (fun (T, num, es, g) => [.cells v0 25 (instL x), .cells v1 35 [.sc (.slice none 0 0)], .map v2 es, .cells v3 136 (jcells x (nx + 5) v5 ss.length num (nx + 2) v2), .cells v4 133 [.ptr (nx + 3) v3 0], .cells v5 26 (T.flatMap Enc.enc)]) (T, (ss.length : Int), es, g)
      (each_iter x ss hx (by omega) hs hnd) rfl (by intro x hx; obtain ⟨y, _, rfl⟩ := List.mem_map.1 hx; rfl) (by decide) (by simp) ⟨by rw [joinTo_zero, hT], by simp, hm, hI, by simp, by simp⟩ rfl (by simp) (by simp) ?_ ?_)
    · clear hm hI hT hTl
      rintro l i ⟨T, num, es, g⟩ more y ⟨hst, hi, hm, hI, hn1, hn2⟩ hy
      simp only at hst hi hm hI hn1 hn2 ⊢
      rw [List.getElem?_map] at hy
      obtain ⟨p, hp, rfl⟩ := Option.map_eq_some_iff.1 hy
      obtain ⟨hil, hpi⟩ := List.getElem?_eq_some_iff.1 hp
      have hmem := prsAll_mem.1 ((pairsP_perm x _).subset (List.mem_of_getElem? hp))
      have hsucc := joinTo_succ hp
      rw [← hst] at hsucc
      obtain ⟨nb1, nb2⟩ := joinS_num x T num p
      repeat refine pw_seq ?_
      refine pw_N [] (by rfl) (by rfl) fun K Gc Gh hK hGc hGh X hX0 hX => ?_
      simp -implicitDefEqProofs [hX0, hX, prV]
      try clear hX0 hX X
      intro v6
      refine hK _ _ _ ?_
      clear hK hGc hGh
      clear K Gc Gh
      refine pw_block ?_
      repeat refine pw_seq ?_
      refine pw_N [] (by rfl) (by rfl) fun K Gc Gh hK hGc hGh X hX0 hX => ?_
      simp -implicitDefEqProofs [hX]
      try clear hX0 hX X
      refine hGc _ _ _ _ _ _ _ fun hsuf => ((join_ok x ss T g num es hxc hss (by omega) hI hm (jid := nx + 3) (tid := nx + 5) (mid := nx + 2) (by rw [ext_at]; rfl) (by rw [ext_at]; rfl) (by rw [ext_at]; rfl) (by omega) (by omega) (by omega) p hmem.1 hmem.2.1).mono ?_).v
      rintro _ _ ⟨es2, g2, m2, i2, rfl⟩
      refine ⟨_, _, (by rw [ext_set _ (by omega) (by simp), ext_set _ (by omega) (by simp), ext_set _ (by omega) (by simp)]), ?_⟩
      clear hGc hGh
      clear Gc Gh
      refine xs_go hsuf (D := []) (by rfl) fun Gc Gh hGc hGh X hX0 hX => ?_
      simp -implicitDefEqProofs [hX0, (show nx + 3 - nx = 3 from by omega), (show nx + 5 - nx = 5 from by omega), (show nx + 2 - nx = 2 from by omega)]
      clear hX0 hX X
      intros
      refine hK _ _ _ ?_
      clear hK hGc hGh
      clear K Gc Gh
      simp only [inBlockQ]
      exact rnd_mk ((joinS x (T, num) p).1, (joinS x (T, num) p).2, es2, g2) [_] ⟨hsucc.symm, by omega, m2, i2, by simp only; omega, by simp only; omega⟩ rfl (by simp; rfl)
    · clear hm hI hT hTl
      rintro ⟨T, num, es, g⟩ ⟨hst, -, hm, hI, -, -⟩
      simp only [List.length_map] at hst hI ⊢
      rw [joinTo_all] at hst
      have hTl := hI.len
      have hjp : joinP x ss = T.filter fun t => !t.isEmpty := by unfold joinP; rw [← hst]
      rw [hjp]
      repeat refine pw_seq ?_
      refine pw_N [] (by rfl) (by rfl) fun K Gc Gh hK hGc hGh X hX0 hX => ?_
      simp -implicitDefEqProofs [hX0, hX]
      try clear hX0 hX X
      intro v6
      refine hK _ _ _ ?_
      clear hK hGc hGh
      clear K Gc Gh
      refine pw_nilObX 6 0 66 1 rfl rfl fun v7 => ?_
      repeat refine pw_seq ?_
      refine pw_N [] (by rfl) (by rfl) fun K Gc Gh hK hGc hGh X hX0 hX => ?_
      simp -implicitDefEqProofs [hX0, hX]
      try clear hX0 hX X
      intros
      refine hK _ _ _ ?_
      clear hK hGc hGh
      clear K Gc Gh
      repeat refine pw_seq ?_
      refine pw_block (pw_loopL (fun s : Nat × Day × Nat => s.1 ≤ T.length ∧ s.2.1 = (T.take s.1).filter fun t => !t.isEmpty) (fun (k, out, v7) => [(4, .ptr (nx + 1) v1 0), (9, .ptr (nx + 6) v6 0), (54, .sl (nx + 5) v5 1 0 ss.length), (55, I ss.length), (56, I k)]) (fun (k, out, v7) => [.cells v0 25 (instL x), .cells v1 35 [.sc (.slice none 0 0)], .map v2 es, .cells v3 136 (jcells x (nx + 5) v5 ss.length num (nx + 2) v2), .cells v4 133 [.ptr (nx + 3) v3 0], .cells v5 26 (T.flatMap Enc.enc), .cells v6 35 [.sl (nx + 7) v7 1 0 out.length], .cells v7 66 (out.flatMap Enc.enc)]) (fun s => T.length - s.1) (0, [], v7) [] ⟨by simp, by simp⟩ (by simp) (by simp) ?_)
      rintro ⟨k, out, v7⟩ ⟨hk, ho⟩
      simp only at hk ho ⊢
      have hol : out.length ≤ k := by rw [ho]; exact Nat.le_trans (List.length_filter_le _ _) (by simp; omega)
      repeat refine pw_seq ?_
      refine pw_N [] (by rfl) (by rfl) fun K Gc Gh hK hGc hGh X hX0 hX => ?_
      simp -implicitDefEqProofs [hX0, hX]
      try clear hX0 hX X
      intros
      refine hK _ _ _ ?_
      clear hK hGc hGh
      clear K Gc Gh
      repeat refine pw_seq ?_
      refine pw_cond rfl (fun hq => ?_) (fun hq => ?_)
      · simp at hq
        obtain ⟨t, tl, a1, a2, a3, e0⟩ := el1 rfl T k (by omega)
        have hfs : (T.take (k + 1)).filter (fun t => !t.isEmpty) = out ++ (if t = [] then [] else [t]) := by
          rw [a3, List.filter_append, ← ho]
          cases t <;> simp
        refine pw_skip (pw_seq (pw_block ?_))
        repeat refine pw_seq ?_
        refine pw_N [] (by rfl) (by rfl) fun K Gc Gh hK hGc hGh X hX0 hX => ?_
        simp -implicitDefEqProofs [hX0, hX, e0, hq]
        try clear hX0 hX X
        intros
        refine hK _ _ _ ?_
        clear hK hGc hGh
        clear K Gc Gh
        repeat refine pw_seq ?_
        refine pw_N [] (by rfl) (by rfl) fun K Gc Gh hK hGc hGh X hX0 hX => ?_
        simp -implicitDefEqProofs [hX0, hX]
        try clear hX0 hX X
        intros
        refine hK _ _ _ ?_
        clear hK hGc hGh
        clear K Gc Gh
        cases t with
        | nil =>
          rw [if_pos rfl, List.append_nil] at hfs
          repeat refine pw_seq ?_
          refine pw_cf (by simp) ?_
          refine pw_skip ?_
          repeat refine pw_seq ?_
          refine pw_N [] (by rfl) (by rfl) fun K Gc Gh hK hGc hGh X hX0 hX => ?_
          simp -implicitDefEqProofs [hX0, hX]
          try clear hX0 hX X
          intros
          refine hK _ _ _ ?_
          clear hK hGc hGh
          clear K Gc Gh
          exact again_mk (k + 1, out, v7) [] ⟨by omega, hfs.symm⟩ (by simp; omega) (by simp [wrN k (by omega)]) rfl (by simp)
        | cons s t =>
          rw [if_neg (by simp)] at hfs
          repeat refine pw_seq ?_
          refine pw_ct (by simp) ?_
          repeat refine pw_seq ?_
          refine pw_N [] (by rfl) (by rfl) fun K Gc Gh hK hGc hGh X hX0 hX => ?_
          simp -implicitDefEqProofs [hX0, hX]
          try clear hX0 hX X
          refine ⟨by omega, ?_⟩
          intros
          refine hK _ _ _ ?_
          clear hK hGc hGh
          clear K Gc Gh
          repeat refine pw_seq ?_
          refine pw_N [] (by rfl) (by rfl) fun K Gc Gh hK hGc hGh X hX0 hX => ?_
          simp -implicitDefEqProofs [hX0, hX]
          try clear hX0 hX X
          intros
          refine hK _ _ _ ?_
          clear hK hGc hGh
          clear K Gc Gh
          exact again_mk (k + 1, out ++ [s :: t], v7 + 1) [] ⟨by omega, hfs.symm⟩ (by simp; omega) (by simp [wrN k (by omega)]) rfl (by simp)
      · simp at hq
        obtain rfl : k = T.length := by omega
        rw [List.take_length] at ho
        refine pw_exit ?_
        refine pw_frz 7 rfl ?_
        repeat refine pw_seq ?_
        refine pw_N [] (by rfl) (by rfl) fun K Gc Gh hK hGc hGh X hX0 hX => ?_
        simp -implicitDefEqProofs [hX0, hX]
        try clear hX0 hX X
        intros
        refine hK _ _ _ ?_
        clear hK hGc hGh
        clear K Gc Gh
        repeat refine pw_seq ?_
        exact pw_ret (ret_pure hd (by simp; rfl) (by simp [oneOf, ho]))

end Go.Proofs.YtafcjklojnhbnaaGreat.Pv
