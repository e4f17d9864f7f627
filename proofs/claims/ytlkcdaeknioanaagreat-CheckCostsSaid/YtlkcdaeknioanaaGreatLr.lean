/- Plans made of any (tranterref16.Made): what is so of them. -/
import Derived.Test.YtlkcdaeknioanaaGreatLq
namespace Go.Proofs.YtlkcdaeknioanaaGreat.Pv
open Go

def cntP (p : Plan) : Nat := (p.map fun d => d.flatten.length).sum
theorem cnt_set {p : Plan} {k : Nat} {d e : Day} (h : p[k]? = some d) (he : e.flatten.length = d.flatten.length + 1) : cntP (p.set k e) = cntP p + 1 := by
  induction p generalizing k with
  | nil => cases h
  | cons a p ih =>
    cases k with
    | zero =>
      simp only [List.getElem?_cons_zero, Option.some.injEq] at h; subst h
      simp only [List.set_cons_zero, cntP, List.map_cons, List.sum_cons, he]; omega
    | succ k =>
      have := ih (k := k) (by simpa using h)
      simp only [List.set_cons_succ, cntP, List.map_cons, List.sum_cons] at this ⊢; omega
theorem told_cnt : ∀ (p : Plan) (i : Nat), (told i p).length = cntP p
  | [], _ => rfl
  | d :: p, i => by
    have := told_cnt p (i + 1)
    simp only [told, List.length_append, List.length_map, cntP, List.map_cons, List.sum_cons] at this ⊢; omega

structure MadeP (m : Nat) (n : Nat) (p : Plan) : Prop where
  len : p.length = n
  ne : ∀ d ∈ p, ∀ t ∈ d, t ≠ []
  ok : ∀ d ∈ p, ∀ s ∈ d.flatten, (0 ≤ s.c ∧ s.c < m) ∧ 1 ≤ s.q ∧ s.q ≤ 2147483648
  nd : ∀ d ∈ p, (d.flatten.map (·.c)).Nodup

theorem ne_len : ∀ (d : Day), (∀ t ∈ d, t ≠ []) → d.length ≤ d.flatten.length
  | [], _ => by simp
  | t :: d, h => by
    have h1 := ne_len d fun u hu => h u (by simp [hu])
    have h2 := List.length_pos_iff.2 (h t (by simp))
    simp only [List.flatten_cons, List.length_cons, List.length_append]; omega
theorem tour_le : ∀ (d : Day) (t : Tour), t ∈ d → t.length ≤ d.flatten.length
  | [], _, h => by cases h
  | u :: d, t, h => by
    simp only [List.flatten_cons, List.length_append]
    rcases List.mem_cons.1 h with rfl | h
    · omega
    · have := tour_le d t h; omega
theorem day_le : ∀ (p : Plan) (d : Day), d ∈ p → d.flatten.length ≤ cntP p
  | [], _, h => by cases h
  | u :: p, d, h => by
    simp only [cntP, List.map_cons, List.sum_cons]
    rcases List.mem_cons.1 h with rfl | h
    · omega
    · have := day_le p d h; simp only [cntP] at this; omega

theorem MadeP.set {m n : Nat} {p : Plan} (h : MadeP m n p) {k : Nat} {d : Day} (hd : p[k]? = some d) (x : Inst) (s : Stop) (j : Bool) (hs : (0 ≤ s.c ∧ s.c < m) ∧ 1 ≤ s.q ∧ s.q ≤ 2147483648) (hno : ∀ u ∈ d.flatten, u.c ≠ s.c) : MadeP m n (p.set k (putD x d s j)) := by
  have hdm := List.mem_of_getElem? hd
  refine ⟨by simp [h.len], fun e he t ht => ?_, fun e he u hu => ?_, fun e he => ?_⟩
  · rcases List.mem_or_eq_of_mem_set he with he | rfl
    · exact h.ne e he t ht
    · exact putD_ne x d s j (h.ne d hdm) t ht
  · rcases List.mem_or_eq_of_mem_set he with he | rfl
    · exact h.ok e he u hu
    · rw [putD_flat] at hu
      rcases List.mem_append.1 hu with hu | hu
      · exact h.ok d hdm u hu
      · rw [List.mem_singleton.1 hu]; exact hs
  · rcases List.mem_or_eq_of_mem_set he with he | rfl
    · exact h.nd e he
    · rw [putD_flat, List.map_append]
      exact nodup_snoc _ _ (h.nd d hdm) (fun hm => by obtain ⟨u, hu, e⟩ := List.mem_map.1 hm; exact hno u hu e)

theorem zeros_day (n : Nat) : zerosP n (.agg #[.slice none 0 0]) = List.replicate n (.sc (.slice none 0 0)) := by
  induction n with
  | zero => simp
  | succ n ih => rw [zerosP_succ', ih]; rfl
theorem empty_days (n : Nat) : (List.replicate n ([] : Day)).flatMap Enc.enc = List.replicate n (L ([] : Day)) := by
  induction n with
  | zero => simp
  | succ n ih => rw [List.replicate_succ, List.flatMap_cons, ih]; rfl

structure InstMade (x : Inst) (n : Nat) : Prop where
  days : x.days = n
  n16 : n ≤ 16
  cust : x.cust.length ≤ 1000
  made : ∀ c ∈ x.cust, CustMade c n
  cap : x.cap ≤ 2147483648

set_option maxRecDepth 20000 in
theorem made_ok (x : Inst) (n : Nat) (pick : List Int) (joins : List Bool) (hx : InstMade x n) (hpk : ∀ z ∈ pick, I64 z) :
    RSpec Tryz.prog 12 [.agg (instL x), L pick, L joins] (fun p => ∃ (pl : Plan) (b : Bool), p = .tup [.agg [L pl], B b] ∧ (b = true → MadeP x.cust.length n pl ∧ cntP pl ≤ 64000)) := by
  have hn := hx.n16
  have hxd := hx.days
  have hxc := hx.cust
  refine rspec_enter Tryz.func12 (by rfl) rfl Tryz.ntmps12 (congrArg Array.toList Tryz.results12) (by simp) fun S nx hd => ?_
  repeat refine pw_seq ?_
  refine pw_N [] (by rfl) (by rfl) fun K Gc Gh hK hGc hGh X hX0 hX => ?_
  simp -implicitDefEqProofs [hX0, hX]
  try clear hX0 hX X
  intro v0 v1
  refine hK _ _ _ ?_
  clear hK hGc hGh
  clear K Gc Gh
  repeat refine pw_seq ?_
  refine pw_N [] (by rfl) (by rfl) fun K Gc Gh hK hGc hGh X hX0 hX => ?_
  simp -implicitDefEqProofs [hX0, hX]
  try clear hX0 hX X
  intro v2
  refine hK _ _ _ ?_
  clear hK hGc hGh
  clear K Gc Gh
  repeat refine pw_seq ?_
  refine pw_N [] (by rfl) (by rfl) fun K Gc Gh hK hGc hGh X hX0 hX => ?_
  simp -implicitDefEqProofs [hX0, hX, hxd]
  try clear hX0 hX X
  refine ⟨by omega, fun v3 => ?_⟩
  intros
  refine hK _ _ _ ?_
  clear hK hGc hGh
  clear K Gc Gh
  refine pw_wkO 3 ((List.replicate n ([] : Day)).flatMap Enc.enc) rfl (by rw [zeros_day, empty_days]; exact wk_replicate _ _ Wk.nil n) ?_
  simp only [List.set_cons_succ, List.set_cons_zero]
  repeat refine pw_seq ?_
  refine pw_N [] (by rfl) (by rfl) fun K Gc Gh hK hGc hGh X hX0 hX => ?_
  simp -implicitDefEqProofs [hX0, hX]
  try clear hX0 hX X
  intros
  refine hK _ _ _ ?_
  clear hK hGc hGh
  clear K Gc Gh
  repeat refine pw_seq ?_
  refine pw_block (pw_loopL (fun s : Nat × Plan => s.1 ≤ x.cust.length ∧ MadeP x.cust.length n s.2 ∧ cntP s.2 ≤ 64 * s.1 ∧ ∀ d ∈ s.2, ∀ u ∈ d.flatten, u.c < s.1) (fun (i, pl) => [(1, L pick), (2, L joins), (3, .ptr nx v0 0), (6, .ptr (nx + 1) v1 0), (8, .ptr (nx + 2) v2 0), (9, I i)])
    (fun (i, pl) => [.cells v0 25 (instL x), .cells v1 30 [.sc (.slice none 0 0)], .cells v2 30 [.sl (nx + 3) v3 1 0 n], .cells v3 45 (pl.flatMap Enc.enc)]) (fun s => x.cust.length - s.1) (0, List.replicate n []) [] ?_ (by simp) (by simp) ?_)
  · refine ⟨by simp, ⟨by simp, fun d hd t ht => ?_, fun d hd s hs => ?_, fun d hd => ?_⟩, ?_, fun d hd u hu => ?_⟩
    · rw [(List.mem_replicate.1 hd).2] at ht; cases ht
    · rw [(List.mem_replicate.1 hd).2] at hs; simp at hs
    · rw [(List.mem_replicate.1 hd).2]; simp
    · have : ∀ k : Nat, cntP (List.replicate k []) = 0 := by
        intro k; induction k with
        | zero => rfl
        | succ k ih => simp [cntP, List.replicate_succ] at ih ⊢
      simp [this]
    · rw [(List.mem_replicate.1 hd).2] at hu; simp at hu
  rintro ⟨i, pl⟩ ⟨hi, hm, hcnt, hlow⟩
  simp only at hi hm hcnt hlow ⊢
  repeat refine pw_seq ?_
  refine pw_N [] (by rfl) (by rfl) fun K Gc Gh hK hGc hGh X hX0 hX => ?_
  simp -implicitDefEqProofs [hX0, hX]
  try clear hX0 hX X
  intros
  refine hK _ _ _ ?_
  clear hK hGc hGh
  clear K Gc Gh
  repeat refine pw_seq ?_
  refine pw_cond rfl (fun hc => ?_) (fun hc => ?_)
  · simp at hc
    obtain ⟨c, tl, a1, a2, a3, _, e0⟩ := el 8 rfl x.cust i hc
    have hcm := hx.made c (List.mem_of_getElem? a1)
    refine pw_skip (pw_seq (pw_block ?_))
    repeat refine pw_seq ?_
    refine pw_Y (some [nx]) (Row.pures [0, 1, 2, 3, 4, 5, 6, 7] (.alt 8 (Row.pures [9, 10, 11, 12, 13] .done) .stop)) mixed (by rfl) (by rfl) (by rfl) fun K Gp Gc Gh hK hGp hGc hGh X hX0 hX1 hX2 hX => ?_
    simp -implicitDefEqProofs [hX1, hX2, hX, hc, e0]
    try clear hX0 hX1 hX2 hX X
    refine hGc _ _ _ _ _ _ _ (((visitsM_ok x c n i pick hcm hxd hn hx.cap hpk _).mono ?_).v)
    rintro _ _ ⟨⟨v, b, rfl, hg⟩, rfl⟩
    refine ⟨by simp, ?_⟩
    clear hGp hGc hGh
    clear Gp Gc Gh
    refine px_go fun Gp Gc Gh hGp hGc hGh X hX0 hX1 hX2 hX => ?_
    simp -implicitDefEqProofs [hX0, hX2]
    try clear hX0 hX1 hX2 hX X
    refine hK _ _ _ ?_
    clear hK hGp hGc hGh
    clear K Gp Gc Gh
    cases b with
    | false =>
      repeat refine pw_seq ?_
      refine pw_N [] (by rfl) (by rfl) fun K Gc Gh hK hGc hGh X hX0 hX => ?_
      simp -implicitDefEqProofs [hX0, hX]
      try clear hX0 hX X
      intros
      refine hK _ _ _ ?_
      clear hK hGc hGh
      clear K Gc Gh
      repeat refine pw_seq ?_
      refine pw_ct rfl ?_
      repeat refine pw_seq ?_
      refine pw_N [] (by rfl) (by rfl) fun K Gc Gh hK hGc hGh X hX0 hX => ?_
      simp -implicitDefEqProofs [hX0, hX]
      try clear hX0 hX X
      intros
      refine hK _ _ _ ?_
      clear hK hGc hGh
      clear K Gc Gh
      refine pw_nilC 1 0 rfl rfl ?_
      repeat refine pw_seq ?_
      exact pw_ret ⟨_, S, (by simp; rfl), ⟨⟨[], false, by simp [oneOf], fun h => nomatch h⟩, rfl⟩, ext_kill0 hd⟩
    | true =>
      have hg := hg rfl
      have hvl := hg.len
      repeat refine pw_seq ?_
      refine pw_N [] (by rfl) (by rfl) fun K Gc Gh hK hGc hGh X hX0 hX => ?_
      simp -implicitDefEqProofs [hX0, hX]
      try clear hX0 hX X
      intros
      refine hK _ _ _ ?_
      clear hK hGc hGh
      clear K Gc Gh
      repeat refine pw_seq ?_
      refine pw_cf rfl ?_
      refine pw_skip ?_
      repeat refine pw_seq ?_
      refine pw_N [] (by rfl) (by rfl) fun K Gc Gh hK hGc hGh X hX0 hX => ?_
      simp -implicitDefEqProofs [hX0, hX]
      try clear hX0 hX X
      intros
      refine hK _ _ _ ?_
      clear hK hGc hGh
      clear K Gc Gh
      repeat refine pw_seq ?_
      refine pw_block (pw_loopL (fun s : Nat × Plan => s.1 ≤ v.length ∧ MadeP x.cust.length n s.2 ∧ cntP s.2 ≤ 64 * i + s.1 ∧ ∀ (dn : Nat) (d : Day), s.2[dn]? = some d → ∀ u ∈ d.flatten, u.c < i ∨ (u.c = i ∧ (dn : Int) ∈ (v.take s.1).map (·.d))) (fun (k, pl) => [(1, L pick), (2, L joins), (3, .ptr nx v0 0), (6, .ptr (nx + 1) v1 0), (8, .ptr (nx + 2) v2 0), (9, I i), (10, L v), (12, I k)])
        (fun (k, pl) => [.cells v0 25 (instL x), .cells v1 30 [.sc (.slice none 0 0)], .cells v2 30 [.sl (nx + 3) v3 1 0 n], .cells v3 45 (pl.flatMap Enc.enc)]) (fun s => v.length - s.1) (0, pl) [] ⟨by simp, hm, hcnt, fun dn d hd u hu => .inl (hlow d (List.mem_of_getElem? hd) u hu)⟩ (by simp) (by simp) ?_)
      clear hlow
      rintro ⟨k, pl⟩ ⟨hk, hm, hcnt, hlow⟩
      simp only at hk hm hcnt hlow ⊢
      repeat refine pw_seq ?_
      refine pw_N [] (by rfl) (by rfl) fun K Gc Gh hK hGc hGh X hX0 hX => ?_
      simp -implicitDefEqProofs [hX0, hX]
      try clear hX0 hX X
      intros
      refine hK _ _ _ ?_
      clear hK hGc hGh
      clear K Gc Gh
      repeat refine pw_seq ?_
      refine pw_cond rfl (fun hc1 => ?_) (fun hc1 => ?_)
      · simp at hc1
        obtain ⟨s, tl2, b1, b2, b3, e1, e2⟩ := el 2 rfl v k hc1
        have e21 := e1 1 (by omega)
        have hs := hg.ok s (List.mem_of_getElem? b1)
        obtain ⟨dn, hdn⟩ := Int.eq_ofNat_of_zero_le hs.1.1
        have hdl : dn < n := by omega
        obtain ⟨d, tl3, d1, d2, d3, e3⟩ := el1 rfl pl dn (by rw [hm.len]; exact hdl)
        have hdm := List.mem_of_getElem? d1
        refine pw_skip (pw_seq (pw_block ?_))
        repeat refine pw_seq ?_
        refine pw_N [] (by rfl) (by rfl) fun K Gc Gh hK hGc hGh X hX0 hX => ?_
        simp -implicitDefEqProofs [hX0, hX, e21, hc1]
        try clear hX0 hX X
        intro v4
        refine hK _ _ _ ?_
        clear hK hGc hGh
        clear K Gc Gh
        have w1 : IntKind.i64.wrap ((i : Int) + (dn : Int)) = ((i + dn : Nat) : Int) := by rw [wr _ (by omega) (by omega)]; omega
        repeat refine pw_seq ?_
        refine pw_joinK (nx := nx) (σ := Bool) (fun _ => True) (fun t => [(1, L pick), (2, L joins), (3, .ptr nx v0 0), (6, .ptr (nx + 1) v1 0), (8, .ptr (nx + 2) v2 0), (9, I i), (10, L v), (12, I k), (13, .ptr (nx + 4) v4 0), (14, B t)]) (fun _ => S)
          (fun t => [.cells v0 25 (instL x), .cells v1 30 [.sc (.slice none 0 0)], .cells v2 30 [.sl (nx + 3) v3 1 0 n], .cells v3 45 (pl.flatMap Enc.enc), .cells v4 61 [I i, I s.q]]) ?_ ?_
        · by_cases h : i + dn < joins.length
          · obtain ⟨j, tl4, j1, j2, j3, e4⟩ := el1 rfl joins (i + dn) h
            have h' : (i : Int) + (dn : Int) < joins.length := by omega
            have h0 : (0 : Int) ≤ (i : Int) + (dn : Int) := by omega
            have hN : ((i : Int) + (dn : Int)).toNat = i + dn := by omega
            repeat refine pw_seq ?_
            refine pw_N [(10, 64)] (by rfl) (by rfl) fun K Gc Gh hK hGc hGh X hX0 hX => ?_
            simp -implicitDefEqProofs [hX0, hX, e2, hc1, hdn, w1, h', e4, h0, hN]
            try clear hX0 hX X
            intros
            refine hK _ _ _ ?_
            clear hK hGc hGh
            clear K Gc Gh
            exact at_mk j [] trivial (by simp) rfl (by simp)
          · have h' : ¬ (i : Int) + (dn : Int) < joins.length := by omega
            repeat refine pw_seq ?_
            refine pw_N [(10, 64)] (by rfl) (by rfl) fun K Gc Gh hK hGc hGh X hX0 hX => ?_
            simp -implicitDefEqProofs [hX0, hX, e2, hc1, hdn, w1, h', undef]
            try clear hX0 hX X
            intros
            refine hK _ _ _ ?_
            clear hK hGc hGh
            clear K Gc Gh
            exact at_mk false [] trivial (by simp) rfl (by simp)
        intro j _
        have hpll := hm.len
        have hdf := day_le pl d hdm
        have hdn2 := ne_len d (hm.ne d hdm)
        have hput := put_okD x d ⟨i, s.q⟩ j (by omega) (by omega) (fun t ht => by have := tour_le d t ht; omega)
        have hsp := splice_enc (α := Day) rfl pl dn (putD x d ⟨i, s.q⟩ j) (by omega)
        have hsp' : splice (pl.flatMap Enc.enc) dn [L (putD x d ⟨i, s.q⟩ j)] = (pl.set dn (putD x d ⟨i, s.q⟩ j)).flatMap Enc.enc := hsp
        have hnew := hm.set d1 x ⟨i, s.q⟩ j ⟨⟨by dsimp only; omega, by dsimp only; omega⟩, hs.2⟩ (fun u hu => by
          rcases hlow dn d d1 u hu with q | ⟨_, q⟩
          · dsimp only; omega
          · exfalso
            have hnd := hg.nd
            rw [← List.take_append_drop k v, b2, List.map_append, List.nodup_append] at hnd
            exact hnd.2.2 _ q s.d (by simp) (by rw [hdn]))
        have hlow' : ∀ (dn' : Nat) (d' : Day), (pl.set dn (putD x d ⟨i, s.q⟩ j))[dn']? = some d' → ∀ u ∈ d'.flatten, u.c < i ∨ (u.c = i ∧ (dn' : Int) ∈ (v.take (k + 1)).map (·.d)) := by
          intro dn' d' hd' u hu
          rw [List.getElem?_set] at hd'
          rw [b3, List.map_append]
          split at hd'
          · rename_i e
            subst e
            split at hd'
            · cases hd'
              rw [putD_flat] at hu
              rcases List.mem_append.1 hu with hu | hu
              · exact (hlow dn d d1 u hu).imp id (fun q => ⟨q.1, List.mem_append_left _ q.2⟩)
              · rw [List.mem_singleton.1 hu]
                exact .inr ⟨rfl, List.mem_append_right _ (by simp; rw [hdn])⟩
            · cases hd'
          · exact (hlow dn' d' hd' u hu).imp id (fun q => ⟨q.1, List.mem_append_left _ q.2⟩)
        have hcn := cnt_set (e := putD x d ⟨i, s.q⟩ j) d1 (by rw [putD_flat]; simp)
        generalize putD x d ⟨i, s.q⟩ j = nd at hput hsp' hnew hcn hlow'
        have hfl : (pl.flatMap Enc.enc).length = n := by rw [flen_list, hpll]
        repeat refine pw_seq ?_
        refine pw_Y (some [nx, nx + 2, nx + 4]) (Row.pures [0, 1, 2, 3, 4, 5, 6, 7, 8, 9, 10, 11, 12, 13, 14, 15, 17, 18] (.alt 16 (Row.pures [19, 20] (.alt 21 (.done) .stop)) .stop)) mixed (by rfl) (by rfl) (by rfl) fun K Gp Gc Gh hK hGp hGc hGh X hX0 hX1 hX2 hX => ?_
        simp -implicitDefEqProofs [hX1, hX2, hX, e2, hc1, hdn, hdl, e3]
        try clear hX0 hX1 hX2 hX X
        refine hGp _ _ _ _ _ _ _ _ (hput) ?_
        clear hGp hGc hGh
        clear Gp Gc Gh
        refine px_go fun Gp Gc Gh hGp hGc hGh X hX0 hX1 hX2 hX => ?_
        simp -implicitDefEqProofs [hX0, hX1, hX2, hX, hsp', hdl]
        try clear hX0 hX1 hX2 hX X
        refine ⟨by omega, ?_⟩
        refine hK _ _ _ ?_
        clear hK hGp hGc hGh
        clear K Gp Gc Gh
        repeat refine pw_seq ?_
        refine pw_N [] (by rfl) (by rfl) fun K Gc Gh hK hGc hGh X hX0 hX => ?_
        simp -implicitDefEqProofs [hX0, hX]
        try clear hX0 hX X
        intros
        refine hK _ _ _ ?_
        clear hK hGc hGh
        clear K Gc Gh
        exact again_mk (k + 1, pl.set dn nd) [_] ⟨hc1, hnew, by dsimp only; omega, hlow'⟩ (by simp; omega) (by simp [wrN k (by omega)]) rfl (by simp; rfl)
      · simp at hc1
        obtain rfl : k = v.length := by omega
        refine pw_exit ?_
        repeat refine pw_seq ?_
        refine pw_N [] (by rfl) (by rfl) fun K Gc Gh hK hGc hGh X hX0 hX => ?_
        simp -implicitDefEqProofs [hX0, hX]
        try clear hX0 hX X
        intros
        refine hK _ _ _ ?_
        clear hK hGc hGh
        clear K Gc Gh
        exact again_mk (i + 1, pl) [] ⟨hc, hm, by dsimp only; omega, fun d hd u hu => by
          obtain ⟨dn, _, hdn⟩ := List.getElem_of_mem hd
          rcases hlow dn d (by rw [List.getElem?_eq_getElem (by assumption), hdn]) u hu with q | q
          · dsimp only; omega
          · dsimp only; omega⟩ (by simp; omega) (by simp [wrN i (by omega)]) rfl (by simp)
  · simp at hc
    obtain rfl : i = x.cust.length := by omega
    have hpll := hm.len
    refine pw_exit ?_
    repeat refine pw_seq ?_
    refine pw_N [] (by rfl) (by rfl) fun K Gc Gh hK hGc hGh X hX0 hX => ?_
    simp -implicitDefEqProofs [hX0, hX]
    try clear hX0 hX X
    intros
    refine hK _ _ _ ?_
    clear hK hGc hGh
    clear K Gc Gh
    refine pw_frz 3 rfl ?_
    repeat refine pw_seq ?_
    exact pw_ret ⟨_, S, (by simp; rfl), ⟨⟨pl, true, by simp [oneOf, hpll], fun _ => ⟨hm, by omega⟩⟩, rfl⟩, ext_kill0 hd⟩

end Go.Proofs.YtlkcdaeknioanaaGreat.Pv
