/- tranterref16.Customer; tranterref12.Day. -/
import Derived.Test.YtlkcdaeknioanaaGreatLs
import Derived.Test.YtlkcdaeknioanaaGreatJc
namespace Go.Proofs.YtlkcdaeknioanaaGreat.Pv
open Go

theorem numB_bit : ∀ (l : List Int), (∀ b ∈ l, b = 0 ∨ b = 1) → ∀ i : Nat, (numB l).toNat.testBit i = decide (l[i]? = some 1)
  | [], _, i => by simp [numB]
  | b :: l, h, i => by
    have hl : ∀ b ∈ l, b = 0 ∨ b = 1 := fun x hx => h x (by simp [hx])
    have h0 := (numB_le l hl).1
    have hb := h b (by simp)
    have hn : numB (b :: l) = 2 * numB l + b := rfl
    cases i with
    | zero =>
      rw [Nat.testBit_zero, hn]
      simp only [List.getElem?_cons_zero, Option.some.injEq]
      apply decide_eq_decide.2
      omega
    | succ i =>
      rw [Nat.testBit_succ, hn]
      have : (2 * numB l + b).toNat / 2 = (numB l).toNat := by omega
      rw [this, numB_bit l hl i]
      simp

theorem bitN_test (n i : Nat) : n.testBit i = decide (bitN n i = 1) := by rw [Nat.testBit_eq_decide_div_mod_eq]; rfl

theorem putB_with (n d : Nat) (hn : n < 2 ^ 64) (hd : d < 64) : putB n d = withD n d := by
  have h01 : ∀ b ∈ (bitsZ n).set d 1, b = 0 ∨ b = 1 := fun b hb => by
    rcases mem_set hb with h | h
    · exact bitsZ_01 n b h
    · exact .inr h
  apply Nat.eq_of_testBit_eq
  intro i
  unfold putB putN withD
  rw [numB_bit _ h01, if_pos (by omega), Nat.testBit_or, Int.toNat_natCast, Nat.testBit_two_pow, List.getElem?_set]
  have hl := bitsZ_len n
  by_cases h : d = i
  · subst h; simp [hl, hd]
  · rw [if_neg h]
    by_cases hi : i < 64
    · rw [bit_at n i hi, bitN_test]
      simp [h]; omega
    · rw [List.getElem?_eq_none (by omega)]
      have : n.testBit i = false := Nat.testBit_lt_two_pow (Nat.lt_of_lt_of_le hn (Nat.pow_le_pow_right (by decide) (by omega)))
      simp [this, h]

set_option maxRecDepth 20000 in
theorem refCust_ok (x : Inst) (p : Plan) (i : Nat) (h : Serves x p) (hx : CustsOk x) (hi : i < x.cust.length) : Pure Tryz.prog 31 [.agg (instL x), .agg [L p], I i] (I (custE x p i)) := by
  obtain ⟨c, tl, a1, a2, a3, _, e0⟩ := el 8 rfl x.cust i hi
  have hcm := List.mem_of_getElem? a1
  have hres : custE x p i = if c.kind = 2 then holdsE c (bringsV (visOf i (told 0 p)) x.days) else perE c (visOf i (told 0 p)) := by simp only [custE, a1]
  rw [hres]
  have g0 : ¬ (i : Int) < 0 := by omega
  have g1 : ¬ (x.cust.length : Int) ≤ (i : Int) := by omega
  have hvi := visitsR_ok p i h.sz
  obtain ⟨hv1, hv2⟩ := vis_ok h i
  generalize visOf (i : Int) (told 0 p) = v at hvi hv1 hv2
  have hvl := hv1.n
  refine pure_enter Tryz.func31 (by rfl) rfl Tryz.ntmps31 (congrArg Array.toList Tryz.results31) (by simp) fun S nx hd => ?_
  repeat refine pw_seq ?_
  refine pw_N [] (by rfl) (by rfl) fun K Gc Gh hK hGc hGh X hX0 hX => ?_
  simp -implicitDefEqProofs [hX0, hX]
  try clear hX0 hX X
  intro v0 v1
  refine hK _ _ _ ?_
  clear hK hGc hGh
  clear K Gc Gh
  repeat refine pw_seq ?_
  refine pw_N [(2, 14)] (by rfl) (by rfl) fun K Gc Gh hK hGc hGh X hX0 hX => ?_
  simp -implicitDefEqProofs [hX0, hX, g0, g1]
  try clear hX0 hX X
  intros
  refine hK _ _ _ ?_
  clear hK hGc hGh
  clear K Gc Gh
  repeat refine pw_seq ?_
  refine pw_cf (by simp) ?_
  refine pw_skip ?_
  repeat refine pw_seq ?_
  refine pw_N [] (by rfl) (by rfl) fun K Gc Gh hK hGc hGh X hX0 hX => ?_
  simp -implicitDefEqProofs [hX0, hX, hi, e0]
  try clear hX0 hX X
  intro v2
  refine hK _ _ _ ?_
  clear hK hGc hGh
  clear K Gc Gh
  repeat refine pw_seq ?_
  refine pw_N [] (by rfl) (by rfl) fun K Gc Gh hK hGc hGh X hX0 hX => ?_
  simp -implicitDefEqProofs [hX]
  try clear hX0 hX X
  refine hGc _ _ _ _ _ _ _ fun hsuf => ((hvi _).mono ?_).v
  rintro _ _ ⟨rfl, rfl⟩
  refine ⟨_, _, rfl, ?_⟩
  clear hGc hGh
  clear Gc Gh
  refine xs_go hsuf (D := []) (by rfl) fun Gc Gh hGc hGh X hX0 hX => ?_
  simp -implicitDefEqProofs [hX0, hX]
  try clear hX0 hX X
  intros
  refine hK _ _ _ ?_
  clear hK hGc hGh
  clear K Gc Gh
  repeat refine pw_seq ?_
  refine pw_N [] (by rfl) (by rfl) fun K Gc Gh hK hGc hGh X hX0 hX => ?_
  simp -implicitDefEqProofs [hX0, hX]
  try clear hX0 hX X
  intros
  refine hK _ _ _ ?_
  clear hK hGc hGh
  clear K Gc Gh
  by_cases hk : c.kind = 2
  · have hb := bringsR_ok v x.days hv1
    have hh := holdsR_ok c (bringsV v x.days) (hx.fits c hcm) (by rw [bringsV_len]; omega)
    generalize bringsV v x.days = q at hb hh ⊢
    repeat refine pw_seq ?_
    refine pw_ct (by simp [hk]) ?_
    repeat refine pw_seq ?_
    refine pw_Y (some [nx, nx + 2]) (Row.pures [0, 1, 2, 3, 4, 5, 6] .done) mixed (by rfl) (by rfl) (by rfl) fun K Gp Gc Gh hK hGp hGc hGh X hX0 hX1 hX2 hX => ?_
    simp -implicitDefEqProofs [hX2]
    try clear hX0 hX1 hX2 hX X
    refine hGp _ _ _ _ _ _ _ _ (hb) ?_
    clear hGp hGc hGh
    clear Gp Gc Gh
    refine px_go fun Gp Gc Gh hGp hGc hGh X hX0 hX1 hX2 hX => ?_
    simp -implicitDefEqProofs [hX2]
    try clear hX0 hX1 hX2 hX X
    refine hGp _ _ _ _ _ _ _ _ (hh) ?_
    clear hGp hGc hGh
    clear Gp Gc Gh
    refine px_go fun Gp Gc Gh hGp hGc hGh X hX0 hX1 hX2 hX => ?_
    simp -implicitDefEqProofs [hX0, hX2]
    try clear hX0 hX1 hX2 hX X
    refine hK _ _ _ ?_
    clear hK hGp hGc hGh
    clear K Gp Gc Gh
    repeat refine pw_seq ?_
    exact pw_ret (ret_pure hd (by simp; rfl) (by simp [hk, oneOf]))
  · have hpl := hx.pats c hcm
    rw [if_neg hk]
    unfold perE
    repeat refine pw_seq ?_
    refine pw_cf (by simp [hk]) ?_
    refine pw_skip ?_
    repeat refine pw_seq ?_
    refine pw_N [] (by rfl) (by rfl) fun K Gc Gh hK hGc hGh X hX0 hX => ?_
    simp -implicitDefEqProofs [hX0, hX]
    try clear hX0 hX X
    intros
    refine hK _ _ _ ?_
    clear hK hGc hGh
    clear K Gc Gh
    repeat refine pw_seq ?_
    refine pw_N [] (by rfl) (by rfl) fun K Gc Gh hK hGc hGh X hX0 hX => ?_
    simp -implicitDefEqProofs [hX0, hX]
    try clear hX0 hX X
    intros
    refine hK _ _ _ ?_
    clear hK hGc hGh
    clear K Gc Gh
    repeat refine pw_seq ?_
    refine pw_joinK (nx := nx) (σ := Unit) (fun _ => (v.any fun s => decide (s.q ≠ c.demand)) = false) (fun _ => [(7, .ptr (nx + 2) v2 0), (9, U (ofD (v.map (·.d))))]) (fun _ => S) (fun _ => [.cells v0 25 (instL x), .cells v1 30 [L p], .cells v2 54 (custL c)]) ?_ ?_
    · refine pw_block (pw_loopL (fun s : Nat => s ≤ v.length ∧ ((v.take s).any fun s => decide (s.q ≠ c.demand)) = false) (fun k => [(7, .ptr (nx + 2) v2 0), (8, L v), (9, U (ofD ((v.map (·.d)).take k))), (10, I k)]) (fun _ => [.cells v0 25 (instL x), .cells v1 30 [L p], .cells v2 54 (custL c)]) (fun s => v.length - s) 0 [] (by simp) (by simp [ofD]) (by simp) ?_)
      rintro k ⟨hk2, ho⟩
      repeat refine pw_seq ?_
      refine pw_N [] (by rfl) (by rfl) fun K Gc Gh hK hGc hGh X hX0 hX => ?_
      simp -implicitDefEqProofs [hX0, hX]
      try clear hX0 hX X
      intros
      refine hK _ _ _ ?_
      clear hK hGc hGh
      clear K Gc Gh
      repeat refine pw_seq ?_
      refine pw_cond rfl (fun hc1 => ?_) (fun hc1 => ?_)
      · simp at hc1
        obtain ⟨s, tl2, b1, b2, b3, e1, e2⟩ := el 2 rfl v k hc1
        have e21 := e1 1 (by omega)
        have hs := hv2 s (List.mem_of_getElem? b1)
        have hol := ofD_lt ((v.map (·.d)).take k)
        refine pw_skip (pw_seq (pw_block ?_))
        by_cases hq : s.q = c.demand
        · repeat refine pw_seq ?_
          refine pw_Y (some [nx + 2]) (Row.pures [0, 1, 2, 3, 4, 5, 6, 7] .done) mixed (by rfl) (by rfl) (by rfl) fun K Gp Gc Gh hK hGp hGc hGh X hX0 hX1 hX2 hX => ?_
          simp -implicitDefEqProofs [hX0, hX2, hc1, e21, hq]
          try clear hX0 hX1 hX2 hX X
          refine hK _ _ _ ?_
          clear hK hGp hGc hGh
          clear K Gp Gc Gh
          repeat refine pw_seq ?_
          refine pw_cf (by simp) ?_
          refine pw_skip ?_
          obtain ⟨dn, hdn⟩ := Int.eq_ofNat_of_zero_le hs.1
          have hpt := put_ok (ofD ((v.map (·.d)).take k)) s.d hol hs.1 hs.2
          rw [(putN_ok _ _).1, hdn, Int.toNat_natCast, putB_with _ dn hol (by omega)] at hpt
          have hnx : withD (ofD ((v.map (·.d)).take k)) dn = ofD ((v.map (·.d)).take (k + 1)) := by rw [← List.map_take, ← List.map_take, b3]; simp [ofD, hdn]
          rw [hnx] at hpt
          repeat refine pw_seq ?_
          refine pw_N [] (by rfl) (by rfl) fun K Gc Gh hK hGc hGh X hX0 hX => ?_
          simp -implicitDefEqProofs [hX, hc1, e2, hdn]
          try clear hX0 hX X
          refine hGc _ _ _ _ _ _ _ fun hsuf => ((hpt _).mono ?_).v
          rintro _ _ ⟨rfl, rfl⟩
          refine ⟨_, _, rfl, ?_⟩
          clear hGc hGh
          clear Gc Gh
          refine xs_go hsuf (D := []) (by rfl) fun Gc Gh hGc hGh X hX0 hX => ?_
          simp -implicitDefEqProofs [hX0, hX]
          try clear hX0 hX X
          intros
          refine hK _ _ _ ?_
          clear hK hGc hGh
          clear K Gc Gh
          repeat refine pw_seq ?_
          refine pw_N [] (by rfl) (by rfl) fun K Gc Gh hK hGc hGh X hX0 hX => ?_
          simp -implicitDefEqProofs [hX0, hX]
          try clear hX0 hX X
          intros
          refine hK _ _ _ ?_
          clear hK hGc hGh
          clear K Gc Gh
          exact again_mk (k + 1) [] ⟨hc1, by rw [b3, List.any_append, ho]; simp [hq]⟩ (by omega) (by simp [wrN k (by omega)]) rfl (by simp)
        · have hany : (v.any fun s => decide (s.q ≠ c.demand)) = true := by rw [List.any_eq_true]; exact ⟨s, List.mem_of_getElem? b1, by simpa using hq⟩
          repeat refine pw_seq ?_
          refine pw_Y (some [nx + 2]) (Row.pures [0, 1, 2, 3, 4, 5, 6, 7] .done) mixed (by rfl) (by rfl) (by rfl) fun K Gp Gc Gh hK hGp hGc hGh X hX0 hX1 hX2 hX => ?_
          simp -implicitDefEqProofs [hX0, hX2, hc1, e21, hq]
          try clear hX0 hX1 hX2 hX X
          refine hK _ _ _ ?_
          clear hK hGp hGc hGh
          clear K Gp Gc Gh
          repeat refine pw_seq ?_
          refine pw_ct (by simp) ?_
          repeat refine pw_seq ?_
          refine pw_N [] (by rfl) (by rfl) fun K Gc Gh hK hGc hGh X hX0 hX => ?_
          simp -implicitDefEqProofs [hX0, hX]
          try clear hX0 hX X
          intros
          refine hK _ _ _ ?_
          clear hK hGc hGh
          clear K Gc Gh
          repeat refine pw_seq ?_
          exact pw_ret (ret_pure hd (by simp; rfl) (by rw [if_pos hany]; rfl))
      · simp at hc1
        obtain rfl : k = v.length := by omega
        rw [List.take_length] at ho
        have htl : (v.map (·.d)).take v.length = v.map (·.d) := List.take_of_length_le (by simp)
        exact pw_exit (at_mk () [] ho (by simp [htl]) rfl (by simp))
    intro _ ho
    rw [ho]
    generalize ofD (v.map (·.d)) = set
    repeat refine pw_seq ?_
    refine pw_N [] (by rfl) (by rfl) fun K Gc Gh hK hGc hGh X hX0 hX => ?_
    simp -implicitDefEqProofs [hX0, hX]
    try clear hX0 hX X
    intros
    refine hK _ _ _ ?_
    clear hK hGc hGh
    clear K Gc Gh
    repeat refine pw_seq ?_
    refine pw_block (pw_loopL (fun s : Nat => s ≤ c.pats.length ∧ set ∉ c.pats.take s) (fun k => [(7, .ptr (nx + 2) v2 0), (9, U set), (11, I k)]) (fun _ => [.cells v0 25 (instL x), .cells v1 30 [L p], .cells v2 54 (custL c)]) (fun s => c.pats.length - s) 0 [] (by simp) (by simp) (by simp) ?_)
    rintro k ⟨hk2, hno⟩
    repeat refine pw_seq ?_
    refine pw_N [] (by rfl) (by rfl) fun K Gc Gh hK hGc hGh X hX0 hX => ?_
    simp -implicitDefEqProofs [hX0, hX]
    try clear hX0 hX X
    intros
    refine hK _ _ _ ?_
    clear hK hGc hGh
    clear K Gc Gh
    repeat refine pw_seq ?_
    refine pw_cond rfl (fun hc1 => ?_) (fun hc1 => ?_)
    · simp at hc1
      obtain ⟨q, tl2, b1, b2, b3, e2⟩ := el1 rfl c.pats k hc1
      refine pw_skip (pw_seq (pw_block ?_))
      by_cases hq : q = set
      · subst hq
        repeat refine pw_seq ?_
        refine pw_N [] (by rfl) (by rfl) fun K Gc Gh hK hGc hGh X hX0 hX => ?_
        simp -implicitDefEqProofs [hX0, hX, hc1, e2]
        try clear hX0 hX X
        intros
        refine hK _ _ _ ?_
        clear hK hGc hGh
        clear K Gc Gh
        repeat refine pw_seq ?_
        refine pw_ct (by simp) ?_
        repeat refine pw_seq ?_
        refine pw_N [] (by rfl) (by rfl) fun K Gc Gh hK hGc hGh X hX0 hX => ?_
        simp -implicitDefEqProofs [hX0, hX]
        try clear hX0 hX X
        intros
        refine hK _ _ _ ?_
        clear hK hGc hGh
        clear K Gc Gh
        repeat refine pw_seq ?_
        exact pw_ret (ret_pure hd (by simp; rfl) (by simp [List.mem_of_getElem? b1, oneOf]))
      · have hq' : ¬ ((q : Int) = (set : Int)) := by omega
        repeat refine pw_seq ?_
        refine pw_N [] (by rfl) (by rfl) fun K Gc Gh hK hGc hGh X hX0 hX => ?_
        simp -implicitDefEqProofs [hX0, hX, hc1, e2, hq']
        try clear hX0 hX X
        intros
        refine hK _ _ _ ?_
        clear hK hGc hGh
        clear K Gc Gh
        repeat refine pw_seq ?_
        refine pw_cf (by simp) ?_
        refine pw_skip ?_
        repeat refine pw_seq ?_
        refine pw_N [] (by rfl) (by rfl) fun K Gc Gh hK hGc hGh X hX0 hX => ?_
        simp -implicitDefEqProofs [hX0, hX]
        try clear hX0 hX X
        intros
        refine hK _ _ _ ?_
        clear hK hGc hGh
        clear K Gc Gh
        exact again_mk (k + 1) [] ⟨hc1, by rw [b3]; simp; exact ⟨hno, fun e => hq e.symm⟩⟩ (by omega) (by simp [wrN k (by omega)]) rfl (by simp)
    · simp at hc1
      obtain rfl : k = c.pats.length := by omega
      rw [List.take_length] at hno
      refine pw_exit ?_
      repeat refine pw_seq ?_
      refine pw_N [] (by rfl) (by rfl) fun K Gc Gh hK hGc hGh X hX0 hX => ?_
      simp -implicitDefEqProofs [hX0, hX]
      try clear hX0 hX X
      intros
      refine hK _ _ _ ?_
      clear hK hGc hGh
      clear K Gc Gh
      repeat refine pw_seq ?_
      exact pw_ret (ret_pure hd (by simp; rfl) (by simp [hno, oneOf]))

set_option maxRecDepth 20000 in
theorem dayR_ok (x : Inst) (d : Day) (hx : x.cust.length ≤ 1048576) (hn : d.length ≤ 1048576) (ht : ∀ t ∈ d, t.length ≤ 1048576) (hf : d.flatten.length ≤ 1048576) : Pure Tryz.prog 30 [.agg (instL x), .agg [L d]] (I (dayT x d)) := by
  refine pure_enter Tryz.func30 (by rfl) rfl Tryz.ntmps30 (congrArg Array.toList Tryz.results30) (by simp) fun S nx hd => ?_
  repeat refine pw_seq ?_
  refine pw_N [] (by rfl) (by rfl) fun K Gc Gh hK hGc hGh X hX0 hX => ?_
  simp -implicitDefEqProofs [hX0, hX]
  try clear hX0 hX X
  intro v0 v1
  refine hK _ _ _ ?_
  clear hK hGc hGh
  clear K Gc Gh
  repeat refine pw_seq ?_
  refine pw_N [] (by rfl) (by rfl) fun K Gc Gh hK hGc hGh X hX0 hX => ?_
  simp -implicitDefEqProofs [hX0, hX]
  try clear hX0 hX X
  intros
  refine hK _ _ _ ?_
  clear hK hGc hGh
  clear K Gc Gh
  refine pw_seq (pw_nilX 5 3 1 rfl fun v2 => ?_)
  repeat refine pw_seq ?_
  refine pw_N [] (by rfl) (by rfl) fun K Gc Gh hK hGc hGh X hX0 hX => ?_
  simp -implicitDefEqProofs [hX0, hX]
  try clear hX0 hX X
  intros
  refine hK _ _ _ ?_
  clear hK hGc hGh
  clear K Gc Gh
  repeat refine pw_seq ?_
  refine pw_block (pw_loopL (fun s : Nat × List Int × Nat => s.1 ≤ d.length ∧ s.2.1 = (d.take s.1).flatten.map (·.c) ∧ (d.take s.1).find? (fun t => mayT x t != 0) = none) (fun (k, out, v2) => [(2, .ptr nx v0 0), (3, .ptr (nx + 1) v1 0), (5, .sl (nx + 2) v2 1 0 out.length), (6, I k)]) (fun (k, out, v2) => [.cells v0 25 (instL x), .cells v1 45 [L d], .cells v2 3 (out.flatMap Enc.enc)]) (fun s => d.length - s.1) (0, [], v2) [] (by simp) (by simp) (by simp) ?_)
  rintro ⟨k, out, v2⟩ ⟨hk, ho, ha⟩
  simp only at hk ho ha ⊢
  have hol : out.length = (d.take k).flatten.length := by rw [ho, List.length_map]
  repeat refine pw_seq ?_
  refine pw_N [] (by rfl) (by rfl) fun K Gc Gh hK hGc hGh X hX0 hX => ?_
  simp -implicitDefEqProofs [hX0, hX]
  try clear hX0 hX X
  intros
  refine hK _ _ _ ?_
  clear hK hGc hGh
  clear K Gc Gh
  repeat refine pw_seq ?_
  refine pw_cond rfl (fun hc => ?_) (fun hc => ?_)
  · simp at hc
    obtain ⟨t, tl, a1, a2, a3, e0⟩ := el1 rfl d k hc
    have htl := ht t (List.mem_of_getElem? a1)
    have hlen : (d.take (k + 1)).flatten.length ≤ 1048576 := by
      have : (d.take (k + 1)).flatten.length + (d.drop (k + 1)).flatten.length = d.flatten.length := by rw [← List.length_append, ← List.flatten_append, List.take_append_drop]
      omega
    rw [a3, List.flatten_append, List.length_append, List.flatten_cons, List.flatten_nil, List.append_nil] at hlen
    have hol2 : out.length + t.length ≤ 1048576 := by rw [hol]; exact hlen
    refine pw_skip (pw_seq (pw_block ?_))
    repeat refine pw_seq ?_
    refine pw_Y (some [nx, nx + 1]) (Row.pures [0, 1, 2, 3, 4, 5, 6, 7] .done) mixed (by rfl) (by rfl) (by rfl) fun K Gp Gc Gh hK hGp hGc hGh X hX0 hX1 hX2 hX => ?_
    simp -implicitDefEqProofs [hX2, hc, e0]
    try clear hX0 hX1 hX2 hX X
    refine hGp _ _ _ _ _ _ _ _ (mayR_ok x t hx htl) ?_
    clear hGp hGc hGh
    clear Gp Gc Gh
    refine px_go fun Gp Gc Gh hGp hGc hGh X hX0 hX1 hX2 hX => ?_
    simp -implicitDefEqProofs [hX0, hX2]
    try clear hX0 hX1 hX2 hX X
    refine hK _ _ _ ?_
    clear hK hGp hGc hGh
    clear K Gp Gc Gh
    by_cases hm : mayT x t = 0
    · repeat refine pw_seq ?_
      refine pw_N [] (by rfl) (by rfl) fun K Gc Gh hK hGc hGh X hX0 hX => ?_
      simp -implicitDefEqProofs [hX0, hX, hm]
      try clear hX0 hX X
      intros
      refine hK _ _ _ ?_
      clear hK hGc hGh
      clear K Gc Gh
      repeat refine pw_seq ?_
      refine pw_cf (by simp) ?_
      refine pw_skip ?_
      repeat refine pw_seq ?_
      refine pw_N [] (by rfl) (by rfl) fun K Gc Gh hK hGc hGh X hX0 hX => ?_
      simp -implicitDefEqProofs [hX, hc, e0]
      try clear hX0 hX X
      refine hGc _ _ _ _ _ _ _ fun hsuf => ((custR_ok t htl _).mono ?_).v
      rintro _ _ ⟨rfl, rfl⟩
      refine ⟨_, _, rfl, ?_⟩
      clear hGc hGh
      clear Gc Gh
      refine xs_go hsuf (D := []) (by rfl) fun Gc Gh hGc hGh X hX0 hX => ?_
      simp -implicitDefEqProofs [hX0, hX]
      try clear hX0 hX X
      refine ⟨by omega, ?_⟩
      intros
      refine hK _ _ _ ?_
      clear hK hGc hGh
      clear K Gc Gh
      repeat refine pw_seq ?_
      refine pw_N [] (by rfl) (by rfl) fun K Gc Gh hK hGc hGh X hX0 hX => ?_
      simp -implicitDefEqProofs [hX0, hX]
      try clear hX0 hX X
      intros
      refine hK _ _ _ ?_
      clear hK hGc hGh
      clear K Gc Gh
      exact again_mk (k + 1, out ++ t.map (·.c), v2 + 1) [] ⟨hc, by rw [a3, ho]; simp, by rw [a3, List.find?_append, ha]; simp [hm]⟩ (by simp; omega) (by simp [wrN k (by omega)]) rfl (by simp)
    · have hfi := find_some_at ha a2 (by simpa using hm)
      repeat refine pw_seq ?_
      refine pw_N [] (by rfl) (by rfl) fun K Gc Gh hK hGc hGh X hX0 hX => ?_
      simp -implicitDefEqProofs [hX0, hX, hm]
      try clear hX0 hX X
      intros
      refine hK _ _ _ ?_
      clear hK hGc hGh
      clear K Gc Gh
      repeat refine pw_seq ?_
      refine pw_ct (by simp) ?_
      repeat refine pw_seq ?_
      refine pw_N [] (by rfl) (by rfl) fun K Gc Gh hK hGc hGh X hX0 hX => ?_
      simp -implicitDefEqProofs [hX0, hX]
      try clear hX0 hX X
      intros
      refine hK _ _ _ ?_
      clear hK hGc hGh
      clear K Gc Gh
      repeat refine pw_seq ?_
      exact pw_ret (ret_pure hd (by simp; rfl) (by simp only [dayT, hfi, oneOf]))
  · simp at hc
    obtain rfl : k = d.length := by omega
    rw [List.take_length] at ho ha hol
    have hres : dayT x d = if ¬ (d.flatten.map (·.c)).Nodup then 11 else if x.veh < d.length then 14 else 0 := by unfold dayT; rw [ha]
    have htw := twice_ok out (by omega)
    rw [← ho] at hres
    clear ho
    refine pw_exit ?_
    refine pw_frz 2 rfl ?_
    repeat refine pw_seq ?_
    refine pw_N [] (by rfl) (by rfl) fun K Gc Gh hK hGc hGh X hX0 hX => ?_
    simp -implicitDefEqProofs [hX]
    try clear hX0 hX X
    refine hGc _ _ _ _ _ _ _ fun hsuf => ((htw _).mono ?_).v
    rintro _ _ ⟨rfl, rfl⟩
    refine ⟨_, _, rfl, ?_⟩
    clear hGc hGh
    clear Gc Gh
    refine xs_go hsuf (D := []) (by rfl) fun Gc Gh hGc hGh X hX0 hX => ?_
    simp -implicitDefEqProofs [hX0]
    try clear hX0 hX X
    intros
    refine hK _ _ _ ?_
    clear hK hGc hGh
    clear K Gc Gh
    by_cases h2 : out.Nodup
    · repeat refine pw_seq ?_
      refine pw_cf (by simp [h2]) ?_
      refine pw_skip ?_
      repeat refine pw_seq ?_
      refine pw_N [] (by rfl) (by rfl) fun K Gc Gh hK hGc hGh X hX0 hX => ?_
      simp -implicitDefEqProofs [hX0, hX]
      try clear hX0 hX X
      intros
      refine hK _ _ _ ?_
      clear hK hGc hGh
      clear K Gc Gh
      by_cases h3 : x.veh < d.length
      · repeat refine pw_seq ?_
        refine pw_ct (by simp [h3]) ?_
        repeat refine pw_seq ?_
        refine pw_N [] (by rfl) (by rfl) fun K Gc Gh hK hGc hGh X hX0 hX => ?_
        simp -implicitDefEqProofs [hX0, hX]
        try clear hX0 hX X
        intros
        refine hK _ _ _ ?_
        clear hK hGc hGh
        clear K Gc Gh
        repeat refine pw_seq ?_
        exact pw_ret (ret_pure hd (by simp; rfl) (by rw [hres]; simp [h2, h3, oneOf]))
      · repeat refine pw_seq ?_
        refine pw_cf (by simp; omega) ?_
        refine pw_skip ?_
        repeat refine pw_seq ?_
        refine pw_N [] (by rfl) (by rfl) fun K Gc Gh hK hGc hGh X hX0 hX => ?_
        simp -implicitDefEqProofs [hX0, hX]
        try clear hX0 hX X
        intros
        refine hK _ _ _ ?_
        clear hK hGc hGh
        clear K Gc Gh
        repeat refine pw_seq ?_
        exact pw_ret (ret_pure hd (by simp; rfl) (by rw [hres]; simp [h2, h3, oneOf]))
    · repeat refine pw_seq ?_
      refine pw_ct (by simp [h2]) ?_
      repeat refine pw_seq ?_
      refine pw_N [] (by rfl) (by rfl) fun K Gc Gh hK hGc hGh X hX0 hX => ?_
      simp -implicitDefEqProofs [hX0, hX]
      try clear hX0 hX X
      intros
      refine hK _ _ _ ?_
      clear hK hGc hGh
      clear K Gc Gh
      repeat refine pw_seq ?_
      exact pw_ret (ret_pure hd (by simp; rfl) (by rw [hres]; simp [h2, oneOf]))

end Go.Proofs.YtlkcdaeknioanaaGreat.Pv
