/- Tanks, day by day (stock.day, Nights, Holds, Held). -/
import Derived.Test.YtlkcdaeknioanaaGreatLc
namespace Go.Proofs.YtlkcdaeknioanaaGreat.Pv
open Go

structure CustFits (c : Cust) : Prop where
  rate : 0 ≤ c.rate ∧ c.rate ≤ 2147483648
  size : 0 ≤ c.size ∧ c.size ≤ 2147483648
  start : 0 ≤ c.start ∧ c.start ≤ 2147483648

def badQ (q : Int) : Bool := decide (q < 0 ∨ 2147483648 < q)
/-- What is there, night by night; none: it runs dry or over. -/
def runN (size rate : Int) : Int → List Int → Option (List Int)
  | _, [] => some []
  | there, q :: l => if size < there + q ∨ there + q < rate then none else (runN size rate (there + q - rate) l).map ((there + q - rate) :: ·)
def nightsE (c : Cust) (q : List Int) : List Int × Int :=
  if q.any badQ then ([], 1) else match runN c.size c.rate c.start q with
  | none => ([], 8)
  | some l => (l, 0)

set_option maxRecDepth 20000 in
theorem day_ok (c : Cust) {S : Store} {nx : Nat} (hd : DeadFrom nx S) : Spec Tryz.prog 63 [.agg (custL c)] S (fun p S' => ∃ v, p = .fn (.func 84) [] [.ptr (nx + 1) v 0, .ip (custL c)] ∧ S' = S.set (nx + 1) (.cells v 3 [I c.start])) := by
  refine spec_at hd Tryz.func63 (by rfl) rfl Tryz.ntmps63 (congrArg Array.toList Tryz.results63) (by simp) ?_
  repeat refine pw_seq ?_
  refine pw_N [] (by rfl) (by rfl) fun K Gc Gh hK hGc hGh X hX0 hX => ?_
  simp -implicitDefEqProofs [hX0, hX]
  try clear hX0 hX X
  intro v0
  refine hK _ _ _ ?_
  clear hK hGc hGh
  clear K Gc Gh
  repeat refine pw_seq ?_
  refine pw_N [] (by rfl) (by rfl) fun K Gc Gh hK hGc hGh X hX0 hX => ?_
  simp -implicitDefEqProofs [hX0, hX]
  try clear hX0 hX X
  intro v1
  refine hK _ _ _ ?_
  clear hK hGc hGh
  clear K Gc Gh
  repeat refine pw_seq ?_
  refine pw_N [] (by rfl) (by rfl) fun K Gc Gh hK hGc hGh X hX0 hX => ?_
  simp -implicitDefEqProofs [hX0, hX]
  try clear hX0 hX X
  intros
  refine hK _ _ _ ?_
  clear hK hGc hGh
  clear K Gc Gh
  refine pw_frq 0 rfl ?_
  repeat refine pw_seq ?_
  refine pw_ret ⟨_, _, rfl, ⟨v1, by simp [oneOf], rfl⟩, keep_one (j := 1) hd (by simp)⟩

set_option maxRecDepth 20000 in
theorem dayF_ok (c : Cust) (q there : Int) {S : Store} {id v : Nat} (hid : S id = .cells v 3 [I there]) (h1 : -4611686018427387904 ≤ there + q ∧ there + q ≤ 4611686018427387904) (h2 : -4611686018427387904 ≤ there + q - c.rate ∧ there + q - c.rate ≤ 4611686018427387904) :
    Spec Tryz.prog 84 [I q, .ptr id v 0, .ip (custL c)] S (fun p S' => p = .tup [I (there + q), I (there + q - c.rate)] ∧ S' = S.set id (.cells v 3 [I (there + q - c.rate)])) := by
  refine spec_enter Tryz.func84 (by rfl) rfl Tryz.ntmps84 (congrArg Array.toList Tryz.results84) (by simp) fun nx hd => ?_
  have hlt : id < nx := by
    rcases Nat.lt_or_ge id nx with h | h
    · exact h
    · rw [hd id h] at hid; cases hid
  have hge : ¬ nx ≤ id := by omega
  have hE : ∀ obs, ext S nx obs id = .cells v 3 [I there] := fun obs => (ext_old hlt).trans hid
  have hE2 : ∀ obs x, ext (S.set id x) nx obs id = x := fun obs x => (ext_old hlt).trans (Store.set_same _ _ _)
  have hd2 : ∀ x, DeadFrom nx (S.set id x) := fun x i hi => by rw [Store.set_other _ _ _ _ (by omega)]; exact hd i hi
  have w1 : IntKind.i64.wrap (there + q) = there + q := wr _ (by omega) (by omega)
  have w2 : IntKind.i64.wrap (there + q - c.rate) = there + q - c.rate := wr _ (by omega) (by omega)
  repeat refine pw_seq ?_
  refine pw_N [] (by rfl) (by rfl) fun K Gc Gh hK hGc hGh X hX0 hX => ?_
  simp -implicitDefEqProofs [hX0, hX]
  try clear hX0 hX X
  intros
  refine hK _ _ _ ?_
  clear hK hGc hGh
  clear K Gc Gh
  repeat refine pw_seq ?_
  refine pw_N [] (by rfl) (by rfl) fun K Gc Gh hK hGc hGh X hX0 hX => ?_
  simp -implicitDefEqProofs [hX0, hX, hE, w1]
  try clear hX0 hX X
  intros
  refine hK _ _ _ ?_
  clear hK hGc hGh
  clear K Gc Gh
  repeat refine pw_seq ?_
  refine pw_N [] (by rfl) (by rfl) fun K Gc Gh hK hGc hGh X hX0 hX => ?_
  simp -implicitDefEqProofs [hX0, hX, hE, hge, w2]
  try clear hX0 hX X
  intros
  refine hK _ _ _ ?_
  clear hK hGc hGh
  clear K Gc Gh
  repeat refine pw_seq ?_
  refine pw_Y none (Row.pures [0, 1, 2, 3] .done) mixed (by rfl) (by rfl) (by rfl) fun K Gp Gc Gh hK hGp hGc hGh X hX0 hX1 hX2 hX => ?_
  simp -implicitDefEqProofs [hX0, hX2, hE2]
  try clear hX0 hX1 hX2 hX X
  intros
  refine hK _ _ _ ?_
  clear hK hGp hGc hGh
  clear K Gp Gc Gh
  repeat refine pw_seq ?_
  refine pw_ret ⟨_, _, rfl, ⟨rfl, rfl⟩, ext_kill0 (hd2 _)⟩

theorem runN_step {size rate there q : Int} {l : List Int} {out : List Int} {r : Option (List Int)} (h : r = (runN size rate there (q :: l)).map (out ++ ·)) (hs : ¬ size < there + q) (hr : ¬ there + q < rate) :
    r = (runN size rate (there + q - rate) l).map ((out ++ [there + q - rate]) ++ ·) := by
  rw [h]
  simp only [runN, hs, hr, or_self, if_false, Option.map_map]
  congr 1
  funext x
  simp

set_option maxRecDepth 20000 in
theorem nights_ok (c : Cust) (q : List Int) (hc : CustFits c) (hq : q.length ≤ 1048576) : Pure Tryz.prog 36 [.agg (custL c), L q] (.tup [L (nightsE c q).1, I (nightsE c q).2]) := by
  obtain ⟨hr, hsz, hst⟩ := hc
  refine pure_enter Tryz.func36 (by rfl) rfl Tryz.ntmps36 (congrArg Array.toList Tryz.results36) (by simp) fun S nx hd => ?_
  repeat refine pw_seq ?_
  refine pw_N [] (by rfl) (by rfl) fun K Gc Gh hK hGc hGh X hX0 hX => ?_
  simp -implicitDefEqProofs [hX0, hX]
  try clear hX0 hX X
  intro v0
  refine hK _ _ _ ?_
  clear hK hGc hGh
  clear K Gc Gh
  repeat refine pw_seq ?_
  refine pw_N [] (by rfl) (by rfl) fun K Gc Gh hK hGc hGh X hX0 hX => ?_
  simp -implicitDefEqProofs [hX0, hX]
  try clear hX0 hX X
  intros
  refine hK _ _ _ ?_
  clear hK hGc hGh
  clear K Gc Gh
  repeat refine pw_seq ?_
  refine pw_joinK (nx := nx) (σ := Nat) (fun v0 => q.any badQ = false) (fun v0 => [(1, L q), (2, .ptr nx v0 0)]) (fun _ => S) (fun v0 => [.cells v0 54 (custL c)]) ?_ ?_
  · refine pw_block (pw_loopL (fun s : Nat => s ≤ q.length ∧ (q.take s).any badQ = false) (fun k => [(1, L q), (2, .ptr nx v0 0), (14, L q), (15, I q.length), (16, I k)]) (fun _ => [.cells v0 54 (custL c)]) (fun s => q.length - s) 0 [] (by simp) (by simp) (by simp) ?_)
    rintro k ⟨hk, ho⟩
    repeat refine pw_seq ?_
    refine pw_N [] (by rfl) (by rfl) fun K Gc Gh hK hGc hGh X hX0 hX => ?_
    simp -implicitDefEqProofs [hX0, hX]
    try clear hX0 hX X
    intros
    refine hK _ _ _ ?_
    clear hK hGc hGh
    clear K Gc Gh
    repeat refine pw_seq ?_
    refine pw_cond rfl (fun hc => ?_) (fun hc => ?_)
    · simp at hc
      obtain ⟨z, tl, a1, a2, a3, e0⟩ := el1 rfl q k hc
      have bad : badQ z = true → nightsE c q = ([], 1) := fun h => by
        have : q.any badQ = true := by rw [List.any_eq_true]; exact ⟨z, List.mem_of_getElem? a1, h⟩
        simp [nightsE, this]
      refine pw_skip (pw_seq (pw_block ?_))
      repeat refine pw_seq ?_
      refine pw_N [] (by rfl) (by rfl) fun K Gc Gh hK hGc hGh X hX0 hX => ?_
      simp -implicitDefEqProofs [hX0, hX, e0, hc]
      try clear hX0 hX X
      intros
      refine hK _ _ _ ?_
      clear hK hGc hGh
      clear K Gc Gh
      by_cases h1 : z < 0
      · repeat refine pw_seq ?_
        refine pw_N [(2, 22)] (by rfl) (by rfl) fun K Gc Gh hK hGc hGh X hX0 hX => ?_
        simp -implicitDefEqProofs [hX0, hX, h1, undef]
        try clear hX0 hX X
        intros
        refine hK _ _ _ ?_
        clear hK hGc hGh
        clear K Gc Gh
        repeat refine pw_seq ?_
        refine pw_ct rfl ?_
        repeat refine pw_seq ?_
        refine pw_N [] (by rfl) (by rfl) fun K Gc Gh hK hGc hGh X hX0 hX => ?_
        simp -implicitDefEqProofs [hX0, hX]
        try clear hX0 hX X
        intros
        refine hK _ _ _ ?_
        clear hK hGc hGh
        clear K Gc Gh
        refine pw_nil_lst 4 rfl ?_
        repeat refine pw_seq ?_
        exact pw_ret (ret_pure hd (by simp; rfl) (by rw [bad (by simp [badQ, h1])]; rfl))
      by_cases h2 : (2147483648 : Int) < z
      · repeat refine pw_seq ?_
        refine pw_N [(2, 22)] (by rfl) (by rfl) fun K Gc Gh hK hGc hGh X hX0 hX => ?_
        simp -implicitDefEqProofs [hX0, hX, h1, h2]
        try clear hX0 hX X
        intros
        refine hK _ _ _ ?_
        clear hK hGc hGh
        clear K Gc Gh
        repeat refine pw_seq ?_
        refine pw_ct rfl ?_
        repeat refine pw_seq ?_
        refine pw_N [] (by rfl) (by rfl) fun K Gc Gh hK hGc hGh X hX0 hX => ?_
        simp -implicitDefEqProofs [hX0, hX]
        try clear hX0 hX X
        intros
        refine hK _ _ _ ?_
        clear hK hGc hGh
        clear K Gc Gh
        refine pw_nil_lst 4 rfl ?_
        repeat refine pw_seq ?_
        exact pw_ret (ret_pure hd (by simp; rfl) (by rw [bad (by simp [badQ, h2])]; rfl))
      repeat refine pw_seq ?_
      refine pw_N [(2, 22)] (by rfl) (by rfl) fun K Gc Gh hK hGc hGh X hX0 hX => ?_
      simp -implicitDefEqProofs [hX0, hX, h1, h2]
      try clear hX0 hX X
      intros
      refine hK _ _ _ ?_
      clear hK hGc hGh
      clear K Gc Gh
      repeat refine pw_seq ?_
      refine pw_cf rfl ?_
      refine pw_skip ?_
      repeat refine pw_seq ?_
      refine pw_N [] (by rfl) (by rfl) fun K Gc Gh hK hGc hGh X hX0 hX => ?_
      simp -implicitDefEqProofs [hX0, hX]
      try clear hX0 hX X
      intros
      refine hK _ _ _ ?_
      clear hK hGc hGh
      clear K Gc Gh
      exact again_mk (k + 1) [] ⟨hc, by rw [a3, List.any_append, ho]; simp [badQ]; omega⟩ (by omega) (by simp [wrN k (by omega)]) rfl (by simp)
    · simp at hc
      obtain rfl : k = q.length := by omega
      rw [List.take_length] at ho
      exact pw_exit (at_mk v0 [] ho (by simp) rfl (by simp))
  · intro v0 hb
    have hq0 : ∀ z ∈ q, 0 ≤ z ∧ z ≤ 2147483648 := by
      intro z hz
      rw [List.any_eq_false] at hb
      have := hb z hz
      simp [badQ] at this
      omega
    have hres : nightsE c q = match runN c.size c.rate c.start q with | none => ([], 8) | some l => (l, 0) := by simp [nightsE, hb]
    repeat refine pw_seq ?_
    refine pw_N [] (by rfl) (by rfl) fun K Gc Gh hK hGc hGh X hX0 hX => ?_
    simp -implicitDefEqProofs [hX]
    try clear hX0 hX X
    refine hGc _ _ _ _ _ _ _ fun hsuf => ((day_ok c ext_dead).mono ?_).v
    rintro p T ⟨v1, rfl, rfl⟩
    refine ⟨_, _, ext_push1 _, ?_⟩
    clear hGc hGh
    clear Gc Gh
    refine xs_go hsuf (D := []) (by rfl) fun Gc Gh hGc hGh X hX0 hX => ?_
    simp -implicitDefEqProofs [hX0, hX]
    clear hX0 hX X
    intros
    refine hK _ _ _ ?_
    clear hK hGc hGh
    clear K Gc Gh
    repeat refine pw_seq ?_
    refine pw_N [] (by rfl) (by rfl) fun K Gc Gh hK hGc hGh X hX0 hX => ?_
    simp -implicitDefEqProofs [hX0, hX]
    try clear hX0 hX X
    refine ⟨by omega, fun v2 => ?_⟩
    intros
    refine hK _ _ _ ?_
    clear hK hGc hGh
    clear K Gc Gh
    refine pw_few 3 0 rfl ?_
    simp only [List.take_zero, List.set_cons_succ, List.set_cons_zero]
    repeat refine pw_seq ?_
    refine pw_N [] (by rfl) (by rfl) fun K Gc Gh hK hGc hGh X hX0 hX => ?_
    simp -implicitDefEqProofs [hX0, hX]
    try clear hX0 hX X
    intros
    refine hK _ _ _ ?_
    clear hK hGc hGh
    clear K Gc Gh
    repeat refine pw_seq ?_
    refine pw_block (pw_loopL (fun s : Nat × Int × List Int × Nat => s.1 ≤ q.length ∧ s.2.2.1.length = s.1 ∧ (0 ≤ s.2.1 ∧ s.2.1 ≤ 2147483648) ∧ runN c.size c.rate c.start q = (runN c.size c.rate s.2.1 (q.drop s.1)).map (s.2.2.1 ++ ·))
      (fun (k, there, out, v2) => [(2, .ptr nx v0 0), (8, .fn (.func 84) [] [.ptr (nx + 2) v1 0, .ip (custL c)]), (9, .sl (nx + 3) v2 1 0 out.length), (32, L q), (33, I q.length), (34, I k)])
      (fun (k, there, out, v2) => [.cells v0 54 (custL c), .dead, .cells v1 3 [I there], .cells v2 3 (out.flatMap Enc.enc)]) (fun s => q.length - s.1) (0, c.start, [], v2) [] ?_ (by simp) (by simp) ?_)
    · refine ⟨by simp, by simp, hst, ?_⟩
      simp
    rintro ⟨k, there, out, v2⟩ ⟨hk, hol, hth, ho⟩
    simp only at hk hol hth ho ⊢
    repeat refine pw_seq ?_
    refine pw_N [] (by rfl) (by rfl) fun K Gc Gh hK hGc hGh X hX0 hX => ?_
    simp -implicitDefEqProofs [hX0, hX]
    try clear hX0 hX X
    intros
    refine hK _ _ _ ?_
    clear hK hGc hGh
    clear K Gc Gh
    repeat refine pw_seq ?_
    refine pw_cond rfl (fun hc => ?_) (fun hc => ?_)
    · simp at hc
      obtain ⟨z, tl, a1, a2, a3, e0⟩ := el1 rfl q k hc
      have hz := hq0 z (List.mem_of_getElem? a1)
      rw [a2] at ho
      refine pw_skip (pw_seq (pw_block ?_))
      repeat refine pw_seq ?_
      refine pw_N [] (by rfl) (by rfl) fun K Gc Gh hK hGc hGh X hX0 hX => ?_
      simp -implicitDefEqProofs [hX0, hX, e0, hc]
      try clear hX0 hX X
      intros
      refine hK _ _ _ ?_
      clear hK hGc hGh
      clear K Gc Gh
      repeat refine pw_seq ?_
      refine pw_N [] (by rfl) (by rfl) fun K Gc Gh hK hGc hGh X hX0 hX => ?_
      simp -implicitDefEqProofs [hX]
      try clear hX0 hX X
      refine hGc _ _ _ _ _ _ _ fun hsuf => ((dayF_ok c z there (id := nx + 2) (v := v1) (by simp) (by omega) (by omega)).mono ?_).v
      rintro p T ⟨rfl, rfl⟩
      refine ⟨_, _, ext_set _ (by omega) (by simp), ?_⟩
      clear hGc hGh
      clear Gc Gh
      refine xs_go hsuf (D := []) (by rfl) fun Gc Gh hGc hGh X hX0 hX => ?_
      simp -implicitDefEqProofs [hX0, hX]
      clear hX0 hX X
      intros
      refine hK _ _ _ ?_
      clear hK hGc hGh
      clear K Gc Gh
      have bad : (c.size < there + z ∨ there + z < c.rate) → nightsE c q = ([], 8) := fun h => by
        rw [hres, ho]; simp only [runN, if_pos h, Option.map_none]
      by_cases h1 : c.size < there + z
      · repeat refine pw_seq ?_
        refine pw_N [(4, 48)] (by rfl) (by rfl) fun K Gc Gh hK hGc hGh X hX0 hX => ?_
        simp -implicitDefEqProofs [hX0, hX, h1, undef]
        try clear hX0 hX X
        intros
        refine hK _ _ _ ?_
        clear hK hGc hGh
        clear K Gc Gh
        repeat refine pw_seq ?_
        refine pw_ct rfl ?_
        repeat refine pw_seq ?_
        refine pw_N [] (by rfl) (by rfl) fun K Gc Gh hK hGc hGh X hX0 hX => ?_
        simp -implicitDefEqProofs [hX0, hX]
        try clear hX0 hX X
        intros
        refine hK _ _ _ ?_
        clear hK hGc hGh
        clear K Gc Gh
        refine pw_nil_lst 4 rfl ?_
        repeat refine pw_seq ?_
        exact pw_ret (ret_pure hd (by simp; rfl) (by rw [bad (.inl h1)]; rfl))
      by_cases h2 : there + z < c.rate
      · repeat refine pw_seq ?_
        refine pw_N [(4, 48)] (by rfl) (by rfl) fun K Gc Gh hK hGc hGh X hX0 hX => ?_
        simp -implicitDefEqProofs [hX0, hX, h1, h2]
        try clear hX0 hX X
        intros
        refine hK _ _ _ ?_
        clear hK hGc hGh
        clear K Gc Gh
        repeat refine pw_seq ?_
        refine pw_ct rfl ?_
        repeat refine pw_seq ?_
        refine pw_N [] (by rfl) (by rfl) fun K Gc Gh hK hGc hGh X hX0 hX => ?_
        simp -implicitDefEqProofs [hX0, hX]
        try clear hX0 hX X
        intros
        refine hK _ _ _ ?_
        clear hK hGc hGh
        clear K Gc Gh
        refine pw_nil_lst 4 rfl ?_
        repeat refine pw_seq ?_
        exact pw_ret (ret_pure hd (by simp; rfl) (by rw [bad (.inr h2)]; rfl))
      repeat refine pw_seq ?_
      refine pw_N [(4, 48)] (by rfl) (by rfl) fun K Gc Gh hK hGc hGh X hX0 hX => ?_
      simp -implicitDefEqProofs [hX0, hX, h1, h2]
      try clear hX0 hX X
      intros
      refine hK _ _ _ ?_
      clear hK hGc hGh
      clear K Gc Gh
      repeat refine pw_seq ?_
      refine pw_cf rfl ?_
      refine pw_skip ?_
      repeat refine pw_seq ?_
      refine pw_N [] (by rfl) (by rfl) fun K Gc Gh hK hGc hGh X hX0 hX => ?_
      simp -implicitDefEqProofs [hX0, hX]
      try clear hX0 hX X
      refine ⟨by omega, ?_⟩
      intros
      refine hK _ _ _ ?_
      clear hK hGc hGh
      clear K Gc Gh
      repeat refine pw_seq ?_
      refine pw_N [] (by rfl) (by rfl) fun K Gc Gh hK hGc hGh X hX0 hX => ?_
      simp -implicitDefEqProofs [hX0, hX]
      try clear hX0 hX X
      intros
      refine hK _ _ _ ?_
      clear hK hGc hGh
      clear K Gc Gh
      exact again_mk (k + 1, there + z - c.rate, out ++ [there + z - c.rate], v2 + 1) [] ⟨hc, by simp [hol], by dsimp only; omega, runN_step ho h1 h2⟩ (by simp; omega) (by simp [wrN k (by omega)]) rfl (by simp)
    · simp at hc
      obtain rfl : k = q.length := by omega
      rw [List.drop_length] at ho
      simp only [runN, Option.map_some, List.append_nil] at ho
      refine pw_exit ?_
      repeat refine pw_seq ?_
      refine pw_N [] (by rfl) (by rfl) fun K Gc Gh hK hGc hGh X hX0 hX => ?_
      simp -implicitDefEqProofs [hX0, hX]
      try clear hX0 hX X
      intros
      refine hK _ _ _ ?_
      clear hK hGc hGh
      clear K Gc Gh
      refine pw_frz 3 rfl ?_
      repeat refine pw_seq ?_
      exact pw_ret (ret_pure hd (by simp; rfl) (by rw [hres, ho]; simp [oneOf]))

end Go.Proofs.YtlkcdaeknioanaaGreat.Pv
