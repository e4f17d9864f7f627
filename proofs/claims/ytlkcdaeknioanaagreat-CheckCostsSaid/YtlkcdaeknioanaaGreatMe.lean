/- The walk of the law CheckCosts. -/
import Derived.Test.YtlkcdaeknioanaaGreatMb
namespace Go.Proofs.YtlkcdaeknioanaaGreat.Pv
open Go

theorem toursW_out (x : Inst) (p : Plan) (day : Int) (h : day < 0 ∨ (p.length : Int) ≤ day) : toursW x p day = [] := by
  unfold toursW
  rcases h with h | h
  · rw [if_neg (by omega)]
  · rw [if_pos (by omega), List.getElem?_eq_none (by omega)]

set_option maxRecDepth 20000 in
theorem checkCosts_ok (x : Inst) (pick : List Int) (joins : List Bool) (day : Int) (hx : InstOk x) (hpk : ∀ z ∈ pick, I64 z) : Pure Tryz.prog 7 [.agg (instL x), L pick, L joins, I day] (B true) := by
  have hgd := good_days x
  have hgc := good_cap x
  have hgn := good_cust x
  have hmade := made_ok (goodV x 6 (goodI x).cap 1000) (goodI x).days.toNat pick joins (instMade_good x _ _ _ (by omega)) hpk
  have hgood := goodI_ok x hx
  have hgo : InstOk (goodV x 6 (goodI x).cap 1000) := instOk_good x 6 (goodI x).cap 1000 (by unfold I64; omega) (by unfold I64; omega) (by unfold I64; omega)
  have hfit := custFits_good x
  obtain ⟨y, hy⟩ : ∃ y, y = goodV x 6 (goodI x).cap 1000 := ⟨_, rfl⟩
  have e1 : PV.agg (instL y) = .agg [I (goodI x).days, I 6, I (goodI x).cap, I 1000, L (goodI x).cust, L (goodI x).dist] := by rw [hy]; rfl
  rw [← hy] at hmade hgo
  have hyc : y.cust.length ≤ 6 := by rw [hy]; exact hgn
  have hfy : ∀ c ∈ y.cust, CustFits c := by rw [hy]; exact hfit
  have hnn : (goodI x).days.toNat ≤ 7 := by omega
  generalize (goodI x).days.toNat = n at hmade hnn
  rw [e1] at hmade
  generalize goodI x = g at *
  refine pure_enter Tryz.func7 (by rfl) rfl Tryz.ntmps7 (congrArg Array.toList Tryz.results7) (by simp) fun S nx hd => ?_
  repeat refine pw_seq ?_
  refine pw_N [] (by rfl) (by rfl) fun K Gc Gh hK hGc hGh X hX0 hX => ?_
  simp -implicitDefEqProofs [hX0, hX]
  try clear hX0 hX X
  intro v0
  refine hK _ _ _ ?_
  clear hK hGc hGh
  clear K Gc Gh
  repeat refine pw_seq ?_
  refine pw_N [] (by rfl) (by rfl) fun K Gc Gh hK hGc hGh X hX0 hX => ?_
  simp -implicitDefEqProofs [hX]
  try clear hX0 hX X
  refine hGc _ _ _ _ _ _ _ fun hsuf => ((hgood _).mono ?_).v
  rintro _ _ ⟨rfl, rfl⟩
  refine ⟨_, _, rfl, ?_⟩
  clear hGc hGh
  clear Gc Gh
  refine xs_go hsuf (D := []) (by rfl) fun Gc Gh hGc hGh X hX0 hX => ?_
  simp -implicitDefEqProofs [hX0, hX]
  try clear hX0 hX X
  intro v1
  intros
  refine hK _ _ _ ?_
  clear hK hGc hGh
  clear K Gc Gh
  repeat refine pw_seq ?_
  refine pw_N [] (by rfl) (by rfl) fun K Gc Gh hK hGc hGh X hX0 hX => ?_
  simp -implicitDefEqProofs [hX0, hX]
  try clear hX0 hX X
  intros
  refine hK _ _ _ ?_
  clear hK hGc hGh
  clear K Gc Gh
  repeat refine pw_seq ?_
  refine pw_N [] (by rfl) (by rfl) fun K Gc Gh hK hGc hGh X hX0 hX => ?_
  simp -implicitDefEqProofs [hX0, hX]
  try clear hX0 hX X
  intros
  refine hK _ _ _ ?_
  clear hK hGc hGh
  clear K Gc Gh
  repeat refine pw_seq ?_
  refine pw_N [] (by rfl) (by rfl) fun K Gc Gh hK hGc hGh X hX0 hX => ?_
  simp -implicitDefEqProofs [hX]
  try clear hX0 hX X
  refine hGc _ _ _ _ _ _ _ fun hsuf => ((hmade _).mono ?_).v
  rintro _ _ ⟨⟨pl, b, rfl, hg⟩, rfl⟩
  refine ⟨_, _, rfl, ?_⟩
  clear hGc hGh
  clear Gc Gh
  refine xs_go hsuf (D := []) (by rfl) fun Gc Gh hGc hGh X hX0 hX => ?_
  simp -implicitDefEqProofs [hX0, hX]
  try clear hX0 hX X
  intro v2
  intros
  refine hK _ _ _ ?_
  clear hK hGc hGh
  clear K Gc Gh
  cases b with
  | false =>
    repeat refine pw_seq ?_
    refine pw_N [(2, 32)] (by rfl) (by rfl) fun K Gc Gh hK hGc hGh X hX0 hX => ?_
    simp -implicitDefEqProofs [hX0, hX, undef]
    try clear hX0 hX X
    intros
    refine hK _ _ _ ?_
    clear hK hGc hGh
    clear K Gc Gh
    repeat refine pw_seq ?_
    refine pw_ct rfl ?_
    repeat refine pw_seq ?_
    refine pw_N [] (by rfl) (by rfl) fun K Gc Gh hK hGc hGh X hX0 hX => ?_
    simp -implicitDefEqProofs [hX]
    try clear hX0 hX X
    refine hGc _ _ _ _ _ _ _ fun hsuf => ((lives_ok _).mono ?_).v
    rintro _ _ ⟨rfl, rfl⟩
    refine ⟨_, _, rfl, ?_⟩
    clear hGc hGh
    clear Gc Gh
    refine xs_go hsuf (D := []) (by rfl) fun Gc Gh hGc hGh X hX0 hX => ?_
    simp -implicitDefEqProofs [hX0, hX]
    try clear hX0 hX X
    intros
    refine hK _ _ _ ?_
    clear hK hGc hGh
    clear K Gc Gh
    repeat refine pw_seq ?_
    exact pw_ret (ret_pure hd (by simp; rfl) rfl)
  | true =>
    obtain ⟨hm, hcnt⟩ := hg rfl
    have hpl := hm.len
    have hsz := made_sz hm (by omega) (by omega) hcnt
    have hsv := made_serves (x := y) hm (by omega) (by omega) hcnt
    have hdo := made_dayOk hm (by omega)
    have hPR := planR_ok y pl hgo hsz
    have hHP := holdingP_ok y pl hsv (by omega) hfy
    have hHR := holdingR_ok y pl hsv (by omega) hfy
    have hDs := checkDays_ok y pl (by omega) hdo
    have hT := fun k => checkTours_ok y pl k (by omega) hdo
    have hco := fun d hd => costR_ok y d (hdo d hd)
    have hCC := checkCost_ok y pl hsv (by omega) hfy hdo
    have hRC := refCost_ok y pl hsv (by omega) hfy hdo
    have hres := costAll_days y pl
    have hld : (daysW y pl).length = pl.length := by simp [daysW]
    have hdm : ∀ (k : Nat) (d : Day), pl[k]? = some d → (daysW y pl)[k]? = some (W (costZ y d)) := by
      intro k d h; simp [daysW, h]
    have htw : ∀ (k : Nat) (d : Day), pl[k]? = some d → toursW y pl k = d.map fun t => W (wayZ y (t.map (·.c))) := by
      intro k d h; simp [toursW, h]
    have htc : ∀ d : Day, W (d.map fun t => W (wayZ y (t.map (·.c)))).sum = W (costZ y d) := by
      intro d
      have := sum_W 0 (d.map fun t => wayZ y (t.map (·.c)))
      simp only [Int.zero_add, List.map_map] at this
      exact this
    have htt := toursW_out y pl day
    simp only [e1] at hPR hHP hHR hDs hT hco hCC hRC
    generalize holdTo y pl y.cust.length = hz at *
    generalize daysW y pl = ds at *
    generalize costAll y pl = ca at *
    repeat refine pw_seq ?_
    refine pw_N [(2, 32)] (by rfl) (by rfl) fun K Gc Gh hK hGc hGh X hX0 hX => ?_
    simp -implicitDefEqProofs [hX]
    try clear hX0 hX X
    refine hGc _ _ _ _ _ _ _ fun hsuf => ((hPR _).mono ?_).v
    rintro _ _ ⟨rfl, rfl⟩
    refine ⟨_, _, rfl, ?_⟩
    clear hGc hGh
    clear Gc Gh
    refine xs_go hsuf (D := [(2, 32)]) (by rfl) fun Gc Gh hGc hGh X hX0 hX => ?_
    simp -implicitDefEqProofs [hX0, hX]
    try clear hX0 hX X
    intros
    refine hK _ _ _ ?_
    clear hK hGc hGh
    clear K Gc Gh
    by_cases hpe : planE y pl = 0
    case neg =>
      repeat refine pw_seq ?_
      refine pw_ct (by simp [hpe]) ?_
      repeat refine pw_seq ?_
      refine pw_N [] (by rfl) (by rfl) fun K Gc Gh hK hGc hGh X hX0 hX => ?_
      simp -implicitDefEqProofs [hX]
      try clear hX0 hX X
      refine hGc _ _ _ _ _ _ _ fun hsuf => ((lives_ok _).mono ?_).v
      rintro _ _ ⟨rfl, rfl⟩
      refine ⟨_, _, rfl, ?_⟩
      clear hGc hGh
      clear Gc Gh
      refine xs_go hsuf (D := []) (by rfl) fun Gc Gh hGc hGh X hX0 hX => ?_
      simp -implicitDefEqProofs [hX0, hX]
      try clear hX0 hX X
      intros
      refine hK _ _ _ ?_
      clear hK hGc hGh
      clear K Gc Gh
      repeat refine pw_seq ?_
      exact pw_ret (ret_pure hd (by simp; rfl) rfl)
    repeat refine pw_seq ?_
    refine pw_cf (by simp [hpe]) ?_
    refine pw_skip ?_
    repeat refine pw_seq ?_
    refine pw_N [] (by rfl) (by rfl) fun K Gc Gh hK hGc hGh X hX0 hX => ?_
    simp -implicitDefEqProofs [hX]
    try clear hX0 hX X
    refine hGc _ _ _ _ _ _ _ fun hsuf => ((hHP _).mono ?_).v
    rintro _ _ ⟨rfl, rfl⟩
    refine ⟨_, _, rfl, ?_⟩
    clear hGc hGh
    clear Gc Gh
    refine xs_go hsuf (D := []) (by rfl) fun Gc Gh hGc hGh X hX0 hX => ?_
    simp -implicitDefEqProofs [hX0, hX]
    try clear hX0 hX X
    intros
    refine hK _ _ _ ?_
    clear hK hGc hGh
    clear K Gc Gh
    repeat refine pw_seq ?_
    refine pw_N [] (by rfl) (by rfl) fun K Gc Gh hK hGc hGh X hX0 hX => ?_
    simp -implicitDefEqProofs [hX]
    try clear hX0 hX X
    refine hGc _ _ _ _ _ _ _ fun hsuf => ((hHR _).mono ?_).v
    rintro _ _ ⟨rfl, rfl⟩
    refine ⟨_, _, rfl, ?_⟩
    clear hGc hGh
    clear Gc Gh
    refine xs_go hsuf (D := []) (by rfl) fun Gc Gh hGc hGh X hX0 hX => ?_
    simp -implicitDefEqProofs [hX0, hX]
    try clear hX0 hX X
    intros
    refine hK _ _ _ ?_
    clear hK hGc hGh
    clear K Gc Gh
    repeat refine pw_seq ?_
    refine pw_cf (by simp) ?_
    refine pw_skip ?_
    repeat refine pw_seq ?_
    refine pw_N [] (by rfl) (by rfl) fun K Gc Gh hK hGc hGh X hX0 hX => ?_
    simp -implicitDefEqProofs [hX]
    try clear hX0 hX X
    refine hGc _ _ _ _ _ _ _ fun hsuf => ((hDs _).mono ?_).v
    rintro _ _ ⟨rfl, rfl⟩
    refine ⟨_, _, rfl, ?_⟩
    clear hGc hGh
    clear Gc Gh
    refine xs_go hsuf (D := []) (by rfl) fun Gc Gh hGc hGh X hX0 hX => ?_
    simp -implicitDefEqProofs [hX0, hX]
    try clear hX0 hX X
    intros
    refine hK _ _ _ ?_
    clear hK hGc hGh
    clear K Gc Gh
    repeat refine pw_seq ?_
    refine pw_N [] (by rfl) (by rfl) fun K Gc Gh hK hGc hGh X hX0 hX => ?_
    simp -implicitDefEqProofs [hX0, hX, hld]
    try clear hX0 hX X
    intros
    refine hK _ _ _ ?_
    clear hK hGc hGh
    clear K Gc Gh
    repeat refine pw_seq ?_
    refine pw_cf (by simp) ?_
    refine pw_skip ?_
    repeat refine pw_seq ?_
    refine pw_N [] (by rfl) (by rfl) fun K Gc Gh hK hGc hGh X hX0 hX => ?_
    simp -implicitDefEqProofs [hX0, hX]
    try clear hX0 hX X
    intros
    refine hK _ _ _ ?_
    clear hK hGc hGh
    clear K Gc Gh
    repeat refine pw_seq ?_
    refine pw_block (pw_loopL (fun s : Nat => s ≤ ds.length) (fun k => [(3, I day), (9, .ptr (nx + 1) v1 0), (10, .ptr (nx + 2) v2 0), (12, I (W (W hz + (ds.take k).sum))), (13, L ds), (14, I k)]) (fun _ => [.cells v0 25 (instL x), .cells v1 25 [I g.days, I 6, I g.cap, I 1000, L g.cust, L g.dist], .cells v2 30 [L pl]]) (fun s => ds.length - s) 0 [] (by simp) (by simp [W_W]) (by simp) ?_)
    rintro k hk
    repeat refine pw_seq ?_
    refine pw_N [] (by rfl) (by rfl) fun K Gc Gh hK hGc hGh X hX0 hX => ?_
    simp -implicitDefEqProofs [hX0, hX]
    try clear hX0 hX X
    intros
    refine hK _ _ _ ?_
    clear hK hGc hGh
    clear K Gc Gh
    repeat refine pw_seq ?_
    refine pw_cond rfl (fun hc => ?_) (fun hc => ?_)
    · simp at hc
      have hkp : k < pl.length := by omega
      obtain ⟨d, tl, a1, a2, a3, e0⟩ := el1 rfl pl k hkp
      obtain ⟨z, tlz, b1, b2, b3, e2⟩ := el1 rfl ds k hc
      have hzz : z = W (costZ y d) := by have := hdm k d a1; rw [b1] at this; exact Option.some.inj this
      have hTk := hT k
      have hcd := hco d (List.mem_of_getElem? a1)
      have hdn := (hdo d (List.mem_of_getElem? a1)).n
      have htl : (d.map fun t => W (wayZ y (t.map (·.c)))).length = d.length := by simp
      have hsum := htc d
      rw [← hzz] at hcd hsum
      rw [htw k d a1] at hTk
      generalize (d.map fun t => W (wayZ y (t.map (·.c)))) = tk at hTk htl hsum
      have hw : W (W (W hz + (ds.take k).sum) + z) = W (W hz + (ds.take (k + 1)).sum) := by rw [b3, sum_snoc, W_add]; congr 1; omega
      refine pw_skip (pw_seq (pw_block ?_))
      repeat refine pw_seq ?_
      refine pw_N [] (by rfl) (by rfl) fun K Gc Gh hK hGc hGh X hX0 hX => ?_
      simp -implicitDefEqProofs [hX]
      try clear hX0 hX X
      refine hGc _ _ _ _ _ _ _ fun hsuf => ((hTk _).mono ?_).v
      rintro _ _ ⟨rfl, rfl⟩
      refine ⟨_, _, rfl, ?_⟩
      clear hGc hGh
      clear Gc Gh
      refine xs_go hsuf (D := []) (by rfl) fun Gc Gh hGc hGh X hX0 hX => ?_
      simp -implicitDefEqProofs [hX0, hX]
      try clear hX0 hX X
      intros
      refine hK _ _ _ ?_
      clear hK hGc hGh
      clear K Gc Gh
      repeat refine pw_seq ?_
      refine pw_N [] (by rfl) (by rfl) fun K Gc Gh hK hGc hGh X hX0 hX => ?_
      simp -implicitDefEqProofs [hX0, hX]
      try clear hX0 hX X
      intros
      refine hK _ _ _ ?_
      clear hK hGc hGh
      clear K Gc Gh
      repeat refine pw_seq ?_
      refine pw_N [] (by rfl) (by rfl) fun K Gc Gh hK hGc hGh X hX0 hX => ?_
      simp -implicitDefEqProofs [hX0, hX, e0, hkp, htl]
      try clear hX0 hX X
      intros
      refine hK _ _ _ ?_
      clear hK hGc hGh
      clear K Gc Gh
      repeat refine pw_seq ?_
      refine pw_cf (by simp) ?_
      refine pw_skip ?_
      repeat refine pw_seq ?_
      refine pw_N [] (by rfl) (by rfl) fun K Gc Gh hK hGc hGh X hX0 hX => ?_
      simp -implicitDefEqProofs [hX0, hX]
      try clear hX0 hX X
      intros
      refine hK _ _ _ ?_
      clear hK hGc hGh
      clear K Gc Gh
      repeat refine pw_seq ?_
      refine pw_block (pw_loopL (fun s : Nat => s ≤ tk.length) (fun j => [(3, I day), (9, .ptr (nx + 1) v1 0), (10, .ptr (nx + 2) v2 0), (12, I (W (W hz + (ds.take k).sum))), (13, L ds), (14, I k), (15, L tk), (16, I (W (tk.take j).sum)), (17, I j)]) (fun _ => [.cells v0 25 (instL x), .cells v1 25 [I g.days, I 6, I g.cap, I 1000, L g.cust, L g.dist], .cells v2 30 [L pl]]) (fun s => tk.length - s) 0 [] (by simp) (by simp) (by simp) ?_)
      rintro j hj
      repeat refine pw_seq ?_
      refine pw_N [] (by rfl) (by rfl) fun K Gc Gh hK hGc hGh X hX0 hX => ?_
      simp -implicitDefEqProofs [hX0, hX]
      try clear hX0 hX X
      intros
      refine hK _ _ _ ?_
      clear hK hGc hGh
      clear K Gc Gh
      repeat refine pw_seq ?_
      refine pw_cond rfl (fun hc2 => ?_) (fun hc2 => ?_)
      · simp at hc2
        obtain ⟨q, tlq, c1, c2, c3, e4⟩ := el1 rfl tk j hc2
        have hw2 : W (W (tk.take j).sum + q) = W (tk.take (j + 1)).sum := by rw [c3, sum_snoc, W_add]
        refine pw_skip (pw_seq (pw_block ?_))
        repeat refine pw_seq ?_
        refine pw_N [] (by rfl) (by rfl) fun K Gc Gh hK hGc hGh X hX0 hX => ?_
        simp -implicitDefEqProofs [hX0, hX, e4, hc2]
        try clear hX0 hX X
        intros
        refine hK _ _ _ ?_
        clear hK hGc hGh
        clear K Gc Gh
        repeat refine pw_seq ?_
        refine pw_N [] (by rfl) (by rfl) fun K Gc Gh hK hGc hGh X hX0 hX => ?_
        simp -implicitDefEqProofs [hX0, hX]
        try clear hX0 hX X
        intros
        refine hK _ _ _ ?_
        clear hK hGc hGh
        clear K Gc Gh
        exact again_mk (j + 1) [] hc2 (by omega) (by simp [wrN j (by omega)]; exact hw2) rfl (by simp)
      · simp at hc2
        obtain rfl : j = tk.length := by omega
        rw [List.take_length, hsum]
        refine pw_exit ?_
        repeat refine pw_seq ?_
        refine pw_Y (some [nx + 1, nx + 2]) (Row.pures [0, 1, 2, 3, 4, 5, 6, 7, 8, 9, 10, 11, 12, 13, 14, 15, 16, 17, 18, 19] .done) mixed (by rfl) (by rfl) (by rfl) fun K Gp Gc Gh hK hGp hGc hGh X hX0 hX1 hX2 hX => ?_
        simp -implicitDefEqProofs [hX2, e2, hc, e0, hkp]
        try clear hX0 hX1 hX2 hX X
        refine hGp _ _ _ _ _ _ _ _ (hcd) ?_
        clear hGp hGc hGh
        clear Gp Gc Gh
        refine px_go fun Gp Gc Gh hGp hGc hGh X hX0 hX1 hX2 hX => ?_
        simp -implicitDefEqProofs [hX0, hX2]
        try clear hX0 hX1 hX2 hX X
        refine hK _ _ _ ?_
        clear hK hGp hGc hGh
        clear K Gp Gc Gh
        repeat refine pw_seq ?_
        refine pw_cf (by simp) ?_
        refine pw_skip ?_
        repeat refine pw_seq ?_
        refine pw_N [] (by rfl) (by rfl) fun K Gc Gh hK hGc hGh X hX0 hX => ?_
        simp -implicitDefEqProofs [hX0, hX, e2, hc]
        try clear hX0 hX X
        intros
        refine hK _ _ _ ?_
        clear hK hGc hGh
        clear K Gc Gh
        repeat refine pw_seq ?_
        refine pw_N [] (by rfl) (by rfl) fun K Gc Gh hK hGc hGh X hX0 hX => ?_
        simp -implicitDefEqProofs [hX0, hX]
        try clear hX0 hX X
        intros
        refine hK _ _ _ ?_
        clear hK hGc hGh
        clear K Gc Gh
        exact again_mk (k + 1) [] hc (by omega) (by simp [wrN k (by omega)]; exact hw) rfl (by simp)
    · simp at hc
      obtain rfl : k = ds.length := by omega
      rw [List.take_length, hres]
      refine pw_exit ?_
      repeat refine pw_seq ?_
      refine pw_N [] (by rfl) (by rfl) fun K Gc Gh hK hGc hGh X hX0 hX => ?_
      simp -implicitDefEqProofs [hX]
      try clear hX0 hX X
      refine hGc _ _ _ _ _ _ _ fun hsuf => ((hT day _).mono ?_).v
      rintro _ _ ⟨rfl, rfl⟩
      refine ⟨_, _, rfl, ?_⟩
      clear hGc hGh
      clear Gc Gh
      refine xs_go hsuf (D := []) (by rfl) fun Gc Gh hGc hGh X hX0 hX => ?_
      simp -implicitDefEqProofs [hX0, hX]
      try clear hX0 hX X
      intros
      refine hK _ _ _ ?_
      clear hK hGc hGh
      clear K Gc Gh
      by_cases h1 : day < 0
      · have h3 := htt (.inl h1)
        repeat refine pw_seq ?_
        refine pw_N [(2, 121), (9, 128)] (by rfl) (by rfl) fun K Gc Gh hK hGc hGh X hX0 hX => ?_
        simp -implicitDefEqProofs [hX0, hX, h1, h3, undef]
        try clear hX0 hX X
        intros
        refine hK _ _ _ ?_
        clear hK hGc hGh
        clear K Gc Gh
        repeat refine pw_seq ?_
        refine pw_cf rfl ?_
        refine pw_skip ?_
        repeat refine pw_seq ?_
        refine pw_N [(5, 137), (12, 144)] (by rfl) (by rfl) fun K Gc Gh hK hGc hGh X hX0 hX => ?_
        simp -implicitDefEqProofs [hX]
        try clear hX0 hX X
        refine hGc _ _ _ _ _ _ _ fun hsuf => ((hCC _).mono ?_).v
        rintro _ _ ⟨rfl, rfl⟩
        refine ⟨_, _, rfl, ?_⟩
        clear hGc hGh
        clear Gc Gh
        refine xs_go hsuf (D := [(5, 137), (12, 144)]) (by rfl) fun Gc Gh hGc hGh X hX0 hX => ?_
        simp -implicitDefEqProofs [hX]
        try clear hX0 hX X
        refine hGc _ _ _ _ _ _ _ fun hsuf => ((hRC _).mono ?_).v
        rintro _ _ ⟨rfl, rfl⟩
        refine ⟨_, _, rfl, ?_⟩
        clear hGc hGh
        clear Gc Gh
        refine xs_go hsuf (D := [(5, 137), (12, 144)]) (by rfl) fun Gc Gh hGc hGh X hX0 hX => ?_
        simp -implicitDefEqProofs [hX]
        try clear hX0 hX X
        refine hGc _ _ _ _ _ _ _ fun hsuf => ((lives_ok _).mono ?_).v
        rintro _ _ ⟨rfl, rfl⟩
        refine ⟨_, _, rfl, ?_⟩
        clear hGc hGh
        clear Gc Gh
        refine xs_go hsuf (D := [(5, 137), (12, 144)]) (by rfl) fun Gc Gh hGc hGh X hX0 hX => ?_
        simp -implicitDefEqProofs [hX0, hX]
        try clear hX0 hX X
        intros
        refine hK _ _ _ ?_
        clear hK hGc hGh
        clear K Gc Gh
        repeat refine pw_seq ?_
        exact pw_ret (ret_pure hd (by simp; rfl) rfl)
      by_cases h2 : (pl.length : Int) ≤ day
      · have h3 := htt (.inr h2)
        repeat refine pw_seq ?_
        refine pw_N [(2, 121), (9, 128)] (by rfl) (by rfl) fun K Gc Gh hK hGc hGh X hX0 hX => ?_
        simp -implicitDefEqProofs [hX0, hX, h1, h2, h3]
        try clear hX0 hX X
        intros
        refine hK _ _ _ ?_
        clear hK hGc hGh
        clear K Gc Gh
        repeat refine pw_seq ?_
        refine pw_cf rfl ?_
        refine pw_skip ?_
        repeat refine pw_seq ?_
        refine pw_N [(5, 137), (12, 144)] (by rfl) (by rfl) fun K Gc Gh hK hGc hGh X hX0 hX => ?_
        simp -implicitDefEqProofs [hX]
        try clear hX0 hX X
        refine hGc _ _ _ _ _ _ _ fun hsuf => ((hCC _).mono ?_).v
        rintro _ _ ⟨rfl, rfl⟩
        refine ⟨_, _, rfl, ?_⟩
        clear hGc hGh
        clear Gc Gh
        refine xs_go hsuf (D := [(5, 137), (12, 144)]) (by rfl) fun Gc Gh hGc hGh X hX0 hX => ?_
        simp -implicitDefEqProofs [hX]
        try clear hX0 hX X
        refine hGc _ _ _ _ _ _ _ fun hsuf => ((hRC _).mono ?_).v
        rintro _ _ ⟨rfl, rfl⟩
        refine ⟨_, _, rfl, ?_⟩
        clear hGc hGh
        clear Gc Gh
        refine xs_go hsuf (D := [(5, 137), (12, 144)]) (by rfl) fun Gc Gh hGc hGh X hX0 hX => ?_
        simp -implicitDefEqProofs [hX]
        try clear hX0 hX X
        refine hGc _ _ _ _ _ _ _ fun hsuf => ((lives_ok _).mono ?_).v
        rintro _ _ ⟨rfl, rfl⟩
        refine ⟨_, _, rfl, ?_⟩
        clear hGc hGh
        clear Gc Gh
        refine xs_go hsuf (D := [(5, 137), (12, 144)]) (by rfl) fun Gc Gh hGc hGh X hX0 hX => ?_
        simp -implicitDefEqProofs [hX0, hX]
        try clear hX0 hX X
        intros
        refine hK _ _ _ ?_
        clear hK hGc hGh
        clear K Gc Gh
        repeat refine pw_seq ?_
        exact pw_ret (ret_pure hd (by simp; rfl) rfl)
      repeat refine pw_seq ?_
      refine pw_N [(2, 121), (9, 128)] (by rfl) (by rfl) fun K Gc Gh hK hGc hGh X hX0 hX => ?_
      simp -implicitDefEqProofs [hX0, hX, h1, h2, undef]
      try clear hX0 hX X
      intros
      refine hK _ _ _ ?_
      clear hK hGc hGh
      clear K Gc Gh
      repeat refine pw_seq ?_
      refine pw_cf rfl ?_
      refine pw_skip ?_
      repeat refine pw_seq ?_
      refine pw_N [(5, 137), (12, 144)] (by rfl) (by rfl) fun K Gc Gh hK hGc hGh X hX0 hX => ?_
      simp -implicitDefEqProofs [hX]
      try clear hX0 hX X
      refine hGc _ _ _ _ _ _ _ fun hsuf => ((hCC _).mono ?_).v
      rintro _ _ ⟨rfl, rfl⟩
      refine ⟨_, _, rfl, ?_⟩
      clear hGc hGh
      clear Gc Gh
      refine xs_go hsuf (D := [(5, 137), (12, 144)]) (by rfl) fun Gc Gh hGc hGh X hX0 hX => ?_
      simp -implicitDefEqProofs [hX]
      try clear hX0 hX X
      refine hGc _ _ _ _ _ _ _ fun hsuf => ((hRC _).mono ?_).v
      rintro _ _ ⟨rfl, rfl⟩
      refine ⟨_, _, rfl, ?_⟩
      clear hGc hGh
      clear Gc Gh
      refine xs_go hsuf (D := [(5, 137), (12, 144)]) (by rfl) fun Gc Gh hGc hGh X hX0 hX => ?_
      simp -implicitDefEqProofs [hX]
      try clear hX0 hX X
      refine hGc _ _ _ _ _ _ _ fun hsuf => ((lives_ok _).mono ?_).v
      rintro _ _ ⟨rfl, rfl⟩
      refine ⟨_, _, rfl, ?_⟩
      clear hGc hGh
      clear Gc Gh
      refine xs_go hsuf (D := [(5, 137), (12, 144)]) (by rfl) fun Gc Gh hGc hGh X hX0 hX => ?_
      simp -implicitDefEqProofs [hX0, hX]
      try clear hX0 hX X
      intros
      refine hK _ _ _ ?_
      clear hK hGc hGh
      clear K Gc Gh
      repeat refine pw_seq ?_
      exact pw_ret (ret_pure hd (by simp; rfl) rfl)

end Go.Proofs.YtlkcdaeknioanaaGreat.Pv
