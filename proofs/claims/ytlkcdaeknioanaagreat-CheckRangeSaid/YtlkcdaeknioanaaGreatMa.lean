/- The walk of the law CheckRange. -/
import Derived.Test.YtlkcdaeknioanaaGreatLw
namespace Go.Proofs.YtlkcdaeknioanaaGreat.Pv
open Go

def firstX (x : Inst) : Inst := ⟨x.days, x.veh, x.cap, x.len, x.cust.take 8, x.dist.take 9⟩
theorem firstX_ok {x : Inst} (hx : InstOk x) : InstOk (firstX x) := by
  refine ⟨hx.days, hx.veh, hx.cap, hx.len, ?_, fun c hc => hx.cust c (List.mem_of_mem_take hc), ?_, fun r hr => hx.dist r (List.mem_of_mem_take hr)⟩
  · have := hx.ncust; simp [firstX]; omega
  · have := hx.ndist; simp [firstX]; omega

set_option maxRecDepth 20000 in
theorem checkRange_ok (x : Inst) (p : Plan) (hx : InstOk x) : Pure Tryz.prog 4 [.agg (instL x), .agg [L p]] (B true) := by
  have hy := firstX_ok hx
  obtain ⟨hsz, hq8⟩ := cutP_sz p
  have h1 := cut_ok p
  have hc8 : ∀ l : List Cust, (l.flatMap Enc.enc).take (8 * 8) = (l.take 8).flatMap Enc.enc := fun l => flat_take (α := Cust) Enc.enc 8 (fun _ => rfl) l 8
  have hd9 : ∀ l : List (List Int), (l.flatMap Enc.enc).take 9 = (l.take 9).flatMap Enc.enc := fun l => flat_take (α := List Int) Enc.enc 1 (fun _ => rfl) l 9
  generalize cutP p = q at *
  obtain ⟨y, hyd⟩ : ∃ y, y = firstX x := ⟨_, rfl⟩
  rw [← hyd] at hy
  have h2 := mayIR_ok y hy
  have h3 := planP_ok y q hy hsz
  have h4 := planR_ok y q hy hsz
  refine pure_enter Tryz.func4 (by rfl) rfl Tryz.ntmps4 (congrArg Array.toList Tryz.results4) (by simp) fun S nx hd => ?_
  repeat refine pw_seq ?_
  refine pw_N [] (by rfl) (by rfl) fun K Gc Gh hK hGc hGh X hX0 hX => ?_
  simp -implicitDefEqProofs [hX0, hX]
  try clear hX0 hX X
  intro v0 v1
  refine hK _ _ _ ?_
  clear hK hGc hGh
  clear K Gc Gh
  repeat refine pw_seq ?_
  refine pw_N [] (by rfl) (by rfl) fun K Gc Gh hK hGc hGh X hX0 hX => ?_
  simp -implicitDefEqProofs [hX0, hX]
  try clear hX0 hX X
  intros
  refine hK _ _ _ ?_
  clear hK hGc hGh
  clear K Gc Gh
  repeat refine pw_seq ?_
  refine pw_joinK (nx := nx) (σ := Unit) (fun _ => True) (fun _ => [(2, .ptr nx v0 0), (3, .ptr (nx + 1) v1 0)]) (fun _ => S) (fun _ => [.cells v0 25 [I x.days, I x.veh, I x.cap, I x.len, L (x.cust.take 8), L x.dist], .cells v1 30 [L p]]) ?_ ?_
  · by_cases h : 8 < x.cust.length
    · have hl : (x.cust.take 8).length = 8 := by simp; omega
      have hcc := hc8 x.cust
      have h8 : 8 ≤ x.cust.length := by omega
      have hmin : min 8 x.cust.length = 8 := by omega
      repeat refine pw_seq ?_
      refine pw_ct (by simp; omega) ?_
      repeat refine pw_seq ?_
      refine pw_N [] (by rfl) (by rfl) fun K Gc Gh hK hGc hGh X hX0 hX => ?_
      simp -implicitDefEqProofs [hX0, hX, h, hcc, h8]
      try clear hX0 hX X
      intros
      refine hK _ _ _ ?_
      clear hK hGc hGh
      clear K Gc Gh
      exact at_mk () [] trivial (by simp) rfl (by simp [hl, hmin, hcc])
    · have hl : x.cust.take 8 = x.cust := List.take_of_length_le (by omega)
      repeat refine pw_seq ?_
      refine pw_cf (by simp; omega) ?_
      refine pw_skip ?_
      exact at_mk () [] trivial (by simp) rfl (by rw [hl]; rfl)
  intro _ _
  repeat refine pw_seq ?_
  refine pw_N [] (by rfl) (by rfl) fun K Gc Gh hK hGc hGh X hX0 hX => ?_
  simp -implicitDefEqProofs [hX0, hX]
  try clear hX0 hX X
  intros
  refine hK _ _ _ ?_
  clear hK hGc hGh
  clear K Gc Gh
  repeat refine pw_seq ?_
  refine pw_joinK (nx := nx) (σ := Unit) (fun _ => True) (fun _ => [(2, .ptr nx v0 0), (3, .ptr (nx + 1) v1 0)]) (fun _ => S) (fun _ => [.cells v0 25 (instL y), .cells v1 30 [L p]]) ?_ ?_
  · by_cases h : 9 < x.dist.length
    · have hl : (x.dist.take 9).length = 9 := by simp; omega
      have hcc := hd9 x.dist
      have h8 : 9 ≤ x.dist.length := by omega
      have hmin : min 9 x.dist.length = 9 := by omega
      repeat refine pw_seq ?_
      refine pw_ct (by simp; omega) ?_
      repeat refine pw_seq ?_
      refine pw_N [] (by rfl) (by rfl) fun K Gc Gh hK hGc hGh X hX0 hX => ?_
      simp -implicitDefEqProofs [hX0, hX, h, hcc, h8]
      try clear hX0 hX X
      intros
      refine hK _ _ _ ?_
      clear hK hGc hGh
      clear K Gc Gh
      exact at_mk () [] trivial (by simp) rfl (by simp [hyd, firstX, hl, hmin, hcc])
    · have hl : x.dist.take 9 = x.dist := List.take_of_length_le (by omega)
      repeat refine pw_seq ?_
      refine pw_cf (by simp; omega) ?_
      refine pw_skip ?_
      exact at_mk () [] trivial (by simp) rfl (by rw [hyd]; simp only [firstX, instL, hl]; rfl)
  intro _ _
  clear hyd
  repeat refine pw_seq ?_
  refine pw_N [] (by rfl) (by rfl) fun K Gc Gh hK hGc hGh X hX0 hX => ?_
  simp -implicitDefEqProofs [hX0, hX]
  try clear hX0 hX X
  refine hGc _ _ _ _ _ _ _ fun hsuf => ((h1 _).mono ?_).v
  rintro _ _ ⟨rfl, rfl⟩
  refine ⟨_, _, rfl, ?_⟩
  clear hGc hGh
  clear Gc Gh
  refine xs_go hsuf (D := []) (by rfl) fun Gc Gh hGc hGh X hX0 hX => ?_
  simp -implicitDefEqProofs [hX0, hX]
  try clear hX0 hX X
  intros
  refine hK _ _ _ ?_
  clear hK hGc hGh
  clear K Gc Gh
  repeat refine pw_seq ?_
  refine pw_N [] (by rfl) (by rfl) fun K Gc Gh hK hGc hGh X hX0 hX => ?_
  simp -implicitDefEqProofs [hX0, hX]
  try clear hX0 hX X
  refine hGc _ _ _ _ _ _ _ fun hsuf => ((h2 _).mono ?_).v
  rintro _ _ ⟨rfl, rfl⟩
  refine ⟨_, _, rfl, ?_⟩
  clear hGc hGh
  clear Gc Gh
  refine xs_go hsuf (D := []) (by rfl) fun Gc Gh hGc hGh X hX0 hX => ?_
  simp -implicitDefEqProofs [hX0, hX]
  try clear hX0 hX X
  intros
  refine hK _ _ _ ?_
  clear hK hGc hGh
  clear K Gc Gh
  repeat refine pw_seq ?_
  refine pw_N [] (by rfl) (by rfl) fun K Gc Gh hK hGc hGh X hX0 hX => ?_
  simp -implicitDefEqProofs [hX0, hX]
  try clear hX0 hX X
  refine hGc _ _ _ _ _ _ _ fun hsuf => ((h3 _).mono ?_).v
  rintro _ _ ⟨rfl, rfl⟩
  refine ⟨_, _, rfl, ?_⟩
  clear hGc hGh
  clear Gc Gh
  refine xs_go hsuf (D := []) (by rfl) fun Gc Gh hGc hGh X hX0 hX => ?_
  simp -implicitDefEqProofs [hX0, hX]
  try clear hX0 hX X
  intros
  refine hK _ _ _ ?_
  clear hK hGc hGh
  clear K Gc Gh
  cases hm : mayI y with
  | false =>
    have hpe : planE y q = 3 := by simp [planE, hm]
    repeat refine pw_seq ?_
    refine pw_N [] (by rfl) (by rfl) fun K Gc Gh hK hGc hGh X hX0 hX => ?_
    simp -implicitDefEqProofs [hX0, hX]
    try clear hX0 hX X
    intros
    refine hK _ _ _ ?_
    clear hK hGc hGh
    clear K Gc Gh
    repeat refine pw_seq ?_
    refine pw_ct rfl ?_
    repeat refine pw_seq ?_
    refine pw_N [(2, 34)] (by rfl) (by rfl) fun K Gc Gh hK hGc hGh X hX0 hX => ?_
    simp -implicitDefEqProofs [hX0, hX, hpe]
    try clear hX0 hX X
    refine hGc _ _ _ _ _ _ _ fun hsuf => ((lives_ok _).mono ?_).v
    rintro _ _ ⟨rfl, rfl⟩
    refine ⟨_, _, rfl, ?_⟩
    clear hGc hGh
    clear Gc Gh
    refine xs_go hsuf (D := [(2, 34)]) (by rfl) fun Gc Gh hGc hGh X hX0 hX => ?_
    simp -implicitDefEqProofs [hX0, hX]
    try clear hX0 hX X
    intros
    refine hK _ _ _ ?_
    clear hK hGc hGh
    clear K Gc Gh
    repeat refine pw_seq ?_
    exact pw_ret (ret_pure hd (by simp; rfl) rfl)
  | true =>
    repeat refine pw_seq ?_
    refine pw_N [] (by rfl) (by rfl) fun K Gc Gh hK hGc hGh X hX0 hX => ?_
    simp -implicitDefEqProofs [hX0, hX]
    try clear hX0 hX X
    intros
    refine hK _ _ _ ?_
    clear hK hGc hGh
    clear K Gc Gh
    repeat refine pw_seq ?_
    refine pw_cf rfl ?_
    refine pw_skip ?_
    by_cases hqd : (q.length : Int) = y.days
    case neg =>
      have hpe : planE y q = 1 := by simp [planE, hm, hqd]
      repeat refine pw_seq ?_
      refine pw_N [] (by rfl) (by rfl) fun K Gc Gh hK hGc hGh X hX0 hX => ?_
      simp -implicitDefEqProofs [hX0, hX, hqd]
      try clear hX0 hX X
      intros
      refine hK _ _ _ ?_
      clear hK hGc hGh
      clear K Gc Gh
      repeat refine pw_seq ?_
      refine pw_ct (by simp [hqd]) ?_
      repeat refine pw_seq ?_
      refine pw_N [(2, 45)] (by rfl) (by rfl) fun K Gc Gh hK hGc hGh X hX0 hX => ?_
      simp -implicitDefEqProofs [hX0, hX, hpe]
      try clear hX0 hX X
      refine hGc _ _ _ _ _ _ _ fun hsuf => ((lives_ok _).mono ?_).v
      rintro _ _ ⟨rfl, rfl⟩
      refine ⟨_, _, rfl, ?_⟩
      clear hGc hGh
      clear Gc Gh
      refine xs_go hsuf (D := [(2, 45)]) (by rfl) fun Gc Gh hGc hGh X hX0 hX => ?_
      simp -implicitDefEqProofs [hX0, hX]
      try clear hX0 hX X
      intros
      refine hK _ _ _ ?_
      clear hK hGc hGh
      clear K Gc Gh
      repeat refine pw_seq ?_
      exact pw_ret (ret_pure hd (by simp; rfl) rfl)
    repeat refine pw_seq ?_
    refine pw_N [] (by rfl) (by rfl) fun K Gc Gh hK hGc hGh X hX0 hX => ?_
    simp -implicitDefEqProofs [hX0, hX, hqd]
    try clear hX0 hX X
    intros
    refine hK _ _ _ ?_
    clear hK hGc hGh
    clear K Gc Gh
    repeat refine pw_seq ?_
    refine pw_cf (by simp [hqd]) ?_
    refine pw_skip ?_
    repeat refine pw_seq ?_
    refine pw_N [(5, 53)] (by rfl) (by rfl) fun K Gc Gh hK hGc hGh X hX0 hX => ?_
    simp -implicitDefEqProofs [hX0, hX]
    try clear hX0 hX X
    refine hGc _ _ _ _ _ _ _ fun hsuf => ((h4 _).mono ?_).v
    rintro _ _ ⟨rfl, rfl⟩
    refine ⟨_, _, rfl, ?_⟩
    clear hGc hGh
    clear Gc Gh
    refine xs_go hsuf (D := [(5, 53)]) (by rfl) fun Gc Gh hGc hGh X hX0 hX => ?_
    simp -implicitDefEqProofs [hX0, hX]
    try clear hX0 hX X
    refine hGc _ _ _ _ _ _ _ fun hsuf => ((lives_ok _).mono ?_).v
    rintro _ _ ⟨rfl, rfl⟩
    refine ⟨_, _, rfl, ?_⟩
    clear hGc hGh
    clear Gc Gh
    refine xs_go hsuf (D := [(5, 53)]) (by rfl) fun Gc Gh hGc hGh X hX0 hX => ?_
    simp -implicitDefEqProofs [hX0, hX]
    try clear hX0 hX X
    intros
    refine hK _ _ _ ?_
    clear hK hGc hGh
    clear K Gc Gh
    repeat refine pw_seq ?_
    exact pw_ret (ret_pure hd (by simp; rfl) rfl)

end Go.Proofs.YtlkcdaeknioanaaGreat.Pv
