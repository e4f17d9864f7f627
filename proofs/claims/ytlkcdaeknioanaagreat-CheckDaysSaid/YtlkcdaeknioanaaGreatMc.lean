/- The walk of the law CheckDays. -/
import Derived.Test.YtlkcdaeknioanaaGreatMb
namespace Go.Proofs.YtlkcdaeknioanaaGreat.Pv
open Go

set_option maxRecDepth 20000 in
theorem checkDaysL_ok (x : Inst) (pick : List Int) (joins : List Bool) (day : Int) (hx : InstOk x) (hpk : ∀ z ∈ pick, I64 z) : Pure Tryz.prog 5 [.agg (instL x), L pick, L joins, I day] (B true) := by
  have hgd := good_days x
  have hgc := good_cap x
  have hgn := good_cust x
  have hmade := made_ok (goodV x 6 (goodI x).cap 1000) (goodI x).days.toNat pick joins (instMade_good x _ _ _ (by omega)) hpk
  have hgood := goodI_ok x hx
  obtain ⟨y, hy⟩ : ∃ y, y = goodV x 6 (goodI x).cap 1000 := ⟨_, rfl⟩
  have e1 : PV.agg (instL y) = .agg [I (goodI x).days, I 6, I (goodI x).cap, I 1000, L (goodI x).cust, L (goodI x).dist] := by rw [hy]; rfl
  rw [← hy] at hmade
  have hyc : y.cust.length ≤ 6 := by rw [hy]; exact hgn
  have hnn : (goodI x).days.toNat ≤ 7 := by omega
  generalize (goodI x).days.toNat = n at hmade hnn
  rw [e1] at hmade
  generalize goodI x = g at *
  refine pure_enter Tryz.func5 (by rfl) rfl Tryz.ntmps5 (congrArg Array.toList Tryz.results5) (by simp) fun S nx hd => ?_
  repeat refine pw_seq ?_
  refine pw_N [] (by rfl) (by rfl) fun K Gc Gh hK hGc hGh X hX0 hX => ?_
  simp -implicitDefEqProofs [hX0, hX]
  try clear hX0 hX X
  intro v0
  refine hK _ _ _ ?_
  clear hK hGc hGh
  clear K Gc Gh
  repeat refine pw_seq ?_
  refine pw_N [] (by rfl) (by rfl) fun K Gc Gh hK hGc hGh X hX0 hX => ?_
  simp -implicitDefEqProofs [hX0, hX]
  try clear hX0 hX X
  refine hGc _ _ _ _ _ _ _ fun hsuf => ((hgood _).mono ?_).v
  rintro _ _ ⟨rfl, rfl⟩
  refine ⟨_, _, rfl, ?_⟩
  clear hGc hGh
  clear Gc Gh
  refine xs_go hsuf (D := []) (by rfl) fun Gc Gh hGc hGh X hX0 hX => ?_
  simp -implicitDefEqProofs [hX0, hX]
  try clear hX0 hX X
  intro v1
  intros
  refine hK _ _ _ ?_
  clear hK hGc hGh
  clear K Gc Gh
  repeat refine pw_seq ?_
  refine pw_N [] (by rfl) (by rfl) fun K Gc Gh hK hGc hGh X hX0 hX => ?_
  simp -implicitDefEqProofs [hX0, hX]
  try clear hX0 hX X
  intros
  refine hK _ _ _ ?_
  clear hK hGc hGh
  clear K Gc Gh
  repeat refine pw_seq ?_
  refine pw_N [] (by rfl) (by rfl) fun K Gc Gh hK hGc hGh X hX0 hX => ?_
  simp -implicitDefEqProofs [hX0, hX]
  try clear hX0 hX X
  intros
  refine hK _ _ _ ?_
  clear hK hGc hGh
  clear K Gc Gh
  repeat refine pw_seq ?_
  refine pw_N [] (by rfl) (by rfl) fun K Gc Gh hK hGc hGh X hX0 hX => ?_
  simp -implicitDefEqProofs [hX0, hX]
  try clear hX0 hX X
  refine hGc _ _ _ _ _ _ _ fun hsuf => ((hmade _).mono ?_).v
  rintro _ _ ⟨⟨pl, b, rfl, hg⟩, rfl⟩
  refine ⟨_, _, rfl, ?_⟩
  clear hGc hGh
  clear Gc Gh
  refine xs_go hsuf (D := []) (by rfl) fun Gc Gh hGc hGh X hX0 hX => ?_
  simp -implicitDefEqProofs [hX0, hX]
  try clear hX0 hX X
  intro v2
  intros
  refine hK _ _ _ ?_
  clear hK hGc hGh
  clear K Gc Gh
  cases b with
  | false =>
    repeat refine pw_seq ?_
    refine pw_N [(2, 28), (6, 32)] (by rfl) (by rfl) fun K Gc Gh hK hGc hGh X hX0 hX => ?_
    simp -implicitDefEqProofs [hX0, hX, undef]
    try clear hX0 hX X
    intros
    refine hK _ _ _ ?_
    clear hK hGc hGh
    clear K Gc Gh
    repeat refine pw_seq ?_
    refine pw_ct rfl ?_
    repeat refine pw_seq ?_
    refine pw_N [] (by rfl) (by rfl) fun K Gc Gh hK hGc hGh X hX0 hX => ?_
    simp -implicitDefEqProofs [hX0, hX]
    try clear hX0 hX X
    refine hGc _ _ _ _ _ _ _ fun hsuf => ((lives_ok _).mono ?_).v
    rintro _ _ ⟨rfl, rfl⟩
    refine ⟨_, _, rfl, ?_⟩
    clear hGc hGh
    clear Gc Gh
    refine xs_go hsuf (D := []) (by rfl) fun Gc Gh hGc hGh X hX0 hX => ?_
    simp -implicitDefEqProofs [hX0, hX]
    try clear hX0 hX X
    intros
    refine hK _ _ _ ?_
    clear hK hGc hGh
    clear K Gc Gh
    repeat refine pw_seq ?_
    exact pw_ret (ret_pure hd (by simp; rfl) rfl)
  | true =>
    obtain ⟨hm, hcnt⟩ := hg rfl
    have hpl := hm.len
    by_cases h1 : day < 0
    · repeat refine pw_seq ?_
      refine pw_N [(2, 28), (6, 32)] (by rfl) (by rfl) fun K Gc Gh hK hGc hGh X hX0 hX => ?_
      simp -implicitDefEqProofs [hX0, hX, h1, undef]
      try clear hX0 hX X
      intros
      refine hK _ _ _ ?_
      clear hK hGc hGh
      clear K Gc Gh
      repeat refine pw_seq ?_
      refine pw_ct rfl ?_
      repeat refine pw_seq ?_
      refine pw_N [] (by rfl) (by rfl) fun K Gc Gh hK hGc hGh X hX0 hX => ?_
      simp -implicitDefEqProofs [hX0, hX]
      try clear hX0 hX X
      refine hGc _ _ _ _ _ _ _ fun hsuf => ((lives_ok _).mono ?_).v
      rintro _ _ ⟨rfl, rfl⟩
      refine ⟨_, _, rfl, ?_⟩
      clear hGc hGh
      clear Gc Gh
      refine xs_go hsuf (D := []) (by rfl) fun Gc Gh hGc hGh X hX0 hX => ?_
      simp -implicitDefEqProofs [hX0, hX]
      try clear hX0 hX X
      intros
      refine hK _ _ _ ?_
      clear hK hGc hGh
      clear K Gc Gh
      repeat refine pw_seq ?_
      exact pw_ret (ret_pure hd (by simp; rfl) rfl)
    obtain ⟨k, rfl⟩ := Int.eq_ofNat_of_zero_le (show 0 ≤ day by omega)
    by_cases h2 : pl.length ≤ k
    · have h2' : (pl.length : Int) ≤ (k : Int) := by omega
      repeat refine pw_seq ?_
      refine pw_N [(2, 28), (6, 32)] (by rfl) (by rfl) fun K Gc Gh hK hGc hGh X hX0 hX => ?_
      simp -implicitDefEqProofs [hX0, hX, h1, h2, h2']
      try clear hX0 hX X
      intros
      refine hK _ _ _ ?_
      clear hK hGc hGh
      clear K Gc Gh
      repeat refine pw_seq ?_
      refine pw_ct rfl ?_
      repeat refine pw_seq ?_
      refine pw_N [] (by rfl) (by rfl) fun K Gc Gh hK hGc hGh X hX0 hX => ?_
      simp -implicitDefEqProofs [hX0, hX]
      try clear hX0 hX X
      refine hGc _ _ _ _ _ _ _ fun hsuf => ((lives_ok _).mono ?_).v
      rintro _ _ ⟨rfl, rfl⟩
      refine ⟨_, _, rfl, ?_⟩
      clear hGc hGh
      clear Gc Gh
      refine xs_go hsuf (D := []) (by rfl) fun Gc Gh hGc hGh X hX0 hX => ?_
      simp -implicitDefEqProofs [hX0, hX]
      try clear hX0 hX X
      intros
      refine hK _ _ _ ?_
      clear hK hGc hGh
      clear K Gc Gh
      repeat refine pw_seq ?_
      exact pw_ret (ret_pure hd (by simp; rfl) rfl)
    have h2' : ¬ (pl.length : Int) ≤ (k : Int) := by omega
    have hk : k < pl.length := by omega
    repeat refine pw_seq ?_
    refine pw_N [(2, 28), (6, 32)] (by rfl) (by rfl) fun K Gc Gh hK hGc hGh X hX0 hX => ?_
    simp -implicitDefEqProofs [hX0, hX, h1, h2, h2']
    try clear hX0 hX X
    intros
    refine hK _ _ _ ?_
    clear hK hGc hGh
    clear K Gc Gh
    repeat refine pw_seq ?_
    refine pw_cf rfl ?_
    refine pw_skip ?_
    have hdo := made_dayOk hm (by omega)
    have hA := checkDays_ok y pl (by omega) hdo
    have hdo' : ∀ d ∈ pl.set k [], DayOk d := by
      intro d hd
      rcases List.mem_or_eq_of_mem_set hd with hd | rfl
      · exact hdo d hd
      · exact ⟨by simp, by simp, by simp⟩
    have hcut := made_cut hm hyc (by omega)
    have hla : (daysW y pl).length = pl.length := by simp [daysW]
    have hlb : (daysW y (pl.set k [])).length = pl.length := by simp [daysW]
    have hB := fun (T : Store) (m : Nat) (h : DeadFrom m T) => checkDays_own y (pl.set k []) (by simp; omega) hdo' T m h
    have hab : (daysW y (pl.set k [])).set k (W (costZ y (pl.getD k []))) = daysW y pl := by
      apply List.ext_getElem
      · simp [daysW]
      · intro i q1 q2
        simp only [daysW, List.getElem_set, List.getElem_map]
        split
        · rename_i e; subst e; rw [List.getD_eq_getElem?_getD, List.getElem?_eq_getElem hk]; rfl
        · rfl
    obtain ⟨za, tla, a1, a2, a3, e0⟩ := el1 rfl (daysW y pl) k (by omega)
    obtain ⟨zb, tlb, b1, b2, b3, e2⟩ := el1 rfl (daysW y (pl.set k [])) k (by omega)
    have hza : za = W (costZ y (pl.getD k [])) := by
      simp only [daysW, List.getElem?_map, List.getElem?_eq_getElem hk, Option.map_some, Option.some.injEq] at a1
      rw [← a1, List.getD_eq_getElem?_getD, List.getElem?_eq_getElem hk]; rfl
    have hzb : zb = 0 := by
      simp only [daysW, List.getElem?_map, List.getElem?_set_self hk, Option.map_some, Option.some.injEq] at b1
      rw [← b1]; rfl
    rw [← hza] at hab
    have hsame := same_ok (daysW y pl) (daysW y pl) (by omega) (by omega)
    rw [decide_eq_true rfl] at hsame
    have hsp := splice_int (daysW y (pl.set k [])) k za (by omega)
    rw [hab] at hsp
    generalize hda : daysW y pl = da at *
    generalize hdb : daysW y (pl.set k []) = db at *
    rw [e1] at hA
    have hLs : L (pl.set k []) = .lst pl.length ((pl.set k []).flatMap Enc.enc) := by show PV.lst _ _ = _; rw [List.length_set]
    simp only [e1, hLs] at hB
    have hsd := splice_enc (α := Day) rfl pl k ([] : Day) hk
    repeat refine pw_seq ?_
    refine pw_N [] (by rfl) (by rfl) fun K Gc Gh hK hGc hGh X hX0 hX => ?_
    simp -implicitDefEqProofs [hX0, hX]
    try clear hX0 hX X
    refine hGc _ _ _ _ _ _ _ fun hsuf => ((hA _).mono ?_).v
    rintro _ _ ⟨rfl, rfl⟩
    refine ⟨_, _, rfl, ?_⟩
    clear hGc hGh
    clear Gc Gh
    refine xs_go hsuf (D := []) (by rfl) fun Gc Gh hGc hGh X hX0 hX => ?_
    simp -implicitDefEqProofs [hX0, hX]
    try clear hX0 hX X
    intros
    refine hK _ _ _ ?_
    clear hK hGc hGh
    clear K Gc Gh
    repeat refine pw_seq ?_
    refine pw_N [] (by rfl) (by rfl) fun K Gc Gh hK hGc hGh X hX0 hX => ?_
    simp -implicitDefEqProofs [hX0, hX]
    try clear hX0 hX X
    refine hGc _ _ _ _ _ _ _ fun hsuf => ((cut_own pl _ _ ext_dead).mono ?_).v
    rintro p T ⟨v3, rfl, rfl⟩
    refine ⟨_, _, ext_pushK 3 _, ?_⟩
    rw [hcut]
    clear hGc hGh
    clear Gc Gh
    refine xs_go hsuf (D := []) (by rfl) fun Gc Gh hGc hGh X hX0 hX => ?_
    simp -implicitDefEqProofs [hX0, hX, (show nx + 3 + 3 = nx + 6 from rfl)]
    clear hX0 hX X
    intro v4
    intros
    refine hK _ _ _ ?_
    clear hK hGc hGh
    clear K Gc Gh
    repeat refine pw_seq ?_
    refine pw_N [] (by rfl) (by rfl) fun K Gc Gh hK hGc hGh X hX0 hX => ?_
    simp -implicitDefEqProofs [hX0, hX, hk]
    try clear hX0 hX X
    refine ⟨by omega, ?_⟩
    intros
    refine hK _ _ _ ?_
    clear hK hGc hGh
    clear K Gc Gh
    refine pw_wkO 6 ((pl.set k []).flatMap Enc.enc) rfl ?_ ?_
    · rw [← hsd]
      exact (WkL.app WkL.rfl (.cons Wk.nil .nil)).app WkL.rfl
    simp only [List.set_cons_succ, List.set_cons_zero]
    refine pw_frz 6 rfl ?_
    repeat refine pw_seq ?_
    refine pw_N [] (by rfl) (by rfl) fun K Gc Gh hK hGc hGh X hX0 hX => ?_
    simp -implicitDefEqProofs [hX0, hX]
    try clear hX0 hX X
    refine hGc _ _ _ _ _ _ _ fun hsuf => ((hB _ _ ext_dead).mono ?_).v
    rintro p T ⟨v5, rfl, rfl⟩
    refine ⟨_, _, ext_pushK 2 _, ?_⟩
    clear hGc hGh
    clear Gc Gh
    refine xs_go hsuf (D := []) (by rfl) fun Gc Gh hGc hGh X hX0 hX => ?_
    simp -implicitDefEqProofs [hX0, hX, (show nx + 8 + 2 = nx + 10 from rfl)]
    clear hX0 hX X
    intros
    refine hK _ _ _ ?_
    clear hK hGc hGh
    clear K Gc Gh
    repeat refine pw_seq ?_
    refine pw_N [(6, 59), (13, 66)] (by rfl) (by rfl) fun K Gc Gh hK hGc hGh X hX0 hX => ?_
    simp -implicitDefEqProofs [hX0, hX, hla, hlb, e0, e2, hzb, hk]
    try clear hX0 hX X
    intros
    refine hK _ _ _ ?_
    clear hK hGc hGh
    clear K Gc Gh
    repeat refine pw_seq ?_
    refine pw_cf rfl ?_
    refine pw_skip ?_
    repeat refine pw_seq ?_
    refine pw_N [] (by rfl) (by rfl) fun K Gc Gh hK hGc hGh X hX0 hX => ?_
    simp -implicitDefEqProofs [hX0, hX, hla, hlb, e0, hk]
    try clear hX0 hX X
    refine ⟨by omega, ?_⟩
    intros
    refine hK _ _ _ ?_
    clear hK hGc hGh
    clear K Gc Gh
    rw [hsp]
    refine pw_frz 10 rfl ?_
    have hLa : L da = .lst pl.length (da.flatMap Enc.enc) := by show PV.lst _ _ = _; rw [hla]
    have hLT : (pl.length = da.length) = True := by simp [hla]
    rw [show ([L da, L da] : List PV) = [L da, .lst pl.length (da.flatMap Enc.enc)] from by rw [← hLa]] at hsame
    repeat refine pw_seq ?_
    refine pw_N [(3, 83)] (by rfl) (by rfl) fun K Gc Gh hK hGc hGh X hX0 hX => ?_
    simp -implicitDefEqProofs [hX0, hX, hLT]
    try clear hX0 hX X
    refine hGc _ _ _ _ _ _ _ fun hsuf => ((hsame _).mono ?_).v
    rintro _ _ ⟨rfl, rfl⟩
    refine ⟨_, _, rfl, ?_⟩
    clear hGc hGh
    clear Gc Gh
    refine xs_go hsuf (D := [(3, 83)]) (by rfl) fun Gc Gh hGc hGh X hX0 hX => ?_
    simp -implicitDefEqProofs [hX0, hX]
    try clear hX0 hX X
    refine hGc _ _ _ _ _ _ _ fun hsuf => ((lives_ok _).mono ?_).v
    rintro _ _ ⟨rfl, rfl⟩
    refine ⟨_, _, rfl, ?_⟩
    clear hGc hGh
    clear Gc Gh
    refine xs_go hsuf (D := [(3, 83)]) (by rfl) fun Gc Gh hGc hGh X hX0 hX => ?_
    simp -implicitDefEqProofs [hX0, hX]
    try clear hX0 hX X
    intros
    refine hK _ _ _ ?_
    clear hK hGc hGh
    clear K Gc Gh
    repeat refine pw_seq ?_
    exact pw_ret (ret_pure hd (by simp; rfl) rfl)

end Go.Proofs.YtlkcdaeknioanaaGreat.Pv
