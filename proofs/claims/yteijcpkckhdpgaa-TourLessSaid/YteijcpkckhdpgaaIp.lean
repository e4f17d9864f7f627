/- The law TourLess: what it computes. -/
import Derived.Test.YteijcpkckhdpgaaIo
namespace Go.Proofs.Yteijcpkckhdpgaa.Pv
open Go

theorem take_flat1 {α : Type} [Enc α] (hn : Enc.sz α = 1) (l : List α) (k : Nat) : (l.flatMap Enc.enc).take k = (l.take k).flatMap Enc.enc := by
  have := flat_take Enc.enc 1 (fun x => (Enc.len x).trans hn) l k
  rwa [Nat.mul_one] at this
theorem drop_flat1 {α : Type} [Enc α] (hn : Enc.sz α = 1) (l : List α) (k : Nat) : (l.flatMap Enc.enc).drop k = (l.drop k).flatMap Enc.enc := by
  have := flat_drop Enc.enc 1 (fun x => (Enc.len x).trans hn) l k
  rwa [Nat.mul_one] at this

/-- A day without its tour k. -/
def without (d : Day) (k : Nat) : Day := d.take k ++ d.drop (k + 1)
theorem without_sub (d : Day) (k : Nat) : (without d k).Sublist d := by
  have : d = d.take k ++ d.drop k := (List.take_append_drop k d).symm
  conv => rhs; rw [this]
  exact List.Sublist.append_left (by rw [← List.drop_drop (i := 1)]; exact List.drop_sublist 1 _) _
theorem without_cost {x : Inst} {d : Day} {k : Nat} {t : Tour} (h : d[k]? = some t) : costZ x d = costZ x (without d k) + wayZ x (t.map (·.c)) := by
  have hk := (List.getElem?_eq_some_iff.1 h).1
  have e : d = d.take k ++ t :: d.drop (k + 1) := by
    rw [← (List.getElem?_eq_some_iff.1 h).2, ← List.drop_eq_getElem_cons hk, List.take_append_drop]
  have : costZ x d = costZ x (d.take k ++ t :: d.drop (k + 1)) := by rw [← e]
  rw [this]
  unfold costZ without
  simp; omega
theorem without_may {x : Inst} {d : Day} {k : Nat} (h : dayT x d = 0) : dayT x (without d k) = 0 := by
  rw [dayT_zero] at h ⊢
  obtain ⟨h1, h2, h3⟩ := h
  have hs := without_sub d k
  exact ⟨fun t ht => h1 t (hs.subset ht), h2.sublist ((flatten_sub hs).map _), by have := hs.length_le; omega⟩

theorem half_load {y : Inst} {d : Day} {n : Int} (hm : Made n d) {t : Tour} (ht : t ∈ d) (h : dayT y d = 0) (k : Nat) : W (loadZ (t.take k)) ≤ y.cap := by
  have h1 := ((mayT_zero y t).1 (((dayT_zero y d).1 h).1 t ht)).2.2.1
  have hq : ∀ s ∈ t, 0 ≤ s.q ∧ s.q ≤ 2147483648 := fun s hs => by have := hm.stop ht hs; omega
  have a1 := load_le (t := t.take k) fun s hs => hq s (List.mem_of_mem_take hs)
  have a2 := load_le (t := t.drop k) fun s hs => hq s (List.mem_of_mem_drop hs)
  have a3 := load_le hq
  have a4 : loadZ t = loadZ (t.take k) + loadZ (t.drop k) := by rw [← load_app, List.take_append_drop]
  have hl := hm.tlen ht
  have hl2 : (t.take k).length ≤ t.length := by simp; omega
  rw [W, wr _ (by omega) (by omega)] at h1
  rw [W, wr _ (by omega) (by omega)]
  omega

set_option maxRecDepth 10000 in
theorem tourLess_ok (x : Inst) (l : List Stop) (cuts : List Bool) (a : Int) (hx : InstOk x) (hl : Lists l cuts) (ha : I64 a) : Pure Try.prog 6 [.agg (instL x), L l, L cuts, I a] (B true) := by
  have hc := goodI_cust' x
  have hc6 := goodI_cust x
  have hg := goods_of (n := (goodI x).cust.length) hl.2.1
  have hm := made_of cuts hg
  have htours := tours_ok (goodI x) l cuts hl.1 hl.2.2 hc hl.2.1 hg.len
  generalize toursOf cuts (goodL (goodI x).cust.length [] l) = d at *
  have hgi := goodI_ok x hx
  generalize goodI x = y at *
  have hd6 := hm.len
  have hab := absq_ok ha
  have f1 := costP_ok y d (hm.dayOk (by omega))
  have f3 := dayP_ok y d hc (by omega) (fun t ht => Nat.le_trans (hm.tlen ht) (by decide)) (Nat.le_trans hm.goods.len (by decide))
  refine pure_enter Try.func6 (by rfl) rfl Try.ntmps6 (congrArg Array.toList Try.results6) (by simp) fun S nx hd => ?_
  repeat refine pw_seq ?_
  refine pw_N [] (by rfl) (by rfl) fun K Gc Gh hK hGc hGh X hX0 hX => ?_
  simp -implicitDefEqProofs [hX0, hX]
  try clear hX0 hX X
  intro v0
  refine hK _ _ _ ?_
  clear hK hGc hGh
  clear K Gc Gh
  repeat refine pw_seq ?_
  refine pw_N [] (by rfl) (by rfl) fun K Gc Gh hK hGc hGh X hX0 hX => ?_
  simp -implicitDefEqProofs [hX0, hX]
  try clear hX0 hX X
  refine hGc _ _ _ _ _ _ _ fun hsuf => ((hgi _).mono ?_)
  rintro _ _ ⟨rfl, rfl⟩
  refine ⟨_, _, rfl, ?_⟩
  clear hGc hGh
  clear Gc Gh
  refine xs_go hsuf (D := []) (by rfl) fun Gc Gh hGc hGh X hX0 hX => ?_
  simp -implicitDefEqProofs [hX0, hX]
  try clear hX0 hX X
  intro v1
  intros
  refine hK _ _ _ ?_
  clear hK hGc hGh
  clear K Gc Gh
  repeat refine pw_seq ?_
  refine pw_N [] (by rfl) (by rfl) fun K Gc Gh hK hGc hGh X hX0 hX => ?_
  simp -implicitDefEqProofs [hX0, hX]
  try clear hX0 hX X
  refine hGc _ _ _ _ _ _ _ fun hsuf => ((htours _).mono ?_)
  rintro _ _ ⟨rfl, rfl⟩
  refine ⟨_, _, rfl, ?_⟩
  clear hGc hGh
  clear Gc Gh
  refine xs_go hsuf (D := []) (by rfl) fun Gc Gh hGc hGh X hX0 hX => ?_
  simp -implicitDefEqProofs [hX0, hX]
  try clear hX0 hX X
  intro v2
  intros
  refine hK _ _ _ ?_
  clear hK hGc hGh
  clear K Gc Gh
  by_cases hd0 : d = []
  · subst hd0
    repeat refine pw_seq ?_
    refine pw_N [(4, 25)] (by rfl) (by rfl) fun K Gc Gh hK hGc hGh X hX0 hX => ?_
    simp -implicitDefEqProofs [hX0, hX, undef]
    try clear hX0 hX X
    intros
    refine hK _ _ _ ?_
    clear hK hGc hGh
    clear K Gc Gh
    repeat refine pw_seq ?_
    refine pw_ct rfl ?_
    repeat refine pw_seq ?_
    refine pw_N [] (by rfl) (by rfl) fun K Gc Gh hK hGc hGh X hX0 hX => ?_
    simp -implicitDefEqProofs [hX0, hX]
    try clear hX0 hX X
    refine hGc _ _ _ _ _ _ _ fun hsuf => ((lives_ok _).mono ?_)
    rintro _ _ ⟨rfl, rfl⟩
    refine ⟨_, _, rfl, ?_⟩
    clear hGc hGh
    clear Gc Gh
    refine xs_go hsuf (D := []) (by rfl) fun Gc Gh hGc hGh X hX0 hX => ?_
    simp -implicitDefEqProofs [hX0, hX]
    try clear hX0 hX X
    intros
    refine hK _ _ _ ?_
    clear hK hGc hGh
    clear K Gc Gh
    repeat refine pw_seq ?_
    exact pw_ret (ret_pure hd rfl rfl)
  have hd0' : ¬ d.length = 0 := by simpa using hd0
  by_cases hz : dayT y d = 0
  case neg =>
    have hz' : (dayT y d != 0) = true := by simpa using hz
    repeat refine pw_seq ?_
    refine pw_N [(4, 25)] (by rfl) (by rfl) fun K Gc Gh hK hGc hGh X hX0 hX => ?_
    simp -implicitDefEqProofs [hX0, hX, hd0]
    try clear hX0 hX X
    refine hGc _ _ _ _ _ _ _ fun hsuf => ((f3 _).mono ?_)
    rintro _ _ ⟨rfl, rfl⟩
    refine ⟨_, _, rfl, ?_⟩
    clear hGc hGh
    clear Gc Gh
    refine xs_go hsuf (D := [(4, 25)]) (by rfl) fun Gc Gh hGc hGh X hX0 hX => ?_
    simp -implicitDefEqProofs [hX0, hX, hz']
    try clear hX0 hX X
    intros
    refine hK _ _ _ ?_
    clear hK hGc hGh
    clear K Gc Gh
    repeat refine pw_seq ?_
    refine pw_ct rfl ?_
    repeat refine pw_seq ?_
    refine pw_N [] (by rfl) (by rfl) fun K Gc Gh hK hGc hGh X hX0 hX => ?_
    simp -implicitDefEqProofs [hX0, hX]
    try clear hX0 hX X
    refine hGc _ _ _ _ _ _ _ fun hsuf => ((lives_ok _).mono ?_)
    rintro _ _ ⟨rfl, rfl⟩
    refine ⟨_, _, rfl, ?_⟩
    clear hGc hGh
    clear Gc Gh
    refine xs_go hsuf (D := []) (by rfl) fun Gc Gh hGc hGh X hX0 hX => ?_
    simp -implicitDefEqProofs [hX0, hX]
    try clear hX0 hX X
    intros
    refine hK _ _ _ ?_
    clear hK hGc hGh
    clear K Gc Gh
    repeat refine pw_seq ?_
    exact pw_ret (ret_pure hd rfl rfl)
  repeat refine pw_seq ?_
  refine pw_N [(4, 25)] (by rfl) (by rfl) fun K Gc Gh hK hGc hGh X hX0 hX => ?_
  simp -implicitDefEqProofs [hX0, hX, hd0]
  try clear hX0 hX X
  refine hGc _ _ _ _ _ _ _ fun hsuf => ((f3 _).mono ?_)
  rintro _ _ ⟨rfl, rfl⟩
  refine ⟨_, _, rfl, ?_⟩
  clear hGc hGh
  clear Gc Gh
  refine xs_go hsuf (D := [(4, 25)]) (by rfl) fun Gc Gh hGc hGh X hX0 hX => ?_
  simp -implicitDefEqProofs [hX0, hX, hz]
  try clear hX0 hX X
  intros
  refine hK _ _ _ ?_
  clear hK hGc hGh
  clear K Gc Gh
  repeat refine pw_seq ?_
  refine pw_cf rfl ?_
  refine pw_skip ?_
  refine pw_seq (pw_joinK (nx := nx) (σ := Nat × Nat × Nat) (fun _ => True) (fun (v0, v1, v2) => [(3, I (absq a)), (9, .ptr (nx + 1) v1 0), (10, .ptr (nx + 2) v2 0)]) (fun _ => S) (fun (v0, v1, v2) => [.cells v0 25 (instL x), .cells v1 25 (instL y), .cells v2 37 [L d]]) ?_ ?_)
  · repeat refine pw_seq ?_
    refine pw_N [] (by rfl) (by rfl) fun K Gc Gh hK hGc hGh X hX0 hX => ?_
    simp -implicitDefEqProofs [hX0, hX]
    try clear hX0 hX X
    intros
    refine hK _ _ _ ?_
    clear hK hGc hGh
    clear K Gc Gh
    by_cases hn : a < 0
    · obtain ⟨q1, q2⟩ := abs_i64 ha hn
      refine pw_ct (by simp [hn]) ?_
      repeat refine pw_seq ?_
      refine pw_N [] (by rfl) (by rfl) fun K Gc Gh hK hGc hGh X hX0 hX => ?_
      simp -implicitDefEqProofs [hX0, hX, q1, q2]
      try clear hX0 hX X
      intros
      refine hK _ _ _ ?_
      clear hK hGc hGh
      clear K Gc Gh
      exact at_mk (v0, v1, v2) [] trivial (by simp [absq, hn, q1, q2]) rfl (by simp)
    · refine pw_cf (by simp [hn]) ?_
      refine pw_skip ?_
      exact at_mk (v0, v1, v2) [] trivial (by simp [absq, hn]) rfl (by simp)
  · rintro ⟨v0, v1, v2⟩ -
    simp only
    have t1 : (absq a).tmod (d.length : Int) = absq a % d.length := Int.tmod_eq_emod_of_nonneg hab.1
    have t2 : 0 ≤ absq a % (d.length : Int) ∧ absq a % (d.length : Int) < d.length := ⟨Int.emod_nonneg _ (by omega), Int.emod_lt_of_pos _ (by omega)⟩
    obtain ⟨k, hk⟩ := Int.eq_ofNat_of_zero_le t2.1
    have hkl : k < d.length := by omega
    have hkl' : k ≤ d.length := by omega
    obtain ⟨t, tl, a1, a2, a3, e0⟩ := el1 rfl d k hkl
    have htd := List.mem_of_getElem? a1
    have ht6 := hm.tlen htd
    have hsm := hm.small (by omega) htd
    have hdd : ¬ (d.length : Int) = 0 := by omega
    repeat refine pw_seq ?_
    refine pw_N [] (by rfl) (by rfl) fun K Gc Gh hK hGc hGh X hX0 hX => ?_
    simp -implicitDefEqProofs [hX0, hX, hd0, t1, hk]
    try clear hX0 hX X
    intros
    refine hK _ _ _ ?_
    clear hK hGc hGh
    clear K Gc Gh
    repeat refine pw_seq ?_
    refine pw_N [] (by rfl) (by rfl) fun K Gc Gh hK hGc hGh X hX0 hX => ?_
    simp -implicitDefEqProofs [hX0, hX, hkl, e0]
    try clear hX0 hX X
    intro v3
    refine hK _ _ _ ?_
    clear hK hGc hGh
    clear K Gc Gh
    have q1 : ((t.length : Int).tdiv 2) = ((t.length / 2 : Nat) : Int) := by rw [Int.tdiv_eq_ediv_of_nonneg (by omega)]; omega
    have q2 : IntKind.i64.wrap ((t.length / 2 : Nat) : Int) = ((t.length / 2 : Nat) : Int) := wr _ (by omega) (by omega)
    generalize hh : t.length / 2 = h at *
    have hht : h ≤ t.length := by omega
    repeat refine pw_seq ?_
    refine pw_N [] (by rfl) (by rfl) fun K Gc Gh hK hGc hGh X hX0 hX => ?_
    simp -implicitDefEqProofs [hX0, hX, q1, q2]
    try clear hX0 hX X
    intros
    refine hK _ _ _ ?_
    clear hK hGc hGh
    clear K Gc Gh
    have e1 := take_flat t h
    have e1' : ((t.take h).length : Nat) = h := by simp; omega
    have hhalf := half_load hm htd hz h
    have fl := loadP_ok (t.take h) (by omega)
    generalize t.take h = th at *
    subst e1'
    repeat refine pw_seq ?_
    refine pw_N [] (by rfl) (by rfl) fun K Gc Gh hK hGc hGh X hX0 hX => ?_
    simp -implicitDefEqProofs [hX0, hX, e1, hht]
    try clear hX0 hX X
    refine hGc _ _ _ _ _ _ _ fun hsuf => ((fl _).mono ?_)
    rintro _ _ ⟨rfl, rfl⟩
    refine ⟨_, _, rfl, ?_⟩
    clear hGc hGh
    clear Gc Gh
    refine xs_go hsuf (D := []) (by rfl) fun Gc Gh hGc hGh X hX0 hX => ?_
    simp -implicitDefEqProofs [hX0, hX]
    try clear hX0 hX X
    intros
    refine hK _ _ _ ?_
    clear hK hGc hGh
    clear K Gc Gh
    repeat refine pw_seq ?_
    refine pw_N [] (by rfl) (by rfl) fun K Gc Gh hK hGc hGh X hX0 hX => ?_
    simp -implicitDefEqProofs [hX0, hX]
    try clear hX0 hX X
    intro v4
    refine hK _ _ _ ?_
    clear hK hGc hGh
    clear K Gc Gh
    have g1 := take_flat1 (α := Tour) rfl d k
    have g2 := drop_flat1 (α := Tour) rfl d (k + 1)
    have g3 : (d.take k).length = k := by simp; omega
    have g4 : (d.drop (k + 1)).length = d.length - (k + 1) := by simp
    have hwm := hm.sub (without_sub d k)
    have fw1 := costP_ok y _ (hwm.dayOk (by omega))
    have fw2 := dayP_ok y _ hc (Nat.le_trans hwm.len (by decide)) (fun t ht => Nat.le_trans (hwm.tlen ht) (by decide)) (Nat.le_trans hwm.goods.len (by decide))
    have hwz := without_may (k := k) hz
    have hwc := without_cost (x := y) a1
    have hwl : (without d k).length = k + (d.length - (k + 1)) := by simp [without]; omega
    have hwf : (without d k).flatMap Enc.enc = (d.take k).flatMap Enc.enc ++ (d.drop (k + 1)).flatMap Enc.enc := by simp [without]
    generalize without d k = e at *
    generalize d.take k = da at *
    generalize d.drop (k + 1) = db at *
    subst g3
    have g5 : (db.flatMap Enc.enc).take (d.length - (da.length + 1)) = db.flatMap Enc.enc := by rw [← g4, ftake_list]
    have w1 : IntKind.i64.wrap ((da.length : Int) + 1) = (da.length : Int) + 1 := wr _ (by omega) (by omega)
    have i1 : (da.length : Int) + 1 ≤ d.length := by omega
    have i2 : da.length + 1 ≤ d.length := by omega
    have i3 : 0 ≤ (da.length : Int) + 1 := by omega
    repeat refine pw_seq ?_
    refine pw_Y (some [nx + 2]) (Row.pures [0, 2, 3, 4, 5] (.alt 1 (.alt 6 (Row.pures [7] (.alt 8 (.done) .stop)) .stop) .stop)) mixed (by rfl) (by rfl) (by rfl) fun K Gp Gc Gh hK hGp hGc hGh X hX0 hX1 hX2 hX => ?_
    simp -implicitDefEqProofs [hX0, hX1, hX2, hX, g1, hkl']
    try clear hX0 hX1 hX2 hX X
    refine ⟨by omega, fun v5 => ?_⟩
    refine hK _ _ _ ?_
    clear hK hGp hGc hGh
    clear K Gp Gc Gh
    have g6 : (da.flatMap Enc.enc).take da.length = da.flatMap Enc.enc := ftake_list da
    repeat refine pw_seq ?_
    refine pw_Y (some [nx + 2]) (Row.pures [0, 2, 3, 4, 5, 6] (.alt 1 (.alt 7 (Row.pures [8] (.alt 9 (.done) .stop)) .stop) .stop)) mixed (by rfl) (by rfl) (by rfl) fun K Gp Gc Gh hK hGp hGc hGh X hX0 hX1 hX2 hX => ?_
    simp -implicitDefEqProofs [hX0, hX1, hX2, hX, w1, i1, i2, i3, g2, g4, g5, g6]
    try clear hX0 hX1 hX2 hX X
    refine ⟨by omega, ?_⟩
    refine hK _ _ _ ?_
    clear hK hGp hGc hGh
    clear K Gp Gc Gh
    refine pw_frz 5 rfl ?_
    refine pw_drop [.cells v0 25 (instL x), .cells v1 25 (instL y), .cells v2 37 [L d], .cells v3 28 [L t], .cells v4 37 [L e]] [.dead] (by simp [hwl, hwf, g4]) ?_
    have hcw : IntKind.i64.wrap (W (costZ y e) + W (wayZ y (t.map (·.c)))) = W (costZ y d) := by
      show W (W (costZ y e) + W (wayZ y (t.map (·.c)))) = W (costZ y d)
      rw [W_add, W_add', hwc]
    have flen := lengthP_ok y t (by omega) hsm
    repeat refine pw_seq ?_
    refine pw_Y (some [nx + 1, nx + 2, nx + 3, nx + 4]) (Row.pures [0, 1, 2, 3, 4, 5, 6, 7, 8, 9, 10, 11, 12, 13, 14, 15, 16, 17, 18, 19, 20, 21, 22, 23, 24, 25, 26] .done) mixed (by rfl) (by rfl) (by rfl) fun K Gp Gc Gh hK hGp hGc hGh X hX0 hX1 hX2 hX => ?_
    simp -implicitDefEqProofs [hX0, hX1, hX2, hX, hhalf]
    try clear hX0 hX1 hX2 hX X
    refine hGp _ _ _ _ _ _ _ _ (fw2) ?_
    clear hGp hGc hGh
    clear Gp Gc Gh
    refine px_go fun Gp Gc Gh hGp hGc hGh X hX0 hX1 hX2 hX => ?_
    simp -implicitDefEqProofs [hX0, hX1, hX2, hX, hwz]
    try clear hX0 hX1 hX2 hX X
    refine hGp _ _ _ _ _ _ _ _ (fw1) ?_
    clear hGp hGc hGh
    clear Gp Gc Gh
    refine px_go fun Gp Gc Gh hGp hGc hGh X hX0 hX1 hX2 hX => ?_
    simp -implicitDefEqProofs [hX0, hX1, hX2, hX]
    try clear hX0 hX1 hX2 hX X
    refine hGp _ _ _ _ _ _ _ _ (flen) ?_
    clear hGp hGc hGh
    clear Gp Gc Gh
    refine px_go fun Gp Gc Gh hGp hGc hGh X hX0 hX1 hX2 hX => ?_
    simp -implicitDefEqProofs [hX0, hX1, hX2, hX]
    try clear hX0 hX1 hX2 hX X
    refine hGp _ _ _ _ _ _ _ _ (f1) ?_
    clear hGp hGc hGh
    clear Gp Gc Gh
    refine px_go fun Gp Gc Gh hGp hGc hGh X hX0 hX1 hX2 hX => ?_
    simp -implicitDefEqProofs [hX0, hX1, hX2, hX, hcw]
    try clear hX0 hX1 hX2 hX X
    refine hGp _ _ _ _ _ _ _ _ (lives_ok) ?_
    clear hGp hGc hGh
    clear Gp Gc Gh
    refine px_go fun Gp Gc Gh hGp hGc hGh X hX0 hX1 hX2 hX => ?_
    simp -implicitDefEqProofs [hX0, hX1, hX2, hX]
    try clear hX0 hX1 hX2 hX X
    refine hK _ _ _ ?_
    clear hK hGp hGc hGh
    clear K Gp Gc Gh
    repeat refine pw_seq ?_
    exact pw_ret (ret_pure hd rfl rfl)

end Go.Proofs.Yteijcpkckhdpgaa.Pv
