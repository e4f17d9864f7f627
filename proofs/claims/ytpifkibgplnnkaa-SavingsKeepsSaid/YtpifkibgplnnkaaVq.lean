/- Joined stops: what holds of them (plain); tranterref12.Stops and Cost. -/
import Derived.Test.YtpifkibgplnnkaaVm
import Derived.Test.YtpifkibgplnnkaaId
namespace Go.Proofs.Ytpifkibgplnnkaa.Pv
open Go Hp

theorem JI.begin : ∀ (l pre : List Stop) (T : Day) (g : Int → Option Int), JI pre T g → ((pre ++ l).map (·.c)).Nodup → ∃ g', JI (pre ++ l) (T ++ l.map fun s => [s]) g'
  | [], pre, T, g, h, _ => ⟨g, by simpa using h⟩
  | s :: l, pre, T, g, h, hn => by
    have hs : s.c ∉ pre.map (·.c) := by
      rw [List.map_append, List.nodup_append] at hn
      exact fun hm => hn.2.2 _ hm s.c (by simp) rfl
    obtain ⟨g', h'⟩ := JI.begin l (pre ++ [s]) (T ++ [[s]]) _ (h.snoc s hs) (by simpa using hn)
    exact ⟨g', by simpa using h'⟩

theorem sum_set {α : Type} (f : α → Int) : ∀ (T : List α) (i : Nat) (a b : α), T[i]? = some a → ((T.set i b).map f).sum = (T.map f).sum - f a + f b
  | [], i, a, b, h => by simp at h
  | t :: T, 0, a, b, h => by simp at h; subst h; simp; omega
  | t :: T, i + 1, a, b, h => by
    simp only [List.getElem?_cons_succ] at h
    simp only [List.set_cons_succ, List.map_cons, List.sum_cons]
    rw [sum_set f T i a b h]; omega

theorem wayZ_nil (x : Inst) : wayZ x [] = 0 := by simp [wayZ]
theorem wayZ_app {x : Inst} {a b : List Int} {u v : Int} (hu : a[a.length - 1]? = some u) (hv : b[0]? = some v) : wayZ x (a ++ b) = wayZ x a + wayZ x b - savZ x u v := by
  have ha : 0 < a.length := by
    have := (List.getElem?_eq_some_iff.1 hu).1; omega
  have h1 := wayZ_cut x (a ++ b) (a.length - 1) u v (by rw [List.getElem?_append_left (by omega)]; exact hu) (by rw [Nat.sub_add_cancel ha, List.getElem?_append_right (Nat.le_refl _), Nat.sub_self]; exact hv)
  rw [Nat.sub_add_cancel ha, List.take_left', List.drop_left'] at h1
  · exact h1
  · rfl
  · rfl

/-- What holds of a joiner all the while. -/
structure KI (x : Inst) (ss : List Stop) (C : Int) (st : Day × Int) : Prop where
  j : ∃ g, JI ss st.1 g
  may : ∀ t ∈ st.1, 1 < t.length → mayT x t = 0
  num : st.2 ≤ x.veh
  cost : costZ x st.1 ≤ C

theorem KI.step {x : Inst} {ss : List Stop} {C : Int} {st : Day × Int} (h : KI x ss C st) {p : Pr} (ha : p.a ∈ ss.map (·.c)) (hb : p.b ∈ ss.map (·.c)) (hs : p.s = savZ x p.a p.b) : KI x ss C (joinS x st p) := by
  obtain ⟨g, hI⟩ := h.j
  obtain ⟨i, a, sa, hia, hsa, hsac, hga, hpi⟩ := hI.there ha
  obtain ⟨k, b, sb, hkb, hsb, hsbc, hgb, hpk⟩ := hI.there hb
  have hgi : st.1.getD i [] = a := by rw [List.getD_eq_getElem?_getD, hia]; rfl
  have hgk : st.1.getD k [] = b := by rw [List.getD_eq_getElem?_getD, hkb]; rfl
  unfold joinS joinAt
  rw [hpi, hpk, hgi, hgk]
  cases hc : joinC x st.2 p i k a b with
  | false => exact h
  | true =>
    simp only [cond_true]
    unfold joinC at hc
    simp only [Bool.and_eq_true, decide_eq_true_eq, Bool.not_eq_true', Bool.and_eq_false_iff, decide_eq_false_iff_not] at hc
    obtain ⟨⟨⟨⟨h1, h2⟩, h3⟩, h4⟩, h5⟩ := hc
    have hn := h.num
    have hpos : 0 < p.s := by rcases h4 with h4 | h4 <;> omega
    refine ⟨⟨_, hI.join hia hkb h1⟩, fun t ht hl => ?_, by simp only; omega, ?_⟩
    · rcases List.mem_or_eq_of_mem_set ht with ht | ht
      · rcases List.mem_or_eq_of_mem_set ht with ht | ht
        · exact h.may t ht hl
        · rw [ht]; exact h5
      · rw [ht] at hl; simp at hl
    · have hk2 : (st.1.set i (a ++ b))[k]? = some b := by rw [List.getElem?_set_ne h1]; exact hkb
      have e1 := sum_set (fun t : Tour => wayZ x (t.map (·.c))) (st.1.set i (a ++ b)) k b [] hk2
      have e2 := sum_set (fun t : Tour => wayZ x (t.map (·.c))) st.1 i a (a ++ b) hia
      have e3 := wayZ_app (x := x) (a := a.map (·.c)) (b := b.map (·.c)) (u := p.a) (v := p.b) (by
        unfold endC at h2; rw [List.getElem?_map, List.length_map]; exact h2) (by unfold headC at h3; rw [List.getElem?_map]; exact h3)
      have hcst := h.cost
      unfold costZ at hcst ⊢
      simp only [List.map_append, List.map_nil, wayZ_nil] at e1 e2
      rw [e3] at e2
      simp only
      omega

theorem KI.fold {x : Inst} {ss : List Stop} {C : Int} : ∀ (l : List Pr) (st : Day × Int), KI x ss C st → (∀ p ∈ l, p.a ∈ ss.map (·.c) ∧ p.b ∈ ss.map (·.c) ∧ p.s = savZ x p.a p.b) → KI x ss C (l.foldl (joinS x) st)
  | [], _, h, _ => h
  | p :: l, st, h, hl => by
    obtain ⟨h1, h2, h3⟩ := hl p (by simp)
    exact KI.fold l _ (h.step h1 h2 h3) fun q hq => hl q (by simp [hq])

/-- What the stops cost, each alone. -/
def apartZ (x : Inst) (ss : List Stop) : Int := (ss.map fun s => wayZ x [s.c]).sum
theorem apartZ_snoc (x : Inst) (ss : List Stop) (s : Stop) : apartZ x (ss ++ [s]) = apartZ x ss + wayZ x [s.c] := by simp [apartZ]

theorem joined {x : Inst} {ss : List Stop} (hn : (ss.map (·.c)).Nodup) (hv : x.veh = ss.length) :
    (joinP x ss).flatten.Perm ss ∧ (∀ t ∈ joinP x ss, t ≠ []) ∧ (∀ t ∈ joinP x ss, 1 < t.length → mayT x t = 0) ∧ costZ x (joinP x ss) ≤ apartZ x ss := by
  have hb : KI x ss (apartZ x ss) (ss.map fun s => [s], (ss.length : Int)) := by
    obtain ⟨g, hg⟩ := JI.begin ss [] [] _ JI.nil (by simpa using hn)
    refine ⟨⟨g, by simpa using hg⟩, fun t ht hl => ?_, by simp only; omega, ?_⟩
    · obtain ⟨s, _, rfl⟩ := List.mem_map.1 ht
      simp at hl
    · unfold costZ apartZ
      rw [List.map_map]
      exact Int.le_refl _
  have hK := hb.fold (pairsP x (ss.map (·.c))) _ (fun p hp => by
    have h := prsAll_mem.1 ((pairsP_perm x _).subset hp)
    exact ⟨h.1, h.2.1, h.2.2.2⟩)
  change KI x ss (apartZ x ss) (joinAll x ss) at hK
  unfold joinP
  generalize joinAll x ss = st at hK
  obtain ⟨g, hI⟩ := hK.j
  have hf : (st.1.filter fun t => !t.isEmpty).flatten = st.1.flatten := by
    generalize st.1 = T
    induction T with
    | nil => rfl
    | cons t T ih => cases t <;> simp [ih]
  have hcz : costZ x (st.1.filter fun t => !t.isEmpty) = costZ x st.1 := by
    generalize st.1 = T
    unfold costZ
    induction T with
    | nil => rfl
    | cons t T ih => cases t <;> simp [ih, wayZ_nil]
  refine ⟨by rw [hf]; exact hI.perm, fun t ht => ?_, fun t ht => hK.may t ((List.mem_filter.1 ht).1), by rw [hcz]; exact hK.cost⟩
  have := (List.mem_filter.1 ht).2
  cases t with
  | nil => simp at this
  | cons _ _ => simp

set_option maxRecDepth 20000 in
theorem stopsR_ok (d : Day) (hn : d.length ≤ 1048576) (hf : d.flatten.length ≤ 1048576) : Pure Try.prog 16 [.agg [L d]] (L d.flatten) := by
  refine pure_enter Try.func16 (by rfl) rfl Try.ntmps16 (congrArg Array.toList Try.results16) (by simp) fun S nx hd => ?_
  repeat refine pw_seq ?_
  refine pw_N [] (by rfl) (by rfl) fun K Gc Gh hK hGc hGh X hX0 hX => ?_
  simp -implicitDefEqProofs [hX0, hX]
  try clear hX0 hX X
  intro v0
  refine hK _ _ _ ?_
  clear hK hGc hGh
  clear K Gc Gh
  repeat refine pw_seq ?_
  refine pw_N [] (by rfl) (by rfl) fun K Gc Gh hK hGc hGh X hX0 hX => ?_
  simp -implicitDefEqProofs [hX0, hX]
  try clear hX0 hX X
  intros
  refine hK _ _ _ ?_
  clear hK hGc hGh
  clear K Gc Gh
  refine pw_seq (pw_nilX 3 41 2 rfl fun v1 => ?_)
  repeat refine pw_seq ?_
  refine pw_N [] (by rfl) (by rfl) fun K Gc Gh hK hGc hGh X hX0 hX => ?_
  simp -implicitDefEqProofs [hX0, hX]
  try clear hX0 hX X
  intros
  refine hK _ _ _ ?_
  clear hK hGc hGh
  clear K Gc Gh
  repeat refine pw_seq ?_
  refine pw_block (pw_loopL (fun s : Nat × List Stop × Nat × Nat => s.1 ≤ d.length ∧ s.2.1 = (d.take s.1).flatten) (fun (k, out, v, v2) => [(1, .ptr nx v 0), (3, .sl (nx + 1) v2 2 0 out.length), (4, I k)]) (fun (k, out, v, v2) => [.cells v 37 [L d], .cells v2 41 (out.flatMap Enc.enc)]) (fun s => d.length - s.1) (0, [], v0, v1) [] (by simp) (by simp) (by simp) ?_)
  rintro ⟨k, out, v1, v2⟩ ⟨hk, ho⟩
  simp only at hk ho ⊢
  repeat refine pw_seq ?_
  refine pw_N [] (by rfl) (by rfl) fun K Gc Gh hK hGc hGh X hX0 hX => ?_
  simp -implicitDefEqProofs [hX0, hX]
  try clear hX0 hX X
  intros
  refine hK _ _ _ ?_
  clear hK hGc hGh
  clear K Gc Gh
  repeat refine pw_seq ?_
  refine pw_cond rfl (fun hc => ?_) (fun hc => ?_)
  · simp at hc
    obtain ⟨t, tl, a1, a2, a3, e0⟩ := el1 rfl d k hc
    have hl : out.length + t.length ≤ 1048576 := by
      have : (out ++ t).length ≤ d.flatten.length := by
        have e : d.flatten = (d.take (k + 1)).flatten ++ (d.drop (k + 1)).flatten := by rw [← List.flatten_append, List.take_append_drop]
        rw [e, a3]; simp [ho]
      simp only [List.length_append] at this; omega
    refine pw_skip (pw_seq (pw_block ?_))
    repeat refine pw_seq ?_
    refine pw_N [] (by rfl) (by rfl) fun K Gc Gh hK hGc hGh X hX0 hX => ?_
    simp -implicitDefEqProofs [hX0, hX, hc, e0]
    try clear hX0 hX X
    refine ⟨by omega, ?_⟩
    intros
    refine hK _ _ _ ?_
    clear hK hGc hGh
    clear K Gc Gh
    repeat refine pw_seq ?_
    refine pw_N [] (by rfl) (by rfl) fun K Gc Gh hK hGc hGh X hX0 hX => ?_
    simp -implicitDefEqProofs [hX0, hX]
    try clear hX0 hX X
    intros
    refine hK _ _ _ ?_
    clear hK hGc hGh
    clear K Gc Gh
    exact again_mk (k + 1, out ++ t, v1, v2 + 1) [] (by simp [a3, ho]; omega) (by simp; omega) (by simp [wrN k (by omega)]) rfl (by simp)
  · simp at hc
    obtain rfl : k = d.length := by omega
    rw [List.take_length] at ho
    refine pw_exit ?_
    refine pw_frz 1 rfl ?_
    repeat refine pw_seq ?_
    refine pw_N [] (by rfl) (by rfl) fun K Gc Gh hK hGc hGh X hX0 hX => ?_
    simp -implicitDefEqProofs [hX0, hX]
    try clear hX0 hX X
    intros
    refine hK _ _ _ ?_
    clear hK hGc hGh
    clear K Gc Gh
    repeat refine pw_seq ?_
    exact pw_ret (ret_pure hd (by simp; rfl) (by simp [oneOf, ho]))

set_option maxRecDepth 20000 in
theorem costR_ok (x : Inst) (d : Day) (hd' : DayOk d) : Pure Try.prog 19 [.agg (instL x), .agg [L d]] (I (W (costZ x d))) := by
  have hdn := hd'.1
  refine pure_enter Try.func19 (by rfl) rfl Try.ntmps19 (congrArg Array.toList Try.results19) (by simp) fun S nx hd => ?_
  repeat refine pw_seq ?_
  refine pw_N [] (by rfl) (by rfl) fun K Gc Gh hK hGc hGh X hX0 hX => ?_
  simp -implicitDefEqProofs [hX0, hX]
  try clear hX0 hX X
  intro v0 v1
  refine hK _ _ _ ?_
  clear hK hGc hGh
  clear K Gc Gh
  repeat refine pw_seq ?_
  refine pw_N [] (by rfl) (by rfl) fun K Gc Gh hK hGc hGh X hX0 hX => ?_
  simp -implicitDefEqProofs [hX0, hX]
  try clear hX0 hX X
  intros
  refine hK _ _ _ ?_
  clear hK hGc hGh
  clear K Gc Gh
  repeat refine pw_seq ?_
  refine pw_N [] (by rfl) (by rfl) fun K Gc Gh hK hGc hGh X hX0 hX => ?_
  simp -implicitDefEqProofs [hX0, hX]
  try clear hX0 hX X
  intros
  refine hK _ _ _ ?_
  clear hK hGc hGh
  clear K Gc Gh
  repeat refine pw_seq ?_
  refine pw_block (pw_loopL (fun s : Nat => s ≤ d.length) (fun k => [(2, .ptr nx v0 0), (3, .ptr (nx + 1) v1 0), (5, I (W (costZ x (d.take k)))), (6, I k)]) (fun _ => [.cells v0 31 (instL x), .cells v1 37 [L d]]) (fun s => d.length - s) 0 [] (by simp) (by simp [costZ]) (by simp) ?_)
  rintro k hk
  repeat refine pw_seq ?_
  refine pw_N [] (by rfl) (by rfl) fun K Gc Gh hK hGc hGh X hX0 hX => ?_
  simp -implicitDefEqProofs [hX0, hX]
  try clear hX0 hX X
  intros
  refine hK _ _ _ ?_
  clear hK hGc hGh
  clear K Gc Gh
  repeat refine pw_seq ?_
  refine pw_cond rfl (fun hc => ?_) (fun hc => ?_)
  · simp at hc
    obtain ⟨t, tl, a1, a2, a3, e0⟩ := el1 rfl d k hc
    have htm := List.mem_of_getElem? a1
    have htl := hd'.2 t htm
    have hsm := hd'.3 t htm
    refine pw_skip (pw_seq (pw_block ?_))
    repeat refine pw_seq ?_
    refine pw_Y none (Row.pures [0, 1, 2, 3, 4, 5, 6, 7, 8, 9, 10] .done) mixed (by rfl) (by rfl) (by rfl) fun K Gp Gc Gh hK hGp hGc hGh X hX0 hX1 hX2 hX => ?_
    simp -implicitDefEqProofs [hX2, hc, e0]
    try clear hX0 hX1 hX2 hX X
    refine hGp _ _ _ _ _ _ _ _ (custR_ok t htl) ?_
    clear hGp hGc hGh
    clear Gp Gc Gh
    refine px_go fun Gp Gc Gh hGp hGc hGh X hX0 hX1 hX2 hX => ?_
    simp -implicitDefEqProofs [hX2]
    try clear hX0 hX1 hX2 hX X
    refine hGp _ _ _ _ _ _ _ _ (wayR_ok x (t.map (·.c)) (by simpa using htl) (by simpa using hsm)) ?_
    clear hGp hGc hGh
    clear Gp Gc Gh
    refine px_go fun Gp Gc Gh hGp hGc hGh X hX0 hX1 hX2 hX => ?_
    simp -implicitDefEqProofs [hX0, hX2]
    try clear hX0 hX1 hX2 hX X
    refine hK _ _ _ ?_
    clear hK hGp hGc hGh
    clear K Gp Gc Gh
    have hw : W (W (costZ x (d.take k)) + W (wayZ x (t.map (·.c)))) = W (costZ x (d.take (k + 1))) := by rw [a3, costZ_snoc, W_add, W_add']
    repeat refine pw_seq ?_
    refine pw_N [] (by rfl) (by rfl) fun K Gc Gh hK hGc hGh X hX0 hX => ?_
    simp -implicitDefEqProofs [hX0, hX]
    try clear hX0 hX X
    intros
    refine hK _ _ _ ?_
    clear hK hGc hGh
    clear K Gc Gh
    exact again_mk (k + 1) [] hc (by omega) (by simp [wrN k (by omega)]; exact hw) rfl (by simp)
  · simp at hc
    obtain rfl : k = d.length := by omega
    rw [List.take_length]
    refine pw_exit ?_
    repeat refine pw_seq ?_
    refine pw_N [] (by rfl) (by rfl) fun K Gc Gh hK hGc hGh X hX0 hX => ?_
    simp -implicitDefEqProofs [hX0, hX]
    try clear hX0 hX X
    intros
    refine hK _ _ _ ?_
    clear hK hGc hGh
    clear K Gc Gh
    repeat refine pw_seq ?_
    exact pw_ret (ret_pure hd (by simp; rfl) rfl)

end Go.Proofs.Ytpifkibgplnnkaa.Pv
