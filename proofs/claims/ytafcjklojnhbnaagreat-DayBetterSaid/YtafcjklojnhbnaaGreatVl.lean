/- slices.Grow of a nil slice, slices.Concat of two rows of stops. -/
import Derived.Test.YtafcjklojnhbnaaGreatSo
import Derived.Test.YtafcjklojnhbnaaGreatSg
import Derived.Test.YtafcjklojnhbnaaGreatVd
import Derived.Test.YtafcjklojnhbnaaGreatMp
import Derived.Test.YtafcjklojnhbnaaGreatIe
import Derived.Test.YtafcjklojnhbnaaGreatVe
import Derived.Test.YtafcjklojnhbnaaGreatHb
import Derived.Test.YtafcjklojnhbnaaGreatIg
namespace Go.Proofs.YtafcjklojnhbnaaGreat.Pv
open Go

theorem arr2 {vs : Array Value} (h : 2 = vs.size) : ∃ u v, vs = #[u, v] := by
  match vs, h with
  | ⟨[u, v]⟩, _ => exact ⟨u, v, rfl⟩
theorem rel_nils {C : Ctx} {S : Store} {w : World} {v : Value} (h : Rel C S w (.sc (.slice none 0 0)) v) : v = .slice none 0 0 := by cases h; rfl

theorem growS_ok (n : Nat) (h0 : 0 < n) (hn : n ≤ 1048576) (S : Store) (nx : Nat) (hd : DeadFrom nx S) :
    Spec Tryz.prog 74 [.sc (.slice none 0 0), I n] S (fun p S' => ∃ v, p = .sl nx v 2 0 0 ∧ S' = S.set nx (.cells v 43 [])) := by
  refine ⟨enters_of Tryz.func74 (by rfl) rfl, ?_⟩
  intro C w vs hS hl hr
  obtain ⟨u, v, rfl⟩ := arr2 hl
  obtain rfl := rel_nils (hr 0 _ u rfl rfl)
  obtain rfl := rel_int (hr 1 _ v rfl rfl)
  obtain ⟨i0, hi0⟩ := Option.isSome_iff_exists.1 i43
  have hz := z43
  have hc := c43
  have hb := b43
  simp only [Program.zeroOf, Program.cellsOf, Program.bytesOf', hi0, Option.bind_some, Option.map_some, Option.getD_some, Option.some.injEq] at hz hc hb
  refine (Tryz.slices_Grow_stop i0 _ hi0 hz (by omega) n w h0 (by rw [hb]; omega) (by omega)).mono ?_
  rintro e w' ⟨rfl, rfl⟩
  have hfr : Fresh C S nx C.clock := .clock C (hd nx (Nat.le_refl _))
  obtain ⟨d1, d2⟩ := hS.drew
  obtain ⟨t1, t2⟩ := d1.object' hfr 43 ((#[] : Array Value) ++ Builtin.zeroCells (Value.agg #[.int .i64 0, .int .i64 0]).cells (0 + n - 0) ++ Builtin.zeroCells (Value.agg #[.int .i64 0, .int .i64 0]).cells (grownCap w (0 + n) 0 43 - (0 + n))) [] (by simp) (fun i v hi => by simp at hi) (fun i p v hp => by simp at hp)
  have hge := grownCap_ge w (0 + n) 0 43
  simp only [Nat.zero_add] at hge
  refine ⟨_, _, _, _, rfl, ⟨C.clock, rfl, rfl⟩, rel_newsl C S w _ _ _ _ _ _ _ _ rfl (Nat.zero_le _) (Nat.zero_le _) (grownCap_le_maxLen w _ _ _ (by unfold maxLen; omega)) ?_, t1, d2.trans t2⟩
  simp only [Array.size_append, size_zeroCells]
  simp [Value.cells]
  omega

set_option maxRecDepth 20000 in
theorem concat_ok (ls : List (List Stop)) (hls : ls.length ≤ 1048576) (h0 : 0 < ls.flatten.length) (hn : ls.flatten.length ≤ 1048576) : Pure Tryz.prog 45 [L ls] (L ls.flatten) := by
  refine pure_enter Tryz.func45 (by rfl) rfl Tryz.ntmps45 (congrArg Array.toList Tryz.results45) (by simp) fun S nx hd => ?_
  repeat refine pw_seq ?_
  refine pw_N [] (by rfl) (by rfl) fun K Gc Gh hK hGc hGh X hX0 hX => ?_
  simp -implicitDefEqProofs [hX0, hX]
  try clear hX0 hX X
  intros
  refine hK _ _ _ ?_
  clear hK hGc hGh
  clear K Gc Gh
  repeat refine pw_seq ?_
  refine pw_N [] (by rfl) (by rfl) fun K Gc Gh hK hGc hGh X hX0 hX => ?_
  simp -implicitDefEqProofs [hX0, hX]
  try clear hX0 hX X
  intros
  refine hK _ _ _ ?_
  clear hK hGc hGh
  clear K Gc Gh
  repeat refine pw_seq ?_
  refine pw_N [] (by rfl) (by rfl) fun K Gc Gh hK hGc hGh X hX0 hX => ?_
  simp -implicitDefEqProofs [hX0, hX]
  try clear hX0 hX X
  intros
  refine hK _ _ _ ?_
  clear hK hGc hGh
  clear K Gc Gh
  repeat refine pw_seq ?_
  refine pw_block (pw_loopL (fun s : Nat × Nat => s.1 ≤ ls.length ∧ s.2 = (ls.take s.1).flatten.length) (fun (k, n) => [(0, L ls), (3, I (n : Int)), (9, L ls), (10, I ls.length), (11, I k)]) (fun _ => []) (fun s => ls.length - s.1) (0, 0) [] ⟨by simp, by simp⟩ (by simp) (by simp) ?_)
  rintro ⟨k, n⟩ ⟨hk, ho⟩
  simp only at hk ho ⊢
  repeat refine pw_seq ?_
  refine pw_N [] (by rfl) (by rfl) fun K Gc Gh hK hGc hGh X hX0 hX => ?_
  simp -implicitDefEqProofs [hX0, hX]
  try clear hX0 hX X
  intros
  refine hK _ _ _ ?_
  clear hK hGc hGh
  clear K Gc Gh
  repeat refine pw_seq ?_
  refine pw_cond rfl (fun hc => ?_) (fun hc => ?_)
  · simp at hc
    obtain ⟨t, tl, a1, a2, a3, e0⟩ := el1 rfl ls k hc
    have hs1 : (ls.take (k + 1)).flatten.length = n + t.length := by rw [a3, ho]; simp
    have hs2 : (ls.take (k + 1)).flatten.length ≤ ls.flatten.length := by
      conv => rhs; rw [← List.take_append_drop (k + 1) ls, List.flatten_append, List.length_append]
      omega
    have w1 : IntKind.i64.wrap ((n : Int) + (t.length : Nat)) = (n : Int) + (t.length : Nat) := wr _ (by omega) (by omega)
    have w2 : ¬ ((n : Int) + (t.length : Nat) < 0) := by omega
    refine pw_skip (pw_seq (pw_block ?_))
    repeat refine pw_seq ?_
    refine pw_N [] (by rfl) (by rfl) fun K Gc Gh hK hGc hGh X hX0 hX => ?_
    simp -implicitDefEqProofs [hX0, hX, e0, hc]
    try clear hX0 hX X
    intros
    refine hK _ _ _ ?_
    clear hK hGc hGh
    clear K Gc Gh
    repeat refine pw_seq ?_
    refine pw_N [] (by rfl) (by rfl) fun K Gc Gh hK hGc hGh X hX0 hX => ?_
    simp -implicitDefEqProofs [hX0, hX, w1]
    try clear hX0 hX X
    intros
    refine hK _ _ _ ?_
    clear hK hGc hGh
    clear K Gc Gh
    repeat refine pw_seq ?_
    refine pw_N [] (by rfl) (by rfl) fun K Gc Gh hK hGc hGh X hX0 hX => ?_
    simp -implicitDefEqProofs [hX0, hX, w2]
    try clear hX0 hX X
    intros
    refine hK _ _ _ ?_
    clear hK hGc hGh
    clear K Gc Gh
    repeat refine pw_seq ?_
    refine pw_cf rfl ?_
    refine pw_skip ?_
    repeat refine pw_seq ?_
    refine pw_N [] (by rfl) (by rfl) fun K Gc Gh hK hGc hGh X hX0 hX => ?_
    simp -implicitDefEqProofs [hX0, hX]
    try clear hX0 hX X
    intros
    refine hK _ _ _ ?_
    clear hK hGc hGh
    clear K Gc Gh
    exact again_mk (k + 1, n + t.length) [] ⟨hc, hs1.symm⟩ (by simp; omega) (by simp [wrN k (by omega)]) rfl (by simp)
  · simp at hc
    obtain rfl : k = ls.length := by omega
    rw [List.take_length] at ho
    rw [← ho] at h0
    have hn' : n ≤ 1048576 := by omega
    clear ho
    refine pw_exit ?_
    repeat refine pw_seq ?_
    refine pw_N [] (by rfl) (by rfl) fun K Gc Gh hK hGc hGh X hX0 hX => ?_
    simp -implicitDefEqProofs [hX]
    try clear hX0 hX X
    refine hGc _ _ _ _ _ _ _ fun hsuf => ((growS_ok n h0 hn' _ _ ext_dead).mono ?_).v
    rintro _ _ ⟨v1, rfl, rfl⟩
    refine ⟨_, _, ext_push _, ?_⟩
    clear hGc hGh
    clear Gc Gh
    refine xs_go hsuf (D := []) (by rfl) fun Gc Gh hGc hGh X hX0 hX => ?_
    simp -implicitDefEqProofs [hX0, hX]
    clear hX0 hX X
    intros
    refine hK _ _ _ ?_
    clear hK hGc hGh
    clear K Gc Gh
    repeat refine pw_seq ?_
    refine pw_N [] (by rfl) (by rfl) fun K Gc Gh hK hGc hGh X hX0 hX => ?_
    simp -implicitDefEqProofs [hX0, hX]
    try clear hX0 hX X
    intros
    refine hK _ _ _ ?_
    clear hK hGc hGh
    clear K Gc Gh
    repeat refine pw_seq ?_
    refine pw_block (pw_loopL (fun s : Nat × List Stop × Nat => s.1 ≤ ls.length ∧ s.2.1 = (ls.take s.1).flatten) (fun (k, out, v) => [(6, .sl nx v 2 0 out.length), (25, L ls), (26, I ls.length), (27, I k)]) (fun (k, out, v) => [.cells v 43 (out.flatMap Enc.enc)]) (fun s => ls.length - s.1) (0, [], v1) [] ⟨by simp, by simp⟩ (by simp) (by simp) ?_)
    rintro ⟨k, out, v⟩ ⟨hk, ho⟩
    simp only at hk ho ⊢
    repeat refine pw_seq ?_
    refine pw_N [] (by rfl) (by rfl) fun K Gc Gh hK hGc hGh X hX0 hX => ?_
    simp -implicitDefEqProofs [hX0, hX]
    try clear hX0 hX X
    intros
    refine hK _ _ _ ?_
    clear hK hGc hGh
    clear K Gc Gh
    repeat refine pw_seq ?_
    refine pw_cond rfl (fun hc => ?_) (fun hc => ?_)
    · simp at hc
      obtain ⟨t, tl, a1, a2, a3, e0⟩ := el1 rfl ls k hc
      have hs1 : (ls.take (k + 1)).flatten = out ++ t := by rw [a3, ho]; simp
      have hs2 : (ls.take (k + 1)).flatten.length ≤ ls.flatten.length := by
        conv => rhs; rw [← List.take_append_drop (k + 1) ls, List.flatten_append, List.length_append]
        omega
      rw [hs1] at hs2
      simp only [List.length_append] at hs2
      refine pw_skip (pw_seq (pw_block ?_))
      repeat refine pw_seq ?_
      refine pw_N [] (by rfl) (by rfl) fun K Gc Gh hK hGc hGh X hX0 hX => ?_
      simp -implicitDefEqProofs [hX0, hX, e0, hc]
      try clear hX0 hX X
      intros
      refine hK _ _ _ ?_
      clear hK hGc hGh
      clear K Gc Gh
      repeat refine pw_seq ?_
      refine pw_N [] (by rfl) (by rfl) fun K Gc Gh hK hGc hGh X hX0 hX => ?_
      simp -implicitDefEqProofs [hX0, hX]
      try clear hX0 hX X
      refine ⟨by omega, ?_⟩
      intros
      refine hK _ _ _ ?_
      clear hK hGc hGh
      clear K Gc Gh
      repeat refine pw_seq ?_
      refine pw_N [] (by rfl) (by rfl) fun K Gc Gh hK hGc hGh X hX0 hX => ?_
      simp -implicitDefEqProofs [hX0, hX]
      try clear hX0 hX X
      intros
      refine hK _ _ _ ?_
      clear hK hGc hGh
      clear K Gc Gh
      exact again_mk (k + 1, out ++ t, v + 1) [] ⟨hc, hs1.symm⟩ (by simp; omega) (by simp [wrN k (by omega)]) rfl (by simp)
    · simp at hc
      obtain rfl : k = ls.length := by omega
      rw [List.take_length] at ho
      refine pw_exit ?_
      refine pw_frz 0 rfl ?_
      repeat refine pw_seq ?_
      refine pw_N [] (by rfl) (by rfl) fun K Gc Gh hK hGc hGh X hX0 hX => ?_
      simp -implicitDefEqProofs [hX0, hX]
      try clear hX0 hX X
      intros
      refine hK _ _ _ ?_
      clear hK hGc hGh
      clear K Gc Gh
      repeat refine pw_seq ?_
      exact pw_ret (ret_pure hd (by simp; rfl) (by simp [oneOf, ho]))

end Go.Proofs.YtafcjklojnhbnaaGreat.Pv

/- Savings: tours joined; plain. -/
namespace Go.Proofs.YtafcjklojnhbnaaGreat.Pv
open Go Hp

/-- The place of a customer's tour. -/
def placeT (T : Day) (c : Int) : Nat := T.findIdx fun t => t.any fun s => decide (s.c = c)
def endC (a : Tour) : Option Int := a[a.length - 1]?.map (·.c)
def headC (b : Tour) : Option Int := b[0]?.map (·.c)
def joinC (x : Inst) (num : Int) (p : Pr) (i k : Nat) (a b : Tour) : Bool :=
  decide (i ≠ k) && decide (endC a = some p.a) && decide (headC b = some p.b) && !(decide (p.s ≤ 0) && decide (num ≤ x.veh)) && decide (mayT x (a ++ b) = 0)
def joinAt (x : Inst) (st : Day × Int) (p : Pr) (i k : Nat) : Day × Int :=
  bif joinC x st.2 p i k (st.1.getD i []) (st.1.getD k []) then ((st.1.set i (st.1.getD i [] ++ st.1.getD k [])).set k [], st.2 - 1) else st
def joinS (x : Inst) (st : Day × Int) (p : Pr) : Day × Int := joinAt x st p (placeT st.1 p.a) (placeT st.1 p.b)
/-- All that a joiner does. -/
def joinAll (x : Inst) (ss : List Stop) : Day × Int := (pairsP x (ss.map (·.c))).foldl (joinS x) (ss.map fun s => [s], (ss.length : Int))
def joinP (x : Inst) (ss : List Stop) : Day := (joinAll x ss).1.filter fun t => !t.isEmpty

structure JI (ss : List Stop) (T : Day) (g : Int → Option Int) : Prop where
  len : T.length = ss.length
  perm : T.flatten.Perm ss
  g : ∀ (i : Nat) t s, T[i]? = some t → s ∈ t → g s.c = some (i : Int)

theorem JI.place {ss : List Stop} {T : Day} {g : Int → Option Int} (h : JI ss T g) {i : Nat} {t : Tour} {s : Stop} (hi : T[i]? = some t) (hs : s ∈ t) : placeT T s.c = i := by
  have hex : ∃ t ∈ T, (t.any fun s' => decide (s'.c = s.c)) = true := ⟨t, List.mem_of_getElem? hi, List.any_eq_true.2 ⟨s, hs, by simp⟩⟩
  have hlt : placeT T s.c < T.length := List.findIdx_lt_length_of_exists hex
  have hq := List.findIdx_getElem (w := hlt)
  obtain ⟨s', h1, h2⟩ := List.any_eq_true.1 hq
  have h2' : s'.c = s.c := by simpa using h2
  have e1 := h.g (placeT T s.c) _ s' (List.getElem?_eq_getElem hlt) h1
  have e2 := h.g i t s hi hs
  rw [h2', e2] at e1
  have := Option.some.inj e1
  omega
theorem JI.there {ss : List Stop} {T : Day} {g : Int → Option Int} (h : JI ss T g) {c : Int} (hc : c ∈ ss.map (·.c)) : ∃ (i : Nat) (t : Tour) (s : Stop), T[i]? = some t ∧ s ∈ t ∧ s.c = c ∧ g c = some (i : Int) ∧ placeT T c = i := by
  obtain ⟨s, hs, rfl⟩ := List.mem_map.1 hc
  obtain ⟨t, ht, hst⟩ := List.mem_flatten.1 (h.perm.symm.subset hs)
  obtain ⟨i, hi⟩ := List.mem_iff_getElem?.1 ht
  exact ⟨i, t, s, hi, hst, rfl, h.g i t s hi hst, h.place hi hst⟩

theorem flat_out {T : Day} : ∀ {i : Nat} {a : Tour}, T[i]? = some a → T.flatten.Perm (a ++ (T.set i []).flatten) := by
  induction T with
  | nil => intro i a h; simp at h
  | cons t T ih =>
    intro i a h
    cases i with
    | zero => simp at h; subst h; simp
    | succ i =>
      simp only [List.getElem?_cons_succ] at h
      simp only [List.flatten_cons, List.set_cons_succ]
      refine ((ih h).append_left t).trans ?_
      rw [← List.append_assoc, ← List.append_assoc]
      exact List.perm_append_comm.append_right _
theorem flat_in {T : Day} {i : Nat} (b : Tour) (h : i < T.length) : (T.set i b).flatten.Perm (b ++ (T.set i []).flatten) := by
  have := flat_out (T := T.set i b) (i := i) (a := b) (by simp [h])
  rwa [List.set_set] at this
theorem flat_join {T : Day} {i k : Nat} {a b : Tour} (hi : T[i]? = some a) (hk : T[k]? = some b) (hne : i ≠ k) : ((T.set i (a ++ b)).set k []).flatten.Perm T.flatten := by
  have hil := (List.getElem?_eq_some_iff.1 hi).1
  rw [List.set_comm _ _ hne]
  have h1 := flat_in (T := T.set k []) (i := i) (a ++ b) (by simpa using hil)
  have h2 := flat_out hk
  have h3 := flat_out (T := T.set k []) (i := i) (a := a) (by rw [List.getElem?_set_ne (fun e => hne e.symm)]; exact hi)
  refine h1.trans (List.Perm.symm ?_)
  refine h2.trans ((h3.append_left b).trans ?_)
  rw [← List.append_assoc]
  exact List.perm_append_comm.append_right _

/-- The places once the stops b are at i. -/
def gTo (g : Int → Option Int) (b : Tour) (i : Nat) (j : Nat) : Int → Option Int := fun c => if c ∈ (b.take j).map (·.c) then some (i : Int) else g c
theorem gTo_zero (g : Int → Option Int) (b : Tour) (i : Nat) : gTo g b i 0 = g := by funext c; simp [gTo]
theorem gTo_succ {g : Int → Option Int} {b : Tour} {i j : Nat} {s : Stop} (h : b.take (j + 1) = b.take j ++ [s]) : updM (gTo g b i j) s.c (some (i : Int)) = gTo g b i (j + 1) := by
  funext c
  simp only [updM, gTo, h, List.map_append, List.mem_append, List.map_cons, List.map_nil, List.mem_singleton]
  by_cases e : c = s.c
  · simp [e]
  · simp [e]

theorem JI.join {ss : List Stop} {T : Day} {g : Int → Option Int} (h : JI ss T g) {i k : Nat} {a b : Tour} (hi : T[i]? = some a) (hk : T[k]? = some b) (hne : i ≠ k) : JI ss ((T.set i (a ++ b)).set k []) (gTo g b i b.length) := by
  have hil := (List.getElem?_eq_some_iff.1 hi).1
  have hkl := (List.getElem?_eq_some_iff.1 hk).1
  refine ⟨by simp [h.len], (flat_join hi hk hne).trans h.perm, fun i' t s ht hs => ?_⟩
  unfold gTo
  rw [List.take_length]
  by_cases e1 : k = i'
  · subst e1
    rw [List.getElem?_set_self (by simpa using hkl)] at ht
    cases ht; cases hs
  · rw [List.getElem?_set_ne e1] at ht
    by_cases e2 : i = i'
    · subst e2
      rw [List.getElem?_set_self hil] at ht
      cases ht
      by_cases e3 : s.c ∈ b.map (·.c)
      · rw [if_pos e3]
      · rw [if_neg e3]
        rcases List.mem_append.1 hs with hs | hs
        · exact h.g i a s hi hs
        · exact absurd (List.mem_map.2 ⟨s, hs, rfl⟩) e3
    · rw [List.getElem?_set_ne e2] at ht
      have h1 := h.g i' t s ht hs
      rw [if_neg]
      · exact h1
      · intro e3
        obtain ⟨s', hs', e4⟩ := List.mem_map.1 e3
        have h2 := h.g k b s' hk hs'
        rw [e4, h1] at h2
        have := Option.some.inj h2
        exact e1 (by omega)

theorem JI.nil : JI [] [] (fun _ => none) := ⟨rfl, .refl _, fun i t s h => by simp at h⟩
theorem JI.snoc {ss : List Stop} {T : Day} {g : Int → Option Int} (h : JI ss T g) (s : Stop) (hs : s.c ∉ ss.map (·.c)) : JI (ss ++ [s]) (T ++ [[s]]) (updM g s.c (some (ss.length : Int))) := by
  refine ⟨by simp [h.len], by simpa using h.perm.append_right [s], fun i t s' ht hst => ?_⟩
  unfold updM
  rcases Nat.lt_or_ge i T.length with hl | hl
  · rw [List.getElem?_append_left hl] at ht
    have h1 : s' ∈ ss := h.perm.subset (List.mem_flatten.2 ⟨t, List.mem_of_getElem? ht, hst⟩)
    rw [if_neg]
    · exact h.g i t s' ht hst
    · intro e; exact hs (e ▸ List.mem_map.2 ⟨s', h1, rfl⟩)
  · rw [List.getElem?_append_right hl] at ht
    have hi : i - T.length = 0 := by
      have := (List.getElem?_eq_some_iff.1 ht).1
      simp at this; omega
    rw [hi] at ht
    simp at ht
    subst ht
    simp at hst
    subst hst
    rw [if_pos rfl, ← h.len]
    congr 1
    have : i = T.length := by omega
    rw [this]

end Go.Proofs.YtafcjklojnhbnaaGreat.Pv

/- (*joiner).join: told of the joiner's three objects. -/
namespace Go.Proofs.YtafcjklojnhbnaaGreat.Pv
open Go Hp

theorem pw_nilO {P : Program} {r : Rd} {n N : Nat} {Q : Exit → (Nat → PV) → Store → Prop} {F : Nat → PV} {c : Code} {T : Store} {o ver e0 : Nat} {cs : List PV} (i : Nat) (hs : T o = .cells ver e0 cs) (hi : cs[i]? = some (.sc (.slice none 0 0)))
    (h : PW P r n N c Q F (T.set o (.cells ver e0 (cs.set i (.lst 0 []))))) : PW P r n N c Q F T := by
  refine pw_ghost (F' := F) (S' := T.set o (.cells ver e0 (cs.set i (.lst 0 [])))) (fun C w a st => ?_) h
  have := st.sim.relabel (cs' := cs.set i (.lst 0 [])) hs (by simp) (by
    intro k p' hp'
    rw [List.getElem?_set] at hp'
    split at hp'
    · rename_i hij
      subst hij
      split at hp'
      · cases hp'
        refine .inr ⟨_, hi, fun v hv => ?_⟩
        cases hv
        exact .lst0
      · cases hp'
    · exact .inl hp')
  exact ⟨C, ⟨this.1, st.size, fun k => (st.fr k).mono this.2, r.keep this.2 st.v⟩, this.2⟩

/-- A joiner's cells. -/
abbrev jcells (x : Inst) (tid tv n : Nat) (num : Int) (mid mv : Nat) : List PV := [I x.days, I x.veh, I x.cap, I x.len, L x.cust, L x.dist, .sl tid tv 1 0 n, I num, .mp mid mv]

theorem splice_set (cs : List PV) (k : Nat) (x : PV) (h : k < cs.length) : splice cs k [x] = cs.set k x := by
  rw [splice, List.set_eq_take_append_cons_drop, if_pos h]; simp
theorem flat_day (T : Day) : T.flatMap Enc.enc = T.map fun t => L t := by induction T <;> simp_all

theorem lt_of_live {S : Store} {nx id : Nat} {o : Ob} (hd : DeadFrom nx S) (h : S id = o) (hne : o ≠ .dead) : id < nx := by
  rcases Nat.lt_or_ge id nx with q | q
  · exact q
  · rw [hd id q] at h; exact absurd h.symm hne

set_option maxRecDepth 20000 in
set_option maxHeartbeats 1600000 in
theorem join_ok (x : Inst) (ss : List Stop) (T : Day) (g : Int → Option Int) (num : Int) (es : List (Value × PV)) {S : Store} {jid jv tid tv mid mv : Nat} (hx : x.cust.length ≤ 1048576) (hss : ss.length ≤ 1000) (hnum : -1048576 ≤ num ∧ num ≤ 1048576) (hI : JI ss T g) (hm : MapIs keyI I es g)
    (hj : S jid = .cells jv 136 (jcells x tid tv ss.length num mid mv)) (ht : S tid = .cells tv 26 (T.flatMap Enc.enc)) (hmid : S mid = .map mv es) (d1 : jid ≠ tid) (d2 : jid ≠ mid) (d3 : tid ≠ mid)
    (p : Pr) (hpa : p.a ∈ ss.map (·.c)) (hpb : p.b ∈ ss.map (·.c)) :
    Spec Tryz.prog 93 [.ptr jid jv 0, .agg [I p.a, I p.b, I p.s]] S (fun _ S' => ∃ es' g', MapIs keyI I es' g' ∧ JI ss (joinS x (T, num) p).1 g' ∧
      S' = ((S.set jid (.cells jv 136 (jcells x tid tv ss.length (joinS x (T, num) p).2 mid mv))).set tid (.cells tv 26 ((joinS x (T, num) p).1.flatMap Enc.enc))).set mid (.map mv es')) := by
  obtain ⟨i, a, sa, hia, hsa, hsac, hga, hpi⟩ := hI.there hpa
  obtain ⟨k, b, sb, hkb, hsb, hsbc, hgb, hpk⟩ := hI.there hpb
  have hkey : KeyOk (.int .i64) keyI := keyOk_int .i64
  obtain ⟨ra, fa1, fa2, fa3, fa4, fa5⟩ := hm.find hkey p.a
  obtain ⟨rb, fb1, fb2, fb3, fb4, fb5⟩ := hm.find hkey p.b
  obtain ⟨ja, rfl⟩ := fa3 _ hga
  obtain ⟨jb, rfl⟩ := fb3 _ hgb
  refine spec_enter Tryz.func93 (by rfl) rfl Tryz.ntmps93 (congrArg Array.toList Tryz.results93) (by simp) fun nx hd => ?_
  have hlj : jid < nx := lt_of_live hd hj (by simp)
  have hlt : tid < nx := lt_of_live hd ht (by simp)
  have hlm : mid < nx := lt_of_live hd hmid (by simp)
  have xj := fun obs => ext_old (S := S) (obs := obs) hlj
  have xt := fun obs => ext_old (S := S) (obs := obs) hlt
  have xm := fun obs => ext_old (S := S) (obs := obs) hlm
  repeat refine pw_seq ?_
  refine pw_N [] (by rfl) (by rfl) fun K Gc Gh hK hGc hGh X hX0 hX => ?_
  simp -implicitDefEqProofs [hX0, hX]
  try clear hX0 hX X
  intro v0
  refine hK _ _ _ ?_
  clear hK hGc hGh
  clear K Gc Gh
  have hil := (List.getElem?_eq_some_iff.1 hia).1
  have hkl := (List.getElem?_eq_some_iff.1 hkb).1
  have hgi : T.getD i [] = a := by rw [List.getD_eq_getElem?_getD, hia]; rfl
  have hgk : T.getD k [] = b := by rw [List.getD_eq_getElem?_getD, hkb]; rfl
  have hdef : joinS x (T, num) p = bif joinC x num p i k a b then ((T.set i (a ++ b)).set k [], num - 1) else (T, num) := by
    unfold joinS joinAt
    simp only [hpi, hpk, hgi, hgk]
  have hstay : joinC x num p i k a b = false → ∃ es' g', MapIs keyI I es' g' ∧ JI ss (joinS x (T, num) p).1 g' ∧
      S = ((S.set jid (.cells jv 136 (jcells x tid tv ss.length (joinS x (T, num) p).2 mid mv))).set tid (.cells tv 26 ((joinS x (T, num) p).1.flatMap Enc.enc))).set mid (.map mv es') := by
    intro hc
    rw [hdef, hc]
    refine ⟨es, g, hm, hI, ?_⟩
    simp only [cond_false]
    rw [set_self S jid _ hj, set_self S tid _ ht, set_self S mid _ hmid]
  have hal2 : a.length ≤ 1000 := by
    have h1 := (flat_out hia).length_eq
    have h2 := hI.perm.length_eq
    rw [List.length_append] at h1
    omega
  have hbl2 : b.length ≤ 1000 := by
    have h1 := (flat_out hkb).length_eq
    have h2 := hI.perm.length_eq
    rw [List.length_append] at h1
    omega
  obtain ⟨m, hal⟩ : ∃ m, a.length = m + 1 := ⟨a.length - 1, by cases a with | nil => cases hsa | cons _ _ => simp⟩
  have hb0 : 0 < b.length := by cases b with | nil => cases hsb | cons _ _ => simp
  obtain ⟨la, tla, la1, la2, la3, la4, la5⟩ := el 2 rfl a m (by omega)
  obtain ⟨fb, b', hbc⟩ : ∃ fb b', b = fb :: b' := by cases b with | nil => cases hsb | cons x y => exact ⟨x, y, rfl⟩
  have hend : endC a = some la.c := by unfold endC; rw [hal, Nat.add_sub_cancel, la1]; rfl
  have hhead : headC b = some fb.c := by rw [hbc]; rfl
  obtain ⟨ai, tai, i1, i2, i3, i0⟩ := el1 rfl T i hil
  rw [hia] at i1; cases i1
  obtain ⟨bk, tbk, k1, k2, k3, k0⟩ := el1 rfl T k hkl
  rw [hkb] at k1; cases k1
  have hTl := hI.len
  have hil2 : i < ss.length := by omega
  have hkl2 : k < ss.length := by omega
  repeat refine pw_seq ?_
  refine pw_joinK (nx := nx) (σ := Unit) (fun _ => True) (fun _ => [(0, .ptr jid jv 0), (3, .ptr nx v0 0), (4, I i), (5, I k)]) (fun _ => S) (fun _ => [.cells v0 117 [I p.a, I p.b, I p.s]]) ?_ ?_
  · repeat refine pw_seq ?_
    refine pw_Y none (Row.pures [0, 1, 2, 3, 4, 5, 7, 8, 9, 10, 11, 12] (.alt 6 (Row.pures [14] (.alt 13 (Row.pures [15] .done) .stop)) (.alt 13 (.alt 6 (Row.pures [14, 15] .done) .stop) .stop))) mixed (by rfl) (by rfl) (by rfl) fun K Gp Gc Gh hK hGp hGc hGh X hX0 hX1 hX2 hX => ?_
    simp -implicitDefEqProofs [hX1, hX2, hX, xj, hj]
    try clear hX0 hX1 hX2 hX X
    refine ⟨?_, ?_⟩
    · refine hGh _ _ _ _ _ (by rfl) (po_lookup rfl Tryz.underlying134 Tryz.underlying3 rfl rfl rfl ((xm _).trans hmid) fa1 z3 ?_)
      refine ⟨by simp [Agree], ?_⟩
      clear hGp hGc hGh
      clear Gp Gc Gh
      refine px_go fun Gp Gc Gh hGp hGc hGh X hX0 hX1 hX2 hX => ?_
      simp -implicitDefEqProofs [hX1, hX2, hX]
      try clear hX0 hX1 hX2 hX X
      refine hGh _ _ _ _ _ (by rfl) (po_lookup rfl Tryz.underlying134 Tryz.underlying3 rfl rfl rfl ((xm _).trans hmid) fb1 z3 ?_)
      refine ⟨by simp [Agree], ?_⟩
      clear hGp hGc hGh
      clear Gp Gc Gh
      refine px_go fun Gp Gc Gh hGp hGc hGh X hX0 hX1 hX2 hX => ?_
      simp -implicitDefEqProofs [hX0, hX2]
      try clear hX0 hX1 hX2 hX X
      refine hK _ _ _ ?_
      clear hK hGp hGc hGh
      clear K Gp Gc Gh
      exact at_mk () [] trivial (by simp [lookP]) rfl (by simp)
    · refine hGh _ _ _ _ _ (by rfl) (po_lookup rfl Tryz.underlying134 Tryz.underlying3 rfl rfl rfl ((xm _).trans hmid) fb1 z3 ?_)
      refine ⟨by simp [Agree], ?_⟩
      clear hGp hGc hGh
      clear Gp Gc Gh
      refine px_go fun Gp Gc Gh hGp hGc hGh X hX0 hX1 hX2 hX => ?_
      simp -implicitDefEqProofs [hX1, hX]
      try clear hX0 hX1 hX2 hX X
      refine hGh _ _ _ _ _ (by rfl) (po_lookup rfl Tryz.underlying134 Tryz.underlying3 rfl rfl rfl ((xm _).trans hmid) fa1 z3 ?_)
      refine ⟨by simp [Agree], ?_⟩
      clear hGp hGc hGh
      clear Gp Gc Gh
      refine px_go fun Gp Gc Gh hGp hGc hGh X hX0 hX1 hX2 hX => ?_
      simp -implicitDefEqProofs [hX0, hX2]
      try clear hX0 hX1 hX2 hX X
      refine hK _ _ _ ?_
      clear hK hGp hGc hGh
      clear K Gp Gc Gh
      exact at_mk () [] trivial (by simp [lookP]) rfl (by simp)
  intro _ _
  repeat refine pw_seq ?_
  refine pw_Y none (Row.pures [0, 1, 2, 3, 4, 5, 6, 7, 8, 9, 10, 11, 12, 13, 14, 15] .done) mixed (by rfl) (by rfl) (by rfl) fun K Gp Gc Gh hK hGp hGc hGh X hX0 hX1 hX2 hX => ?_
  simp -implicitDefEqProofs [hX0, hX2, xj, xt, hj, ht, i0, k0, hil2, hkl2]
  try clear hX0 hX1 hX2 hX X
  intros
  refine hK _ _ _ ?_
  clear hK hGp hGc hGh
  clear K Gp Gc Gh
  have wm : IntKind.i64.wrap (m : Int) = m := wr _ (by omega) (by omega)
  have hm1 : m < a.length := by omega
  refine pw_seq ?_
  refine pw_joinK (nx := nx) (σ := Unit) (fun _ => ¬ i = k ∧ la.c = p.a ∧ fb.c = p.b) (fun _ => [(0, .ptr jid jv 0), (3, .ptr nx v0 0), (4, I i), (5, I k), (6, L a), (7, L b)]) (fun _ => S) (fun _ => [.cells v0 117 [I p.a, I p.b, I p.s]]) ?_ ?_
  · by_cases h1 : i = k
    · have hc : joinC x num p i k a b = false := by simp [joinC, h1]
      repeat refine pw_seq ?_
      refine pw_Y none (Row.pures [0, 1, 2, 3, 4, 5, 6, 7, 8, 9, 10, 11, 12, 13, 14, 15, 16, 17, 18, 19, 20, 21, 22, 23] .done) mixed (by rfl) (by rfl) (by rfl) fun K Gp Gc Gh hK hGp hGc hGh X hX0 hX1 hX2 hX => ?_
      simp -implicitDefEqProofs [hX0, hX2, h1, undef]
      try clear hX0 hX1 hX2 hX X
      intros
      refine hK _ _ _ ?_
      clear hK hGp hGc hGh
      clear K Gp Gc Gh
      repeat refine pw_seq ?_
      refine pw_ct rfl ?_
      repeat refine pw_seq ?_
      exact pw_ret ⟨_, S, rfl, hstay hc, ext_kill0 hd⟩
    have h1' : ¬ (i : Int) = (k : Int) := by omega
    have hm2 : (m : Int) < (m : Int) + 1 := by omega
    by_cases h2 : la.c = p.a
    case neg =>
      have hc : joinC x num p i k a b = false := by simp [joinC, hend, h2]
      repeat refine pw_seq ?_
      refine pw_Y none (Row.pures [0, 1, 2, 3, 4, 5, 6, 7, 8, 9, 10, 11, 12, 13, 14, 15, 16, 17, 18, 19, 20, 21, 22, 23] .done) mixed (by rfl) (by rfl) (by rfl) fun K Gp Gc Gh hK hGp hGc hGh X hX0 hX1 hX2 hX => ?_
      simp -implicitDefEqProofs [hX0, hX2, h1', h2, hal, wm, hm2, la5, undef]
      try clear hX0 hX1 hX2 hX X
      intros
      refine hK _ _ _ ?_
      clear hK hGp hGc hGh
      clear K Gp Gc Gh
      repeat refine pw_seq ?_
      refine pw_ct rfl ?_
      repeat refine pw_seq ?_
      exact pw_ret ⟨_, S, rfl, hstay hc, ext_kill0 hd⟩
    by_cases h3 : fb.c = p.b
    case neg =>
      have hc : joinC x num p i k a b = false := by simp [joinC, hhead, h3]
      repeat refine pw_seq ?_
      refine pw_Y none (Row.pures [0, 1, 2, 3, 4, 5, 6, 7, 8, 9, 10, 11, 12, 13, 14, 15, 16, 17, 18, 19, 20, 21, 22, 23] .done) mixed (by rfl) (by rfl) (by rfl) fun K Gp Gc Gh hK hGp hGc hGh X hX0 hX1 hX2 hX => ?_
      simp -implicitDefEqProofs [hX0, hX2, h1', h2, h3, hal, wm, hm2, la5, hbc]
      try clear hX0 hX1 hX2 hX X
      intros
      refine hK _ _ _ ?_
      clear hK hGp hGc hGh
      clear K Gp Gc Gh
      repeat refine pw_seq ?_
      refine pw_ct rfl ?_
      repeat refine pw_seq ?_
      exact pw_ret ⟨_, S, rfl, hstay hc, ext_kill0 hd⟩
    repeat refine pw_seq ?_
    refine pw_Y none (Row.pures [0, 1, 2, 3, 4, 5, 6, 7, 8, 9, 10, 11, 12, 13, 14, 15, 16, 17, 18, 19, 20, 21, 22, 23] .done) mixed (by rfl) (by rfl) (by rfl) fun K Gp Gc Gh hK hGp hGc hGh X hX0 hX1 hX2 hX => ?_
    simp -implicitDefEqProofs [hX0, hX2, h1', h2, h3, hal, wm, hm2, la5, hbc]
    try clear hX0 hX1 hX2 hX X
    intros
    refine hK _ _ _ ?_
    clear hK hGp hGc hGh
    clear K Gp Gc Gh
    repeat refine pw_seq ?_
    refine pw_cf rfl ?_
    refine pw_skip ?_
    exact at_mk () [] ⟨h1, h2, h3⟩ (by simp [hbc]) rfl (by simp)
  rintro _ ⟨h1, h2, h3⟩
  have hN0 : -9223372036854775808 ≤ num := by omega
  refine pw_seq ?_
  refine pw_joinK (nx := nx) (σ := Unit) (fun _ => ¬ (p.s ≤ 0 ∧ num ≤ x.veh)) (fun _ => [(0, .ptr jid jv 0), (3, .ptr nx v0 0), (4, I i), (5, I k), (6, L a), (7, L b)]) (fun _ => S) (fun _ => [.cells v0 117 [I p.a, I p.b, I p.s]]) ?_ ?_
  · by_cases h4 : p.s ≤ 0
    · by_cases h5 : num ≤ x.veh
      · have hc : joinC x num p i k a b = false := by simp [joinC, h4, h5]
        repeat refine pw_seq ?_
        refine pw_Y none (Row.pures [0, 1, 2, 3, 4, 5, 6, 7, 8, 9, 10, 11, 12, 13, 14] .done) mixed (by rfl) (by rfl) (by rfl) fun K Gp Gc Gh hK hGp hGc hGh X hX0 hX1 hX2 hX => ?_
        simp -implicitDefEqProofs [hX0, hX2, xj, hj, h4, h5]
        try clear hX0 hX1 hX2 hX X
        intros
        refine hK _ _ _ ?_
        clear hK hGp hGc hGh
        clear K Gp Gc Gh
        repeat refine pw_seq ?_
        refine pw_ct rfl ?_
        repeat refine pw_seq ?_
        exact pw_ret ⟨_, S, rfl, hstay hc, ext_kill0 hd⟩
      · repeat refine pw_seq ?_
        refine pw_Y none (Row.pures [0, 1, 2, 3, 4, 5, 6, 7, 8, 9, 10, 11, 12, 13, 14] .done) mixed (by rfl) (by rfl) (by rfl) fun K Gp Gc Gh hK hGp hGc hGh X hX0 hX1 hX2 hX => ?_
        simp -implicitDefEqProofs [hX0, hX2, xj, hj, h4, h5]
        try clear hX0 hX1 hX2 hX X
        intros
        refine hK _ _ _ ?_
        clear hK hGp hGc hGh
        clear K Gp Gc Gh
        repeat refine pw_seq ?_
        refine pw_cf rfl ?_
        refine pw_skip ?_
        exact at_mk () [] (by simp [h5]) (by simp) rfl (by simp)
    · repeat refine pw_seq ?_
      refine pw_Y none (Row.pures [0, 1, 2, 3, 4, 5, 6, 7, 8, 9, 10, 11, 12, 13, 14] .done) mixed (by rfl) (by rfl) (by rfl) fun K Gp Gc Gh hK hGp hGc hGh X hX0 hX1 hX2 hX => ?_
      simp -implicitDefEqProofs [hX0, hX2, h4, undef]
      try clear hX0 hX1 hX2 hX X
      intros
      refine hK _ _ _ ?_
      clear hK hGp hGc hGh
      clear K Gp Gc Gh
      repeat refine pw_seq ?_
      refine pw_cf rfl ?_
      refine pw_skip ?_
      exact at_mk () [] (by simp [h4]) (by simp) rfl (by simp)
  intro _ h4
  have hcon := concat_ok [a, b] (by simp) (by simp; omega) (by simp; omega)
  rw [show [a, b].flatten = a ++ b from by simp] at hcon
  repeat refine pw_seq ?_
  refine pw_N [] (by rfl) (by rfl) fun K Gc Gh hK hGc hGh X hX0 hX => ?_
  simp -implicitDefEqProofs [hX]
  try clear hX0 hX X
  refine hGc _ _ _ _ _ _ _ fun hsuf => ((hcon _).mono ?_).v
  rintro _ _ ⟨rfl, rfl⟩
  refine ⟨_, _, rfl, ?_⟩
  clear hGc hGh
  clear Gc Gh
  refine xs_go hsuf (D := []) (by rfl) fun Gc Gh hGc hGh X hX0 hX => ?_
  simp -implicitDefEqProofs [hX0, hX]
  try clear hX0 hX X
  intros
  refine hK _ _ _ ?_
  clear hK hGc hGh
  clear K Gc Gh
  refine pw_seq ?_
  refine pw_joinK (nx := nx) (σ := Unit) (fun _ => mayT x (a ++ b) = 0) (fun _ => [(0, .ptr jid jv 0), (3, .ptr nx v0 0), (4, I i), (5, I k), (6, L a), (7, L b), (8, L (a ++ b))]) (fun _ => S) (fun _ => [.cells v0 117 [I p.a, I p.b, I p.s]]) ?_ ?_
  · repeat refine pw_seq ?_
    refine pw_N [] (by rfl) (by rfl) fun K Gc Gh hK hGc hGh X hX0 hX => ?_
    simp -implicitDefEqProofs [hX, xj, hj]
    try clear hX0 hX X
    refine hGc _ _ _ _ _ _ _ fun hsuf => ((mayP_ok x (a ++ b) hx (by simp; omega) _).mono ?_).v
    rintro _ _ ⟨rfl, rfl⟩
    refine ⟨_, _, rfl, ?_⟩
    clear hGc hGh
    clear Gc Gh
    refine xs_go hsuf (D := []) (by rfl) fun Gc Gh hGc hGh X hX0 hX => ?_
    simp -implicitDefEqProofs [hX0, hX]
    try clear hX0 hX X
    intros
    refine hK _ _ _ ?_
    clear hK hGc hGh
    clear K Gc Gh
    by_cases h5 : mayT x (a ++ b) = 0
    · repeat refine pw_seq ?_
      refine pw_cf (by simp [h5]) ?_
      refine pw_skip ?_
      exact at_mk () [] h5 (by simp) rfl (by simp)
    · have hc : joinC x num p i k a b = false := by simp [joinC, h5]
      repeat refine pw_seq ?_
      refine pw_ct (by simp [h5]) ?_
      repeat refine pw_seq ?_
      exact pw_ret ⟨_, S, rfl, hstay hc, ext_kill0 hd⟩
  intro _ h5
  have h4' : (decide (p.s ≤ 0) && decide (num ≤ x.veh)) = false := Bool.eq_false_iff.2 fun q => h4 (by simpa using q)
  have hjoin : joinC x num p i k a b = true := by unfold joinC; rw [h4', hend, hhead, h2, h3, h5]; simp [h1]
  rw [hdef, hjoin]
  simp only [cond_true]
  have yj := fun (o : Ob) obs => (ext_old (S := S.set mid o) (obs := obs) hlj).trans ((Store.set_other _ _ _ _ d2).trans hj)
  have ym := fun (o : Ob) obs => (ext_old (S := S.set mid o) (obs := obs) hlm).trans (Store.set_same _ _ _)
  repeat refine pw_seq ?_
  refine pw_N [] (by rfl) (by rfl) fun K Gc Gh hK hGc hGh X hX0 hX => ?_
  simp -implicitDefEqProofs [hX0, hX]
  try clear hX0 hX X
  intros
  refine hK _ _ _ ?_
  clear hK hGc hGh
  clear K Gc Gh
  repeat refine pw_seq ?_
  refine pw_block (pw_loopB (σ := Nat × List (Value × PV)) (fun s => s.1 ≤ b.length ∧ MapIs keyI I s.2 (gTo g b i s.1)) (fun s => [(0, .ptr jid jv 0), (4, I i), (5, I k), (8, L (a ++ b)), (90, L b), (91, I b.length), (92, I s.1)]) (fun s => S.set mid (.map mv s.2)) (fun _ => [.cells v0 117 [I p.a, I p.b, I p.s]]) (fun s => b.length - s.1) (at_mk (0, es) [] ⟨by simp, by rw [gTo_zero]; exact hm⟩ (by simp) (set_self S mid _ hmid) (by simp)) ?_)
  rintro ⟨j, es2⟩ ⟨hjl, hm2'⟩
  simp only at hjl hm2' ⊢
  repeat refine pw_seq ?_
  refine pw_N [] (by rfl) (by rfl) fun K Gc Gh hK hGc hGh X hX0 hX => ?_
  simp -implicitDefEqProofs [hX0, hX]
  try clear hX0 hX X
  intros
  refine hK _ _ _ ?_
  clear hK hGc hGh
  clear K Gc Gh
  repeat refine pw_seq ?_
  refine pw_cond rfl (fun hq => ?_) (fun hq => ?_)
  · simp at hq
    obtain ⟨s, tl, a1, a2, a3, e1, e0⟩ := el 2 rfl b j hq
    obtain ⟨rs, f1, _, _, f4, _⟩ := hm2'.find hkey s.c
    have hnew := f4 (i : Int)
    rw [gTo_succ a3] at hnew
    refine pw_skip (pw_seq (pw_block ?_))
    repeat refine pw_seq ?_
    refine pw_N [] (by rfl) (by rfl) fun K Gc Gh hK hGc hGh X hX0 hX => ?_
    simp -implicitDefEqProofs [hX0, hX, e0, hq]
    try clear hX0 hX X
    intro v1
    refine hK _ _ _ ?_
    clear hK hGc hGh
    clear K Gc Gh
    repeat refine pw_seq ?_
    refine pw_Y (some [jid, nx + 1]) (Row.pures [0, 1, 2, 3, 4, 5, 6] (.alt 7 (.done) .stop)) mixed (by rfl) (by rfl) (by rfl) fun K Gp Gc Gh hK hGp hGc hGh X hX0 hX1 hX2 hX => ?_
    simp -implicitDefEqProofs [hX1, hX2, hX, yj]
    try clear hX0 hX1 hX2 hX X
    refine hGh _ _ _ _ _ (by rfl) (po_mapUpdate (.inl rfl) Tryz.underlying134 Tryz.underlying3 rfl rfl rfl (ym _ _) f1 ?_)
    rw [ext_set_old _ hlm, Store.set_set]
    refine ⟨by simp [Agree, yj], ?_⟩
    clear hGp hGc hGh
    clear Gp Gc Gh
    refine px_go fun Gp Gc Gh hGp hGc hGh X hX0 hX1 hX2 hX => ?_
    simp -implicitDefEqProofs [hX0]
    try clear hX0 hX1 hX2 hX X
    refine hK _ _ _ ?_
    clear hK hGp hGc hGh
    clear K Gp Gc Gh
    repeat refine pw_seq ?_
    refine pw_N [] (by rfl) (by rfl) fun K Gc Gh hK hGc hGh X hX0 hX => ?_
    simp -implicitDefEqProofs [hX0, hX]
    try clear hX0 hX X
    intros
    refine hK _ _ _ ?_
    clear hK hGc hGh
    clear K Gc Gh
    exact again_mk (j + 1, putP (keyI s.c) (I i) es2 rs) [_] ⟨hq, hnew⟩ (by simp; omega) (by simp [wrN j (by omega)]) rfl (by simp; rfl)
  · simp at hq
    obtain rfl : j = b.length := by omega
    refine pw_exit ?_
    have yt1 := fun (o : Ob) obs => (ext_old (S := S.set mid o) (obs := obs) hlt).trans ((Store.set_other _ _ _ _ d3).trans ht)
    have yt2 := fun (o o' : Ob) obs => (ext_old (S := (S.set mid o).set tid o') (obs := obs) hlt).trans (Store.set_same _ _ _)
    have yj2 := fun (o o' : Ob) obs => (ext_old (S := (S.set mid o).set tid o') (obs := obs) hlj).trans ((Store.set_other _ _ _ _ d1).trans ((Store.set_other _ _ _ _ d2).trans hj))
    have hlen1 : (T.flatMap Enc.enc).length = ss.length := by rw [flen_list, hTl]
    have hs1 := splice_set (T.flatMap Enc.enc) i (L (a ++ b)) (by omega)
    have hs2 := splice_set ((T.flatMap Enc.enc).set i (L (a ++ b))) k (.sc (.slice none 0 0)) (by simp; omega)
    have hlt1 : ¬ nx ≤ tid := by omega
    have hlj1 : ¬ nx ≤ jid := by omega
    have wn : IntKind.i64.wrap (num - 1) = num - 1 := wr _ (by omega) (by omega)
    repeat refine pw_seq ?_
    repeat refine pw_seq ?_
    refine pw_Y (some [jid]) (Row.pures [0, 1, 2, 3, 4, 5, 6, 7, 8, 9, 10, 11] (.alt 12 (Row.pures [13] (.alt 14 (.done) .stop)) .stop)) mixed (by rfl) (by rfl) (by rfl) fun K Gp Gc Gh hK hGp hGc hGh X hX0 hX1 hX2 hX => ?_
    simp -implicitDefEqProofs [hX0, hX1, hX2, hX, yj, yt1, yt2, yj2, hs1, hs2, hil2, hkl2, hlt1, hTl]
    try clear hX0 hX1 hX2 hX X
    refine ⟨by omega, by omega, ?_⟩
    refine hK _ _ _ ?_
    clear hK hGp hGc hGh
    clear K Gp Gc Gh
    have hcs : ((((T.flatMap Enc.enc).set i (L (a ++ b))).set k (.sc (.slice none 0 0))).set k (.lst 0 [])) = ((T.set i (a ++ b)).set k []).flatMap Enc.enc := by
      rw [List.set_set, flat_day, flat_day, List.map_set, List.map_set]
      rfl
    refine pw_nilO (o := tid) k (yt2 _ _ _) (by rw [List.getElem?_set_self (by simp; omega)]) ?_
    rw [ext_set_old _ hlt, Store.set_set, hcs]
    generalize ((T.set i (a ++ b)).set k []).flatMap Enc.enc = cs' at *
    repeat refine pw_seq ?_
    refine pw_N [] (by rfl) (by rfl) fun K Gc Gh hK hGc hGh X hX0 hX => ?_
    simp -implicitDefEqProofs [hX0, hX, yj2, hlj1, wn]
    try clear hX0 hX X
    intros
    refine hK _ _ _ ?_
    clear hK hGc hGh
    clear K Gc Gh
    have e1 : ∀ (o o' o'' : Ob), ((S.set mid o).set tid o').set jid o'' = ((S.set jid o'').set tid o').set mid o := by
      intro o o' o''
      rw [Store.set_comm _ jid tid _ _ (fun e => d1 e.symm), Store.set_comm _ jid mid _ _ (fun e => d2 e.symm), Store.set_comm _ tid mid _ _ (fun e => d3 e.symm)]
    rw [e1]
    have hdd : ∀ (o o' o'' : Ob), DeadFrom nx (((S.set jid o'').set tid o').set mid o) := by
      intro o o' o'' q hq
      rw [Store.set_other _ _ _ _ (by omega), Store.set_other _ _ _ _ (by omega), Store.set_other _ _ _ _ (by omega)]
      exact hd q hq
    exact ⟨_, _, rfl, ⟨es2, _, hm2', hI.join hia hkb h1, rfl⟩, ext_kill0 (hdd _ _ _)⟩

end Go.Proofs.YtafcjklojnhbnaaGreat.Pv

