/- savings.each: an iterator over all pairs, in their order. -/
import Derived.Test.YtafcjklojnhbnaaGreatVf
import Derived.Test.YtafcjklojnhbnaaGreatHi
import Derived.Test.YtafcjklojnhbnaaGreatIf
namespace Go.Proofs.YtafcjklojnhbnaaGreat.Pv
open Go Hp

@[simp] theorem put3_two (d1 d2 a b c : Ob) (l : List Ob) (o : Ob × Ob × Ob) : put3 (d1 :: d2 :: a :: b :: c :: l) 2 o = d1 :: d2 :: o.1 :: o.2.1 :: o.2.2 :: l := rfl
theorem HX.srt {o : Ob × Ob × Ob} {a hv mv : Nat} {r : Its Int} (h : HX o a hv mv r) : SortedI r := by
  obtain ⟨_, _, _, h⟩ := h (fun i => if i = a then o.1 else if i = a + 1 then o.2.1 else o.2.2) (by simp) (by simp) (by simp)
  exact h
theorem hasI_no {id : Int} {r : Its Int} (h : ∀ x ∈ r, x.1 ≠ id) : hasI id r = false := by
  simp only [hasI, List.any_eq_false]; intro x hx; simpa using h x hx

def prV (p : Pr) : List PV := [.agg [I p.a, I p.b, I p.s]]
/-- The first k customers' rows. -/
def rowsK (x : Inst) (c : List Int) (k : Nat) : List (List Pr) := (c.take k).map (rowP x c)
theorem rowsK_zero (x : Inst) (c : List Int) : rowsK x c 0 = [] := by simp [rowsK]
theorem rowsK_succ {x : Inst} {c : List Int} {k : Nat} {a : Int} (h : c.take (k + 1) = c.take k ++ [a]) : rowsK x c (k + 1) = rowsK x c k ++ [rowP x c a] := by simp [rowsK, h]
theorem rowsK_all (x : Inst) (c : List Int) : rowsK x c c.length = c.map (rowP x c) := by simp [rowsK]
theorem rowsK_len (x : Inst) (c : List Int) (k : Nat) (h : k ≤ c.length) : (rowsK x c k).length = k := by simp [rowsK]; omega
/-- Rows, as many of n as there are yet. -/
def rowsC (rows : List (List Pr)) (n : Nat) : List PV := rows.flatMap Enc.enc ++ List.replicate (n - rows.length) (.sc (.slice none 0 0))
theorem rowsC_len (rows : List (List Pr)) (n : Nat) (h : rows.length ≤ n) : (rowsC rows n).length = n := by simp [rowsC]; omega
theorem rowsC_zero (n : Nat) : rowsC [] n = zerosP n (.slice none 0 0) := by
  unfold rowsC
  simp only [List.flatMap_nil, List.nil_append, List.length_nil, Nat.sub_zero]
  induction n with
  | zero => simp
  | succ n ih => rw [zerosP_succ', List.replicate_succ, ih]; simp [zeroCellsOf, Value.cells]
theorem rowsC_all (rows : List (List Pr)) : rowsC rows rows.length = rows.flatMap Enc.enc := by simp [rowsC]
theorem rowsC_put (rows : List (List Pr)) (n : Nat) (r : List Pr) (h : rows.length < n) : splice (rowsC rows n) rows.length [L r] = rowsC (rows ++ [r]) n := by
  unfold rowsC splice
  have h1 : (rows.flatMap Enc.enc).length = rows.length := flen_list rows
  obtain ⟨m, hm⟩ : ∃ m, n - rows.length = m + 1 := ⟨n - rows.length - 1, by omega⟩
  rw [hm, List.replicate_succ]
  rw [List.take_append_of_le_length (by omega), List.take_of_length_le (by omega)]
  rw [List.drop_append, List.drop_of_length_le (by simp)]
  simp [show n - (rows.length + 1) = m by omega]
theorem rowsC_at (rows : List (List Pr)) (n : Nat) (r : List Pr) : (rowsC (rows ++ [r]) n)[rows.length]? = some (L r) := by
  unfold rowsC
  rw [List.flatMap_append, List.append_assoc, List.getElem?_append_right (by rw [flen_list]; exact Nat.le_refl _), flen_list]
  simp
theorem splice_rows (rows : List (List Pr)) (k : Nat) (r : List Pr) (h : k < rows.length) : splice (rows.flatMap Enc.enc) k [L r] = (rows.set k r).flatMap Enc.enc := by
  have e : ∀ l : List (List Pr), l.flatMap Enc.enc = l.map fun r => L r := fun l => by induction l <;> simp_all
  rw [e, e, splice, List.map_set, List.set_eq_take_append_cons_drop, if_pos (by simpa using h)]
  simp

theorem headsI_app : ∀ (rows : List (List Pr)) (i : Nat) (r : List Pr), headsI i (rows ++ [r]) = headsI i rows ++ headsI (i + rows.length) [r]
  | [], i, r => by simp [headsI]
  | [] :: rows, i, r => by
    simp only [List.cons_append, headsI, List.length_cons]
    rw [headsI_app rows (i + 1) r, show i + 1 + rows.length = i + (rows.length + 1) by omega]
  | (p :: l) :: rows, i, r => by
    simp only [List.cons_append, headsI, List.length_cons]
    rw [headsI_app rows (i + 1) r, show i + 1 + rows.length = i + (rows.length + 1) by omega]
theorem heads_snoc_nil (rows : List (List Pr)) : headsI 0 (rows ++ [[]]) = headsI 0 rows := by rw [headsI_app]; simp [headsI]
theorem heads_snoc (rows : List (List Pr)) (p : Pr) (tl : List Pr) : (headsI 0 (rows ++ [p :: tl])).Perm (((rows.length : Int), -p.s) :: headsI 0 rows) := by
  rw [headsI_app]
  simp only [headsI, Nat.zero_add]
  exact List.perm_append_comm
theorem heads_no {rows : List (List Pr)} {k : Nat} (h : rows.getD k [] = []) {r : Its Int} (hp : r.Perm (headsI 0 rows)) : hasI (k : Int) r = false := by
  refine hasI_no fun x hx e => ?_
  obtain ⟨j, p, tl, hj, rfl⟩ := (headsI_mem rows 0 x).1 (hp.subset hx)
  simp only [Nat.zero_add] at e
  have : j = k := by omega
  subst this
  rw [List.getD_eq_getElem?_getD, hj] at h
  cases h

set_option maxRecDepth 20000 in
theorem eachP_ok (x : Inst) (ss : List Stop) : Pure Tryz.prog 92 [.agg (instL x), L ss] (.fn (.func 124) [] [.ip [L ss], .ip (instL x)]) := by
  refine pure_enter Tryz.func92 (by rfl) rfl Tryz.ntmps92 (congrArg Array.toList Tryz.results92) (by simp) fun S nx hd => ?_
  repeat refine pw_seq ?_
  refine pw_N [] (by rfl) (by rfl) fun K Gc Gh hK hGc hGh X hX0 hX => ?_
  simp -implicitDefEqProofs [hX0, hX]
  try clear hX0 hX X
  intro v0 v1
  refine hK _ _ _ ?_
  clear hK hGc hGh
  clear K Gc Gh
  repeat refine pw_seq ?_
  refine pw_N [] (by rfl) (by rfl) fun K Gc Gh hK hGc hGh X hX0 hX => ?_
  simp -implicitDefEqProofs [hX0, hX]
  try clear hX0 hX X
  intros
  refine hK _ _ _ ?_
  clear hK hGc hGh
  clear K Gc Gh
  refine pw_frq 0 rfl ?_
  refine pw_frq 1 rfl ?_
  repeat refine pw_seq ?_
  exact pw_ret (ret_pure hd (by simp; rfl) rfl)

set_option maxRecDepth 20000 in
theorem each_iter (x : Inst) (ss : List Stop) (hx : ArcOk x) (hss : ss.length ≤ 1048576) (hs : ∀ s ∈ ss, small s.c) (hnd : (ss.map (·.c)).Nodup) : Iter Tryz.prog 124 [.ip [L ss], .ip (instL x)] ((pairsP x (ss.map (·.c))).map prV) := by
  have hcust := fun S nx hd => custP_own ss hss S nx hd
  obtain ⟨zs, hzs⟩ : ∃ zs, zs = ss.map (·.c) := ⟨_, rfl⟩
  have hzl : ss.length = zs.length := by rw [hzs]; simp
  rw [← hzs, hzl] at hcust
  rw [← hzs] at hnd ⊢
  have hzsm : ∀ b ∈ zs, small b := by
    intro b hb; rw [hzs] at hb; obtain ⟨s, h1, rfl⟩ := List.mem_map.1 hb; exact hs s h1
  have hz1 := sortZ_le zs
  have hz2 := sortZ_perm zs
  have hz3 := (sortZ_nodup zs).2 hnd
  have hz4 := sortZ_len zs
  have hz5 : pairsP x zs = pairsP x (sortZ zs) := pairsP_perm_eq hnd hz3 hz2.symm
  have hz6 : (sortZ zs).Pairwise (· < ·) := (List.Pairwise.and hz1 hz3).imp fun ⟨h1, h2⟩ => by omega
  have hzn : zs.length ≤ 1048576 := by omega
  have hcsm : ∀ b ∈ sortZ zs, small b := fun b hb => hzsm b (hz2.subset hb)
  have hsort := fun (S : Store) (id ver : Nat) (hid : S id = .cells ver 3 (zs.flatMap Enc.enc)) => sort_ok zs hid hzn
  rw [hz5]
  generalize sortZ zs = c at *
  clear hzs hz1 hz5
  refine iter_enter Tryz.func124 (by rfl) rfl Tryz.ntmps124 (congrArg Array.toList Tryz.results124) (by simp) fun l V keep nx J hJd hY A0 hA0 => ?_
  repeat refine pw_seq ?_
  refine pw_N [] (by rfl) (by rfl) fun K Gc Gh hK hGc hGh X hX0 hX => ?_
  simp -implicitDefEqProofs [hX]
  try clear hX0 hX X
  refine hGc _ _ _ _ _ _ _ fun hsuf => ((hcust _ _ ext_dead).mono ?_).v
  rintro _ _ ⟨v1, rfl, rfl⟩
  refine ⟨_, _, ext_push1 _, ?_⟩
  clear hGc hGh
  clear Gc Gh
  refine xs_go hsuf (D := []) (by rfl) fun Gc Gh hGc hGh X hX0 hX => ?_
  simp -implicitDefEqProofs [hX0, hX]
  clear hX0 hX X
  intros
  refine hK _ _ _ ?_
  clear hK hGc hGh
  clear K Gc Gh
  repeat refine pw_seq ?_
  refine pw_N [] (by rfl) (by rfl) fun K Gc Gh hK hGc hGh X hX0 hX => ?_
  simp -implicitDefEqProofs [hX]
  try clear hX0 hX X
  refine hGc _ _ _ _ _ _ _ fun hsuf => ((hsort _ _ _ (by simp)).mono ?_).v
  rintro _ _ rfl
  refine ⟨_, _, ext_set _ (by simp) (by simp), ?_⟩
  clear hGc hGh
  clear Gc Gh
  refine xs_go hsuf (D := []) (by rfl) fun Gc Gh hGc hGh X hX0 hX => ?_
  simp -implicitDefEqProofs [hX0]
  clear hX0 hX X
  intros
  refine hK _ _ _ ?_
  clear hK hGc hGh
  clear K Gc Gh
  rw [← hz4]
  refine pw_frz 1 rfl ?_
  repeat refine pw_seq ?_
  refine pw_N [] (by rfl) (by rfl) fun K Gc Gh hK hGc hGh X hX0 hX => ?_
  simp -implicitDefEqProofs [hX]
  try clear hX0 hX X
  refine hGc _ _ _ _ _ _ _ fun hsuf => (hxNew.mono ?_).v
  rintro p _ ⟨hv, mv, o1, rfl, m1, rfl⟩
  refine ⟨_, _, rfl, ?_⟩
  clear hGc hGh
  clear Gc Gh
  refine xs_go hsuf (D := []) (by rfl) fun Gc Gh hGc hGh X hX0 hX => ?_
  simp -implicitDefEqProofs [hX0, hX]
  clear hX0 hX X
  intros
  refine hK _ _ _ ?_
  clear hK hGc hGh
  clear K Gc Gh
  simp at m1
  repeat refine pw_seq ?_
  refine pw_N [] (by rfl) (by rfl) fun K Gc Gh hK hGc hGh X hX0 hX => ?_
  simp -implicitDefEqProofs [hX0, hX]
  try clear hX0 hX X
  refine ⟨by omega, fun v0 => ?_⟩
  intros
  refine hK _ _ _ ?_
  clear hK hGc hGh
  clear K Gc Gh
  repeat refine pw_seq ?_
  refine pw_N [] (by rfl) (by rfl) fun K Gc Gh hK hGc hGh X hX0 hX => ?_
  simp -implicitDefEqProofs [hX0, hX]
  try clear hX0 hX X
  intros
  refine hK _ _ _ ?_
  clear hK hGc hGh
  clear K Gc Gh
  repeat refine pw_seq ?_
  have hpw : ∀ (row : List Pr) (a : Int), row = rowP x c a → ∀ p ∈ row, IntKind.i64.wrap (-p.s) = -p.s := by
    intro row a e p hp
    rw [e] at hp
    have h1 := (rowP_perm x c a).subset hp
    unfold prsOf at h1
    obtain ⟨b, _, rfl⟩ := List.mem_map.1 h1
    have := savZ_le hx a b
    show IntKind.i64.wrap (-savZ x a b) = -savZ x a b
    exact wr _ (by omega) (by omega)
  refine pw_block (pw_loopL (fun s : Nat × Its Int × (Ob × Ob × Ob) × Nat => s.1 ≤ c.length ∧ s.2.1.Perm (headsI 0 (rowsK x c s.1)) ∧ HX s.2.2.1 (nx + 2) hv mv s.2.1) (fun (k, its, o, v) => [(0, yld l), (2, .ip (instL x)), (4, L c), (5, .ptr (nx + 3) hv 0), (6, .sl (nx + 5) v 1 0 c.length), (21, L c), (22, I c.length), (23, I k)]) (fun (k, its, o, v) => [.dead, .dead, o.1, o.2.1, o.2.2, .cells v 178 (rowsC (rowsK x c k) c.length)]) (fun s => c.length - s.1) (0, [], o1, v0) [] ⟨by simp, by simp [rowsK_zero, headsI], m1⟩ (by simp) (by simp [rowsK_zero, rowsC_zero]) ?_)
  rintro ⟨k, its, o, v⟩ ⟨hk, hp, hm⟩
  simp only at hk hp hm ⊢
  repeat refine pw_seq ?_
  refine pw_N [] (by rfl) (by rfl) fun K Gc Gh hK hGc hGh X hX0 hX => ?_
  simp -implicitDefEqProofs [hX0, hX]
  try clear hX0 hX X
  intros
  refine hK _ _ _ ?_
  clear hK hGc hGh
  clear K Gc Gh
  repeat refine pw_seq ?_
  refine pw_cond rfl (fun hq => ?_) (fun hq => ?_)
  · simp at hq
    obtain ⟨a, tl, a1, a2, a3, e0⟩ := el1 rfl c k hq
    have hkl := rowsK_len x c k (by omega)
    have hks := rowsK_succ (x := x) a3
    have hput := rowsC_put (rowsK x c k) c.length (rowP x c a) (by omega)
    have hat := rowsC_at (rowsK x c k) c.length (rowP x c a)
    have hrl := rowsC_len (rowsK x c k) c.length (by omega)
    have hrl2 := rowsC_len (rowsK x c k ++ [rowP x c a]) c.length (by simp; omega)
    rw [hkl] at hput hat
    have hno : hasI (k : Int) its = false := heads_no (k := k) (rows := rowsK x c k) (by rw [List.getD_eq_getElem?_getD, List.getElem?_eq_none (by omega)]; rfl) hp
    have hil : its.length ≤ k := by rw [hp.length_eq]; exact Nat.le_trans (headsI_len _ _) (by omega)
    refine pw_skip (pw_seq (pw_block ?_))
    repeat refine pw_seq ?_
    refine pw_N [] (by rfl) (by rfl) fun K Gc Gh hK hGc hGh X hX0 hX => ?_
    simp -implicitDefEqProofs [hX0, hX, e0, hq]
    try clear hX0 hX X
    intros
    refine hK _ _ _ ?_
    clear hK hGc hGh
    clear K Gc Gh
    repeat refine pw_seq ?_
    refine pw_N [] (by rfl) (by rfl) fun K Gc Gh hK hGc hGh X hX0 hX => ?_
    simp -implicitDefEqProofs [hX]
    try clear hX0 hX X
    refine hGc _ _ _ _ _ _ _ fun hsuf => ((rowOf_ok x c a hx (by omega) hcsm (hcsm a (List.mem_of_getElem? a1)) _).mono ?_).v
    rintro _ _ ⟨rfl, rfl⟩
    refine ⟨_, _, rfl, ?_⟩
    clear hGc hGh
    clear Gc Gh
    refine xs_go hsuf (D := []) (by rfl) fun Gc Gh hGc hGh X hX0 hX => ?_
    simp -implicitDefEqProofs [hX0, hX, hput, hrl, hq]
    try clear hX0 hX X
    refine ⟨by omega, ?_⟩
    intros
    refine hK _ _ _ ?_
    clear hK hGc hGh
    clear K Gc Gh
    have hw := hpw (rowP x c a) a rfl
    have hsn := heads_snoc (rowsK x c k)
    have hsn0 := heads_snoc_nil (rowsK x c k)
    generalize hrow : rowP x c a = row at *
    have hat2 : ∀ h, (rowsC (rowsK x c k ++ [row]) c.length)[k]'h = L row := fun h => (List.getElem?_eq_some_iff.1 hat).2
    repeat refine pw_seq ?_
    refine pw_N [] (by rfl) (by rfl) fun K Gc Gh hK hGc hGh X hX0 hX => ?_
    simp -implicitDefEqProofs [hX0, hX, hat2, hq, hrl2]
    try clear hX0 hX X
    intros
    refine hK _ _ _ ?_
    clear hK hGc hGh
    clear K Gc Gh
    cases row with
    | nil =>
      repeat refine pw_seq ?_
      refine pw_cf rfl ?_
      refine pw_skip ?_
      repeat refine pw_seq ?_
      refine pw_N [] (by rfl) (by rfl) fun K Gc Gh hK hGc hGh X hX0 hX => ?_
      simp -implicitDefEqProofs [hX0, hX]
      try clear hX0 hX X
      intros
      refine hK _ _ _ ?_
      clear hK hGc hGh
      clear K Gc Gh
      refine again_mk (k + 1, its, o, v) [] ⟨hq, ?_, hm⟩ (by simp; omega) (by simp [wrN k (by omega)]) rfl (by simp [hks])
      simp only [hks, hsn0]
      exact hp
    | cons p rl =>
      have hwp := hw p (by simp)
      repeat refine pw_seq ?_
      refine pw_ct (by simp) ?_
      repeat refine pw_seq ?_
      refine pw_N [] (by rfl) (by rfl) fun K Gc Gh hK hGc hGh X hX0 hX => ?_
      simp -implicitDefEqProofs [hX, hat2, hq, hrl2, hwp]
      try clear hX0 hX X
      refine hGc _ _ _ _ _ _ _ fun hsuf => ((hxPut (j := 2) hm rfl rfl rfl (k : Int) (-p.s) (by omega)).mono ?_).v
      rintro _ T ⟨rfl, o2, m2, rfl⟩
      refine ⟨_, _, rfl, ?_⟩
      rw [hno] at m2
      simp only [cond_false] at m2
      clear hGc hGh
      clear Gc Gh
      refine xs_go hsuf (D := []) (by rfl) fun Gc Gh hGc hGh X hX0 hX => ?_
      simp -implicitDefEqProofs [hX0]
      clear hX0 hX X
      intros
      refine hK _ _ _ ?_
      clear hK hGc hGh
      clear K Gc Gh
      repeat refine pw_seq ?_
      refine pw_N [] (by rfl) (by rfl) fun K Gc Gh hK hGc hGh X hX0 hX => ?_
      simp -implicitDefEqProofs [hX0, hX]
      try clear hX0 hX X
      intros
      refine hK _ _ _ ?_
      clear hK hGc hGh
      clear K Gc Gh
      refine again_mk (k + 1, insI ((k : Int), -p.s) its, o2, v) [] ⟨hq, ?_, m2⟩ (by simp; omega) (by simp [wrN k (by omega)]) rfl (by simp [hks])
      simp only [hks]
      have := hsn p rl
      rw [hkl] at this
      exact (insI_perm _ _).trans ((hp.cons _).trans this.symm)
  · simp at hq
    obtain rfl : k = c.length := by omega
    obtain ⟨hb1, hb2, hb3⟩ := rows_begin (x := x) hz6
    rw [← rowsK_all] at hb1 hb2 hb3
    have hrl := rowsK_len x c c.length (Nat.le_refl _)
    have hrc := rowsC_all (rowsK x c c.length)
    rw [hrl] at hrc
    rw [hrc]
    generalize rowsK x c c.length = rows at *
    refine pw_exit ?_
    repeat refine pw_seq ?_
    refine pw_block (pw_loopB (σ := Nat × Store × List (List Pr) × Its Int × (Ob × Ob × Ob) × Nat) (fun s => s.1 ≤ (pairsP x c).length ∧ J s.1 s.2.1 ∧ Rows' c s.2.2.1 ∧ (∀ r ∈ s.2.2.1, Sd plt r) ∧ s.2.2.1.flatten.Perm ((pairsP x c).drop s.1) ∧ s.2.2.2.1.Perm (headsI 0 s.2.2.1) ∧ HX s.2.2.2.2.1 (nx + 2) hv mv s.2.2.2.1) (fun s => [(0, yld l), (5, .ptr (nx + 3) hv 0), (6, .sl (nx + 5) s.2.2.2.2.2 1 0 c.length)]) (fun s => s.2.1) (fun s => [.dead, .dead, s.2.2.2.2.1.1, s.2.2.2.2.1.2.1, s.2.2.2.2.1.2.2, .cells s.2.2.2.2.2 178 (s.2.2.1.flatMap Enc.enc)]) (fun s => (pairsP x c).length - s.1) (at_mk (0, A0, rows, its, o, v) [] ⟨by simp, hA0, hb1, hb2, by simpa using hb3, hp, hm⟩ (by simp) rfl (by simp)) ?_)
    rintro ⟨i, A, rows, its, o, v⟩ ⟨hi, hJ, hr1, hr2, hr3, hp, hm⟩
    simp only at hi hJ hr1 hr2 hr3 hp hm ⊢
    have hrl : rows.length = c.length := hr1.len
    have hs := hm.srt
    repeat refine pw_seq ?_
    refine pw_block ?_
    repeat refine pw_seq ?_
    refine pw_N [] (by rfl) (by rfl) fun K Gc Gh hK hGc hGh X hX0 hX => ?_
    simp -implicitDefEqProofs [hX]
    try clear hX0 hX X
    refine hGc _ _ _ _ _ _ _ fun hsuf => ((hxTake (j := 2) hm rfl rfl rfl).mono ?_).v
    rintro _ T ⟨rfl, o2, m2, rfl⟩
    refine ⟨_, _, rfl, ?_⟩
    cases its with
    | nil =>
      clear hGc hGh
      clear Gc Gh
      refine xs_go hsuf (D := []) (by rfl) fun Gc Gh hGc hGh X hX0 hX => ?_
      simp -implicitDefEqProofs [hX0, hX, headP, pint, pbool]
      clear hX0 hX X
      intros
      refine hK _ _ _ ?_
      clear hK hGc hGh
      clear K Gc Gh
      have h0 : ∀ r ∈ rows, r = [] := by
        intro r hr
        cases r with
        | nil => rfl
        | cons p tl =>
          obtain ⟨j, hj⟩ := List.mem_iff_getElem?.1 hr
          have := (headsI_mem rows 0 ((j : Int), -p.s)).2 ⟨j, p, tl, hj, by rw [Nat.zero_add]⟩
          rw [List.nil_perm.1 hp] at this
          cases this
      have hfin := merge_end hr3 hi h0
      repeat refine pw_seq ?_
      refine pw_N [(2, 61)] (by rfl) (by rfl) fun K Gc Gh hK hGc hGh X hX0 hX => ?_
      simp -implicitDefEqProofs [hX0, hX, undef]
      try clear hX0 hX X
      intros
      refine hK _ _ _ ?_
      clear hK hGc hGh
      clear K Gc Gh
      repeat refine pw_seq ?_
      refine pw_ct rfl ?_
      repeat refine pw_seq ?_
      exact pw_ret (ret_iter (hJd _ _ hJ) rfl (by simpa [hfin] using hJ))
    | cons it r =>
      obtain ⟨q, y, tl, e1, e2, e3, e4, e5, e6, e7⟩ := rows_round hz6 hr1 hr2 hr3 hs hp.symm
      subst e1
      have hql := (List.getElem?_eq_some_iff.1 e2).1
      have hql2 : q < c.length := by omega
      obtain ⟨y', tr, a1, a2, a3, e0⟩ := el1 rfl rows q hql
      rw [e2] at a1; cases a1
      have hil := (List.getElem?_eq_some_iff.1 e4).1
      have hyx : ((pairsP x c).map prV)[i]? = some (prV y) := by rw [List.getElem?_map, e4]; rfl
      clear hGc hGh
      clear Gc Gh
      refine xs_go hsuf (D := []) (by rfl) fun Gc Gh hGc hGh X hX0 hX => ?_
      simp -implicitDefEqProofs [hX0, hX, headP, pint, pbool]
      clear hX0 hX X
      intros
      refine hK _ _ _ ?_
      clear hK hGc hGh
      clear K Gc Gh
      repeat refine pw_seq ?_
      refine pw_N [(2, 61)] (by rfl) (by rfl) fun K Gc Gh hK hGc hGh X hX0 hX => ?_
      simp -implicitDefEqProofs [hX, e0, hql2]
      try clear hX0 hX X
      refine hGh _ _ _ _ _ fun hsuf => po_yield rfl rfl rfl (hY _ _ _ _ hyx hJ) ?_
      rintro _ ⟨A', hJ', rfl⟩
      refine ⟨_, _, rfl, ?_⟩
      clear hGc hGh
      clear Gc Gh
      refine xs_go hsuf (D := [(2, 61)]) (by rfl) fun Gc Gh hGc hGh X hX0 hX => ?_
      simp -implicitDefEqProofs [hX0, hX]
      try clear hX0 hX X
      intros
      refine hK _ _ _ ?_
      clear hK hGc hGh
      clear K Gc Gh
      repeat refine pw_seq ?_
      refine pw_cf rfl ?_
      refine pw_skip ?_
      have hsp := splice_rows rows q tl hql
      have hrl2 : (rows.set q tl).length = c.length := by simp [hrl]
      have hql3 : q < (rows.set q tl).length := by omega
      obtain ⟨y', tr', a1, a2, a3, e0'⟩ := el1 rfl (rows.set q tl) q hql3
      rw [List.getElem?_set_self hql] at a1; cases a1
      have hno : hasI (q : Int) r = false := heads_no (rows := rows.set q []) (by rw [List.getD_eq_getElem?_getD, List.getElem?_set_self hql]; rfl) e3
      have hlen : r.length ≤ 1048576 := by rw [e3.length_eq]; exact Nat.le_trans (headsI_len _ _) (by simp; omega)
      have hperm := fun p tz => headsI_set rows 0 q p tz hql
      repeat refine pw_seq ?_
      refine pw_N [] (by rfl) (by rfl) fun K Gc Gh hK hGc hGh X hX0 hX => ?_
      simp -implicitDefEqProofs [hX0, hX, e0, hql2, hrl, hsp]
      try clear hX0 hX X
      refine ⟨by omega, ?_⟩
      intros
      refine hK _ _ _ ?_
      clear hK hGc hGh
      clear K Gc Gh
      repeat refine pw_seq ?_
      refine pw_N [] (by rfl) (by rfl) fun K Gc Gh hK hGc hGh X hX0 hX => ?_
      simp -implicitDefEqProofs [hX0, hX, e0', hql2]
      try clear hX0 hX X
      intros
      refine hK _ _ _ ?_
      clear hK hGc hGh
      clear K Gc Gh
      cases tl with
      | nil =>
        repeat refine pw_seq ?_
        refine pw_cf rfl ?_
        refine pw_skip ?_
        exact again_mk (i + 1, A', rows.set q [], r, o2, v) [] ⟨hil, hJ', e5, e6, e7, e3, m2⟩ (by simp; omega) (by simp) rfl (by simp)
      | cons z tz =>
        have hzm : z ∈ (rows.set q (z :: tz)).flatten := List.mem_flatten.2 ⟨z :: tz, List.mem_of_getElem? (List.getElem?_set_self hql), by simp⟩
        have hzp : z ∈ prsAll x c := (pairsP_perm x c).subset (List.mem_of_mem_drop (e7.subset hzm))
        have hzs := (prsAll_mem.1 hzp).2.2.2
        have hwz : IntKind.i64.wrap (-z.s) = -z.s := by
          rw [hzs]
          have := savZ_le hx z.a z.b
          exact wr _ (by omega) (by omega)
        repeat refine pw_seq ?_
        refine pw_ct (by simp) ?_
        repeat refine pw_seq ?_
        refine pw_N [] (by rfl) (by rfl) fun K Gc Gh hK hGc hGh X hX0 hX => ?_
        simp -implicitDefEqProofs [hX, e0', hql2, hwz]
        try clear hX0 hX X
        refine hGc _ _ _ _ _ _ _ fun hsuf => ((hxPut (j := 2) m2 rfl rfl rfl (q : Int) (-z.s) (by simp; omega)).mono ?_).v
        rintro _ T ⟨rfl, o3, m3, rfl⟩
        refine ⟨_, _, rfl, ?_⟩
        simp only [List.tail_cons] at m3
        rw [hno] at m3
        simp only [cond_false] at m3
        clear hGc hGh
        clear Gc Gh
        refine xs_go hsuf (D := []) (by rfl) fun Gc Gh hGc hGh X hX0 hX => ?_
        simp -implicitDefEqProofs [hX0]
        clear hX0 hX X
        intros
        refine hK _ _ _ ?_
        clear hK hGc hGh
        clear K Gc Gh
        refine again_mk (i + 1, A', rows.set q (z :: tz), insI ((q : Int), -z.s) r, o3, v) [] ⟨hil, hJ', e5, e6, e7, ?_, m3⟩ (by simp; omega) (by simp) rfl (by simp)
        have := hperm z tz
        rw [Nat.zero_add] at this
        exact (insI_perm _ _).trans ((e3.cons _).trans this.symm)

end Go.Proofs.YtafcjklojnhbnaaGreat.Pv
