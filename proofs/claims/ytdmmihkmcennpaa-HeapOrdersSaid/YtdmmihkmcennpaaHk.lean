/- A deed, done to a heap and to the reference's list; whether both tell the same. -/
import Derived.Test.YtdmmihkmcennpaaHj
namespace Go.Proofs.Ytdmmihkmcennpaa.Pv
open Go Hp

theorem HM.alive {S : Store} {nx hid hv rid mid mv : Nat} {r : Its Int} (h : HM S hid hv rid mid mv r) (hd : DeadFrom nx S) : ∀ o ∈ [hid, rid, mid], o < nx := by
  intro o ho
  have : S o ≠ .dead := by
    obtain ⟨l, ⟨⟨g, h, _⟩, _⟩, _⟩ := h
    obtain ⟨ver, h1, cs, h2, _⟩ := h.h
    obtain ⟨es, h3, _⟩ := h.m
    simp at ho
    rcases ho with rfl | rfl | rfl
    · rw [h1]; simp
    · rw [h2]; simp
    · rw [h3]; simp
  exact Nat.lt_of_not_le fun q => this (hd o q)

theorem off_old {S T : Store} {nx : Nat} {obs : List Ob} {ids : List Nat} (hl : ∀ o ∈ ids, o < nx) (h : Off (ext S nx obs) ids T) : T = ext (cut S ids T) nx obs := by
  funext o
  by_cases ho : o ∈ ids
  · have := hl o ho
    simp [ext, cut, ho, this]
  · rw [h o ho]
    simp [ext, cut, ho]

theorem off_dead {S T : Store} {nx : Nat} {ids : List Nat} (hd : DeadFrom nx S) (hl : ∀ o ∈ ids, o < nx) (h : Off S ids T) : DeadFrom nx T := fun i hi => by
  rw [h i fun q => by have := hl i q; omega]; exact hd i hi

theorem HM.old {S : Store} {nx hid hv rid mid mv : Nat} {obs : List Ob} {r : Its Int} (h : HM S hid hv rid mid mv r) (hd : DeadFrom nx S) : HM (ext S nx obs) hid hv rid mid mv r :=
  h.congr fun o ho => by have := h.alive hd o ho; simp [ext, this]

section
variable {S : Store} {nx hid hv rid mid mv : Nat} {obs : List Ob} {r : Its Int}

/-- A turn of a heap that is older than the call. -/
theorem hm_turn {f : FuncId} {args : List PV} {q : PV} {r' : Its Int} (hd : DeadFrom nx S) (h0 : HM S hid hv rid mid mv r) (he : Enters Try.prog f)
    (h : PCalls Try.prog f args (ext S nx obs) (fun p T => p = q ∧ Off (ext S nx obs) [hid, rid, mid] T ∧ HM T hid hv rid mid mv r')) :
    Spec Try.prog f args (ext S nx obs) (fun p T => p = q ∧ ∃ S', T = ext S' nx obs ∧ Off S [hid, rid, mid] S' ∧ HM S' hid hv rid mid mv r') := by
  refine ⟨he, h.mono ?_⟩
  rintro p T ⟨h1, h2, h3⟩
  exact ⟨h1, _, off_old (h0.alive hd) h2, cut_off _ _ _, h3.cut⟩

variable (h : HM S hid hv rid mid mv r) (hd : DeadFrom nx S)
include h hd

theorem hmPut (id w : Int) (hn : r.length + 1 ≤ 2147483648) : Spec Try.prog 18 [.ptr hid hv 0, I id, I w] (ext S nx obs) (fun p T => p = B (!hasI id r) ∧ ∃ S', T = ext S' nx obs ∧ Off S [hid, rid, mid] S' ∧ HM S' hid hv rid mid mv (putL id w r)) :=
  hm_turn hd h en18 (heapPut_ok (h.old hd) id w hn)
theorem hmChange (id w : Int) : Spec Try.prog 19 [.ptr hid hv 0, I id, I w] (ext S nx obs) (fun p T => p = B (hasI id r) ∧ ∃ S', T = ext S' nx obs ∧ Off S [hid, rid, mid] S' ∧ HM S' hid hv rid mid mv (chgL id w r)) :=
  hm_turn hd h en19 (heapChange_ok (h.old hd) id w)
theorem hmDrop (id : Int) : Spec Try.prog 31 [.ptr hid hv 0, I id] (ext S nx obs) (fun p T => p = B (hasI id r) ∧ ∃ S', T = ext S' nx obs ∧ Off S [hid, rid, mid] S' ∧ HM S' hid hv rid mid mv (outI id r)) :=
  hm_turn hd h en31 (heapDrop_ok (h.old hd) id)
theorem hmTake : Spec Try.prog 17 [.ptr hid hv 0] (ext S nx obs) (fun p T => p = headP r ∧ ∃ S', T = ext S' nx obs ∧ Off S [hid, rid, mid] S' ∧ HM S' hid hv rid mid mv r.tail) :=
  hm_turn hd h en17 (heapTake_ok (h.old hd))
theorem hmLen : Spec Try.prog 16 [.ptr hid hv 0] (ext S nx obs) (fun p T => p = I r.length ∧ T = ext S nx obs) :=
  ⟨en16, heapLen_ok (h.old hd)⟩
theorem hmFirst : Spec Try.prog 33 [.ptr hid hv 0] (ext S nx obs) (fun p T => p = headP r ∧ T = ext S nx obs) :=
  ⟨en33, heapFirst_ok (h.old hd)⟩
theorem hmWorth (id : Int) : Spec Try.prog 35 [.ptr hid hv 0, I id] (ext S nx obs) (fun p T => p = worthP id r ∧ T = ext S nx obs) :=
  ⟨en35, heapWorth_ok (h.old hd) id⟩
end

theorem ret_q {P : Program} {nx : Nat} {S : Store} {obs : List Ob} {F : Nat → PV} {rs : List ResultVar} {ps : List PV} {Q : PV → Store → Prop} (hd : DeadFrom nx S) (h1 : resL P F (ext S nx obs) rs = some ps) (h2 : Q (oneOf ps) S) :
    ∃ ps S', resL P F (ext S nx obs) rs = some ps ∧ Q (oneOf ps) S' ∧ ∀ o, S' o = ext S nx obs o ∨ S' o = .dead :=
  ⟨ps, S, h1, h2, ext_kill0 hd⟩

structure Deed where
  kind : Int
  id : Int
  w : Int
instance : Enc Deed := ⟨fun d => [I d.kind, I d.id, I d.w], 3, fun _ => rfl, fun _ => rfl⟩
@[simp] theorem enc_deed (d : Deed) : Enc.enc d = [I d.kind, I d.id, I d.w] := rfl
@[simp high] theorem flen_deed (l : List Deed) : (l.flatMap Enc.enc).length = l.length * 3 := flat_length l
@[simp high] theorem ftake_deed (l : List Deed) : (l.flatMap Enc.enc).take (l.length * 3) = l.flatMap Enc.enc := flat_take' l

def doL (d : Deed) (r : Its Int) : Its Int :=
  if d.kind = 0 then putL d.id d.w r else if d.kind = 1 then chgL d.id d.w r else if d.kind = 2 then outI d.id r else if d.kind = 3 then r.tail else r

theorem doL_len (d : Deed) (r : Its Int) : (doL d r).length ≤ r.length + 1 := by
  have h1 := outI_le d.id r
  have h2 := (insI_perm (d.id, d.w) r).length_eq
  have h3 := (insI_perm (d.id, d.w) (outI d.id r)).length_eq
  simp only [List.length_cons] at h2 h3
  unfold doL putL chgL
  repeat' split
  all_goals (try cases hasI d.id r) <;> simp <;> omega

theorem does_ok {S : Store} {nx hid hv rid mid mv : Nat} {r : Its Int} (h : HM S hid hv rid mid mv r) (hd : DeadFrom nx S) (d : Deed) (hr : r.length ≤ 1048576) :
    Spec Try.prog 15 [.ptr hid hv 0, L r, .agg [I d.kind, I d.id, I d.w]] S (fun p T => p = .tup [L (doL d r), B true] ∧ Off S [hid, rid, mid] T ∧ HM T hid hv rid mid mv (doL d r)) := by
  refine spec_at hd Try.func15 (by rfl) rfl Try.ntmps15 (congrArg Array.toList Try.results15) (by simp) ?_
  have hal := h.alive hd
  repeat refine pw_seq ?_
  refine pw_N [] (by rfl) (by rfl) fun K Gc Gh hK hGc hGh X hX0 hX => ?_
  simp -implicitDefEqProofs [hX0, hX]
  try clear hX0 hX X
  intro v0
  refine hK _ _ _ ?_
  clear hK hGc hGh
  clear K Gc Gh
  repeat refine pw_seq ?_
  refine pw_N [] (by rfl) (by rfl) fun K Gc Gh hK hGc hGh X hX0 hX => ?_
  simp -implicitDefEqProofs [hX0, hX]
  try clear hX0 hX X
  intros
  refine hK _ _ _ ?_
  clear hK hGc hGh
  clear K Gc Gh
  repeat refine pw_seq ?_
  refine pw_block ?_
  by_cases k0 : d.kind = 0
  · have e : doL d r = putL d.id d.w r := by simp [doL, k0]
    rw [e]
    repeat refine pw_seq ?_
    refine pw_N [] (by rfl) (by rfl) fun K Gc Gh hK hGc hGh X hX0 hX => ?_
    simp -implicitDefEqProofs [hX0, hX, k0]
    try clear hX0 hX X
    intros
    refine hK _ _ _ ?_
    clear hK hGc hGh
    clear K Gc Gh
    repeat refine pw_seq ?_
    refine pw_ct rfl ?_
    repeat refine pw_seq ?_
    refine pw_N [] (by rfl) (by rfl) fun K Gc Gh hK hGc hGh X hX0 hX => ?_
    simp -implicitDefEqProofs [hX0, hX]
    try clear hX0 hX X
    refine hGc _ _ _ _ _ _ _ fun hsuf => ((putR_ok r d.id d.w hr _).mono ?_)
    rintro _ _ ⟨rfl, rfl⟩
    refine ⟨_, _, rfl, ?_⟩
    clear hGc hGh
    clear Gc Gh
    refine xs_go hsuf (D := []) (by rfl) fun Gc Gh hGc hGh X hX0 hX => ?_
    simp -implicitDefEqProofs [hX0, hX]
    try clear hX0 hX X
    intros
    refine hK _ _ _ ?_
    clear hK hGc hGh
    clear K Gc Gh
    repeat refine pw_seq ?_
    refine pw_N [] (by rfl) (by rfl) fun K Gc Gh hK hGc hGh X hX0 hX => ?_
    simp -implicitDefEqProofs [hX0, hX]
    try clear hX0 hX X
    refine hGc _ _ _ _ _ _ _ fun hsuf => ((hmPut h hd d.id d.w (by omega)).mono ?_)
    rintro p T ⟨rfl, S', rfl, ho, hm⟩
    refine ⟨_, _, rfl, ?_⟩
    clear hGc hGh
    clear Gc Gh
    refine xs_go hsuf (D := []) (by rfl) fun Gc Gh hGc hGh X hX0 hX => ?_
    simp -implicitDefEqProofs [hX0, hX]
    clear hX0 hX X
    intros
    refine hK _ _ _ ?_
    clear hK hGc hGh
    clear K Gc Gh
    repeat refine pw_seq ?_
    exact pw_ret ⟨_, S', rfl, ⟨by simp, ho, hm⟩, ext_kill0 (off_dead hd hal ho)⟩
  repeat refine pw_seq ?_
  refine pw_N [] (by rfl) (by rfl) fun K Gc Gh hK hGc hGh X hX0 hX => ?_
  simp -implicitDefEqProofs [hX0, hX, k0]
  try clear hX0 hX X
  intros
  refine hK _ _ _ ?_
  clear hK hGc hGh
  clear K Gc Gh
  repeat refine pw_seq ?_
  refine pw_cf rfl ?_
  by_cases k1 : d.kind = 1
  · have e : doL d r = chgL d.id d.w r := by simp [doL, k1]
    rw [e]
    repeat refine pw_seq ?_
    refine pw_N [] (by rfl) (by rfl) fun K Gc Gh hK hGc hGh X hX0 hX => ?_
    simp -implicitDefEqProofs [hX0, hX, k1]
    try clear hX0 hX X
    intros
    refine hK _ _ _ ?_
    clear hK hGc hGh
    clear K Gc Gh
    repeat refine pw_seq ?_
    refine pw_ct rfl ?_
    repeat refine pw_seq ?_
    refine pw_N [] (by rfl) (by rfl) fun K Gc Gh hK hGc hGh X hX0 hX => ?_
    simp -implicitDefEqProofs [hX0, hX]
    try clear hX0 hX X
    refine hGc _ _ _ _ _ _ _ fun hsuf => ((changeR_ok r d.id d.w hr _).mono ?_)
    rintro _ _ ⟨rfl, rfl⟩
    refine ⟨_, _, rfl, ?_⟩
    clear hGc hGh
    clear Gc Gh
    refine xs_go hsuf (D := []) (by rfl) fun Gc Gh hGc hGh X hX0 hX => ?_
    simp -implicitDefEqProofs [hX0, hX]
    try clear hX0 hX X
    intros
    refine hK _ _ _ ?_
    clear hK hGc hGh
    clear K Gc Gh
    repeat refine pw_seq ?_
    refine pw_N [] (by rfl) (by rfl) fun K Gc Gh hK hGc hGh X hX0 hX => ?_
    simp -implicitDefEqProofs [hX0, hX]
    try clear hX0 hX X
    refine hGc _ _ _ _ _ _ _ fun hsuf => ((hmChange h hd d.id d.w).mono ?_)
    rintro p T ⟨rfl, S', rfl, ho, hm⟩
    refine ⟨_, _, rfl, ?_⟩
    clear hGc hGh
    clear Gc Gh
    refine xs_go hsuf (D := []) (by rfl) fun Gc Gh hGc hGh X hX0 hX => ?_
    simp -implicitDefEqProofs [hX0, hX]
    clear hX0 hX X
    intros
    refine hK _ _ _ ?_
    clear hK hGc hGh
    clear K Gc Gh
    repeat refine pw_seq ?_
    exact pw_ret ⟨_, S', rfl, ⟨by simp, ho, hm⟩, ext_kill0 (off_dead hd hal ho)⟩
  repeat refine pw_seq ?_
  refine pw_N [] (by rfl) (by rfl) fun K Gc Gh hK hGc hGh X hX0 hX => ?_
  simp -implicitDefEqProofs [hX0, hX, k1]
  try clear hX0 hX X
  intros
  refine hK _ _ _ ?_
  clear hK hGc hGh
  clear K Gc Gh
  repeat refine pw_seq ?_
  refine pw_cf rfl ?_
  by_cases k2 : d.kind = 2
  · have e : doL d r = outI d.id r := by simp [doL, k2]
    rw [e]
    repeat refine pw_seq ?_
    refine pw_N [] (by rfl) (by rfl) fun K Gc Gh hK hGc hGh X hX0 hX => ?_
    simp -implicitDefEqProofs [hX0, hX, k2]
    try clear hX0 hX X
    intros
    refine hK _ _ _ ?_
    clear hK hGc hGh
    clear K Gc Gh
    repeat refine pw_seq ?_
    refine pw_ct rfl ?_
    repeat refine pw_seq ?_
    refine pw_N [] (by rfl) (by rfl) fun K Gc Gh hK hGc hGh X hX0 hX => ?_
    simp -implicitDefEqProofs [hX0, hX]
    try clear hX0 hX X
    refine hGc _ _ _ _ _ _ _ fun hsuf => ((dropR_ok r d.id hr _).mono ?_)
    rintro _ _ ⟨rfl, rfl⟩
    refine ⟨_, _, rfl, ?_⟩
    clear hGc hGh
    clear Gc Gh
    refine xs_go hsuf (D := []) (by rfl) fun Gc Gh hGc hGh X hX0 hX => ?_
    simp -implicitDefEqProofs [hX0, hX]
    try clear hX0 hX X
    intros
    refine hK _ _ _ ?_
    clear hK hGc hGh
    clear K Gc Gh
    repeat refine pw_seq ?_
    refine pw_N [] (by rfl) (by rfl) fun K Gc Gh hK hGc hGh X hX0 hX => ?_
    simp -implicitDefEqProofs [hX0, hX]
    try clear hX0 hX X
    refine hGc _ _ _ _ _ _ _ fun hsuf => ((hmDrop h hd d.id).mono ?_)
    rintro p T ⟨rfl, S', rfl, ho, hm⟩
    refine ⟨_, _, rfl, ?_⟩
    clear hGc hGh
    clear Gc Gh
    refine xs_go hsuf (D := []) (by rfl) fun Gc Gh hGc hGh X hX0 hX => ?_
    simp -implicitDefEqProofs [hX0, hX]
    clear hX0 hX X
    intros
    refine hK _ _ _ ?_
    clear hK hGc hGh
    clear K Gc Gh
    repeat refine pw_seq ?_
    exact pw_ret ⟨_, S', rfl, ⟨by simp, ho, hm⟩, ext_kill0 (off_dead hd hal ho)⟩
  repeat refine pw_seq ?_
  refine pw_N [] (by rfl) (by rfl) fun K Gc Gh hK hGc hGh X hX0 hX => ?_
  simp -implicitDefEqProofs [hX0, hX, k2]
  try clear hX0 hX X
  intros
  refine hK _ _ _ ?_
  clear hK hGc hGh
  clear K Gc Gh
  repeat refine pw_seq ?_
  refine pw_cf rfl ?_
  by_cases k3 : d.kind = 3
  · have e : doL d r = r.tail := by simp [doL, k3]
    rw [e]
    repeat refine pw_seq ?_
    refine pw_N [] (by rfl) (by rfl) fun K Gc Gh hK hGc hGh X hX0 hX => ?_
    simp -implicitDefEqProofs [hX0, hX, k3]
    try clear hX0 hX X
    intros
    refine hK _ _ _ ?_
    clear hK hGc hGh
    clear K Gc Gh
    repeat refine pw_seq ?_
    refine pw_ct rfl ?_
    repeat refine pw_seq ?_
    refine pw_N [] (by rfl) (by rfl) fun K Gc Gh hK hGc hGh X hX0 hX => ?_
    simp -implicitDefEqProofs [hX0, hX]
    try clear hX0 hX X
    refine hGc _ _ _ _ _ _ _ fun hsuf => ((hmTake h hd).mono ?_)
    rintro p T ⟨rfl, S', rfl, ho, hm⟩
    refine ⟨_, _, rfl, ?_⟩
    rcases r with _ | ⟨x, r⟩
    · clear hGc hGh
      clear Gc Gh
      refine xs_go hsuf (D := []) (by rfl) fun Gc Gh hGc hGh X hX0 hX => ?_
      simp -implicitDefEqProofs [hX0, hX, headP, pint, pbool]
      clear hX0 hX X
      intros
      refine hK _ _ _ ?_
      clear hK hGc hGh
      clear K Gc Gh
      repeat refine pw_seq ?_
      refine pw_N [] (by rfl) (by rfl) fun K Gc Gh hK hGc hGh X hX0 hX => ?_
      simp -implicitDefEqProofs [hX0, hX]
      try clear hX0 hX X
      intros
      refine hK _ _ _ ?_
      clear hK hGc hGh
      clear K Gc Gh
      repeat refine pw_seq ?_
      refine pw_ct rfl ?_
      repeat refine pw_seq ?_
      refine pw_N [(3, 89), (7, 93)] (by rfl) (by rfl) fun K Gc Gh hK hGc hGh X hX0 hX => ?_
      simp -implicitDefEqProofs [hX0, hX]
      try clear hX0 hX X
      intros
      refine hK _ _ _ ?_
      clear hK hGc hGh
      clear K Gc Gh
      repeat refine pw_seq ?_
      exact pw_ret ⟨_, S', rfl, ⟨by simp, ho, hm⟩, ext_kill0 (off_dead hd hal ho)⟩
    · clear hGc hGh
      clear Gc Gh
      refine xs_go hsuf (D := []) (by rfl) fun Gc Gh hGc hGh X hX0 hX => ?_
      simp -implicitDefEqProofs [hX0, hX, headP, pint, pbool]
      clear hX0 hX X
      intros
      refine hK _ _ _ ?_
      clear hK hGc hGh
      clear K Gc Gh
      have hx : ¬ ((r.length : Int) + 1 = 0) := by omega
      repeat refine pw_seq ?_
      refine pw_N [] (by rfl) (by rfl) fun K Gc Gh hK hGc hGh X hX0 hX => ?_
      simp -implicitDefEqProofs [hX0, hX, hx]
      try clear hX0 hX X
      intros
      refine hK _ _ _ ?_
      clear hK hGc hGh
      clear K Gc Gh
      repeat refine pw_seq ?_
      refine pw_cf rfl ?_
      refine pw_skip ?_
      repeat refine pw_seq ?_
      refine pw_Y none (Row.pures [0, 1, 2, 3, 4, 5, 6, 7, 8, 9, 10, 11, 12, 13, 14, 15, 16, 17, 18, 19, 20] .done) mixed (by rfl) (by rfl) (by rfl) fun K Gp Gc Gh hK hGp hGc hGh X hX0 hX1 hX2 hX => ?_
      simp -implicitDefEqProofs [hX0, hX1, hX2, hX]
      try clear hX0 hX1 hX2 hX X
      intros
      refine hK _ _ _ ?_
      clear hK hGp hGc hGh
      clear K Gp Gc Gh
      repeat refine pw_seq ?_
      exact pw_ret ⟨_, S', rfl, ⟨by simp, ho, hm⟩, ext_kill0 (off_dead hd hal ho)⟩
  · have e : doL d r = r := by simp [doL, k0, k1, k2, k3]
    rw [e]
    repeat refine pw_seq ?_
    refine pw_N [] (by rfl) (by rfl) fun K Gc Gh hK hGc hGh X hX0 hX => ?_
    simp -implicitDefEqProofs [hX0, hX, k3]
    try clear hX0 hX X
    intros
    refine hK _ _ _ ?_
    clear hK hGc hGh
    clear K Gc Gh
    repeat refine pw_seq ?_
    refine pw_cf rfl ?_
    refine pw_skip ?_
    repeat refine pw_seq ?_
    refine pw_N [] (by rfl) (by rfl) fun K Gc Gh hK hGc hGh X hX0 hX => ?_
    simp -implicitDefEqProofs [hX0, hX]
    try clear hX0 hX X
    intros
    refine hK _ _ _ ?_
    clear hK hGc hGh
    clear K Gc Gh
    repeat refine pw_seq ?_
    exact pw_ret ⟨_, S, rfl, ⟨by simp, fun _ _ => rfl, h⟩, ext_kill0 hd⟩

theorem worth_eq (id : Int) (r : Its Int) : worthP id r = .tup [I (worthO id r).1, B (worthO id r).2] := by
  unfold worthP worthO; cases r.find? (fun x => decide (x.1 = id)) <;> rfl

theorem like_ok {S : Store} {nx hid hv rid mid mv : Nat} {r : Its Int} (h : HM S hid hv rid mid mv r) (hd : DeadFrom nx S) (id : Int) (hr : r.length ≤ 1048576) :
    Spec Try.prog 20 [.ptr hid hv 0, L r, I id] S (fun p T => p = B true ∧ T = S) := by
  refine spec_at hd Try.func20 (by rfl) rfl Try.ntmps20 (congrArg Array.toList Try.results20) (by simp) ?_
  repeat refine pw_seq ?_
  refine pw_N [] (by rfl) (by rfl) fun K Gc Gh hK hGc hGh X hX0 hX => ?_
  simp -implicitDefEqProofs [hX0, hX]
  try clear hX0 hX X
  intros
  refine hK _ _ _ ?_
  clear hK hGc hGh
  clear K Gc Gh
  repeat refine pw_seq ?_
  refine pw_N [] (by rfl) (by rfl) fun K Gc Gh hK hGc hGh X hX0 hX => ?_
  simp -implicitDefEqProofs [hX0, hX]
  try clear hX0 hX X
  refine hGc _ _ _ _ _ _ _ fun hsuf => ((hmFirst h hd).mono ?_)
  rintro p T ⟨rfl, rfl⟩
  refine ⟨_, _, rfl, ?_⟩
  rcases r with _ | ⟨x, r⟩
  · clear hGc hGh
    clear Gc Gh
    refine xs_go hsuf (D := []) (by rfl) fun Gc Gh hGc hGh X hX0 hX => ?_
    simp -implicitDefEqProofs [hX0, hX, headP, pint, pbool]
    clear hX0 hX X
    intros
    refine hK _ _ _ ?_
    clear hK hGc hGh
    clear K Gc Gh
    repeat refine pw_seq ?_
    refine pw_N [] (by rfl) (by rfl) fun K Gc Gh hK hGc hGh X hX0 hX => ?_
    simp -implicitDefEqProofs [hX0, hX]
    try clear hX0 hX X
    refine hGc _ _ _ _ _ _ _ fun hsuf => ((hmWorth h hd id).mono ?_)
    rintro p T ⟨rfl, rfl⟩
    refine ⟨_, _, rfl, ?_⟩
    clear hGc hGh
    clear Gc Gh
    refine xs_go hsuf (D := []) (by rfl) fun Gc Gh hGc hGh X hX0 hX => ?_
    simp -implicitDefEqProofs [hX0, hX, worth_eq]
    clear hX0 hX X
    intros
    refine hK _ _ _ ?_
    clear hK hGc hGh
    clear K Gc Gh
    repeat refine pw_seq ?_
    refine pw_N [] (by rfl) (by rfl) fun K Gc Gh hK hGc hGh X hX0 hX => ?_
    simp -implicitDefEqProofs [hX0, hX]
    try clear hX0 hX X
    refine hGc _ _ _ _ _ _ _ fun hsuf => ((worthR_ok [] id hr _).mono ?_)
    rintro _ _ ⟨rfl, rfl⟩
    refine ⟨_, _, rfl, ?_⟩
    clear hGc hGh
    clear Gc Gh
    refine xs_go hsuf (D := []) (by rfl) fun Gc Gh hGc hGh X hX0 hX => ?_
    simp -implicitDefEqProofs [hX0, hX]
    try clear hX0 hX X
    intros
    refine hK _ _ _ ?_
    clear hK hGc hGh
    clear K Gc Gh
    repeat refine pw_seq ?_
    refine pw_N [(3, 35), (8, 40), (15, 47)] (by rfl) (by rfl) fun K Gc Gh hK hGc hGh X hX0 hX => ?_
    simp -implicitDefEqProofs [hX0, hX]
    try clear hX0 hX X
    refine hGc _ _ _ _ _ _ _ fun hsuf => ((hmLen h hd).mono ?_)
    rintro p T ⟨rfl, rfl⟩
    refine ⟨_, _, rfl, ?_⟩
    clear hGc hGh
    clear Gc Gh
    refine xs_go hsuf (D := [(3, 35), (8, 40), (15, 47)]) (by rfl) fun Gc Gh hGc hGh X hX0 hX => ?_
    simp -implicitDefEqProofs [hX0, hX]
    clear hX0 hX X
    intros
    refine hK _ _ _ ?_
    clear hK hGc hGh
    clear K Gc Gh
    repeat refine pw_seq ?_
    refine pw_cf rfl ?_
    refine pw_skip ?_
    repeat refine pw_seq ?_
    refine pw_N [] (by rfl) (by rfl) fun K Gc Gh hK hGc hGh X hX0 hX => ?_
    simp -implicitDefEqProofs [hX0, hX]
    try clear hX0 hX X
    intros
    refine hK _ _ _ ?_
    clear hK hGc hGh
    clear K Gc Gh
    repeat refine pw_seq ?_
    refine pw_ct rfl ?_
    repeat refine pw_seq ?_
    refine pw_N [(2, 58)] (by rfl) (by rfl) fun K Gc Gh hK hGc hGh X hX0 hX => ?_
    simp -implicitDefEqProofs [hX0, hX]
    try clear hX0 hX X
    intros
    refine hK _ _ _ ?_
    clear hK hGc hGh
    clear K Gc Gh
    repeat refine pw_seq ?_
    exact pw_ret (ret_pure hd rfl rfl)
  · clear hGc hGh
    clear Gc Gh
    refine xs_go hsuf (D := []) (by rfl) fun Gc Gh hGc hGh X hX0 hX => ?_
    simp -implicitDefEqProofs [hX0, hX, headP, pint, pbool]
    clear hX0 hX X
    intros
    refine hK _ _ _ ?_
    clear hK hGc hGh
    clear K Gc Gh
    repeat refine pw_seq ?_
    refine pw_N [] (by rfl) (by rfl) fun K Gc Gh hK hGc hGh X hX0 hX => ?_
    simp -implicitDefEqProofs [hX0, hX]
    try clear hX0 hX X
    refine hGc _ _ _ _ _ _ _ fun hsuf => ((hmWorth h hd id).mono ?_)
    rintro p T ⟨rfl, rfl⟩
    refine ⟨_, _, rfl, ?_⟩
    clear hGc hGh
    clear Gc Gh
    refine xs_go hsuf (D := []) (by rfl) fun Gc Gh hGc hGh X hX0 hX => ?_
    simp -implicitDefEqProofs [hX0, hX, worth_eq]
    clear hX0 hX X
    intros
    refine hK _ _ _ ?_
    clear hK hGc hGh
    clear K Gc Gh
    repeat refine pw_seq ?_
    refine pw_N [] (by rfl) (by rfl) fun K Gc Gh hK hGc hGh X hX0 hX => ?_
    simp -implicitDefEqProofs [hX0, hX]
    try clear hX0 hX X
    refine hGc _ _ _ _ _ _ _ fun hsuf => ((worthR_ok (x :: r) id hr _).mono ?_)
    rintro _ _ ⟨rfl, rfl⟩
    refine ⟨_, _, rfl, ?_⟩
    clear hGc hGh
    clear Gc Gh
    refine xs_go hsuf (D := []) (by rfl) fun Gc Gh hGc hGh X hX0 hX => ?_
    simp -implicitDefEqProofs [hX0, hX]
    try clear hX0 hX X
    intros
    refine hK _ _ _ ?_
    clear hK hGc hGh
    clear K Gc Gh
    have hx : (0 : Int) < r.length + 1 := by omega
    repeat refine pw_seq ?_
    refine pw_N [(3, 35), (8, 40), (15, 47)] (by rfl) (by rfl) fun K Gc Gh hK hGc hGh X hX0 hX => ?_
    simp -implicitDefEqProofs [hX0, hX]
    try clear hX0 hX X
    refine hGc _ _ _ _ _ _ _ fun hsuf => ((hmLen h hd).mono ?_)
    rintro p T ⟨rfl, rfl⟩
    refine ⟨_, _, rfl, ?_⟩
    clear hGc hGh
    clear Gc Gh
    refine xs_go hsuf (D := [(3, 35), (8, 40), (15, 47)]) (by rfl) fun Gc Gh hGc hGh X hX0 hX => ?_
    simp -implicitDefEqProofs [hX0, hX, hx]
    clear hX0 hX X
    intros
    refine hK _ _ _ ?_
    clear hK hGc hGh
    clear K Gc Gh
    repeat refine pw_seq ?_
    refine pw_cf rfl ?_
    refine pw_skip ?_
    repeat refine pw_seq ?_
    refine pw_N [] (by rfl) (by rfl) fun K Gc Gh hK hGc hGh X hX0 hX => ?_
    simp -implicitDefEqProofs [hX0, hX]
    try clear hX0 hX X
    intros
    refine hK _ _ _ ?_
    clear hK hGc hGh
    clear K Gc Gh
    repeat refine pw_seq ?_
    refine pw_cf rfl ?_
    refine pw_skip ?_
    repeat refine pw_seq ?_
    refine pw_N [(6, 68)] (by rfl) (by rfl) fun K Gc Gh hK hGc hGh X hX0 hX => ?_
    simp -implicitDefEqProofs [hX0, hX]
    try clear hX0 hX X
    intros
    refine hK _ _ _ ?_
    clear hK hGc hGh
    clear K Gc Gh
    repeat refine pw_seq ?_
    exact pw_ret (ret_pure hd rfl rfl)

end Go.Proofs.Ytdmmihkmcennpaa.Pv
