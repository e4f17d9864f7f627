/- What the methods of things[int] do. -/
import Derived.Test.YtafcjklojnhbnaaGreatFa
import Derived.Test.YtafcjklojnhbnaaGreatMp
import Derived.Test.YtafcjklojnhbnaaGreatHa
namespace Go.Proofs.YtafcjklojnhbnaaGreat.Pv
open Go Hp

abbrev ltI : Int → Int → Bool := fun a b => decide (a < b)

theorem ltI_str : Str ltI := ⟨fun a => by simp, fun a b c h1 h2 => by simp at *; omega, fun a b h1 h2 => by simp at *; omega⟩

def encT (x : Int × Int) : List PV := [.sc (.int .i64 x.1), .sc (.int .i64 x.2)]
theorem encT_len (x : Int × Int) : (encT x).length = 2 := rfl

abbrev keyI (x : Int) : Value := .int .i64 x
abbrev findI (id : Int) (es : List (Value × PV)) : Option (Option (Nat × PV)) := findP (.int .i64) (keyI id) es 0

/-- Which place a thing stands at. -/
structure PosOk (g : Int → Option Nat) (l : Its Int) : Prop where
  here : ∀ i, i < l.length → g (ata l i).1 = some i
  gone : ∀ id, (∀ i, i < l.length → (ata l i).1 ≠ id) → g id = none

abbrev encN (i : Nat) : PV := .sc (.int .i64 (i : Int))

/-- The things one behind the other. -/
def RowIs (cs : List PV) (l : Its Int) : Prop := ∃ rest, cs = l.flatMap encT ++ rest

theorem RowIs.at {cs : List PV} {l : Its Int} (h : RowIs cs l) (i : Nat) (hi : i < l.length) : ∃ tl, cs.drop (i * 2) = .sc (.int .i64 (ata l i).1) :: .sc (.int .i64 (ata l i).2) :: tl := by
  obtain ⟨rest, rfl⟩ := h
  refine ⟨(l.drop (i + 1)).flatMap encT ++ rest, ?_⟩
  rw [List.drop_append_of_le_length (by rw [flat_len encT 2 encT_len]; omega), flat_at encT 2 encT_len l i hi]
  have : ata l i = l[i] := by unfold ata; simp [hi]
  rw [this]; rfl

theorem RowIs.big {cs : List PV} {l : Its Int} (h : RowIs cs l) : l.length * 2 ≤ cs.length := by
  obtain ⟨rest, rfl⟩ := h
  rw [List.length_append, flat_len encT 2 encT_len]; omega

theorem RowIs.put {cs : List PV} {l : Its Int} (h : RowIs cs l) (i : Nat) (hi : i < l.length) (x : Int × Int) : RowIs (splice cs (i * 2) [.sc (.int .i64 x.1), .sc (.int .i64 x.2)]) (l.set i x) := by
  obtain ⟨rest, rfl⟩ := h
  refine ⟨rest, ?_⟩
  have hl : (l.flatMap encT).length = l.length * 2 := flat_len encT 2 encT_len l
  show List.take (i * 2) (l.flatMap encT ++ rest) ++ encT x ++ List.drop (i * 2 + 2) (l.flatMap encT ++ rest) = _
  rw [List.take_append_of_le_length (by omega), flat_take encT 2 encT_len, show i * 2 + 2 = (i + 1) * 2 by omega, List.drop_append_of_le_length (by omega), flat_drop encT 2 encT_len]
  rw [List.set_eq_take_append_cons_drop, if_pos hi]
  simp

theorem RowIs.take {cs : List PV} {l : Its Int} (h : RowIs cs l) : cs.take (l.length * 2) = l.flatMap encT := by
  obtain ⟨rest, rfl⟩ := h
  rw [List.take_append_of_le_length (by rw [flat_len encT 2 encT_len]; omega), flat_take encT 2 encT_len, List.take_length]

/-- A heap in memory. -/
structure HS (S : Store) (hid hv rid mid mv : Nat) (l : Its Int) (g : Int → Option Nat) : Prop where
  h : ∃ ver, S hid = .cells hv 212 [.sl rid ver 2 0 l.length, .mp mid mv] ∧ ∃ cs, S rid = .cells ver 217 cs ∧ RowIs cs l
  m : ∃ es, S mid = .map mv es ∧ MapIs keyI encN es g
  ne : hid ≠ rid ∧ hid ≠ mid ∧ rid ≠ mid
  len : l.length ≤ 2147483648

/-- S' tells other things than S only of the objects named, or of objects that S does not know. -/
def Offd (S : Store) (ids : List Nat) (S' : Store) : Prop := ∀ o, o ∉ ids → S' o = S o ∨ S o = .dead
def Off (S : Store) (ids : List Nat) (S' : Store) : Prop := ∀ o, o ∉ ids → S' o = S o
theorem Offd.refl (S : Store) (ids : List Nat) : Offd S ids S := fun _ _ => .inl rfl
theorem Offd.set {S T : Store} {ids : List Nat} (h : Offd S ids T) {o : Nat} (ho : o ∈ ids ∨ S o = .dead) (x : Ob) : Offd S ids (T.set o x) := by
  intro i hi
  by_cases e : i = o
  · subst e; exact .inr (ho.resolve_left hi)
  · rw [set_ne _ _ _ _ e]; exact h i hi
theorem Off.offd {S T : Store} {ids : List Nat} (h : Off S ids T) : Offd S ids T := fun o ho => .inl (h o ho)
theorem Off.trans {S T U : Store} {ids : List Nat} (h : Off S ids T) (k : Off T ids U) : Off S ids U := fun o ho => (k o ho).trans (h o ho)
def cut (S : Store) (ids : List Nat) (S' : Store) : Store := fun o => if o ∈ ids then S' o else S o
theorem cut_off (S : Store) (ids : List Nat) (S' : Store) : Off S ids (cut S ids S') := fun o ho => by simp [cut, ho]
theorem cut_in (S : Store) (ids : List Nat) (S' : Store) {o : Nat} (h : o ∈ ids) : cut S ids S' o = S' o := by simp [cut, h]
theorem cut_ok {S S' : Store} {ids : List Nat} (h : Offd S ids S') : ∀ o, cut S ids S' o = S' o ∨ cut S ids S' o = .dead := by
  intro o
  unfold cut
  split
  · exact .inl rfl
  · rename_i ho
    rcases h o ho with h | h
    · exact .inl h.symm
    · exact .inr h
theorem HS.congr {S T : Store} {hid hv rid mid mv : Nat} {l : Its Int} {g : Int → Option Nat} (h : HS S hid hv rid mid mv l g) (e : ∀ o ∈ [hid, rid, mid], T o = S o) : HS T hid hv rid mid mv l g := by
  obtain ⟨ver, h1, cs, h2, hR⟩ := h.h
  obtain ⟨es, h3⟩ := h.m
  exact ⟨⟨ver, by rw [e _ (by simp)]; exact h1, cs, by rw [e _ (by simp)]; exact h2, hR⟩, ⟨es, by rw [e _ (by simp)]; exact h3⟩, h.ne, h.len⟩
theorem HS.cut {S T : Store} {hid hv rid mid mv : Nat} {l : Its Int} {g : Int → Option Nat} (h : HS T hid hv rid mid mv l g) : HS (cut S [hid, rid, mid] T) hid hv rid mid mv l g := h.congr fun _ ho => cut_in _ _ _ ho

theorem set_at (S : Store) (o : Nat) (x : Ob) (i : Nat) : S.set o x i = if i = o then x else S i := by
  split
  · rename_i h; subst h; exact Store.set_same ..
  · rename_i h; exact set_ne _ _ _ _ h
theorem dead_set {S : Store} {o i : Nat} {x : Ob} (h : S.set o x i = .dead) (hx : x ≠ .dead) : i ≠ o ∧ S i = .dead := by
  rw [set_at] at h
  split at h
  · exact absurd h hx
  · rename_i e; exact ⟨e, h⟩
theorem alive_ne {S : Store} {o i : Nat} {x : Ob} (h : S o = x) (hx : x ≠ .dead) (d : S i = .dead) : o ≠ i := by
  rintro rfl; rw [h] at d; exact hx d

theorem thingsLen_ok {S : Store} {hid hv rid mid mv : Nat} {l : Its Int} {g : Int → Option Nat} (hs : HS S hid hv rid mid mv l g) :
    PCalls Tryz.prog 195 [.ptr hid hv 0] S (fun p S' => p = pint l.length ∧ S' = S) := by
  obtain ⟨ver, h1, cs, h2, hR⟩ := hs.h
  refine pcalls_of_pw Tryz.func195 rfl Tryz.ntmps195 (congrArg Array.toList Tryz.results195) (by simp) ?_
  refine pw_seq (pw_R (by rfl) (by simp; rfl) (pw_seq (pw_L [] (by rfl) fun K hK => ?_)))
  simp [h1]
  refine hK _ _ (pw_ret ?_)
  simp [retQ, pint]

theorem thingsLess_ok {S : Store} {hid hv rid mid mv : Nat} {l : Its Int} {g : Int → Option Nat} (hs : HS S hid hv rid mid mv l g) (i j : Nat) (hi : i < l.length) (hj : j < l.length) :
    PCalls Tryz.prog 196 [.ptr hid hv 0, pint i, pint j] S (fun p S' => p = pbool (il ltI (ata l i) (ata l j)) ∧ S' = S) := by
  obtain ⟨ver, h1, cs, h2, hR⟩ := hs.h
  obtain ⟨tl1, e1⟩ := hR.at i hi
  obtain ⟨tl2, e2⟩ := hR.at j hj
  refine pcalls_of_pw Tryz.func196 rfl Tryz.ntmps196 (congrArg Array.toList Tryz.results196) (by simp) ?_
  refine pw_seq (pw_R (by rfl) (by simp; rfl) (pw_seq ?_))
  refine pw_X (some [hid, rid]) (Row.pures [0, 1, 2, 3, 4, 5, 6, 7, 8, 9, 10, 11, 12, 13] (.alt 14 (.alt 15 (.alt 16 (.alt 17 (.done) .stop) .stop) .stop) (.alt 15 (.alt 14 (.alt 16 (.alt 17 (.done) .stop) .stop) .stop) .stop))) mixed (by rfl) (by rfl) (by rfl) fun K hK => ?_
  have z1 : hid ≠ rid := hs.ne.1
  have tail : ∀ (F : Nat → PV) (T : Store) (a b : Nat), F 7 = .ptr a 0 0 → F 8 = .ptr b 0 0 → T a = .cells 0 217 (encT (ata l i)) → T b = .cells 0 217 (encT (ata l j)) → Offd S [] T → K F T := by
    intro F T a b f7 f8 ta tb hoff
    have fin : ∀ o, S o = T o ∨ S o = .dead := fun o => (hoff o (by simp)).imp Eq.symm id
    refine hK _ _ ?_
    refine pw_seq (pw_seq (pw_L [] (by rfl) fun K' hK' => ?_))
    simp [f7, f8, ta, tb, encT]
    refine hK' _ _ (pw_cond rfl (fun hc => ?_) (fun hc => ?_))
    · refine pw_seq (pw_L [] (by rfl) fun K2 hK2 => ?_)
      simp [f7, f8, ta, tb, encT]
      refine hK2 _ _ (pw_ret ⟨_, S, rfl, ⟨?_, rfl⟩, fin⟩)
      simp at hc
      simp [il, hc, pbool]
    · refine pw_skip (pw_seq (pw_L [] (by rfl) fun K2 hK2 => ?_))
      simp [f7, f8, ta, tb, encT]
      refine hK2 _ _ (pw_ret ⟨_, S, rfl, ⟨?_, rfl⟩, fin⟩)
      simp at hc
      simp [il, hc, pbool]
  simp [h1, h2, hi, hj, e1, e2, pint]
  constructor
  · refine po_alloc rfl (by simp; rfl) (by simp) fun a ha => ?_
    have n1 := alive_ne h1 (by simp) ha
    have n2 := alive_ne h2 (by simp) ha
    simp [h1, h2, set_at, n1, n2]
    refine po_alloc rfl (by simp; rfl) (by simp) fun b hb => ?_
    have n3 := dead_set hb (by simp)
    have n4 := alive_ne h1 (by simp) n3.2
    have n5 := alive_ne h2 (by simp) n3.2
    simp [h1, h2, set_at, n1, n2, n3, n4, n5, n3.1.symm]
    exact tail _ _ a b rfl rfl (by simp [set_at, n3.1.symm, encT]) (by simp [encT]) (by repeat (first | exact Offd.refl _ _ | refine Offd.set ?_ (by first | exact .inr ha | exact .inr n3.2) _))
  · refine po_alloc rfl (by simp; rfl) (by simp) fun a ha => ?_
    have n1 := alive_ne h1 (by simp) ha
    have n2 := alive_ne h2 (by simp) ha
    simp [h1, h2, set_at, n1, n2]
    refine po_alloc rfl (by simp; rfl) (by simp) fun b hb => ?_
    have n3 := dead_set hb (by simp)
    have n4 := alive_ne h1 (by simp) n3.2
    have n5 := alive_ne h2 (by simp) n3.2
    simp [h1, h2, set_at, n1, n2, n4, n5, n3.1.symm]
    exact tail _ _ b a rfl rfl (by simp [set_at, n3.1, encT]) (by simp [encT]) (by repeat (first | exact Offd.refl _ _ | refine Offd.set ?_ (by first | exact .inr ha | exact .inr n3.2) _))

theorem thingsSwap_ok {S : Store} {hid hv rid mid mv : Nat} {l : Its Int} {g : Int → Option Nat} (hs : HS S hid hv rid mid mv l g) (i j : Nat) (hi : i < l.length) (hj : j < l.length) :
    PCalls Tryz.prog 199 [.ptr hid hv 0, pint i, pint j] S (fun _ S' => Off S [hid, rid, mid] S' ∧ HS S' hid hv rid mid mv (swp l i j) (updM (updM g (ata (swp l i j) i).1 (some i)) (ata (swp l i j) j).1 (some j))) := by
  obtain ⟨ver, h1, cs, h2, hR⟩ := hs.h
  obtain ⟨es, h3, h4⟩ := hs.m
  obtain ⟨z1, z2, z3⟩ := hs.ne
  obtain ⟨tl1, e1⟩ := hR.at i hi
  obtain ⟨tl2, e2⟩ := hR.at j hj
  have b0 := hR.big
  have b1 : i * 2 + 2 ≤ cs.length := by omega
  have b2 : j * 2 + 2 ≤ cs.length := by omega
  refine pcalls_of_pw Tryz.func199 rfl Tryz.ntmps199 (congrArg Array.toList Tryz.results199) (by simp) ?_
  refine pw_seq (pw_X (some [hid]) (Row.pures [0, 1, 2, 3, 4, 5, 6, 7, 8, 9, 10, 11, 12, 13, 14, 15, 17, 18, 19, 20, 21, 22] (.alt 16 (.alt 23 (Row.pures [24] (.alt 25 (Row.pures [26] (.alt 27 (.done) .stop)) .stop)) .stop) (.alt 23 (.alt 16 (Row.pures [24] (.alt 25 (Row.pures [26] (.alt 27 (.done) .stop)) .stop)) .stop) .stop))) mixed (by rfl) (by rfl) (by rfl) fun K hK => ?_)
  have r1 := (hR.put i hi (ata l j)).put j (by simpa using hj) (ata l i)
  have hsw : (l.set i (ata l j)).set j (ata l i) = swp l i j := rfl
  rw [hsw] at r1
  have hsl : (swp l i j).length = l.length := swp_len l i j
  have tail : ∀ (F : Nat → PV), F 0 = .ptr hid hv 0 → F 1 = pint i → F 2 = pint j → K F (S.set rid (.cells ver 217 (splice (splice cs (i * 2) [.sc (.int .i64 (ata l j).1), .sc (.int .i64 (ata l j).2)]) (j * 2) [.sc (.int .i64 (ata l i).1), .sc (.int .i64 (ata l i).2)]))) := by
    intro F f0 f1 f2
    refine hK _ _ ?_
    generalize hcs' : splice (splice cs (i * 2) [.sc (.int .i64 (ata l j).1), .sc (.int .i64 (ata l j).2)]) (j * 2) [.sc (.int .i64 (ata l i).1), .sc (.int .i64 (ata l i).2)] = cs' at r1
    obtain ⟨tl1, e1⟩ := r1.at i (by omega)
    obtain ⟨tl2, e2⟩ := r1.at j (by omega)
    have b0 := r1.big
    have b1 : i * 2 + 2 ≤ cs'.length := by omega
    have b2 : j * 2 + 2 ≤ cs'.length := by omega
    have hT : Offd S [hid, rid, mid] (S.set rid (.cells ver 217 cs')) := (Offd.refl _ _).set (.inl (by simp)) _
    have t1 : S.set rid (.cells ver 217 cs') hid = _ := (set_ne _ _ _ _ z1).trans h1
    have t2 : S.set rid (.cells ver 217 cs') rid = _ := Store.set_same _ _ _
    have t3 : S.set rid (.cells ver 217 cs') mid = _ := (set_ne _ _ _ _ (Ne.symm z3)).trans h3
    generalize S.set rid (.cells ver 217 cs') = T at hT t1 t2 t3
    obtain ⟨res, m1, _, _, m2, _⟩ := h4.find (keyOk_int .i64) (ata (swp l i j) i).1
    refine pw_seq (pw_X (some [hid, rid]) (Row.pures [0, 1, 2, 3, 4, 5, 6, 7, 8, 9, 10, 11, 12] (.alt 13 (.done) .stop)) mixed (by rfl) (by rfl) (by rfl) fun K hK => ?_)
    simp -implicitDefEqProofs [f0, f1, t1, t2, hi, e1, pint]
    refine po_mapUpdate (.inl rfl) Tryz.underlying134 Tryz.underlying3 rfl rfl rfl t3 m1 ?_
    simp -implicitDefEqProofs [set_ne, z2, z3, t1, t2]
    refine hK _ _ ?_
    clear hK
    have u1 : T.set mid (.map mv (putP (keyI (ata (swp l i j) i).1) (pint i) es res)) hid = _ := (set_ne _ _ _ _ z2).trans t1
    have u2 : T.set mid (.map mv (putP (keyI (ata (swp l i j) i).1) (pint i) es res)) rid = _ := (set_ne _ _ _ _ z3).trans t2
    have u3 : T.set mid (.map mv (putP (keyI (ata (swp l i j) i).1) (pint i) es res)) mid = _ := Store.set_same _ _ _
    have hU : Offd S [hid, rid, mid] (T.set mid (.map mv (putP (keyI (ata (swp l i j) i).1) (pint i) es res))) := hT.set (.inl (by simp)) _
    have m3 := m2 i
    obtain ⟨res2, m4, _, _, m5, _⟩ := m3.find (keyOk_int .i64) (ata (swp l i j) j).1
    show PW _ _ _ _ _ _ _ (T.set mid (.map mv (putP (keyI (ata (swp l i j) i).1) (pint i) es res)))
    change MapIs keyI encN (putP (keyI (ata (swp l i j) i).1) (pint i) es res) _ at m3
    generalize T.set mid (.map mv (putP (keyI (ata (swp l i j) i).1) (pint i) es res)) = U at u1 u2 u3 hU
    refine pw_X (some [hid, rid]) (Row.pures [0, 1, 2, 3, 4, 5, 6, 7, 8, 9, 10, 11, 12] (.alt 13 (.done) .stop)) mixed (by rfl) (by rfl) (by rfl) fun K hK => ?_
    simp -implicitDefEqProofs [f0, f2, u1, u2, hj, e2, pint]
    refine po_mapUpdate (.inl rfl) Tryz.underlying134 Tryz.underlying3 rfl rfl rfl u3 m4 ?_
    simp -implicitDefEqProofs [set_ne, z2, z3, u1, u2]
    refine hK _ _ ⟨_, _, rfl, ⟨cut_off _ _ _, HS.cut ⟨⟨ver, ?_, cs', ?_, r1⟩, ⟨_, ?_, m5 j⟩, ⟨z1, z2, z3⟩, ?_⟩⟩, cut_ok (hU.set (.inl (by simp)) _)⟩
    · rw [set_ne _ _ _ _ z2, u1, hsl]
    · rw [set_ne _ _ _ _ z3, u2]
    · exact Store.set_same _ _ _
    · rw [hsl]; exact hs.len
  simp -implicitDefEqProofs [h1, h2, hi, hj, e1, e2, pint, b1, b2, set_at, z1]
  exact ⟨tail _ rfl rfl rfl, tail _ rfl rfl rfl⟩

theorem elemThing : ElemOk Tryz.prog 208 217 (.agg #[.int .i64 0, .int .i64 0]) 16 :=
  ⟨Tryz.underlying208, by simp, by simp, by simp, by simp, by omega⟩

theorem thingsPush_ok {S : Store} {hid hv rid mid mv : Nat} {l : Its Int} {g : Int → Option Nat} (hs : HS S hid hv rid mid mv l g) (x : Int × Int) (hn : l.length + 1 ≤ 2147483648) :
    PCalls Tryz.prog 198 [.ptr hid hv 0, .ifc 217 (.agg (encT x))] S (fun _ S' => Off S [hid, rid, mid] S' ∧ HS S' hid hv rid mid mv (l ++ [x]) (updM g x.1 (some l.length))) := by
  obtain ⟨ver, h1, cs, h2, hR⟩ := hs.h
  obtain ⟨es, h3, h4⟩ := hs.m
  obtain ⟨z1, z2, z3⟩ := hs.ne
  have b0 := hR.big
  refine pcalls_of_pw Tryz.func198 rfl Tryz.ntmps198 (congrArg Array.toList Tryz.results198) (by simp) ?_
  refine pw_seq (pw_L [] (by rfl) fun K hK => ?_)
  simp -implicitDefEqProofs [encT]
  refine po_assert rfl Tryz.underlying217 (by intro ms; simp) (by simp; rfl) (p := .tup [.agg (encT x), .sc (.bool true)]) (by simp [assertP, encT]) ?_
  simp -implicitDefEqProofs [encT]
  refine po_alloc rfl (by simp; rfl) (by simp) fun a ha => ?_
  simp -implicitDefEqProofs
  have n1 := alive_ne h1 (by simp) ha
  have n2 := alive_ne h2 (by simp) ha
  have n3 := alive_ne h3 (by simp) ha
  refine hK _ _ ?_
  clear hK
  have hT : Offd S [hid, rid, mid] (S.set a (.cells 0 217 (encT x))) := (Offd.refl _ _).set (.inr ha) _
  have t1 : S.set a (.cells 0 217 (encT x)) hid = _ := (set_ne _ _ _ _ n1).trans h1
  have t2 : S.set a (.cells 0 217 (encT x)) rid = _ := (set_ne _ _ _ _ n2).trans h2
  have t3 : S.set a (.cells 0 217 (encT x)) mid = _ := (set_ne _ _ _ _ n3).trans h3
  have t4 : S.set a (.cells 0 217 (encT x)) a = _ := Store.set_same _ _ _
  show PW _ _ _ _ _ _ _ (S.set a (.cells 0 217 (encT x)))
  generalize S.set a (.cells 0 217 (encT x)) = T at hT t1 t2 t3 t4
  refine pw_seq (pw_R (by rfl) (by simp; rfl) (pw_cond rfl (fun _ => ?_) (fun h => by simp at h)))
  obtain ⟨res, m1, _, _, m2, _⟩ := h4.find (keyOk_int .i64) x.1
  refine pw_seq (pw_X (some [hid, a]) (Row.pures [0, 1, 2, 3, 4, 5, 6, 7, 8, 9, 10] (.alt 11 (.done) .stop)) mixed (by rfl) (by rfl) (by rfl) fun K hK => ?_)
  simp -implicitDefEqProofs [t1, t4, encT]
  refine po_mapUpdate (.inl rfl) Tryz.underlying134 Tryz.underlying3 rfl rfl rfl t3 m1 ?_
  simp -implicitDefEqProofs [set_ne, z2, n3.symm, t1, t4, encT]
  refine hK _ _ ?_
  clear hK
  have m3 := m2 l.length
  have u1 : T.set mid (.map mv (putP (keyI x.1) (pint l.length) es res)) hid = _ := (set_ne _ _ _ _ z2).trans t1
  have u2 : T.set mid (.map mv (putP (keyI x.1) (pint l.length) es res)) rid = _ := (set_ne _ _ _ _ z3).trans t2
  have u3 : T.set mid (.map mv (putP (keyI x.1) (pint l.length) es res)) mid = _ := Store.set_same _ _ _
  have u4 : T.set mid (.map mv (putP (keyI x.1) (pint l.length) es res)) a = _ := (set_ne _ _ _ _ n3.symm).trans t4
  have hU : Offd S [hid, rid, mid] (T.set mid (.map mv (putP (keyI x.1) (pint l.length) es res))) := hT.set (.inl (by simp)) _
  show PW _ _ _ _ _ _ _ (T.set mid (.map mv (putP (keyI x.1) (pint l.length) es res)))
  change MapIs keyI encN (putP (keyI x.1) (pint l.length) es res) _ at m3
  generalize T.set mid (.map mv (putP (keyI x.1) (pint l.length) es res)) = U at u1 u2 u3 u4 hU
  refine pw_X (some [a]) (Row.pures [0, 1, 2, 3, 5, 6] (.alt 4 (.alt 7 (Row.pures [8, 9] (.alt 10 (.done) .stop)) .stop) .stop)) mixed (by rfl) (by rfl) (by rfl) fun K hK => ?_
  simp -implicitDefEqProofs [u1, u4, encT]
  refine po_append rfl elemThing (by simp; rfl) u2 (by simpa using b0) (m := 1) (ds := encT x) (by simp [encT]) (by omega) (by omega) ?_
  simp -implicitDefEqProofs [set_at, z1, n1.symm, n2.symm, u1, u4, encT]
  have r1 : RowIs (cs.take (l.length * 2) ++ encT x) (l ++ [x]) := ⟨[], by rw [hR.take]; simp⟩
  refine hK _ _ ⟨_, _, rfl, ⟨cut_off _ _ _, HS.cut ⟨⟨ver + 1, ?_, _, ?_, r1⟩, ⟨_, ?_, m3⟩, ⟨z1, z2, z3⟩, ?_⟩⟩, cut_ok ((hU.set (.inl (by simp)) _).set (.inl (by simp)) _)⟩
  · rw [set_same']; simp
  · rw [set_ne _ _ _ _ z1.symm, set_same']; simp [encT]
  · rw [set_ne _ _ _ _ z2.symm, set_ne _ _ _ _ z3.symm, u3]
  · simp; omega

theorem thingsPop_ok {S : Store} {hid hv rid mid mv : Nat} {l : Its Int} {g : Int → Option Nat} (x : Int × Int) (hs : HS S hid hv rid mid mv (l ++ [x]) g) :
    PCalls Tryz.prog 197 [.ptr hid hv 0] S (fun p S' => p = .ifc 217 (.agg (encT x)) ∧ Off S [hid, rid, mid] S' ∧ HS S' hid hv rid mid mv l (updM g x.1 none)) := by
  obtain ⟨ver, h1, cs, h2, hR⟩ := hs.h
  obtain ⟨es, h3, h4⟩ := hs.m
  obtain ⟨z1, z2, z3⟩ := hs.ne
  have b0 := hR.big
  have hlen := hs.len
  simp only [List.length_append, List.length_cons, List.length_nil, Nat.zero_add] at h1 b0 hlen
  refine pcalls_of_pw Tryz.func197 rfl Tryz.ntmps197 (congrArg Array.toList Tryz.results197) (by simp) ?_
  have hw : IntKind.i64.wrap (l.length : Int) = l.length := wrap64 _ (by omega) (by omega)
  obtain ⟨tl, e1⟩ := hR.at l.length (by simp)
  have ha : ata (l ++ [x]) l.length = x := by simp [ata]
  rw [ha] at e1
  refine pw_seq (pw_R (by rfl) (by simp; rfl) (pw_seq (pw_L [] (by rfl) fun K hK => ?_)))
  simp -implicitDefEqProofs [h1, hw]
  refine hK _ _ ?_
  clear hK
  refine pw_seq (pw_L [] (by rfl) fun K hK => ?_)
  have hlt : (l.length : Int) < l.length + 1 := by omega
  have b1 : l.length * 2 + 2 ≤ cs.length := by omega
  simp -implicitDefEqProofs [h1, h2, e1, hlt]
  refine po_alloc rfl (by simp; rfl) (by simp) fun a ha => ?_
  have n1 := alive_ne h1 (by simp) ha
  have n2 := alive_ne h2 (by simp) ha
  have n3 := alive_ne h3 (by simp) ha
  simp -implicitDefEqProofs
  refine hK _ _ ?_
  clear hK
  refine pw_seq (pw_L [] (by rfl) fun K hK => ?_)
  simp -implicitDefEqProofs [set_at, n1, n2, h1, h2, hlt, b1]
  refine hK _ _ ?_
  clear hK
  refine pw_seq (pw_L [] (by rfl) fun K hK => ?_)
  simp -implicitDefEqProofs [set_at, n1, z1, h1]
  refine hK _ _ ?_
  clear hK
  have r1 : RowIs (splice cs (l.length * 2) [.sc (.int .i64 0), .sc (.int .i64 0)]) l := by
    obtain ⟨rest, q⟩ := hR.put l.length (by simp) (0, 0)
    exact ⟨encT (0, 0) ++ rest, by rw [q, List.set_append_right _ _ (Nat.le_refl _)]; simp⟩
  have hT : Offd S [hid, rid, mid] (((S.set a (.cells 0 217 (encT x))).set rid (.cells ver 217 (splice cs (l.length * 2) [.sc (.int .i64 0), .sc (.int .i64 0)]))).set hid (.cells hv 212 [.sl rid ver 2 0 l.length, .mp mid mv])) :=
    (((Offd.refl _ _).set (.inr ha) _).set (.inl (by simp)) _).set (.inl (by simp)) _
  have t1 : (((S.set a (.cells 0 217 (encT x))).set rid (.cells ver 217 (splice cs (l.length * 2) [.sc (.int .i64 0), .sc (.int .i64 0)]))).set hid (.cells hv 212 [.sl rid ver 2 0 l.length, .mp mid mv])) hid = .cells hv 212 [.sl rid ver 2 0 l.length, .mp mid mv] := by simp
  have t2 : (((S.set a (.cells 0 217 (encT x))).set rid (.cells ver 217 (splice cs (l.length * 2) [.sc (.int .i64 0), .sc (.int .i64 0)]))).set hid (.cells hv 212 [.sl rid ver 2 0 l.length, .mp mid mv])) rid = .cells ver 217 (splice cs (l.length * 2) [.sc (.int .i64 0), .sc (.int .i64 0)]) := by simp [set_at, z1.symm]
  have t3 : (((S.set a (.cells 0 217 (encT x))).set rid (.cells ver 217 (splice cs (l.length * 2) [.sc (.int .i64 0), .sc (.int .i64 0)]))).set hid (.cells hv 212 [.sl rid ver 2 0 l.length, .mp mid mv])) mid = .map mv es := by simp [set_at, z2.symm, z3.symm, n3, h3]
  have t4 : (((S.set a (.cells 0 217 (encT x))).set rid (.cells ver 217 (splice cs (l.length * 2) [.sc (.int .i64 0), .sc (.int .i64 0)]))).set hid (.cells hv 212 [.sl rid ver 2 0 l.length, .mp mid mv])) a = .cells 0 217 (encT x) := by simp [set_at, n1.symm, n2.symm]
  show PW _ _ _ _ _ _ _ (((S.set a (.cells 0 217 (encT x))).set rid (.cells ver 217 (splice cs (l.length * 2) [.sc (.int .i64 0), .sc (.int .i64 0)]))).set hid (.cells hv 212 [.sl rid ver 2 0 l.length, .mp mid mv]))
  generalize (((S.set a (.cells 0 217 (encT x))).set rid (.cells ver 217 (splice cs (l.length * 2) [.sc (.int .i64 0), .sc (.int .i64 0)]))).set hid (.cells hv 212 [.sl rid ver 2 0 l.length, .mp mid mv])) = T at hT t1 t2 t3 t4
  obtain ⟨res, m1, _, _, _, m2⟩ := h4.find (keyOk_int .i64) x.1
  refine pw_seq (pw_X (some [hid, a]) (Row.pures [0, 1, 2, 3, 4, 5] (.alt 6 (.done) .stop)) mixed (by rfl) (by rfl) (by rfl) fun K hK => ?_)
  simp -implicitDefEqProofs [t1, t4, encT]
  refine po_delete rfl rfl Tryz.underlying134 Tryz.underlying3 rfl rfl rfl t3 m1 ?_
  simp -implicitDefEqProofs [set_ne, z2, n3.symm, t1, t4, encT]
  refine hK _ _ ?_
  clear hK
  refine pw_seq (pw_L [] (by rfl) fun K hK => ?_)
  simp -implicitDefEqProofs [set_ne, n3.symm, t4, encT]
  refine hK _ _ (pw_ret ⟨_, _, rfl, ⟨rfl, cut_off _ _ _, HS.cut ⟨⟨ver, ?_, _, ?_, r1⟩, ⟨_, ?_, m2⟩, ⟨z1, z2, z3⟩, ?_⟩⟩, cut_ok (hT.set (.inl (by simp)) _)⟩)
  · rw [set_ne _ _ _ _ z2, t1]
  · rw [set_ne _ _ _ _ z3, t2]
  · exact set_same' _ _ _
  · omega

end Go.Proofs.YtafcjklojnhbnaaGreat.Pv
