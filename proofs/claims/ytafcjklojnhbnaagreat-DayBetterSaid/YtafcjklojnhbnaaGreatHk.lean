/- A deed, done to a heap and to the reference's list; whether both tell the same. -/
import Derived.Test.YtafcjklojnhbnaaGreatHj
namespace Go.Proofs.YtafcjklojnhbnaaGreat.Pv
open Go Hp

theorem HM.alive {S : Store} {nx hid hv rid mid mv : Nat} {r : Its Int} (h : HM S hid hv rid mid mv r) (hd : DeadFrom nx S) : ∀ o ∈ [hid, rid, mid], o < nx := by
  intro o ho
  have : S o ≠ .dead := by
    obtain ⟨l, ⟨⟨g, h, _⟩, _⟩, _⟩ := h
    obtain ⟨ver, h1, cs, h2, _⟩ := h.h
    obtain ⟨es, h3, _⟩ := h.m
    simp at ho
    rcases ho with rfl | rfl | rfl
    · rw [h1]; simp
    · rw [h2]; simp
    · rw [h3]; simp
  exact Nat.lt_of_not_le fun q => this (hd o q)

theorem off_old {S T : Store} {nx : Nat} {obs : List Ob} {ids : List Nat} (hl : ∀ o ∈ ids, o < nx) (h : Off (ext S nx obs) ids T) : T = ext (cut S ids T) nx obs := by
  funext o
  by_cases ho : o ∈ ids
  · have := hl o ho
    simp [ext, cut, ho, this]
  · rw [h o ho]
    simp [ext, cut, ho]

theorem off_dead {S T : Store} {nx : Nat} {ids : List Nat} (hd : DeadFrom nx S) (hl : ∀ o ∈ ids, o < nx) (h : Off S ids T) : DeadFrom nx T := fun i hi => by
  rw [h i fun q => by have := hl i q; omega]; exact hd i hi

theorem HM.old {S : Store} {nx hid hv rid mid mv : Nat} {obs : List Ob} {r : Its Int} (h : HM S hid hv rid mid mv r) (hd : DeadFrom nx S) : HM (ext S nx obs) hid hv rid mid mv r :=
  h.congr fun o ho => by have := h.alive hd o ho; simp [ext, this]

section
variable {S : Store} {nx hid hv rid mid mv : Nat} {obs : List Ob} {r : Its Int}

/-- A turn of a heap that is older than the call. -/
theorem hm_turn {f : FuncId} {args : List PV} {q : PV} {r' : Its Int} (hd : DeadFrom nx S) (h0 : HM S hid hv rid mid mv r) (he : Enters Tryz.prog f)
    (h : PCalls Tryz.prog f args (ext S nx obs) (fun p T => p = q ∧ Off (ext S nx obs) [hid, rid, mid] T ∧ HM T hid hv rid mid mv r')) :
    Spec Tryz.prog f args (ext S nx obs) (fun p T => p = q ∧ ∃ S', T = ext S' nx obs ∧ Off S [hid, rid, mid] S' ∧ HM S' hid hv rid mid mv r') := by
  refine ⟨he, h.mono ?_⟩
  rintro p T ⟨h1, h2, h3⟩
  exact ⟨h1, _, off_old (h0.alive hd) h2, cut_off _ _ _, h3.cut⟩

variable (h : HM S hid hv rid mid mv r) (hd : DeadFrom nx S)
include h hd

theorem hmPut (id w : Int) (hn : r.length + 1 ≤ 2147483648) : Spec Tryz.prog 127 [.ptr hid hv 0, I id, I w] (ext S nx obs) (fun p T => p = B (!hasI id r) ∧ ∃ S', T = ext S' nx obs ∧ Off S [hid, rid, mid] S' ∧ HM S' hid hv rid mid mv (putL id w r)) :=
  hm_turn hd h en127 (heapPut_ok (h.old hd) id w hn)
theorem hmDrop (id : Int) : Spec Tryz.prog 147 [.ptr hid hv 0, I id] (ext S nx obs) (fun p T => p = B (hasI id r) ∧ ∃ S', T = ext S' nx obs ∧ Off S [hid, rid, mid] S' ∧ HM S' hid hv rid mid mv (outI id r)) :=
  hm_turn hd h en147 (heapDrop_ok (h.old hd) id)
theorem hmTake : Spec Tryz.prog 128 [.ptr hid hv 0] (ext S nx obs) (fun p T => p = headP r ∧ ∃ S', T = ext S' nx obs ∧ Off S [hid, rid, mid] S' ∧ HM S' hid hv rid mid mv r.tail) :=
  hm_turn hd h en128 (heapTake_ok (h.old hd))
theorem hmLen : Spec Tryz.prog 194 [.ptr hid hv 0] (ext S nx obs) (fun p T => p = I r.length ∧ T = ext S nx obs) :=
  ⟨en194, heapLen_ok (h.old hd)⟩
theorem hmFirst : Spec Tryz.prog 146 [.ptr hid hv 0] (ext S nx obs) (fun p T => p = headP r ∧ T = ext S nx obs) :=
  ⟨en146, heapFirst_ok (h.old hd)⟩
end

theorem ret_q {P : Program} {nx : Nat} {S : Store} {obs : List Ob} {F : Nat → PV} {rs : List ResultVar} {ps : List PV} {Q : PV → Store → Prop} (hd : DeadFrom nx S) (h1 : resL P F (ext S nx obs) rs = some ps) (h2 : Q (oneOf ps) S) :
    ∃ ps S', resL P F (ext S nx obs) rs = some ps ∧ Q (oneOf ps) S' ∧ ∀ o, S' o = ext S nx obs o ∨ S' o = .dead :=
  ⟨ps, S, h1, h2, ext_kill0 hd⟩

structure Deed where
  kind : Int
  id : Int
  w : Int
instance : Enc Deed := ⟨fun d => [I d.kind, I d.id, I d.w], 3, fun _ => rfl, fun _ => rfl⟩
@[simp] theorem enc_deed (d : Deed) : Enc.enc d = [I d.kind, I d.id, I d.w] := rfl
@[simp high] theorem flen_deed (l : List Deed) : (l.flatMap Enc.enc).length = l.length * 3 := flat_length l
@[simp high] theorem ftake_deed (l : List Deed) : (l.flatMap Enc.enc).take (l.length * 3) = l.flatMap Enc.enc := flat_take' l

def doL (d : Deed) (r : Its Int) : Its Int :=
  if d.kind = 0 then putL d.id d.w r else if d.kind = 1 then chgL d.id d.w r else if d.kind = 2 then outI d.id r else if d.kind = 3 then r.tail else r

theorem doL_len (d : Deed) (r : Its Int) : (doL d r).length ≤ r.length + 1 := by
  have h1 := outI_le d.id r
  have h2 := (insI_perm (d.id, d.w) r).length_eq
  have h3 := (insI_perm (d.id, d.w) (outI d.id r)).length_eq
  simp only [List.length_cons] at h2 h3
  unfold doL putL chgL
  repeat' split
  all_goals (try cases hasI d.id r) <;> simp <;> omega

theorem worth_eq (id : Int) (r : Its Int) : worthP id r = .tup [I (worthO id r).1, B (worthO id r).2] := by
  unfold worthP worthO; cases r.find? (fun x => decide (x.1 = id)) <;> rfl

end Go.Proofs.YtafcjklojnhbnaaGreat.Pv
