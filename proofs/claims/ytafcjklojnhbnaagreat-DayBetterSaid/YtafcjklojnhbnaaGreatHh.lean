/- A heap among a call's own objects. -/
import Derived.Test.YtafcjklojnhbnaaGreatHg
import Derived.Test.YtafcjklojnhbnaaGreatTy
namespace Go.Proofs.YtafcjklojnhbnaaGreat.Pv
open Go Hp

theorem HM.congr {S T : Store} {hid hv rid mid mv : Nat} {r : Its Int} (h : HM S hid hv rid mid mv r) (e : ∀ o ∈ [hid, rid, mid], T o = S o) : HM T hid hv rid mid mv r := by
  obtain ⟨l, ⟨⟨g, h, k⟩, hh⟩, pm, hs⟩ := h
  exact ⟨l, ⟨⟨g, h.congr e, k⟩, hh⟩, pm, hs⟩

/-- A heap's three objects (its map, itself, its row), from the number a on. -/
def HX (o : Ob × Ob × Ob) (a hv mv : Nat) (r : Its Int) : Prop := ∀ S : Store, S a = o.1 → S (a + 1) = o.2.1 → S (a + 2) = o.2.2 → HM S (a + 1) hv (a + 2) a mv r

def put3 (obs : List Ob) (j : Nat) (o : Ob × Ob × Ob) : List Ob := ((obs.set j o.1).set (j + 1) o.2.1).set (j + 2) o.2.2

theorem HM.hx {S : Store} {a hv mv : Nat} {r : Its Int} (h : HM S (a + 1) hv (a + 2) a mv r) : HX (S a, S (a + 1), S (a + 2)) a hv mv r := by
  intro T h1 h2 h3
  refine h.congr fun o ho => ?_
  simp at ho
  rcases ho with rfl | rfl | rfl
  · exact h2
  · exact h3
  · exact h1

theorem HX.hm {S : Store} {nx j hv mv : Nat} {obs : List Ob} {o : Ob × Ob × Ob} {r : Its Int} (h : HX o (nx + j) hv mv r) (h1 : obs[j]? = some o.1) (h2 : obs[j + 1]? = some o.2.1) (h3 : obs[j + 2]? = some o.2.2) : HM (ext S nx obs) (nx + j + 1) hv (nx + j + 2) (nx + j) mv r := by
  refine h _ ?_ ?_ ?_
  · rw [ext_at, List.getD_eq_getElem?_getD, h1]; rfl
  · rw [Nat.add_assoc, ext_at, List.getD_eq_getElem?_getD, h2]; rfl
  · rw [Nat.add_assoc, ext_at, List.getD_eq_getElem?_getD, h3]; rfl

theorem off_ext {S T : Store} {nx j : Nat} {obs : List Ob} (h : Off (ext S nx obs) [nx + j + 1, nx + j + 2, nx + j] T) (hl : j + 2 < obs.length) : T = ext S nx (put3 obs j (T (nx + j), T (nx + j + 1), T (nx + j + 2))) := by
  funext i
  by_cases h1 : i = nx + j
  · subst h1
    rw [ext_at, List.getD_eq_getElem?_getD, put3, List.getElem?_set_ne (by omega), List.getElem?_set_ne (by omega), List.getElem?_set_self (by omega)]; rfl
  by_cases h2 : i = nx + j + 1
  · subst h2
    rw [Nat.add_assoc, ext_at, List.getD_eq_getElem?_getD, put3, List.getElem?_set_ne (by omega), List.getElem?_set_self (by simp; omega)]; rfl
  by_cases h3 : i = nx + j + 2
  · subst h3
    rw [Nat.add_assoc, ext_at, List.getD_eq_getElem?_getD, put3, List.getElem?_set_self (by simp; omega)]; rfl
  rw [h i (by simp; omega)]
  simp only [ext]
  split
  · rfl
  · rw [List.getD_eq_getElem?_getD, List.getD_eq_getElem?_getD, put3, List.getElem?_set_ne (by omega), List.getElem?_set_ne (by omega), List.getElem?_set_ne (by omega)]

section
variable {S : Store} {nx j hv mv : Nat} {obs : List Ob} {o : Ob × Ob × Ob} {r : Its Int}

theorem hx_turn {f : FuncId} {args : List PV} {q : PV} {r' : Its Int} (he : Enters Tryz.prog f) (hl : j + 2 < obs.length)
    (h : PCalls Tryz.prog f args (ext S nx obs) (fun p T => p = q ∧ Off (ext S nx obs) [nx + j + 1, nx + j + 2, nx + j] T ∧ HM T (nx + j + 1) hv (nx + j + 2) (nx + j) mv r')) :
    Spec Tryz.prog f args (ext S nx obs) (fun p T => p = q ∧ ∃ o', HX o' (nx + j) hv mv r' ∧ T = ext S nx (put3 obs j o')) := by
  refine ⟨he, h.mono ?_⟩
  rintro p T ⟨h1, h2, h3⟩
  exact ⟨h1, _, h3.hx, off_ext h2 hl⟩

variable (h : HX o (nx + j) hv mv r) (h1 : obs[j]? = some o.1) (h2 : obs[j + 1]? = some o.2.1) (h3 : obs[j + 2]? = some o.2.2)
include h h1 h2 h3

theorem hxPut (id w : Int) (hn : r.length + 1 ≤ 2147483648) : Spec Tryz.prog 127 [.ptr (nx + j + 1) hv 0, I id, I w] (ext S nx obs) (fun p T => p = B (!hasI id r) ∧ ∃ o', HX o' (nx + j) hv mv (bif hasI id r then r else insI (id, w) r) ∧ T = ext S nx (put3 obs j o')) :=
  hx_turn en127 (List.getElem?_eq_some_iff.1 h3).1 (heapPut_ok (h.hm h1 h2 h3) id w hn)
theorem hxDrop (id : Int) : Spec Tryz.prog 147 [.ptr (nx + j + 1) hv 0, I id] (ext S nx obs) (fun p T => p = B (hasI id r) ∧ ∃ o', HX o' (nx + j) hv mv (outI id r) ∧ T = ext S nx (put3 obs j o')) :=
  hx_turn en147 (List.getElem?_eq_some_iff.1 h3).1 (heapDrop_ok (h.hm h1 h2 h3) id)
theorem hxTake : Spec Tryz.prog 128 [.ptr (nx + j + 1) hv 0] (ext S nx obs) (fun p T => p = headP r ∧ ∃ o', HX o' (nx + j) hv mv r.tail ∧ T = ext S nx (put3 obs j o')) :=
  hx_turn en128 (List.getElem?_eq_some_iff.1 h3).1 (heapTake_ok (h.hm h1 h2 h3))
theorem hxLen : Spec Tryz.prog 194 [.ptr (nx + j + 1) hv 0] (ext S nx obs) (fun p T => p = I r.length ∧ T = ext S nx obs) :=
  ⟨en194, heapLen_ok (h.hm h1 h2 h3)⟩
theorem hxFirst : Spec Tryz.prog 146 [.ptr (nx + j + 1) hv 0] (ext S nx obs) (fun p T => p = headP r ∧ T = ext S nx obs) :=
  ⟨en146, heapFirst_ok (h.hm h1 h2 h3)⟩
end

set_option maxRecDepth 20000 in
/-- A new heap. -/
theorem hxNew {S : Store} {nx : Nat} {obs : List Ob} : Spec Tryz.prog 125 [] (ext S nx obs) (fun p T => ∃ hv mv o, p = .ptr (nx + obs.length + 1) hv 0 ∧ HX o (nx + obs.length) hv mv [] ∧ T = ext S nx (obs ++ [o.1, o.2.1, o.2.2])) := by
  have hd := ext_dead (S := S) (nx := nx) (obs := obs)
  have e : ∀ o : Ob × Ob × Ob, ext S nx (obs ++ [o.1, o.2.1, o.2.2]) = ext (ext S nx obs) (nx + obs.length) [o.1, o.2.1, o.2.2] := by
    intro o
    have p1 := ext_push (S := S) (nx := nx) (obs := obs) o.1
    have p2 := ext_push (S := S) (nx := nx) (obs := obs ++ [o.1]) o.2.1
    have p3 := ext_push (S := S) (nx := nx) (obs := obs ++ [o.1] ++ [o.2.1]) o.2.2
    have q0 := ext_nil hd
    have q1 := ext_push (S := ext S nx obs) (nx := nx + obs.length) (obs := []) o.1
    have q2 := ext_push (S := ext S nx obs) (nx := nx + obs.length) (obs := [o.1]) o.2.1
    have q3 := ext_push (S := ext S nx obs) (nx := nx + obs.length) (obs := [o.1, o.2.1]) o.2.2
    simp only [List.length_append, List.length_cons, List.length_nil, List.append_assoc, List.cons_append, List.nil_append, Nat.add_zero, Nat.zero_add] at p1 p2 p3 q1 q2 q3
    rw [← p3, ← p2, ← p1, ← q3, ← q2, ← q1, q0]
    simp only [Nat.add_assoc]
  generalize ext S nx obs = S1 at *
  generalize nx + obs.length = m at *
  refine spec_at hd Tryz.func125 (by rfl) rfl Tryz.ntmps125 (congrArg Array.toList Tryz.results125) (by simp) ?_
  repeat refine pw_seq ?_
  refine pw_N [] (by rfl) (by rfl) fun K Gc Gh hK hGc hGh X hX0 hX => ?_
  simp -implicitDefEqProofs [hX0, hX]
  try clear hX0 hX X
  intros
  refine hK _ _ _ ?_
  clear hK hGc hGh
  clear K Gc Gh
  repeat refine pw_seq ?_
  refine pw_N [] (by rfl) (by rfl) fun K Gc Gh hK hGc hGh X hX0 hX => ?_
  simp -implicitDefEqProofs [hX0, hX]
  try clear hX0 hX X
  intro mv hv
  intros
  refine hK _ _ _ ?_
  clear hK hGc hGh
  clear K Gc Gh
  refine pw_nilObX 1 0 217 2 rfl rfl fun rv => ?_
  refine pw_ret ⟨_, _, rfl, ⟨hv, mv, (.map mv [], .cells hv 212 [.sl (m + 2) rv 2 0 0, .mp m mv], .cells rv 217 []), rfl, ?_, (e _).symm⟩, fun o => .inl (by simp)⟩
  intro T h1 h2 h3
  refine ⟨[], ⟨⟨fun _ => none, ⟨⟨rv, h2, [], h3, [], rfl⟩, ⟨[], h1, mapIs_nil _ _⟩, ⟨by omega, by omega, by omega⟩, by simp⟩, ⟨fun i hi => by simp at hi, fun _ _ => rfl⟩⟩, fun k k0 kn => by simp at kn⟩, .refl _, by simp [SortedI]⟩

end Go.Proofs.YtafcjklojnhbnaaGreat.Pv
