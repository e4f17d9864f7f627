/- The methods of Heap[int], told by a sorted list. -/
import Derived.Test.YtafcjklojnhbnaaGreatHd
namespace Go.Proofs.YtafcjklojnhbnaaGreat.Pv
open Go Hp

abbrev ilt (a b : Int × Int) : Bool := il ltI a b

def SortedI (r : Its Int) : Prop := r.Pairwise (fun a b => ilt a b = true)

/-- A thing comes to its place. -/
def insI (x : Int × Int) : Its Int → Its Int
  | [] => [x]
  | y :: r => if ilt x y = true then x :: y :: r else y :: insI x r

def outI (id : Int) (r : Its Int) : Its Int := r.filter fun x => decide (x.1 ≠ id)
def hasI (id : Int) (r : Its Int) : Bool := r.any fun x => decide (x.1 = id)

theorem insI_perm (x : Int × Int) : ∀ r, (insI x r).Perm (x :: r)
  | [] => .refl _
  | y :: r => by
    unfold insI
    split
    · exact .refl _
    · exact ((insI_perm x r).cons y).trans (.swap x y r)

theorem il_irr (a : Int × Int) : ilt a a = false := (il_str ltI_str).irr a
theorem il_tr {a b c : Int × Int} (h1 : ilt a b = true) (h2 : ilt b c = true) : ilt a c = true := (il_str ltI_str).tr _ _ _ h1 h2
theorem il_or {a b : Int × Int} (h : ilt a b = false) (hne : a.1 ≠ b.1) : ilt b a = true := by
  cases hq : ilt b a with
  | true => rfl
  | false => exact absurd (congrArg Prod.fst ((il_str ltI_str).tot _ _ h hq)) hne

theorem insI_sorted (x : Int × Int) : ∀ r, SortedI r → (∀ y ∈ r, y.1 ≠ x.1) → SortedI (insI x r)
  | [], _, _ => by simp [insI, SortedI]
  | y :: r, h, hx => by
    unfold insI
    have h' := List.pairwise_cons.1 h
    split
    · rename_i hl
      refine List.pairwise_cons.2 ⟨fun z hz => ?_, h⟩
      rcases List.mem_cons.1 hz with rfl | hz
      · exact hl
      · exact il_tr hl (h'.1 z hz)
    · rename_i hl
      have hl' : ilt x y = false := by simpa using hl
      refine List.pairwise_cons.2 ⟨fun z hz => ?_, insI_sorted x r h'.2 fun z hz => hx z (List.mem_cons_of_mem _ hz)⟩
      rcases List.mem_cons.1 ((insI_perm x r).subset hz) with rfl | hz
      · exact il_or hl' (Ne.symm (hx y (by simp)))
      · exact h'.1 z hz

theorem outI_sorted (id : Int) (r : Its Int) (h : SortedI r) : SortedI (outI id r) := List.Pairwise.filter _ h

/-- A heap in memory, told by the sorted list of its things. -/
def HM (S : Store) (hid hv rid mid mv : Nat) (r : Its Int) : Prop := ∃ l, HH S hid hv rid mid mv l ∧ l.Perm r ∧ SortedI r

theorem HM.cut {S T : Store} {hid hv rid mid mv : Nat} {r : Its Int} (h : HM T hid hv rid mid mv r) : HM (cut S [hid, rid, mid] T) hid hv rid mid mv r := by obtain ⟨l, h, k⟩ := h; exact ⟨l, h.cut, k⟩
theorem HM.len {S : Store} {hid hv rid mid mv : Nat} {r : Its Int} (h : HM S hid hv rid mid mv r) : r.length ≤ 2147483648 := by obtain ⟨l, h, k, _⟩ := h; rw [← k.length_eq]; exact h.1.len

theorem ata_mem {l : Its Int} {i : Nat} (hi : i < l.length) : ata l i ∈ l := by
  have : ata l i = l[i] := by unfold ata; simp [hi]
  rw [this]; exact List.getElem_mem hi
theorem mem_ata {l : Its Int} {x : Int × Int} (h : x ∈ l) : ∃ i, i < l.length ∧ ata l i = x := by
  obtain ⟨i, hi, rfl⟩ := List.getElem_of_mem h
  exact ⟨i, hi, by unfold ata; simp [hi]⟩

/-- What the map tells of a number. -/
theorem HS.look {S : Store} {hid hv rid mid mv : Nat} {l : Its Int} {g : Int → Option Nat} (h : HS S hid hv rid mid mv l g) (k : PosOk g l) (id : Int) : ∃ es res, S mid = .map mv es ∧ findP (.int .i64) (keyI id) es 0 = some res ∧
    ((hasI id l = false ∧ lookP true (.int .i64 0) res = .tup [pint 0, .sc (.bool false)]) ∨ (hasI id l = true ∧ ∃ i, i < l.length ∧ (ata l i).1 = id ∧ lookP true (.int .i64 0) res = .tup [pint i, .sc (.bool true)])) := by
  obtain ⟨es, h3, h4⟩ := h.m
  obtain ⟨res, m1, m2, m3, _, _⟩ := h4.find (keyOk_int .i64) id
  refine ⟨es, res, h3, m1, ?_⟩
  by_cases hi : ∃ i, i < l.length ∧ (ata l i).1 = id
  · obtain ⟨i, hi, e⟩ := hi
    refine .inr ⟨?_, i, hi, e, ?_⟩
    · simp only [hasI, List.any_eq_true]
      exact ⟨_, ata_mem hi, by simpa using e⟩
    · obtain ⟨j, rfl⟩ := m3 i (by rw [← e]; exact k.here i hi)
      rfl
  · refine .inl ⟨?_, ?_⟩
    · simp only [hasI, List.any_eq_false]
      intro x hx
      obtain ⟨i, hi', rfl⟩ := mem_ata hx
      simp; exact fun e => hi ⟨i, hi', e⟩
    · have := m2 (k.gone id fun i hi' e => hi ⟨i, hi', e⟩)
      subst this; rfl

theorem hasI_perm {id : Int} {l r : Its Int} (h : l.Perm r) : hasI id l = hasI id r := by
  unfold hasI
  rw [Bool.eq_iff_iff, List.any_eq_true, List.any_eq_true]
  exact ⟨fun ⟨x, hx, e⟩ => ⟨x, h.subset hx, e⟩, fun ⟨x, hx, e⟩ => ⟨x, h.symm.subset hx, e⟩⟩

theorem heapLen_ok {S : Store} {hid hv rid mid mv : Nat} {r : Its Int} (h : HM S hid hv rid mid mv r) :
    PCalls Tryz.prog 194 [.ptr hid hv 0] S (fun p S' => p = pint r.length ∧ S' = S) := by
  obtain ⟨l, ⟨hp, hh⟩, pm, hs⟩ := h
  refine pcalls_of_pw Tryz.func194 rfl Tryz.ntmps194 (congrArg Array.toList Tryz.results194) (by simp) ?_
  refine pw_seq (pw_R (by rfl) (by simp; rfl) (pw_seq (pw_L [] (by rfl) fun K hK => ?_)))
  simp -implicitDefEqProofs
  refine po_call rfl rfl rfl en195 (by exact hpLen hp) fun p S2 hq => ?_
  obtain ⟨rfl, rfl⟩ := hq
  simp -implicitDefEqProofs [pint]
  refine hK _ _ (pw_ret ⟨_, S2, rfl, ⟨?_, rfl⟩, fun o => .inl rfl⟩)
  rw [← pm.length_eq]; rfl

theorem heapPut_ok {S : Store} {hid hv rid mid mv : Nat} {r : Its Int} (h : HM S hid hv rid mid mv r) (id w : Int) (hn : r.length + 1 ≤ 2147483648) :
    PCalls Tryz.prog 127 [.ptr hid hv 0, pint id, pint w] S (fun p S' => p = pbool (!hasI id r) ∧ Off S [hid, rid, mid] S' ∧ HM S' hid hv rid mid mv (bif hasI id r then r else insI (id, w) r)) := by
  obtain ⟨l, ⟨hp, hh⟩, pm, hs⟩ := h
  have hp0 := hp
  obtain ⟨g, hS, hk⟩ := hp0
  obtain ⟨ver, h1, cs, h2, hR⟩ := hS.h
  obtain ⟨es, res, h3, h4, h5⟩ := hS.look hk id
  refine pcalls_of_pw Tryz.func127 rfl Tryz.ntmps127 (congrArg Array.toList Tryz.results127) (by simp) ?_
  refine pw_seq (pw_R (by rfl) (by simp; rfl) (pw_seq (pw_seq (pw_L [] (by rfl) fun K hK => ?_))))
  simp -implicitDefEqProofs [h1]
  refine po_lookup rfl Tryz.underlying134 Tryz.underlying3 rfl rfl rfl h3 h4 (by simp; rfl) ?_
  rcases h5 with ⟨h5, h6⟩ | ⟨h5, i, hi, hid, h6⟩
  · rw [h6]
    simp -implicitDefEqProofs
    refine hK _ _ ?_
    clear hK
    refine pw_seq (pw_R (by rfl) (by simp; rfl) (pw_cond rfl (fun q => by simp at q) (fun _ => pw_skip ?_)))
    refine pw_seq (pw_L [] (by rfl) fun K hK => ?_)
    simp -implicitDefEqProofs [pint]
    have hx : ∀ i, i < l.length → (ata l i).1 ≠ id := by
      intro i hi e
      have : hasI id l = true := by
        simp only [hasI, List.any_eq_true]; exact ⟨_, ata_mem hi, by simpa using e⟩
      rw [h5] at this; cases this
    refine po_call rfl rfl rfl en145 (by exact hPush_ok ⟨hp, hh⟩ (id, w) hx (by rw [pm.length_eq]; exact hn)) fun p S3 hq => ?_
    obtain ⟨o3, l', hh', pm'⟩ := hq
    refine hK _ _ ?_
    clear hK
    refine pw_seq (pw_R (by rfl) (by simp; rfl) (pw_ret ?_))
    rw [← hasI_perm pm, h5]
    refine ⟨_, _, rfl, ⟨rfl, cut_off _ _ _, HM.cut ⟨l', hh', pm'.trans (((List.Perm.cons _ pm)).trans (insI_perm _ _).symm), insI_sorted _ _ hs fun y hy e => ?_⟩⟩, cut_ok o3.offd⟩
    obtain ⟨j, hj, rfl⟩ := mem_ata (pm.symm.subset hy)
    exact hx j hj e
  · rw [h6]
    simp -implicitDefEqProofs
    refine hK _ _ ?_
    clear hK
    refine pw_seq (pw_R (by rfl) (by simp; rfl) (pw_cond rfl (fun _ => ?_) (fun q => by simp at q)))
    refine pw_seq (pw_R (by rfl) (by simp; rfl) (pw_ret ?_))
    rw [← hasI_perm pm, h5]
    exact ⟨_, _, rfl, ⟨rfl, fun _ _ => rfl, ⟨l, ⟨hp, hh⟩, pm, hs⟩⟩, fun o => .inl rfl⟩

end Go.Proofs.YtafcjklojnhbnaaGreat.Pv
