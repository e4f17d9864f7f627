/- The methods of Heap[int], told by a sorted list: the others. -/
import Derived.Test.YtafcjklojnhbnaaGreatHe
namespace Go.Proofs.YtafcjklojnhbnaaGreat.Pv
open Go Hp

theorem nodup_of_sorted {r : Its Int} (h : SortedI r) : r.Nodup := List.Pairwise.imp (fun {a b} hab e => by rw [e, il_irr] at hab; cases hab) h

theorem sorted_eq : ∀ {a b : Its Int}, a.Perm b → SortedI a → SortedI b → a = b
  | [], b, h, _, _ => by rw [List.nil_perm.1 h]
  | x :: a, [], h, _, _ => by cases List.perm_nil.1 h
  | x :: a, y :: b, h, ha, hb => by
    have ha' := List.pairwise_cons.1 ha
    have hb' := List.pairwise_cons.1 hb
    have e : x = y := by
      rcases List.mem_cons.1 (h.subset (List.mem_cons_self)) with e | hx
      · exact e
      · rcases List.mem_cons.1 (h.symm.subset (List.mem_cons_self)) with e | hy
        · exact e.symm
        · have h1 := ha'.1 y hy
          have h2 := hb'.1 x hx
          have := il_tr h1 h2
          rw [il_irr] at this; cases this
    subst e
    rw [sorted_eq (List.Perm.cons_inv h) ha'.2 hb'.2]

theorem cons_erase {α} : ∀ (l : List α) (i : Nat) (hi : i < l.length), (l[i] :: l.eraseIdx i).Perm l
  | x :: l, 0, _ => by simp
  | x :: l, i + 1, hi => by
    simp only [List.getElem_cons_succ, List.eraseIdx_cons_succ]
    exact (List.Perm.swap _ _ _).trans ((cons_erase l i (by simpa using hi)).cons x)
theorem set_erase {α} : ∀ (l : List α) (i : Nat) (a : α), i < l.length → (l.set i a).Perm (a :: l.eraseIdx i)
  | x :: l, 0, a, _ => by simp
  | x :: l, i + 1, a, hi => by
    simp only [List.set_cons_succ, List.eraseIdx_cons_succ]
    exact ((set_erase l i a (by simpa using hi)).cons x).trans (List.Perm.swap _ _ _)

/-- A number stands once. -/
def Once (r : Its Int) : Prop := (r.map (·.1)).Nodup

theorem HP.once {S : Store} {hid hv rid mid mv : Nat} {l : Its Int} (h : HP S hid hv rid mid mv l) : Once l := by
  obtain ⟨g, _, k⟩ := h
  unfold Once
  refine List.pairwise_iff_getElem.2 fun i j hi hj hij e => ?_
  simp only [List.length_map] at hi hj
  simp only [List.getElem_map] at e
  have q : ∀ i (hi : i < l.length), ata l i = l[i] := fun i hi => by unfold ata; simp [hi]
  have := k.inj hi hj (by rw [q i hi, q j hj]; exact e)
  omega

theorem Once.perm {l r : Its Int} (h : l.Perm r) (k : Once l) : Once r := (List.Perm.nodup_iff (h.map fun x : Int × Int => x.1)).1 k

theorem HM.once {S : Store} {hid hv rid mid mv : Nat} {r : Its Int} (h : HM S hid hv rid mid mv r) : Once r := by
  obtain ⟨l, ⟨hp, _⟩, pm, _⟩ := h
  exact hp.once.perm pm

theorem outI_cons {x : Int × Int} {l : Its Int} (h : Once (x :: l)) : outI x.1 (x :: l) = l := by
  unfold outI
  rw [List.filter_cons, if_neg (by simp), List.filter_eq_self]
  intro y hy
  simp only [decide_eq_true_eq]
  intro e
  have := (List.nodup_cons.1 (show (x.1 :: l.map (·.1)).Nodup from h)).1
  exact this (List.mem_map.2 ⟨y, hy, e⟩)

theorem outI_perm {l r : Its Int} (id : Int) (h : l.Perm r) : (outI id l).Perm (outI id r) := h.filter _

theorem outI_none {id : Int} {l : Its Int} (h : hasI id l = false) : outI id l = l := by
  unfold outI
  rw [List.filter_eq_self]
  intro y hy
  simp only [hasI, List.any_eq_false] at h
  simpa using h y hy

theorem heapDrop_ok {S : Store} {hid hv rid mid mv : Nat} {r : Its Int} (h : HM S hid hv rid mid mv r) (id : Int) :
    PCalls Tryz.prog 147 [.ptr hid hv 0, pint id] S (fun p S' => p = pbool (hasI id r) ∧ Off S [hid, rid, mid] S' ∧ HM S' hid hv rid mid mv (outI id r)) := by
  have hM := h
  obtain ⟨l, ⟨hp, hh⟩, pm, hs⟩ := h
  have hp0 := hp
  obtain ⟨g, hS, hk⟩ := hp0
  obtain ⟨ver, h1, cs, h2, hR⟩ := hS.h
  obtain ⟨es, res, h3, h4, h5⟩ := hS.look hk id
  refine pcalls_of_pw Tryz.func147 rfl Tryz.ntmps147 (congrArg Array.toList Tryz.results147) (by simp) ?_
  refine pw_seq (pw_R (by rfl) (by simp; rfl) (pw_seq (pw_L [] (by rfl) fun K hK => ?_)))
  simp -implicitDefEqProofs [h1]
  refine po_lookup rfl Tryz.underlying134 Tryz.underlying3 rfl rfl rfl h3 h4 (by simp; rfl) ?_
  rw [hasI_perm pm] at h5
  rcases h5 with ⟨h5, h6⟩ | ⟨h5, i, hi, hid, h6⟩
  · rw [h6]
    simp -implicitDefEqProofs
    refine hK _ _ ?_
    clear hK
    refine pw_seq (pw_seq (pw_R (by rfl) (by simp; rfl) (pw_cond rfl (fun _ => ?_) (fun q => by simp at q))))
    refine pw_seq (pw_R (by rfl) (by simp; rfl) (pw_ret ?_))
    rw [h5, outI_none h5]
    exact ⟨_, _, rfl, ⟨rfl, fun _ _ => rfl, hM⟩, fun o => .inl rfl⟩
  · rw [h6]
    simp -implicitDefEqProofs [pint]
    refine hK _ _ ?_
    clear hK
    refine pw_seq (pw_seq (pw_R (by rfl) (by simp; rfl) (pw_cond rfl (fun q => by simp at q) (fun _ => pw_skip ?_))))
    refine pw_seq (pw_L [] (by rfl) fun K hK => ?_)
    simp -implicitDefEqProofs
    refine po_call rfl rfl rfl en162 (by exact hRemove_ok ⟨hp, hh⟩ i hi) fun p S3 hq => ?_
    obtain ⟨_, o3, l', hh', pm'⟩ := hq
    refine hK _ _ ?_
    clear hK
    refine pw_seq (pw_R (by rfl) (by simp; rfl) (pw_ret ?_))
    rw [h5]
    have e1 : outI id (ata l i :: l') = l' := by rw [← hid]; exact outI_cons (Once.perm pm'.symm hp.once)
    refine ⟨_, _, rfl, ⟨rfl, cut_off _ _ _, HM.cut ⟨l', hh', ?_, outI_sorted id r hs⟩⟩, cut_ok o3.offd⟩
    have := outI_perm id (pm'.trans pm)
    rw [e1] at this
    exact this

theorem RowIs.putW {cs : List PV} {l : Its Int} (h : RowIs cs l) (i : Nat) (hi : i < l.length) (w : Int) : RowIs (splice cs (i * 2 + 1) [.sc (.int .i64 w)]) (l.set i ((ata l i).1, w)) := by
  obtain ⟨tl, e⟩ := h.at i hi
  have h2 := h.put i hi ((ata l i).1, w)
  have : splice cs (i * 2 + 1) [.sc (.int .i64 w)] = splice cs (i * 2) [.sc (.int .i64 (ata l i).1), .sc (.int .i64 w)] := by
    unfold splice
    rw [List.take_add, e]
    simp
  rw [this]; exact h2

end Go.Proofs.YtafcjklojnhbnaaGreat.Pv
