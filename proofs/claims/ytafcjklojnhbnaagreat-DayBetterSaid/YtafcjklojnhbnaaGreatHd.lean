/- Heaps in memory: Push, Remove, Fix of container/heap. -/
import Derived.Test.YtafcjklojnhbnaaGreatHc
namespace Go.Proofs.YtafcjklojnhbnaaGreat.Hp
section
variable {α : Type} [DecidableEq α] [Inhabited α] {lt : α → α → Bool}

/-- A thing is put in its right place: the way down, else the way up. -/
def fixL (lt : α → α → Bool) (l : Its α) (i n : Nat) : Its α := if i < (downL lt n l i n).2 then (downL lt n l i n).1 else upL lt (i + 1) (downL lt n l i n).1 i

theorem fixL_spec (h : Str lt) (l : Its α) (i n : Nat) (hn : n ≤ l.length) (hi : i < n) (inv : DownInv lt l n i) : Heap lt (fixL lt l i n) n ∧ (fixL lt l i n).Perm l ∧ (fixL lt l i n).length = l.length ∧ ∀ k, n ≤ k → ata (fixL lt l i n) k = ata l k := by
  obtain ⟨q1, q2, q3, q4, q5, q6, q7⟩ := downL_spec h n l n i hn hi (by omega) inv
  unfold fixL
  split
  · rename_i hm; exact ⟨q6 hm, q1, q2, q3⟩
  · rename_i hm
    obtain ⟨r1, r2⟩ := q7 (by omega)
    rw [r1]
    exact upL_spec h (i + 1) l n i hn hi (by omega) ⟨r2, inv.kids⟩

theorem heap_push {l : Its α} (x : Int × α) (h : Heap lt l l.length) : UpInv lt (l ++ [x]) (l.length + 1) l.length := by
  have ap : ∀ k, k < l.length → ata (l ++ [x]) k = ata l k := fun k hk => by
    unfold ata; rw [List.getD_eq_getElem?_getD, List.getD_eq_getElem?_getD, List.getElem?_append_left hk]
  refine ⟨fun k k0 kn kj => ?_, fun k k0 kn kp j0 => ?_⟩
  · have := par_lt k0
    rw [ap k (by omega), ap (par k) (by omega)]
    exact h k k0 (by omega)
  · have := par_lt k0; omega

theorem heap_swap (hs : Str lt) {l : Its α} (i n : Nat) (hi : i < n) (hn : n + 1 = l.length) (h : Heap lt l l.length) : DownInv lt (swp l i n) n i := by
  have at' := fun k => ata_swp l i n k (by omega) (by omega)
  refine ⟨fun k k0 kn kp ki => ?_, fun k k0 kn kp i0 => ?_⟩
  · have := par_lt k0
    rw [at' k, at' (par k), if_neg (by omega), if_neg ki, if_neg (by omega), if_neg kp]
    exact h k k0 (by omega)
  · have := par_lt k0
    have := par_lt i0
    rw [at' k, at' (par i), if_neg (by omega), if_neg (by omega), if_neg (by omega), if_neg (by omega)]
    have e1 := h k k0 (by omega)
    rw [kp] at e1
    exact nlt_trans hs e1 (h i i0 (by omega))

theorem heap_set (hs : Str lt) {l : Its α} (i : Nat) (x : Int × α) (hi : i < l.length) (h : Heap lt l l.length) : DownInv lt (l.set i x) l.length i := by
  have at' := fun k => ata_set l i k x hi
  refine ⟨fun k k0 kn kp ki => ?_, fun k k0 kn kp i0 => ?_⟩
  · rw [at' k, at' (par k), if_neg ki, if_neg kp]
    exact h k k0 kn
  · have := par_lt k0
    have := par_lt i0
    rw [at' k, at' (par i), if_neg (by omega), if_neg (by omega)]
    have e1 := h k k0 kn
    rw [kp] at e1
    exact nlt_trans hs e1 (h i i0 hi)

theorem heap_take {l : Its α} (n : Nat) (h : Heap lt l n) : Heap lt (l.take n) n := by
  intro k k0 kn
  have := par_lt k0
  have e : ∀ j, j < n → ata (l.take n) j = ata l j := fun j hj => by
    unfold ata; rw [List.getD_eq_getElem?_getD, List.getD_eq_getElem?_getD, List.getElem?_take, if_pos hj]
  rw [e k kn, e (par k) (by omega)]
  exact h k k0 kn

end

theorem split_last {α : Type} [Inhabited α] (l : Its α) (n : Nat) (hn : n + 1 = l.length) : l = l.take n ++ [ata l n] := by
  apply List.ext_getElem?
  intro k
  rw [List.getElem?_append]
  by_cases h1 : k < n
  · rw [if_pos (by simp; omega), List.getElem?_take, if_pos h1]
  · rw [if_neg (by simp; omega)]
    by_cases h2 : k = n
    · subst h2
      have : k < l.length := by omega
      simp [ata, this, Nat.min_eq_left (Nat.le_of_lt this)]
    · rw [List.getElem?_eq_none (by omega), List.getElem?_eq_none (by simp; omega)]

end Go.Proofs.YtafcjklojnhbnaaGreat.Hp
namespace Go.Proofs.YtafcjklojnhbnaaGreat.Pv
open Go Hp

/-- A heap in memory that is a heap. -/
def HH (S : Store) (hid hv rid mid mv : Nat) (l : Its Int) : Prop := HP S hid hv rid mid mv l ∧ Heap ltI l l.length

theorem HH.cut {S T : Store} {hid hv rid mid mv : Nat} {l : Its Int} (h : HH T hid hv rid mid mv l) : HH (cut S [hid, rid, mid] T) hid hv rid mid mv l := ⟨h.1.cut, h.2⟩

theorem hPush_ok {S : Store} {hid hv rid mid mv : Nat} {l : Its Int} (h : HH S hid hv rid mid mv l) (x : Int × Int) (hx : ∀ i, i < l.length → (ata l i).1 ≠ x.1) (hn : l.length + 1 ≤ 2147483648) :
    PCalls Tryz.prog 145 [hI hid hv, .ifc 217 (.agg (encT x))] S (fun _ S' => Off S [hid, rid, mid] S' ∧ ∃ l', HH S' hid hv rid mid mv l' ∧ l'.Perm (x :: l)) := by
  obtain ⟨hp, hh⟩ := h
  refine pcalls_of_pw Tryz.func145 rfl Tryz.ntmps145 (congrArg Array.toList Tryz.results145) (by simp) ?_
  refine pw_seq (pw_L [] (by rfl) fun K hK => ?_)
  simp -implicitDefEqProofs
  refine po_invoke rfl rfl rfl mPush en198 (by exact hpPush hp x hx hn) fun p S1 hq => ?_
  obtain ⟨o1, p1⟩ := hq
  refine hK _ _ ?_
  clear hK
  refine pw_L [] (by rfl) fun K hK => ?_
  simp -implicitDefEqProofs
  refine po_invoke rfl rfl rfl mLen en195 (by exact hpLen p1) fun p S2 hq => ?_
  obtain ⟨rfl, rfl⟩ := hq
  have w1 : IntKind.i64.wrap (l.length : Int) = l.length := wrap64 _ (by omega) (by omega)
  simp -implicitDefEqProofs [pint, w1]
  obtain ⟨q1, q2, q3, _⟩ := upL_spec ltI_str (l.length + 1) (l ++ [x]) (l.length + 1) l.length (by simp) (by omega) (by omega) (heap_push x hh)
  refine po_call rfl rfl rfl en161 (by exact up_ok p1 l.length (by simp)) fun p S3 hq => ?_
  obtain ⟨o3, p3⟩ := hq
  refine hK _ _ ⟨_, _, rfl, ⟨cut_off _ _ _, _, HH.cut ⟨p3, ?_⟩, q2.trans (List.perm_append_comm (l₁ := l) (l₂ := [x]))⟩, cut_ok (o1.trans o3).offd⟩
  rw [q3]; simpa using q1

theorem hRemove_ok {S : Store} {hid hv rid mid mv : Nat} {l : Its Int} (h : HH S hid hv rid mid mv l) (i : Nat) (hi : i < l.length) :
    PCalls Tryz.prog 162 [hI hid hv, pint i] S (fun p S' => p = .ifc 217 (.agg (encT (ata l i))) ∧ Off S [hid, rid, mid] S' ∧ ∃ l', HH S' hid hv rid mid mv l' ∧ (ata l i :: l').Perm l) := by
  obtain ⟨hp, hh⟩ := h
  have hlen := hp.len
  obtain ⟨n, hn⟩ : ∃ n, n + 1 = l.length := ⟨l.length - 1, by omega⟩
  refine pcalls_of_pw Tryz.func162 rfl Tryz.ntmps162 (congrArg Array.toList Tryz.results162) (by simp) ?_
  refine pw_seq (pw_R (by rfl) (by simp; rfl) (pw_seq (pw_L [] (by rfl) fun K hK => ?_)))
  simp -implicitDefEqProofs
  refine po_invoke rfl rfl rfl mLen en195 (by exact hpLen hp) fun p S2 hq => ?_
  obtain ⟨rfl, rfl⟩ := hq
  have w1 : IntKind.i64.wrap ((l.length : Int) - 1) = n := by rw [wrap64 _ (by omega) (by omega)]; omega
  simp -implicitDefEqProofs [pint, w1]
  refine hK _ _ ?_
  clear hK
  refine pw_seq (pw_mono (Q := fun e F' T' => e = .normal ∧ F' 0 = hI hid hv ∧ Off S2 [hid, rid, mid] T' ∧ ∃ l3 : Its Int, HP T' hid hv rid mid mv l3 ∧ Heap ltI l3 n ∧ l3.Perm l ∧ l3.length = l.length ∧ ata l3 n = ata l i) ?_ ?_)
  · refine pw_seq (pw_R (by rfl) (by simp; rfl) ?_)
    by_cases hc : n = i
    · refine pw_cond rfl (fun q => by simp [hc] at q) (fun _ => pw_skip ⟨rfl, rfl, fun _ _ => rfl, l, hp, fun k k0 kn => hh k k0 (by omega), .refl _, rfl, by rw [hc]⟩)
    · have hc' : ¬ (n : Int) = i := by omega
      refine pw_cond rfl (fun _ => ?_) (fun q => by simp [hc'] at q)
      refine pw_seq (pw_L [] (by rfl) fun K hK => ?_)
      simp -implicitDefEqProofs
      refine po_invoke rfl rfl rfl mSwap en199 (by exact hpSwap hp i n (by omega) (by omega)) fun p S3 hq => ?_
      obtain ⟨o3, p3⟩ := hq
      refine hK _ _ ?_
      clear hK
      have inv := heap_swap ltI_str i n (by omega) hn hh
      have hsl := swp_len l i n
      obtain ⟨s1, s2, s3, s4⟩ := fixL_spec ltI_str (swp l i n) i n (by omega) (by omega) inv
      have hlast : ata (fixL ltI (swp l i n) i n) n = ata l i := by rw [s4 n (Nat.le_refl _), ata_swp l i n n hi (by omega), if_pos rfl]
      refine pw_seq (pw_L [] (by rfl) fun K hK => ?_)
      simp -implicitDefEqProofs
      refine po_call rfl rfl rfl en164 (by exact down_ok p3 i n (by omega) (by omega)) fun p S4 hq => ?_
      obtain ⟨rfl, o4, p4⟩ := hq
      simp -implicitDefEqProofs [pbool]
      refine hK _ _ ?_
      clear hK
      by_cases hm : i < (downL ltI n (swp l i n) i n).2
      · refine pw_cond rfl (fun q => by simp at q; omega) (fun _ => pw_skip ⟨rfl, rfl, o3.trans o4, fixL ltI (swp l i n) i n, ?_, s1, s2.trans (swp_perm l _ _ hi (by omega)), s3.trans hsl, hlast⟩)
        unfold fixL; rw [if_pos hm]; exact p4
      · refine pw_cond rfl (fun _ => ?_) (fun q => by simp at q; omega)
        refine pw_L [] (by rfl) fun K hK => ?_
        simp -implicitDefEqProofs
        have hdl : (downL ltI n (swp l i n) i n).1.length = l.length := ((downL_spec ltI_str n (swp l i n) n i (by omega) (by omega) (by omega) inv).2.1).trans hsl
        refine po_call rfl rfl rfl en161 (by exact up_ok p4 i (by omega)) fun p S5 hq => ?_
        obtain ⟨o5, p5⟩ := hq
        refine hK _ _ ⟨rfl, rfl, (o3.trans o4).trans o5, fixL ltI (swp l i n) i n, ?_, s1, s2.trans (swp_perm l _ _ hi (by omega)), s3.trans hsl, hlast⟩
        unfold fixL; rw [if_neg hm]; exact p5
  · rintro e F T ⟨rfl, f0, hoff, l3, p3, h3, pm, hl3, hx⟩
    have hsp := split_last l3 n (by omega)
    rw [hx] at hsp
    rw [hsp] at p3 pm
    refine pw_seq (pw_L [] (by rfl) fun K hK => ?_)
    simp -implicitDefEqProofs [f0]
    refine po_invoke rfl rfl rfl mPop en197 (by exact hpPop _ p3) fun p S4 hq => ?_
    obtain ⟨rfl, o4, p4⟩ := hq
    have hheap : Heap ltI (l3.take n) (l3.take n).length := by
      have e : (l3.take n).length = n := by simp; omega
      rw [e]; exact heap_take n h3
    refine hK _ _ (pw_ret ⟨_, _, rfl, ⟨rfl, cut_off _ _ _, _, HH.cut ⟨p4, hheap⟩, ?_⟩, cut_ok (hoff.trans o4).offd⟩)
    exact (List.perm_append_comm (l₁ := [ata l i]) (l₂ := l3.take n)).trans pm

end Go.Proofs.YtafcjklojnhbnaaGreat.Pv
