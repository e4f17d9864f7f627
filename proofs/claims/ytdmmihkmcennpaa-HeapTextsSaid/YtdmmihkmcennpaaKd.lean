/- (Texts as worths.) Heaps in memory: Push, Remove, Fix of container/heap. -/
import Derived.Test.YtdmmihkmcennpaaKc
import Derived.Test.YtdmmihkmcennpaaHd
namespace Go.Proofs.Ytdmmihkmcennpaa.Ps
open Go Hp Pv

/-- A heap in memory that is a heap. -/
def HH (S : Store) (hid hv rid mid mv : Nat) (l : Its ByteArray) : Prop := HP S hid hv rid mid mv l ∧ Heap ltB l l.length

theorem HH.cut {S T : Store} {hid hv rid mid mv : Nat} {l : Its ByteArray} (h : HH T hid hv rid mid mv l) : HH (cut S [hid, rid, mid] T) hid hv rid mid mv l := ⟨h.1.cut, h.2⟩

theorem hPush_ok {S : Store} {hid hv rid mid mv : Nat} {l : Its ByteArray} (h : HH S hid hv rid mid mv l) (x : Int × ByteArray) (hx : ∀ i, i < l.length → (ata l i).1 ≠ x.1) (hn : l.length + 1 ≤ 2147483648) :
    PCalls Try.prog 24 [hI hid hv, .ifc 59 (.agg (encT x))] S (fun _ S' => Off S [hid, rid, mid] S' ∧ ∃ l', HH S' hid hv rid mid mv l' ∧ l'.Perm (x :: l)) := by
  obtain ⟨hp, hh⟩ := h
  refine pcalls_of_pw Try.func24 rfl Try.ntmps24 (congrArg Array.toList Try.results24) (by simp) ?_
  refine pw_seq (pw_L [] (by rfl) fun K hK => ?_)
  simp -implicitDefEqProofs
  refine po_invoke rfl rfl rfl mPush en83 (by exact hpPush hp x hx hn) fun p S1 hq => ?_
  obtain ⟨o1, p1⟩ := hq
  refine hK _ _ ?_
  clear hK
  refine pw_L [] (by rfl) fun K hK => ?_
  simp -implicitDefEqProofs
  refine po_invoke rfl rfl rfl mLen en27 (by exact hpLen p1) fun p S2 hq => ?_
  obtain ⟨rfl, rfl⟩ := hq
  have w1 : IntKind.i64.wrap (l.length : Int) = l.length := wrap64 _ (by omega) (by omega)
  simp -implicitDefEqProofs [pint, w1]
  obtain ⟨q1, q2, q3, _⟩ := upL_spec ltB_str (l.length + 1) (l ++ [x]) (l.length + 1) l.length (by simp) (by omega) (by omega) (heap_push x hh)
  refine po_call rfl rfl rfl en41 (by exact up_ok p1 l.length (by simp)) fun p S3 hq => ?_
  obtain ⟨o3, p3⟩ := hq
  refine hK _ _ ⟨_, _, rfl, ⟨cut_off _ _ _, _, HH.cut ⟨p3, ?_⟩, q2.trans (List.perm_append_comm (l₁ := l) (l₂ := [x]))⟩, cut_ok (o1.trans o3).offd⟩
  rw [q3]; simpa using q1

theorem hRemove_ok {S : Store} {hid hv rid mid mv : Nat} {l : Its ByteArray} (h : HH S hid hv rid mid mv l) (i : Nat) (hi : i < l.length) :
    PCalls Try.prog 42 [hI hid hv, pint i] S (fun p S' => p = .ifc 59 (.agg (encT (ata l i))) ∧ Off S [hid, rid, mid] S' ∧ ∃ l', HH S' hid hv rid mid mv l' ∧ (ata l i :: l').Perm l) := by
  obtain ⟨hp, hh⟩ := h
  have hlen := hp.len
  obtain ⟨n, hn⟩ : ∃ n, n + 1 = l.length := ⟨l.length - 1, by omega⟩
  refine pcalls_of_pw Try.func42 rfl Try.ntmps42 (congrArg Array.toList Try.results42) (by simp) ?_
  refine pw_seq (pw_R (by rfl) (by simp; rfl) (pw_seq (pw_L [] (by rfl) fun K hK => ?_)))
  simp -implicitDefEqProofs
  refine po_invoke rfl rfl rfl mLen en27 (by exact hpLen hp) fun p S2 hq => ?_
  obtain ⟨rfl, rfl⟩ := hq
  have w1 : IntKind.i64.wrap ((l.length : Int) - 1) = n := by rw [wrap64 _ (by omega) (by omega)]; omega
  simp -implicitDefEqProofs [pint, w1]
  refine hK _ _ ?_
  clear hK
  refine pw_seq (pw_mono (Q := fun e F' T' => e = .normal ∧ F' 0 = hI hid hv ∧ Off S2 [hid, rid, mid] T' ∧ ∃ l3 : Its ByteArray, HP T' hid hv rid mid mv l3 ∧ Heap ltB l3 n ∧ l3.Perm l ∧ l3.length = l.length ∧ ata l3 n = ata l i) ?_ ?_)
  · refine pw_seq (pw_R (by rfl) (by simp [pint]; rfl) ?_)
    by_cases hc : n = i
    · refine pw_cond rfl (fun q => by simp [hc] at q) (fun _ => pw_skip ⟨rfl, rfl, fun _ _ => rfl, l, hp, fun k k0 kn => hh k k0 (by omega), .refl _, rfl, by rw [hc]⟩)
    · have hc' : ¬ (n : Int) = i := by omega
      refine pw_cond rfl (fun _ => ?_) (fun q => by simp [hc'] at q)
      refine pw_seq (pw_L [] (by rfl) fun K hK => ?_)
      simp -implicitDefEqProofs [pint]
      refine po_invoke rfl rfl rfl mSwap en84 (by exact hpSwap hp i n (by omega) (by omega)) fun p S3 hq => ?_
      obtain ⟨o3, p3⟩ := hq
      refine hK _ _ ?_
      clear hK
      have inv := heap_swap ltB_str i n (by omega) hn hh
      have hsl := swp_len l i n
      obtain ⟨s1, s2, s3, s4⟩ := fixL_spec ltB_str (swp l i n) i n (by omega) (by omega) inv
      have hlast : ata (fixL ltB (swp l i n) i n) n = ata l i := by rw [s4 n (Nat.le_refl _), ata_swp l i n n hi (by omega), if_pos rfl]
      refine pw_seq (pw_L [] (by rfl) fun K hK => ?_)
      simp -implicitDefEqProofs [pint]
      refine po_call rfl rfl rfl en43 (by exact down_ok p3 i n (by omega) (by omega)) fun p S4 hq => ?_
      obtain ⟨rfl, o4, p4⟩ := hq
      simp -implicitDefEqProofs [pbool]
      refine hK _ _ ?_
      clear hK
      by_cases hm : i < (downL ltB n (swp l i n) i n).2
      · refine pw_cond rfl (fun q => by simp at q; omega) (fun _ => pw_skip ⟨rfl, rfl, o3.trans o4, fixL ltB (swp l i n) i n, ?_, s1, s2.trans (swp_perm l _ _ hi (by omega)), s3.trans hsl, hlast⟩)
        unfold fixL; rw [if_pos hm]; exact p4
      · refine pw_cond rfl (fun _ => ?_) (fun q => by simp at q; omega)
        refine pw_L [] (by rfl) fun K hK => ?_
        simp -implicitDefEqProofs [pint]
        have hdl : (downL ltB n (swp l i n) i n).1.length = l.length := ((downL_spec ltB_str n (swp l i n) n i (by omega) (by omega) (by omega) inv).2.1).trans hsl
        refine po_call rfl rfl rfl en41 (by exact up_ok p4 i (by omega)) fun p S5 hq => ?_
        obtain ⟨o5, p5⟩ := hq
        refine hK _ _ ⟨rfl, rfl, (o3.trans o4).trans o5, fixL ltB (swp l i n) i n, ?_, s1, s2.trans (swp_perm l _ _ hi (by omega)), s3.trans hsl, hlast⟩
        unfold fixL; rw [if_neg hm]; exact p5
  · rintro e F T ⟨rfl, f0, hoff, l3, p3, h3, pm, hl3, hx⟩
    have hsp := split_last l3 n (by omega)
    rw [hx] at hsp
    rw [hsp] at p3 pm
    refine pw_seq (pw_L [] (by rfl) fun K hK => ?_)
    simp -implicitDefEqProofs [f0]
    refine po_invoke rfl rfl rfl mPop en82 (by exact hpPop _ p3) fun p S4 hq => ?_
    obtain ⟨rfl, o4, p4⟩ := hq
    have hheap : Heap ltB (l3.take n) (l3.take n).length := by
      have e : (l3.take n).length = n := by simp; omega
      rw [e]; exact heap_take n h3
    refine hK _ _ (pw_ret ⟨_, _, rfl, ⟨rfl, cut_off _ _ _, _, HH.cut ⟨p4, hheap⟩, ?_⟩, cut_ok (hoff.trans o4).offd⟩)
    exact (List.perm_append_comm (l₁ := [ata l i]) (l₂ := l3.take n)).trans pm

end Go.Proofs.Ytdmmihkmcennpaa.Ps
