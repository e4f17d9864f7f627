/- The law HeapSame. -/
import Derived.Test.YtdmmihkmcennpaaHi
namespace Go.Proofs.Ytdmmihkmcennpaa.Pv
open Go Hp

def encI (x : Int) : List PV := [.sc (.int .i64 x)]
theorem encI_len (x : Int) : (encI x).length = 1 := rfl

def nthI (ys : List Int) (i : Nat) : Int := ys.getD i 0

/-- Two heaps that lie apart. -/
structure Two (S T : Store) (a b c d e f : Nat) (ra rb : Its Int) : Prop where
  off : Off S [a, b, c, d, e, f] T
  one : HM T a b c ra
  two : HM T d e f rb
  apart : ∀ o ∈ [a, b, c], o ∉ [d, e, f]
  dead : ∀ o ∈ [a, b, c, d, e, f], S o = .dead

theorem Two.left {S T U : Store} {a b c d e f : Nat} {ra rb ra' : Its Int} (h : Two S T a b c d e f ra rb) (ho : Off T [a, b, c] U) (hm : HM U a b c ra') : Two S U a b c d e f ra' rb := by
  refine ⟨fun o q => ?_, hm, h.two.congr fun o q => ho o fun k => h.apart o k q, h.apart, h.dead⟩
  rw [ho o (fun k => q (by simp at k ⊢; rcases k with k | k | k <;> simp [k]))]
  exact h.off o q
theorem Two.right {S T U : Store} {a b c d e f : Nat} {ra rb rb' : Its Int} (h : Two S T a b c d e f ra rb) (ho : Off T [d, e, f] U) (hm : HM U d e f rb') : Two S U a b c d e f ra rb' := by
  refine ⟨fun o q => ?_, h.one.congr fun o q => ho o fun k => h.apart o q k, hm, h.apart, h.dead⟩
  rw [ho o (fun k => q (by simp at k ⊢; rcases k with k | k | k <;> simp [k]))]
  exact h.off o q

theorem HM.sorted {S : Store} {hid rid mid : Nat} {r : Its Int} (h : HM S hid rid mid r) : SortedI r := by obtain ⟨_, _, _, h⟩ := h; exact h

theorem sorted_mem_eq : ∀ {a b : Its Int}, SortedI a → SortedI b → (∀ x, x ∈ a ↔ x ∈ b) → a = b
  | [], [], _, _, _ => rfl
  | [], y :: b, _, _, h => absurd ((h y).2 (List.mem_cons_self)) (by simp)
  | x :: a, [], _, _, h => absurd ((h x).1 (List.mem_cons_self)) (by simp)
  | x :: a, y :: b, ha, hb, h => by
    have ha' := List.pairwise_cons.1 ha
    have hb' := List.pairwise_cons.1 hb
    have na : ∀ z ∈ a, z ≠ x := fun z hz e => by have := ha'.1 z hz; rw [e, il_irr] at this; cases this
    have nb : ∀ z ∈ b, z ≠ y := fun z hz e => by have := hb'.1 z hz; rw [e, il_irr] at this; cases this
    have e : x = y := by
      rcases List.mem_cons.1 ((h x).1 (List.mem_cons_self)) with e | hx
      · exact e
      · rcases List.mem_cons.1 ((h y).2 (List.mem_cons_self)) with e | hy
        · exact e.symm
        · have := il_tr (ha'.1 y hy) (hb'.1 x hx)
          rw [il_irr] at this; cases this
    subst e
    rw [sorted_mem_eq ha'.2 hb'.2 fun z => ?_]
    constructor
    · intro hz
      exact (List.mem_cons.1 ((h z).1 (List.mem_cons_of_mem _ hz))).resolve_left (na z hz)
    · intro hz
      exact (List.mem_cons.1 ((h z).2 (List.mem_cons_of_mem _ hz))).resolve_left (nb z hz)

theorem insI_mem {x y : Int × Int} {r : Its Int} : y ∈ insI x r ↔ y = x ∨ y ∈ r := by
  rw [(insI_perm x r).mem_iff]; simp
theorem outI_mem {id : Int} {y : Int × Int} {r : Its Int} : y ∈ outI id r ↔ y ∈ r ∧ y.1 ≠ id := by
  simp [outI]
theorem hasI_false {id : Int} {r : Its Int} (h : ∀ x ∈ r, x.1 ≠ id) : hasI id r = false := by
  simp only [hasI, List.any_eq_false]; intro x hx; simpa using h x hx
theorem hasI_true {id : Int} {r : Its Int} {x : Int × Int} (h : x ∈ r) (e : x.1 = id) : hasI id r = true := by
  simp only [hasI, List.any_eq_true]; exact ⟨x, h, by simpa using e⟩

theorem heapSame_ok {S : Store} (xs : List Int) : PCalls Try.prog 5 [plist encI xs] S (fun p S' => p = pbool true ∧ S' = S) := by
  refine pcalls_of_pw Try.func5 rfl Try.ntmps5 (congrArg Array.toList Try.results5) (by simp) ?_
  refine pw_seq (pw_R (by rfl) (by simp; rfl) (pw_seq ?_))
  refine pw_mono (Q := fun e F T => e = .normal ∧ T = S ∧ ∃ ys : List Int, ys.length ≤ 30 ∧ F 0 = plist encI ys) ?_ ?_
  · refine pw_seq (pw_R (by rfl) (by simp [plist]; rfl) ?_)
    by_cases hc : 30 < xs.length
    · have hc' : (30 : Int) < xs.length := by omega
      refine pw_cond rfl (fun _ => ?_) (fun q => by simp [hc'] at q)
      have hl : 30 ≤ xs.length := by omega
      refine pw_R (by rfl) (by simp [hl]; rfl) ?_
      refine ⟨rfl, rfl, xs.take 30, by simp; omega, ?_⟩
      have e := flat_take encI 1 encI_len xs 30
      simp at e
      simp [plist, e, Nat.min_eq_left hl]
    · refine pw_cond rfl (fun q => by simp at q; omega) (fun _ => pw_skip ⟨rfl, rfl, xs, by omega, by simp [plist]⟩)
  rintro e F T ⟨rfl, rfl, ys, hl, f0⟩
  refine pw_seq (pw_L [] (by rfl) fun K hK => ?_)
  simp -implicitDefEqProofs
  refine po_call rfl rfl rfl en14 (by exact heapNew_ok) fun p S1 hq => ?_
  obtain ⟨a, b, c, rfl, d1, d2, d3, o1, m1⟩ := hq
  refine hK _ _ ?_
  clear hK
  refine pw_seq (pw_L [] (by rfl) fun K hK => ?_)
  simp -implicitDefEqProofs
  refine po_call rfl rfl rfl en14 (by exact heapNew_ok) fun p S2 hq => ?_
  obtain ⟨d, e, f, rfl, d4, d5, d6, o2, m2⟩ := hq
  refine hK _ _ ?_
  clear hK
  have alive : ∀ o ∈ [a, b, c], S1 o ≠ .dead := by
    obtain ⟨l, ⟨⟨g, h, _⟩, _⟩, _⟩ := m1
    obtain ⟨ver, h1, cs, h2, _⟩ := h.h
    obtain ⟨es, h3, _⟩ := h.m
    intro o ho
    simp at ho
    rcases ho with rfl | rfl | rfl
    · rw [h1]; simp
    · rw [h2]; simp
    · rw [h3]; simp
  have hd2 : ∀ o ∈ [d, e, f], S1 o = .dead := by
    intro o ho; simp at ho; rcases ho with rfl | rfl | rfl <;> assumption
  have hap : ∀ o ∈ [a, b, c], o ∉ [d, e, f] := fun o h1 h2 => alive o h1 (hd2 o h2)
  have hap' : ∀ o, S1 o = .dead → T o = .dead := fun o h => by
    by_cases q : o ∈ [a, b, c]
    · exact absurd h (alive o q)
    · rw [← o1 o q]; exact h
  have two0 : Two T S2 a b c d e f [] [] := by
    refine ⟨fun o q => ?_, m1.congr fun o q => o2 o (hap o q), m2, hap, ?_⟩
    · simp at q
      rw [o2 o (by simp [q]), o1 o (by simp [q])]
    · intro o ho
      simp at ho
      rcases ho with rfl | rfl | rfl | rfl | rfl | rfl
      · exact d1
      · exact d2
      · exact d3
      · exact hap' _ d4
      · exact hap' _ d5
      · exact hap' _ d6
  refine pw_seq (pw_seq (pw_R (by rfl) (by simp; rfl) (pw_cond rfl (fun q => by simp at q) (fun _ => pw_skip ?_))))
  refine pw_seq (pw_mono (Q := fun ex F' T' => ex = .normal ∧ F' 0 = plist encI ys ∧ F' 3 = .ptr a 0 0 ∧ F' 4 = .ptr d 0 0 ∧ ∃ r, r.length = ys.length ∧ Two T T' a b c d e f r r) ?_ ?_)
  · refine pw_seq (pw_R (by rfl) (by simp; rfl) (pw_block ?_))
    refine pw_loop (fun F' T' m => ∃ (k : Nat) (ra rb : Its Int), m = ys.length - k ∧ k ≤ ys.length ∧ F' 0 = plist encI ys ∧ F' 3 = .ptr a 0 0 ∧ F' 4 = .ptr d 0 0 ∧ F' 5 = pint k ∧ Two T T' a b c d e f ra rb ∧ ra.length = k ∧ rb.length = k ∧
      (∀ x, x ∈ ra ↔ ∃ i : Nat, i < k ∧ x = ((i : Int), nthI ys i)) ∧ (∀ x, x ∈ rb ↔ ∃ i : Nat, ys.length - k ≤ i ∧ i < ys.length ∧ x = ((i : Int), nthI ys i))) ys.length
      ⟨0, [], [], rfl, by omega, f0, rfl, rfl, rfl, two0, rfl, rfl, by simp, by intro x; simp; omega⟩ ?_
    rintro m F2 T2 ⟨k, ra, rb, rfl, hk, g0, g3, g4, g5, htwo, lra, lrb, hra, hrb⟩
    refine pw_seq (pw_seq (pw_R (by rfl) (by simp [g0, g5, pint, plist]; rfl) (pw_cond rfl (fun hc => pw_skip ?_) (fun hc => ?_))))
    · simp at hc
      have hk' : (k : Int) < ys.length := by omega
      obtain ⟨tl, e1⟩ : ∃ tl, (ys.flatMap encI).drop k = .sc (.int .i64 (nthI ys k)) :: tl := by
        have e := flat_at encI 1 encI_len ys k hc
        simp only [Nat.mul_one] at e
        rw [e]
        exact ⟨_, by simp [encI, nthI, hc]; rfl⟩
      refine pw_seq (pw_block (pw_seq (pw_L [] (by rfl) fun K hK => ?_)))
      simp -implicitDefEqProofs [g0, g3, g5, pint, plist, hc, e1]
      refine po_call rfl rfl rfl en18 (by exact heapPut_ok htwo.one (k : Int) (nthI ys k) (by omega)) fun p S3 hq => ?_
      obtain ⟨_, o3, m3⟩ := hq
      have na : hasI (k : Int) ra = false := hasI_false fun x hx e => by
        obtain ⟨i, hi, rfl⟩ := (hra x).1 hx
        simp at e; omega
      rw [na] at m3
      have two3 := htwo.left o3 m3
      refine hK _ _ ?_
      clear hK
      obtain ⟨j, hj⟩ : ∃ j, j + 1 + k = ys.length := ⟨ys.length - 1 - k, by omega⟩
      have w1 : IntKind.i64.wrap ((ys.length : Int) - 1) = (ys.length : Int) - 1 := wrap64 _ (by omega) (by omega)
      have w2 : IntKind.i64.wrap ((ys.length : Int) - 1 - k) = j := by rw [wrap64 _ (by omega) (by omega)]; omega
      refine pw_seq (pw_L [] (by rfl) fun K hK => ?_)
      simp -implicitDefEqProofs [g0, g3, g5, pint, plist, w1, w2]
      refine hK _ _ ?_
      clear hK
      refine pw_seq (pw_L [] (by rfl) fun K hK => ?_)
      simp -implicitDefEqProofs [g4]
      refine po_call rfl rfl rfl en18 (by exact heapPut_ok two3.two (j : Int) 0 (by omega)) fun p S4 hq => ?_
      obtain ⟨_, o4, m4⟩ := hq
      have nb : hasI (j : Int) rb = false := hasI_false fun x hx e => by
        obtain ⟨i, hi, _, rfl⟩ := (hrb x).1 hx
        simp at e; omega
      rw [nb] at m4
      have two4 := two3.right o4 m4
      refine hK _ _ ?_
      clear hK
      have hjl : j < ys.length := by omega
      obtain ⟨tl, e1⟩ : ∃ tl, (ys.flatMap encI).drop j = .sc (.int .i64 (nthI ys j)) :: tl := by
        have e := flat_at encI 1 encI_len ys j hjl
        simp only [Nat.mul_one] at e
        rw [e]
        exact ⟨_, by simp [encI, nthI, hjl]; rfl⟩
      refine pw_L [] (by rfl) fun K hK => ?_
      simp -implicitDefEqProofs [g0, g4, plist, hjl, e1]
      refine po_call rfl rfl rfl en19 (by exact heapChange_ok two4.two (j : Int) (nthI ys j)) fun p S5 hq => ?_
      obtain ⟨_, o5, m5⟩ := hq
      have nc : hasI (j : Int) (insI ((j : Int), 0) rb) = true := hasI_true (insI_mem.2 (.inl rfl)) rfl
      have m5' : HM S5 d e f (insI ((j : Int), nthI ys j) (outI j (insI ((j : Int), 0) rb))) := by
        have := m5
        simp only [cond_false] at this
        rw [nc] at this; exact this
      have two5 := two4.right o5 m5'
      refine hK _ _ ?_
      clear hK
      have w3 : IntKind.i64.wrap ((k : Int) + 1) = ((k + 1 : Nat) : Int) := by rw [wrap64 _ (by omega) (by omega)]; omega
      refine pw_R (by rfl) (by simp [g5, pint]; rfl) ?_
      have hlb : (insI ((j : Int), nthI ys j) (outI j (insI ((j : Int), 0) rb))).length = k + 1 := by
        have p1 : outI (j : Int) (insI ((j : Int), 0) rb) = outI j rb ∨ True := .inr trivial
        have p2 := outI_perm (j : Int) (insI_perm ((j : Int), 0) rb)
        have p3 : outI (j : Int) (((j : Int), 0) :: rb) = rb := by
          have : outI (j : Int) (((j : Int), 0) :: rb) = outI j rb := by simp [outI]
          rw [this, outI_none nb]
        rw [p3] at p2
        rw [(insI_perm _ _).length_eq, List.length_cons, p2.length_eq, lrb]
      refine ⟨ys.length - (k + 1), ⟨k + 1, _, _, rfl, by omega, g0, g3, g4, ?_, two5, ?_, hlb, fun x => ?_, fun x => ?_⟩, by omega⟩
      · show PV.sc (.int .i64 (IntKind.i64.wrap ((k : Int) + 1))) = _
        rw [w3]; rfl
      · simp only [cond_false]; rw [(insI_perm _ _).length_eq, List.length_cons, lra]
      · simp only [cond_false]
        rw [insI_mem, hra]
        constructor
        · rintro (rfl | ⟨i, hi, rfl⟩)
          · exact ⟨k, by omega, rfl⟩
          · exact ⟨i, by omega, rfl⟩
        · rintro ⟨i, hi, rfl⟩
          by_cases q : i = k
          · subst q; exact .inl rfl
          · exact .inr ⟨i, by omega, rfl⟩
      · rw [insI_mem, outI_mem, insI_mem, hrb]
        constructor
        · rintro (rfl | ⟨rfl | ⟨i, hi, hi2, rfl⟩, q2⟩)
          · exact ⟨j, by omega, by omega, rfl⟩
          · exact absurd rfl q2
          · exact ⟨i, by omega, hi2, rfl⟩
        · rintro ⟨i, hi, hi2, rfl⟩
          by_cases q : i = j
          · subst q; exact .inl rfl
          · exact .inr ⟨.inr ⟨i, by omega, hi2, rfl⟩, by simp; omega⟩
    · simp at hc
      have hkl : k = ys.length := by omega
      refine pw_exit ⟨rfl, g0, g3, g4, ra, by omega, ?_⟩
      have : ra = rb := sorted_mem_eq htwo.one.sorted htwo.two.sorted fun x => by
        rw [hra, hrb]
        subst hkl
        simp
      rw [← this] at htwo
      exact htwo
  rintro ex F3 T3 ⟨rfl, g0, g3, g4, r, hrl, htwo⟩
  refine pw_seq (pw_mono (Q := fun ex F' T' => ex = .normal ∧ Off T [a, b, c, d, e, f] T') ?_ ?_)
  rotate_left
  · rintro ex F4 T4 ⟨rfl, hoff⟩
    refine pw_seq (pw_L [] (by rfl) fun K hK => ?_)
    simp -implicitDefEqProofs
    refine po_call rfl rfl rfl en13 (by exact lives_ok) fun p S5 hq => ?_
    obtain ⟨rfl, rfl⟩ := hq
    simp -implicitDefEqProofs [pbool]
    refine hK _ _ (pw_ret ⟨_, T, rfl, ⟨rfl, rfl⟩, off_fin hoff htwo.dead⟩)
  refine pw_seq (pw_R (by rfl) (by simp; rfl) (pw_block ?_))
  refine pw_loop (fun F' T' m => ∃ k : Nat, m = ys.length + 1 - k ∧ k ≤ ys.length + 1 ∧ F' 0 = plist encI ys ∧ F' 3 = .ptr a 0 0 ∧ F' 4 = .ptr d 0 0 ∧ F' 7 = pint k ∧ Two T T' a b c d e f (r.drop k) (r.drop k)) (ys.length + 1) ⟨0, by omega, by omega, g0, g3, g4, rfl, htwo⟩ ?_
  clear g0 g3 g4 F3 htwo
  rintro m F3 T3 ⟨k, rfl, hk, g0, g3, g4, g7, htwo⟩
  refine pw_seq (pw_seq (pw_R (by rfl) (by simp [g0, g7, pint, plist]; rfl) (pw_cond rfl (fun hc => pw_skip ?_) (fun hc => ?_))))
  · simp at hc
    have w3 : IntKind.i64.wrap ((k : Int) + 1) = ((k + 1 : Nat) : Int) := by rw [wrap64 _ (by omega) (by omega)]; omega
    refine pw_seq (pw_block (pw_seq (pw_L [] (by rfl) fun K hK => ?_)))
    simp -implicitDefEqProofs [g3]
    refine po_call rfl rfl rfl en17 (by exact heapTake_ok htwo.one) fun p S3 hq => ?_
    obtain ⟨rfl, o3, m3⟩ := hq
    have two3 := htwo.left o3 m3
    by_cases hkl : k < ys.length
    · have hc1 : (k : Int) < ys.length := by omega
      obtain ⟨x, tl, hx⟩ : ∃ x tl, r.drop k = x :: tl := by
        cases hq : r.drop k with
        | nil => have := congrArg List.length hq; simp at this; omega
        | cons x tl => exact ⟨x, tl, rfl⟩
      have htl : tl = r.drop (k + 1) := by rw [show k + 1 = k + 1 from rfl, ← List.drop_drop, hx]; rfl
      simp -implicitDefEqProofs [hx, headP, pint, pbool]
      refine hK _ _ ?_
      clear hK
      refine pw_seq (pw_L [] (by rfl) fun K hK => ?_)
      simp -implicitDefEqProofs [g4]
      refine po_call rfl rfl rfl en17 (by exact heapTake_ok two3.two) fun p S4 hq => ?_
      obtain ⟨rfl, o4, m4⟩ := hq
      have two4 := two3.right o4 m4
      simp -implicitDefEqProofs [hx, headP, pint, pbool]
      refine hK _ _ ?_
      clear hK
      refine pw_seq (pw_L [] (by rfl) fun K hK => ?_)
      simp -implicitDefEqProofs [g0, g7, plist, pint, hc1]
      refine hK _ _ (pw_cond rfl (fun q => by simp at q) (fun _ => pw_skip ?_))
      clear hK
      refine pw_R (by rfl) (by simp [g7, pint]; rfl) ?_
      refine ⟨ys.length + 1 - (k + 1), ⟨k + 1, rfl, by omega, g0, g3, g4, ?_, ?_⟩, by omega⟩
      · show PV.sc (.int .i64 (IntKind.i64.wrap ((k : Int) + 1))) = _
        rw [w3]; rfl
      · rw [hx, List.tail_cons, htl] at two4; exact two4
    · have hke : k = ys.length := by omega
      have hc1 : ¬ (k : Int) < ys.length := by omega
      have hx : r.drop k = [] := List.drop_of_length_le (by omega)
      simp -implicitDefEqProofs [hx, headP, pint, pbool]
      refine hK _ _ ?_
      clear hK
      refine pw_seq (pw_L [] (by rfl) fun K hK => ?_)
      simp -implicitDefEqProofs [g4]
      refine po_call rfl rfl rfl en17 (by exact heapTake_ok two3.two) fun p S4 hq => ?_
      obtain ⟨rfl, o4, m4⟩ := hq
      have two4 := two3.right o4 m4
      simp -implicitDefEqProofs [hx, headP, pint, pbool]
      refine hK _ _ ?_
      clear hK
      refine pw_seq (pw_L [] (by rfl) fun K hK => ?_)
      simp -implicitDefEqProofs [g0, g7, plist, pint, hc1]
      refine hK _ _ (pw_cond rfl (fun q => by simp at q) (fun _ => pw_skip ?_))
      clear hK
      refine pw_R (by rfl) (by simp [g7, pint]; rfl) ?_
      refine ⟨ys.length + 1 - (k + 1), ⟨k + 1, rfl, by omega, g0, g3, g4, ?_, ?_⟩, by omega⟩
      · show PV.sc (.int .i64 (IntKind.i64.wrap ((k : Int) + 1))) = _
        rw [w3]; rfl
      · rw [hx, List.tail_nil] at two4
        rw [List.drop_of_length_le (show r.length ≤ k + 1 by omega)]; exact two4
  · exact pw_exit ⟨rfl, htwo.off⟩

end Go.Proofs.Ytdmmihkmcennpaa.Pv
