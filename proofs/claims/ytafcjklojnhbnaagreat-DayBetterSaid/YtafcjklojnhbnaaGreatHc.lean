/- Heaps in memory: what container/heap does with them. -/
import Derived.Test.YtafcjklojnhbnaaGreatHb
namespace Go.Proofs.YtafcjklojnhbnaaGreat.Pv
open Go Hp

/-- A heap in memory whose map is right. -/
def HP (S : Store) (hid hv rid mid mv : Nat) (l : Its Int) : Prop := ∃ g, HS S hid hv rid mid mv l g ∧ PosOk g l

theorem PosOk.inj {g : Int → Option Nat} {l : Its Int} (h : PosOk g l) {i j : Nat} (hi : i < l.length) (hj : j < l.length) (e : (ata l i).1 = (ata l j).1) : i = j := by
  have h1 := h.here i hi
  rw [e, h.here j hj] at h1
  exact (Option.some.inj h1).symm

theorem PosOk.swp {g : Int → Option Nat} {l : Its Int} (h : PosOk g l) (i j : Nat) (hi : i < l.length) (hj : j < l.length) : PosOk (updM (updM g (ata (swp l i j) i).1 (some i)) (ata (swp l i j) j).1 (some j)) (swp l i j) := by
  have at' := fun k => ata_swp l i j k hi hj
  have ei : (ata (Hp.swp l i j) i).1 = (ata l j).1 := by
    rw [at' i]
    by_cases e : i = j
    · rw [if_pos e, e]
    · rw [if_neg e, if_pos rfl]
  have ej : (ata (Hp.swp l i j) j).1 = (ata l i).1 := by rw [at' j, if_pos rfl]
  rw [ei, ej]
  refine ⟨fun k hk => ?_, fun id hid => ?_⟩
  · rw [swp_len] at hk
    rw [at' k]
    unfold updM
    by_cases k1 : k = j
    · rw [if_pos k1, if_pos rfl, k1]
    · rw [if_neg k1]
      by_cases k2 : k = i
      · rw [if_pos k2]
        rw [if_neg (fun e => k1 (by rw [k2]; exact (h.inj hj hi e).symm)), if_pos rfl, k2]
      · rw [if_neg k2, if_neg (fun e => k2 (h.inj hk hi e)), if_neg (fun e => k1 (h.inj hk hj e))]
        exact h.here k hk
  · unfold updM
    have q1 := hid i (by rw [swp_len]; exact hi)
    have q2 := hid j (by rw [swp_len]; exact hj)
    rw [ei] at q1; rw [ej] at q2
    rw [if_neg (Ne.symm q2), if_neg (Ne.symm q1)]
    refine h.gone id fun k hk e => ?_
    have q3 := hid k (by rw [swp_len]; exact hk)
    rw [at' k] at q3
    by_cases k1 : k = j
    · subst k1; exact q1 e
    · rw [if_neg k1] at q3
      by_cases k2 : k = i
      · subst k2; exact q2 e
      · rw [if_neg k2] at q3; exact q3 e

theorem ata_append (l : Its Int) (x : Int × Int) (k : Nat) (hk : k < l.length) : ata (l ++ [x]) k = ata l k := by
  unfold ata; rw [List.getD_eq_getElem?_getD, List.getD_eq_getElem?_getD, List.getElem?_append_left hk]

theorem ata_last (l : Its Int) (x : Int × Int) : ata (l ++ [x]) l.length = x := by simp [ata]

theorem PosOk.push {g : Int → Option Nat} {l : Its Int} (h : PosOk g l) (x : Int × Int) (hx : g x.1 = none) : PosOk (updM g x.1 (some l.length)) (l ++ [x]) := by
  refine ⟨fun k hk => ?_, fun id hid => ?_⟩
  · simp only [List.length_append, List.length_cons, List.length_nil, Nat.zero_add] at hk
    unfold updM
    by_cases k1 : k = l.length
    · subst k1; rw [ata_last, if_pos rfl]
    · have hk' : k < l.length := by omega
      rw [ata_append l x k hk', if_neg]
      · exact h.here k hk'
      · intro e
        have := h.here k hk'
        rw [e, hx] at this; cases this
  · have q := hid l.length (by simp)
    rw [ata_last] at q
    unfold updM
    rw [if_neg (Ne.symm q)]
    refine h.gone id fun k hk => ?_
    have := hid k (by simp; omega)
    rw [ata_append l x k hk] at this
    exact this

theorem PosOk.pop {g : Int → Option Nat} {l : Its Int} (x : Int × Int) (h : PosOk g (l ++ [x])) : PosOk (updM g x.1 none) l := by
  have hl : l.length < (l ++ [x]).length := by simp
  refine ⟨fun k hk => ?_, fun id hid => ?_⟩
  · have hk' : k < (l ++ [x]).length := by simp; omega
    have := h.here k hk'
    rw [ata_append l x k hk] at this
    unfold updM
    rw [if_neg]
    · exact this
    · intro e
      have := h.inj hk' hl (by rw [ata_append l x k hk, ata_last]; exact e)
      omega
  · unfold updM
    by_cases e : id = x.1
    · rw [if_pos e]
    · rw [if_neg e]
      refine h.gone id fun k hk => ?_
      simp only [List.length_append, List.length_cons, List.length_nil, Nat.zero_add] at hk
      by_cases k1 : k = l.length
      · subst k1; rw [ata_last]; exact Ne.symm e
      · have hk' : k < l.length := by omega
        rw [ata_append l x k hk']; exact hid k hk'

theorem mLen : MethodAt Tryz.prog 215 "Len" 195 := by intro v w; kernel_rfl
theorem mLess : MethodAt Tryz.prog 215 "Less" 196 := by intro v w; kernel_rfl
theorem mSwap : MethodAt Tryz.prog 215 "Swap" 199 := by intro v w; kernel_rfl
theorem mPush : MethodAt Tryz.prog 215 "Push" 198 := by intro v w; kernel_rfl
theorem mPop : MethodAt Tryz.prog 215 "Pop" 197 := by intro v w; kernel_rfl

/-- The heap as the interface that container/heap is handed. -/
abbrev hI (hid hv : Nat) : PV := .ifc 215 (.ptr hid hv 0)

theorem HP.len {S : Store} {hid hv rid mid mv : Nat} {l : Its Int} (h : HP S hid hv rid mid mv l) : l.length ≤ 2147483648 := by obtain ⟨g, h, _⟩ := h; exact h.len
theorem HP.cut {S T : Store} {hid hv rid mid mv : Nat} {l : Its Int} (h : HP T hid hv rid mid mv l) : HP (cut S [hid, rid, mid] T) hid hv rid mid mv l := by obtain ⟨g, h, k⟩ := h; exact ⟨g, h.cut, k⟩

theorem hpLen {S : Store} {hid hv rid mid mv : Nat} {l : Its Int} (h : HP S hid hv rid mid mv l) : PCalls Tryz.prog 195 [.ptr hid hv 0] S (fun p S' => p = pint l.length ∧ S' = S) := by
  obtain ⟨g, h, _⟩ := h; exact thingsLen_ok h
theorem hpLess {S : Store} {hid hv rid mid mv : Nat} {l : Its Int} (h : HP S hid hv rid mid mv l) (i j : Nat) (hi : i < l.length) (hj : j < l.length) : PCalls Tryz.prog 196 [.ptr hid hv 0, pint i, pint j] S (fun p S' => p = pbool (il ltI (ata l i) (ata l j)) ∧ S' = S) := by
  obtain ⟨g, h, _⟩ := h; exact thingsLess_ok h i j hi hj
theorem hpSwap {S : Store} {hid hv rid mid mv : Nat} {l : Its Int} (h : HP S hid hv rid mid mv l) (i j : Nat) (hi : i < l.length) (hj : j < l.length) : PCalls Tryz.prog 199 [.ptr hid hv 0, pint i, pint j] S (fun _ S' => Off S [hid, rid, mid] S' ∧ HP S' hid hv rid mid mv (swp l i j)) := by
  obtain ⟨g, h, k⟩ := h
  exact (thingsSwap_ok h i j hi hj).mono fun p S' q => ⟨q.1, _, q.2, k.swp i j hi hj⟩
theorem hpPush {S : Store} {hid hv rid mid mv : Nat} {l : Its Int} (h : HP S hid hv rid mid mv l) (x : Int × Int) (hx : ∀ i, i < l.length → (ata l i).1 ≠ x.1) (hn : l.length + 1 ≤ 2147483648) : PCalls Tryz.prog 198 [.ptr hid hv 0, .ifc 217 (.agg (encT x))] S (fun _ S' => Off S [hid, rid, mid] S' ∧ HP S' hid hv rid mid mv (l ++ [x])) := by
  obtain ⟨g, h, k⟩ := h
  exact (thingsPush_ok h x hn).mono fun p S' q => ⟨q.1, _, q.2, k.push x (k.gone _ hx)⟩
theorem hpPop {S : Store} {hid hv rid mid mv : Nat} {l : Its Int} (x : Int × Int) (h : HP S hid hv rid mid mv (l ++ [x])) : PCalls Tryz.prog 197 [.ptr hid hv 0] S (fun p S' => p = .ifc 217 (.agg (encT x)) ∧ Off S [hid, rid, mid] S' ∧ HP S' hid hv rid mid mv l) := by
  obtain ⟨g, h, k⟩ := h
  exact (thingsPop_ok x h).mono fun p S' q => ⟨q.1, q.2.1, _, q.2.2, k.pop x⟩

theorem par_cast (j : Nat) : ((j : Int) - 1).tdiv 2 = (par j : Nat) := by
  unfold par
  cases j with
  | zero => rfl
  | succ k => simp

theorem up_ok {S : Store} {hid hv rid mid mv : Nat} {l : Its Int} (h : HP S hid hv rid mid mv l) (j : Nat) (hj : j < l.length) :
    PCalls Tryz.prog 161 [hI hid hv, pint j] S (fun _ S' => Off S [hid, rid, mid] S' ∧ HP S' hid hv rid mid mv (upL ltI (j + 1) l j)) := by
  refine pcalls_of_pw Tryz.func161 rfl Tryz.ntmps161 (congrArg Array.toList Tryz.results161) (by simp) ?_
  refine pw_block (pw_loop (fun F S' m => ∃ (lc : Its Int) (jc : Nat), m = jc ∧ jc < lc.length ∧ F 0 = hI hid hv ∧ F 1 = pint jc ∧ Off S [hid, rid, mid] S' ∧ HP S' hid hv rid mid mv lc ∧ upL ltI (jc + 1) lc jc = upL ltI (j + 1) l j) j ⟨l, j, rfl, hj, rfl, rfl, fun _ _ => rfl, h, rfl⟩ ?_)
  rintro jc F T ⟨lc, _, rfl, hjc, f0, f1, hoff, hp, hup⟩
  have hlen := hp.len
  have w1 : IntKind.i64.wrap ((jc : Int) - 1) = (jc : Int) - 1 := wrap64 _ (by omega) (by omega)
  have hpar : par jc ≤ jc := by unfold par; omega
  have w2 : IntKind.i64.wrap (par jc : Int) = par jc := wrap64 _ (by omega) (by omega)
  refine pw_block (pw_seq (pw_L [] (by rfl) fun K hK => ?_))
  simp -implicitDefEqProofs [f1, pint, w1, par_cast, w2]
  refine hK _ _ ?_
  clear hK
  by_cases hc : par jc = jc
  · refine pw_seq (pw_seq (pw_L [] (by rfl) fun K hK => ?_))
    simp -implicitDefEqProofs [f1, pint, hc]
    refine hK _ _ (pw_cond rfl (fun _ => pw_exit ?_) (fun q => by simp at q))
    refine ⟨_, _, rfl, ⟨cut_off _ _ _, ?_⟩, cut_ok hoff.offd⟩
    rw [← hup]
    unfold upL
    rw [if_pos (.inl hc)]
    exact hp.cut
  · refine pw_seq (pw_seq (pw_L [] (by rfl) fun K hK => ?_))
    have hc' : ¬ ((par jc : Nat) : Int) = jc := by omega
    simp -implicitDefEqProofs [f0, f1, pint, hc']
    refine po_invoke rfl rfl rfl mLess en196 (by exact hpLess hp jc (par jc) hjc (by omega)) fun p S' hq => ?_
    obtain ⟨rfl, rfl⟩ := hq
    simp -implicitDefEqProofs [pbool]
    refine hK _ _ ?_
    clear hK
    cases hl : il ltI (ata lc jc) (ata lc (par jc)) with
    | false =>
      refine pw_cond rfl (fun _ => pw_exit ?_) (fun q => by simp at q)
      refine ⟨_, _, rfl, ⟨cut_off _ _ _, ?_⟩, cut_ok hoff.offd⟩
      rw [← hup]
      unfold upL
      rw [if_pos (.inr hl)]
      exact hp.cut
    | true =>
      refine pw_cond rfl (fun q => by simp at q) (fun _ => pw_skip (pw_seq (pw_L [] (by rfl) fun K hK => ?_)))
      simp -implicitDefEqProofs [f0, f1, pint]
      refine po_invoke rfl rfl rfl mSwap en199 (by exact hpSwap hp (par jc) jc (by omega) hjc) fun p S' hq => ?_
      obtain ⟨hq1, hq2⟩ := hq
      refine hK _ _ ?_
      clear hK
      refine pw_R (by rfl) (by simp; rfl) ?_
      refine ⟨par jc, ⟨swp lc (par jc) jc, par jc, rfl, by rw [swp_len]; omega, f0, by rfl, hoff.trans hq1, hq2, ?_⟩, by omega⟩
      rw [← hup]
      conv => rhs; unfold upL
      rw [if_neg (by rintro (e | e); exact hc e; rw [hl] at e; cases e)]
      exact upL_fuel _ _ _ _ (by omega) (by unfold par at *; omega)

theorem down_ok {S : Store} {hid hv rid mid mv : Nat} {l : Its Int} (h : HP S hid hv rid mid mv l) (i n : Nat) (hi : i < n) (hn : n ≤ l.length) :
    PCalls Tryz.prog 164 [hI hid hv, pint i, pint n] S (fun p S' => p = pbool (decide (i < (downL ltI n l i n).2)) ∧ Off S [hid, rid, mid] S' ∧ HP S' hid hv rid mid mv (downL ltI n l i n).1) := by
  refine pcalls_of_pw Tryz.func164 rfl Tryz.ntmps164 (congrArg Array.toList Tryz.results164) (by simp) ?_
  refine pw_seq (pw_R (by rfl) (by simp; rfl) (pw_seq (pw_R (by rfl) (by simp; rfl) (pw_seq ?_))))
  refine pw_mono (Q := fun e F T => e = .normal ∧ F 1 = pint i ∧ F 7 = pint (downL ltI n l i n).2 ∧ Off S [hid, rid, mid] T ∧ HP T hid hv rid mid mv (downL ltI n l i n).1) (pw_block (pw_loop (fun F S' m => ∃ (lc : Its Int) (ic : Nat), m = n - ic ∧ ic < n ∧ n ≤ lc.length ∧ F 0 = hI hid hv ∧ F 1 = pint i ∧ F 2 = pint n ∧ F 7 = pint ic ∧ Off S [hid, rid, mid] S' ∧ HP S' hid hv rid mid mv lc ∧ downL ltI n lc ic n = downL ltI n l i n) (n - i) ⟨l, i, rfl, hi, hn, rfl, rfl, rfl, rfl, fun _ _ => rfl, h, rfl⟩ ?_)) ?_
  rotate_left
  · rintro e F T ⟨rfl, f1, f7, hoff, hp⟩
    refine pw_seq (pw_L [] (by rfl) fun K hK => ?_)
    simp -implicitDefEqProofs [f1, f7, pint]
    refine hK _ _ (pw_ret ⟨_, _, rfl, ⟨?_, cut_off _ _ _, hp.cut⟩, cut_ok hoff.offd⟩)
    simp [pbool]
  rintro _ F T ⟨lc, ic, rfl, hic, hnl, f0, f1, f2, f7, hoff, hp, hdown⟩
  have hlen := hp.len
  have w1 : IntKind.i64.wrap (2 * (ic : Int)) = 2 * (ic : Int) := wrap64 _ (by omega) (by omega)
  have w2 : IntKind.i64.wrap (2 * (ic : Int) + 1) = ((2 * ic + 1 : Nat) : Int) := by rw [wrap64 _ (by omega) (by omega)]; omega
  have w3 : IntKind.i64.wrap (((2 * ic + 1 : Nat) : Int) + 1) = ((2 * ic + 2 : Nat) : Int) := by rw [wrap64 _ (by omega) (by omega)]; omega
  refine pw_block (pw_seq (pw_L [] (by rfl) fun K hK => ?_))
  simp -implicitDefEqProofs only []
  generalize hk1 : 2 * ic + 1 = k1 at w2 w3
  simp -implicitDefEqProofs [f7, pint, w1, w2]
  refine hK _ _ ?_
  clear hK
  by_cases hc : n ≤ k1
  · refine pw_seq (pw_seq (pw_L [] (by rfl) fun K hK => ?_))
    have hc' : (n : Int) ≤ k1 := by omega
    simp -implicitDefEqProofs [f2, pint, hc']
    refine hK _ _ (pw_cond rfl (fun _ => pw_exit ?_) (fun q => by simp at q))
    have hd : downL ltI n lc ic n = (lc, ic) := by
      cases n with
      | zero => omega
      | succ n => unfold downL; rw [if_pos (by omega)]
    rw [hdown] at hd
    refine ⟨rfl, f1, ?_, hoff, ?_⟩
    · rw [hd]; exact f7
    · rw [hd]; exact hp
  · refine pw_seq (pw_seq (pw_L [] (by rfl) fun K hK => ?_))
    have hc' : ¬ (n : Int) ≤ k1 := by omega
    have hc2 : ¬ (k1 : Int) < 0 := by omega
    simp -implicitDefEqProofs [f2, pint, hc', hc2]
    refine hK _ _ (pw_cond rfl (fun q => by simp at q) (fun _ => pw_skip ?_))
    clear hK
    refine pw_seq (pw_R (by rfl) (by simp; rfl) ?_)
    obtain ⟨c1, c2, c3, c4, c5⟩ := kid_spec ltI_str lc ic n (by omega)
    have hkd : kid ltI lc ic n < lc.length := by omega
    refine pw_seq (pw_mono (Q := fun e F' T' => e = .normal ∧ T' = T ∧ F' 0 = hI hid hv ∧ F' 1 = pint i ∧ F' 2 = pint n ∧ F' 7 = pint ic ∧ F' 9 = pint (kid ltI lc ic n)) ?_ ?_)
    · generalize hk2 : 2 * ic + 2 = k2 at w3
      refine pw_seq (pw_L [] (by rfl) fun K hK => ?_)
      simp -implicitDefEqProofs [w3]
      refine hK _ _ ?_
      clear hK
      by_cases h2 : k2 < n
      · refine pw_seq (pw_L [] (by rfl) fun K hK => ?_)
        have h2' : (k2 : Int) < n := by omega
        simp -implicitDefEqProofs [f0, f2, pint, h2']
        refine po_invoke rfl rfl rfl mLess en196 (by exact hpLess hp k2 k1 (by omega) (by omega)) fun p S' hq => ?_
        obtain ⟨rfl, rfl⟩ := hq
        simp -implicitDefEqProofs [pbool]
        refine hK _ _ ?_
        clear hK
        cases hl : il ltI (ata lc k2) (ata lc k1) with
        | true =>
          refine pw_cond rfl (fun _ => pw_R (by rfl) (by simp; rfl) ?_) (fun q => by simp at q)
          refine ⟨rfl, rfl, f0, f1, f2, f7, ?_⟩
          unfold kid
          rw [hk1, hk2, if_pos ⟨h2, hl⟩]; rfl
        | false =>
          refine pw_cond rfl (fun q => by simp at q) (fun _ => pw_skip ⟨rfl, rfl, f0, f1, f2, f7, ?_⟩)
          unfold kid
          rw [hk1, hk2, if_neg (by rw [hl]; simp)]; rfl
      · refine pw_seq (pw_L [] (by rfl) fun K hK => ?_)
        have h2' : ¬ (k2 : Int) < n := by omega
        simp -implicitDefEqProofs [f2, pint, h2']
        refine hK _ _ (pw_cond rfl (fun q => by simp at q) (fun _ => pw_skip ⟨rfl, rfl, f0, f1, f2, f7, ?_⟩))
        unfold kid
        rw [hk1, hk2, if_neg (fun q => h2 q.1)]; rfl
    · clear f0 f1 f2 f7 F
      rintro e F S' ⟨rfl, rfl, f0, f1, f2, f7, f9⟩
      have hstep : downL ltI n lc ic n = if il ltI (ata lc (kid ltI lc ic n)) (ata lc ic) = false then (lc, ic) else downL ltI n (swp lc ic (kid ltI lc ic n)) (kid ltI lc ic n) n := by
        cases n with
        | zero => omega
        | succ n =>
          conv => lhs; unfold downL
          rw [if_neg (by omega)]
          split
          · rfl
          · exact downL_fuel _ _ _ _ _ (by omega) (by omega)
      rw [hdown] at hstep
      generalize hkk : kid ltI lc ic n = kk at *
      refine pw_seq (pw_seq (pw_L [] (by rfl) fun K hK => ?_))
      simp -implicitDefEqProofs [f0, f7, f9, pint]
      refine po_invoke rfl rfl rfl mLess en196 (by exact hpLess hp kk ic (by omega) (by omega)) fun p S' hq => ?_
      obtain ⟨rfl, rfl⟩ := hq
      simp -implicitDefEqProofs [pbool]
      refine hK _ _ ?_
      clear hK
      cases hl : il ltI (ata lc kk) (ata lc ic) with
      | false =>
        rw [if_pos hl] at hstep
        refine pw_cond rfl (fun _ => pw_exit ⟨rfl, f1, ?_, hoff, ?_⟩) (fun q => by simp at q)
        · rw [hstep]; exact f7
        · rw [hstep]; exact hp
      | true =>
        rw [if_neg (by rw [hl]; simp)] at hstep
        refine pw_cond rfl (fun q => by simp at q) (fun _ => pw_skip (pw_seq (pw_L [] (by rfl) fun K hK => ?_)))
        simp -implicitDefEqProofs [f0, f7, f9, pint]
        refine po_invoke rfl rfl rfl mSwap en199 (by exact hpSwap hp ic kk (by omega) hkd) fun p S' hq => ?_
        obtain ⟨hq1, hq2⟩ := hq
        refine hK _ _ ?_
        clear hK
        refine pw_R (by rfl) (by simp [f9]; rfl) ?_
        refine ⟨n - kk, ⟨swp lc ic kk, kk, rfl, c2, by rw [swp_len]; exact hnl, f0, f1, f2, rfl, hoff.trans hq1, hq2, hstep.symm⟩, by omega⟩

end Go.Proofs.YtafcjklojnhbnaaGreat.Pv
