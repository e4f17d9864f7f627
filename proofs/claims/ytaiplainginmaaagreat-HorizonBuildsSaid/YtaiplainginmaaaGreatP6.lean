/- A part of the proof of the statement that the last text of this claim proves; no condition is added. Packed by a program of the prover. -/
import Derived.Test.YtaiplainginmaaaGreatP5
namespace Go.Proofs.YtaiplainginmaaaGreat.Pv
open Go Go.Proofs
def mkT (d : Day) (m : Mv) (i : Nat) : zn := if i = m.a then zO d (zz d m).1 else if i = m.b then zO d (zz d m).2 else d.getD i []
def yV (d : Day) (m : Mv) (i : Nat) : Option zn := if (mkT d m i).length = 0 then none else some (mkT d m i)
def mkZ (d : Day) (m : Mv) : Day := (List.range d.length).filterMap (yV d m)
theorem Qk {d : Day} {r : Rw5} {k : Nat} (h : ∀ t ∈ d, t.length ≤ k) : (zO d r).length ≤ 5 * k := by
 have h1 := fun p => Zaf (d := d) (p := p) h
 have a1 := h1 r.a
 have a2 := h1 r.b
 have a3 := h1 r.c
 have a4 := h1 r.d
 have a5 := h1 r.e
 unfold zO Rw5.l
 simp only [List.flatMap_cons, List.flatMap_nil, List.length_append, List.append_nil]
 omega
set_option maxRecDepth 20000 in
set_option maxHeartbeats 3200000 in
theorem Zhl (x : Inst) (d : Day) (m : Mv) (hdn : d.length ≤ 1000) (hdt : ∀ t ∈ d, t.length ≤ 1000) (hm : yv d m = true) (hi : m.i ≤ 1048576) (hj : m.j ≤ 1048576) : Pure Tryz.prog 116 [.agg (zm x), .agg [L d], .agg (mvL m)] (.tup [.agg [L (mkZ d m)], I 0]) := by
 obtain ⟨hk, ha, hb, r1, r2⟩ := wO hm
 have hlk := JX d m (by omega) (fun t ht => Nat.le_trans (hdt t ht) (by decide)) hk ha hb hi hj
 unfold wA at hlk
 rw [if_pos hm] at hlk
 have g1 := Zag d _ (by omega) hdt r1
 have g2 := Zag d _ (by omega) hdt r2
 have n1 := Qk (r := (zz d m).1) hdt
 have n2 := Qk (r := (zz d m).2) hdt
 have hmk : ∀ i, mkT d m i = if i = m.a then zO d (zz d m).1 else if i = m.b then zO d (zz d m).2 else d.getD i [] := fun _ => rfl
 generalize zO d (zz d m).1 = t1 at *
 generalize zO d (zz d m).2 = t2 at *
 generalize (zz d m).1 = c1 at *
 generalize (zz d m).2 = c2 at *
 have hme : mkZ d m = (List.range d.length).filterMap (yV d m) := rfl
 rw [hme]
 clear hme
 refine pwe Tryz.func116 Tryz.ntmps116 Tryz.results116 fun S nx hd => ?_
 repeat apply za
 refine pwn ?_
 intro v0 v1 v2 v3
 repeat apply za
 refine pwn ?_
 refine pwc hlk ?_
 intro v4 v5
 intros
 (repeat apply za); refine pwn ?_; intros
 repeat apply za
 refine zi rfl ?_
 refine zb ?_
 repeat apply za
 refine pwn ?_
 intro v6
 refine yN 6 0 72 1 rfl rfl fun v7 => ?_
 (repeat apply za); refine pwn ?_; intros
 repeat apply za
 refine ze (zq (fun s' : Nat × Nat => s'.1 ≤ d.length) (fun (k, v7) => [(4, .ptr (nx + 1) v1 0), (5, .ptr (nx + 2) v2 0), (6, .ptr (nx + 3) v3 0), (8, .ptr (nx + 4) v4 0), (9, .ptr (nx + 5) v5 0), (11, .ptr (nx + 6) v6 0), (26, L d), (27, I d.length), (28, I k)])
  (fun (k, v7) => [.cells v0 25 (zm x), .cells v1 66 [L d], .cells v2 160 (mvL m), .cells v3 66 [zJ], .cells v4 202 (rwL c1), .cells v5 202 (rwL c2), .cells v6 66 [.sl (nx + 7) v7 1 0 ((List.range k).filterMap (yV d m)).length], .cells v7 72 (((List.range k).filterMap (yV d m)).flatMap Enc.enc)]) (fun s' => d.length - s'.1) (0, v7) [] (by simp) (by simp) (by simp) ?_)
 rintro ⟨k, v7⟩ hk0
 simp only at hk0 ⊢
 (repeat apply za); refine pwn ?_; intros
 repeat apply za
 refine zk rfl (fun hc => ?_) (fun hc => ?_)
 ·simp at hc
  obtain ⟨t, tl, a1, a2, a3, e0⟩ := el1 rfl d k hc
  have hk1 : 1 ≤ d.length - k := by omega
  have htl := hdt t (List.mem_of_getElem? a1)
  have hcl := YY t (by omega)
  have hgk : d.getD k [] = t := by rw [List.getD_eq_getElem?_getD, a1]; rfl
  have hmkk := hmk k
  have hlen : ((List.range k).filterMap (yV d m)).length ≤ k := by have := List.length_filterMap_le (yV d m) (List.range k); simpa using this
  have hnext : (List.range (k + 1)).filterMap (yV d m) = (List.range k).filterMap (yV d m) ++ (yV d m k).toList := by
   rw [List.range_succ, List.filterMap_append]
   simp only [List.filterMap_cons, List.filterMap_nil]
   cases yV d m k <;> rfl
  have hT1 : yV d m k = if (mkT d m k).length = 0 then none else some (mkT d m k) := rfl
  rw [hgk] at hmkk
  have hTl : (mkT d m k).length ≤ 5000 := by rw [hmkk]; (repeat' split) <;> omega
  have hof : (((List.range k).filterMap (yV d m)).flatMap Enc.enc : List PV).length = ((List.range k).filterMap (yV d m)).length := yD _
  generalize (List.range k).filterMap (yV d m) = out at *
  have hot : (out.flatMap Enc.enc : List PV).take out.length = out.flatMap Enc.enc := List.take_of_length_le (by omega)
  have wk := wrN k (by omega)
  refine zb (za (ze ?_))
  repeat apply za
  refine pwN [] (jn3 e0 hc hk1) ?_
  intro v8
  repeat apply za
  refine pwn ?_
  refine pwc hcl ?_
  intros
  (repeat apply za); refine pwn ?_; intros
  repeat apply za
  refine yc (nx := nx) (fun _ : Unit => True) (fun _ => [(4, .ptr (nx + 1) v1 0), (5, .ptr (nx + 2) v2 0), (6, .ptr (nx + 3) v3 0), (8, .ptr (nx + 4) v4 0), (9, .ptr (nx + 5) v5 0), (11, .ptr (nx + 6) v6 0), (14, L (mkT d m k)), (26, L d), (27, I d.length), (28, I k)]) (fun _ => S)
   (fun _ => [.cells v0 25 (zm x), .cells v1 66 [L d], .cells v2 160 (mvL m), .cells v3 66 [zJ], .cells v4 202 (rwL c1), .cells v5 202 (rwL c2), .cells v6 66 [.sl (nx + 7) v7 1 0 out.length], .cells v7 72 (out.flatMap Enc.enc), .cells v8 72 [L t]]) ?_ ?_
  ·refine ze ?_
   by_cases h1 : k = m.a
   ·rw [if_pos h1] at hmkk
    have h1' : (k : Int) = m.a := by omega
    rw [hmkk]
    (repeat apply za); refine pwn ?_; intros
    repeat apply za
    refine zj (by simp; omega) ?_
    repeat apply za
    refine pwn ?_
    refine pwc g1 ?_
    intros
    simp only [yK]
    exact zu () [] trivial (by simp) rfl (by simp)
   ·rw [if_neg h1] at hmkk
    have h1' : ¬ (k : Int) = m.a := by omega
    (repeat apply za); refine pwn ?_; intros
    repeat apply za
    refine zi (by simp; omega) ?_
    by_cases h2 : k = m.b
    ·rw [if_pos h2] at hmkk
     have h2' : (k : Int) = m.b := by omega
     rw [hmkk]
     (repeat apply za); refine pwn ?_; intros
     repeat apply za
     refine zj (by simp; omega) ?_
     repeat apply za
     refine pwn ?_
     refine pwc g2 ?_
     intros
     simp only [yK]
     exact zu () [] trivial (by simp) rfl (by simp)
    ·rw [if_neg h2] at hmkk
     have h2' : ¬ (k : Int) = m.b := by omega
     rw [hmkk]
     (repeat apply za); refine pwn ?_; intros
     repeat apply za
     refine zi (by simp; omega) ?_
     refine zb ?_
     simp only [yK]
     exact zu () [] trivial (by simp) rfl (by simp)
  ·rintro ⟨⟩ -
   generalize mkT d m k = tt at *
   clear hmkk hcl e0
   by_cases h0 : tt.length = 0
   ·have e : (yV d m k).toList = [] := by rw [hT1, if_pos h0]; rfl
    have h0' : ¬ 0 < tt.length := by omega
    repeat apply za
    refine pwN [] h0' ?_
    intros
    repeat apply za
    refine zi (by simp [h0']) ?_
    refine zb ?_
    (repeat apply za); refine pwn ?_; intros
    exact zh (k + 1, v7) [_] (by simp; omega) (by simp; omega) (by simp [wk, hnext, e]) rfl (by simp [hnext, e]; rfl)
   ·have e : (yV d m k).toList = [tt] := by rw [hT1, if_neg h0]; rfl
    have h0' : 0 < tt.length := by omega
    repeat apply za
    refine pwN [] h0' ?_
    intros
    repeat apply za
    refine zj (by simp [h0']) ?_
    repeat apply za
    refine pwN [] (jn2 hof hot) ?_
    refine ⟨by omega, ?_⟩
    intros
    (repeat apply za); refine pwn ?_; intros
    exact zh (k + 1, v7 + 1) [_] (by simp; omega) (by simp; omega) (by simp [wk, hnext, e]) rfl (by simp [hnext, e]; rfl)
 ·simp at hc
  obtain rfl : k = d.length := by omega
  refine zo ?_
  refine zC 7 rfl ?_
  (repeat apply za); refine pwn ?_; intros
  repeat apply za
  exact zd (zg hd (by simp; rfl) (by simp [zl]))
open Go Go.Proofs
def kSt (d : Day) (s : Stop) (t k : Nat) : Nat := ((d.getD t []).take k).count s
theorem J8 (d : Day) (s : Stop) (t : Nat) : kSt d s t 0 = 0 := by simp [kSt]
theorem ZaA (d : Day) (s : Stop) (t : Nat) : kSt d s t (tlen d t) = (d.getD t []).count s := by unfold kSt tlen; rw [List.take_length]
theorem Zhm (d : Day) (s : Stop) (p : Pc) : p.f ≤ p.o → (zP d p).count s + kSt d s p.t p.f = kSt d s p.t p.o := by
 intro h
 unfold zP kSt
 generalize d.getD p.t [] = u
 by_cases hf : p.f < p.o
 ·rw [if_pos hf, show p.o = p.f + (p.o - p.f) by omega, List.take_add, List.count_append, show p.f + (p.o - p.f) - p.f = p.o - p.f by omega]
  cases p.b
  ·rw [cond_false]; omega
  ·rw [cond_true, List.count_reverse]; omega
 ·rw [if_neg hf, show p.o = p.f by omega]; simp
theorem ZaB (d : Day) (s : Stop) (r : Rw5) : (zO d r).count s = (zP d r.a).count s + (zP d r.b).count s + (zP d r.c).count s + (zP d r.d).count s + (zP d r.e).count s := by
 unfold zO Rw5.l
 simp only [List.flatMap_cons, List.flatMap_nil, List.count_append, List.append_nil]
 omega
theorem Zhn {d : Day} {m : Mv} (h : yv d m = true) (s : Stop) : (zO d (zz d m).1).count s + (if m.a = m.b then 0 else (zO d (zz d m).2).count s) = (d.getD m.a []).count s + (if m.a = m.b then 0 else (d.getD m.b []).count s) := by
 unfold yv at h
 rw [Bool.and_eq_true] at h
 obtain ⟨-, h2⟩ := h
 unfold qD at h2
 unfold zz qu
 have e0 := J8 d s
 have ea := J8 d s m.a
 have eb := J8 d s m.b
 have la := ZaA d s m.a
 have lb := ZaA d s m.b
 have key := Zhm d s
 rw [ZaB, ZaB]
 by_cases k0 : m.k = 0
 ·rw [if_pos k0] at h2 ⊢
  have h2 := of_decide_eq_true h2
  rw [if_pos h2.1.symm, if_pos h2.1.symm]
  have q1 := key ⟨m.a, 0, m.i, false⟩
  have q2 := key ⟨m.a, m.i, m.j + 1, true⟩
  have q3 := key ⟨m.a, m.j + 1, tlen d m.a, false⟩
  have q0 := key pc0
  simp only [pc0] at q1 q2 q3 q0 ⊢
  omega
 rw [if_neg k0] at h2 ⊢
 by_cases k1 : m.k = 1
 ·rw [if_pos k1] at h2 ⊢
  have h2 := of_decide_eq_true h2
  by_cases hab : m.a = m.b
  ·rw [if_pos hab] at h2
   rw [if_pos hab, if_pos hab, if_neg (by simp [hab])]
   rw [← hab] at h2
   by_cases hij : m.i < m.j
   ·rw [if_pos hij]
    have q1 := key ⟨m.a, 0, m.i, false⟩
    have q2 := key ⟨m.a, m.i + 1, m.j + 1, false⟩
    have q3 := key ⟨m.a, m.i, m.i + 1, false⟩
    have q4 := key ⟨m.a, m.j + 1, tlen d m.a, false⟩
    have q0 := key pc0
    simp only [pc0] at q1 q2 q3 q4 q0 ⊢
    omega
   ·rw [if_neg hij]
    have q1 := key ⟨m.a, 0, m.j, false⟩
    have q2 := key ⟨m.a, m.i, m.i + 1, false⟩
    have q3 := key ⟨m.a, m.j, m.i, false⟩
    have q4 := key ⟨m.a, m.i + 1, tlen d m.a, false⟩
    have q0 := key pc0
    simp only [pc0] at q1 q2 q3 q4 q0 ⊢
    omega
  ·rw [if_neg hab] at h2
   rw [if_neg hab, if_neg hab, if_pos hab]
   have q1 := key ⟨m.a, 0, m.i, false⟩
   have q2 := key ⟨m.a, m.i + 1, tlen d m.a, false⟩
   have q3 := key ⟨m.b, 0, m.j, false⟩
   have q4 := key ⟨m.a, m.i, m.i + 1, false⟩
   have q5 := key ⟨m.b, m.j, tlen d m.b, false⟩
   have q0 := key pc0
   simp only [pc0] at q1 q2 q3 q4 q5 q0 ⊢
   omega
 rw [if_neg k1] at h2 ⊢
 by_cases k2 : m.k = 2
 ·rw [if_pos k2] at h2 ⊢
  have h2 := of_decide_eq_true h2
  by_cases hab : m.a = m.b
  ·rw [if_pos hab, if_pos hab, if_pos hab]
   rw [← hab] at h2 ⊢
   have q1 := key ⟨m.a, 0, m.i, false⟩
   have q2 := key ⟨m.a, m.j, m.j + 1, false⟩
   have q3 := key ⟨m.a, m.i + 1, m.j, false⟩
   have q4 := key ⟨m.a, m.i, m.i + 1, false⟩
   have q5 := key ⟨m.a, m.j + 1, tlen d m.a, false⟩
   simp only at q1 q2 q3 q4 q5 ⊢
   omega
  ·rw [if_neg hab, if_neg hab, if_neg hab]
   have q1 := key ⟨m.a, 0, m.i, false⟩
   have q2 := key ⟨m.b, m.j, m.j + 1, false⟩
   have q3 := key ⟨m.a, m.i + 1, tlen d m.a, false⟩
   have q4 := key ⟨m.b, 0, m.j, false⟩
   have q5 := key ⟨m.a, m.i, m.i + 1, false⟩
   have q6 := key ⟨m.b, m.j + 1, tlen d m.b, false⟩
   have q0 := key pc0
   simp only [pc0] at q1 q2 q3 q4 q5 q6 q0 ⊢
   omega
 rw [if_neg k2] at h2 ⊢
 have h2 := of_decide_eq_true h2
 rw [if_neg (by omega), if_neg (by omega)]
 have q1 := key ⟨m.a, 0, m.i, false⟩
 have q2 := key ⟨m.b, m.j, tlen d m.b, false⟩
 have q3 := key ⟨m.b, 0, m.j, false⟩
 have q4 := key ⟨m.a, m.i, tlen d m.a, false⟩
 have q0 := key pc0
 simp only [pc0] at q1 q2 q3 q4 q0 ⊢
 omega
theorem J9 {d : Day} {i : Nat} {u : zn} (t : zn) (h : d[i]? = some u) (s : Stop) : (d.set i t).flatten.count s + u.count s = t.count s + d.flatten.count s := by
 obtain ⟨hi, rfl⟩ := List.getElem?_eq_some_iff.1 h
 have e : d = d.take i ++ d[i] :: d.drop (i + 1) := by rw [← List.drop_eq_getElem_cons hi, List.take_append_drop]
 rw [List.set_eq_take_append_cons_drop, if_pos hi]
 conv => rhs; rw [e]
 simp only [List.flatten_append, List.flatten_cons, List.count_append]
 omega
theorem Xa {d : Day} {i : Nat} {u : zn} (t : zn) (h : d[i]? = some u) (x : Inst) : zA x (d.set i t) + zB x (u.map (·.c)) = zB x (t.map (·.c)) + zA x d := by
 obtain ⟨hi, rfl⟩ := List.getElem?_eq_some_iff.1 h
 have e : d = d.take i ++ d[i] :: d.drop (i + 1) := by rw [← List.drop_eq_getElem_cons hi, List.take_append_drop]
 unfold zA
 rw [List.set_eq_take_append_cons_drop, if_pos hi]
 conv => rhs; rw [e]
 simp only [List.map_append, List.map_cons, List.sum_append, List.sum_cons]
 omega
theorem Xb (d : Day) (m : Mv) : (List.range d.length).map (mkT d m) = (d.set m.b (zO d (zz d m).2)).set m.a (zO d (zz d m).1) := by
 refine List.ext_getElem? fun i => ?_
 by_cases hi : i < d.length
 ·rw [List.getElem?_map, List.getElem?_range hi]
  simp only [Option.map_some, mkT, List.getElem?_set, List.length_set]
  by_cases h1 : i = m.a
  ·rw [if_pos h1, if_pos h1.symm, if_pos (by omega)]
  ·rw [if_neg h1, if_neg (fun e : m.a = i => h1 e.symm)]
   by_cases h2 : i = m.b
   ·rw [if_pos h2, if_pos h2.symm, if_pos (by omega)]
   ·rw [if_neg h2, if_neg (fun e : m.b = i => h2 e.symm), List.getD_eq_getElem?_getD, List.getElem?_eq_getElem hi]; rfl
 ·rw [List.getElem?_eq_none (by simp; omega), List.getElem?_eq_none (by simp; omega)]
theorem Xc (d : Day) (m : Mv) : ∀ l : List Nat, (l.filterMap (yV d m)).flatten = (l.map (mkT d m)).flatten ∧ ∀ x, zA x (l.filterMap (yV d m)) = zA x (l.map (mkT d m))
 | [] => ⟨rfl, fun _ => rfl⟩
 | i :: l => by
  obtain ⟨h1, h2⟩ := Xc d m l
  have e : yV d m i = if (mkT d m i).length = 0 then none else some (mkT d m i) := rfl
  rw [List.filterMap_cons, e, List.map_cons]
  by_cases h : (mkT d m i).length = 0
  ·rw [if_pos h, List.length_eq_zero_iff.1 h]
   refine ⟨by simpa using h1, fun x => ?_⟩
   have := h2 x
   unfold zA at this ⊢
   simpa [zB] using this
  ·rw [if_neg h]
   refine ⟨by simpa using h1, fun x => ?_⟩
   have := h2 x
   unfold zA at this ⊢
   simpa using this
theorem ZaC {d : Day} {m : Mv} {t : zn} (h : t ∈ mkZ d m) : t ≠ [] ∧ (t = zO d (zz d m).1 ∨ t = zO d (zz d m).2 ∨ t ∈ d) := by
 unfold mkZ at h
 obtain ⟨i, hi, h⟩ := List.mem_filterMap.1 h
 unfold yV at h
 split at h
 ·cases h
 ·rename_i h0
  cases h
  refine ⟨fun e => h0 (by rw [e]; rfl), ?_⟩
  unfold mkT
  split
  ·exact .inl rfl
  ·split
   ·exact .inr (.inl rfl)
   ·refine .inr (.inr ?_)
    have hi := List.mem_range.1 hi
    rw [List.getD_eq_getElem?_getD, List.getElem?_eq_getElem hi]
    exact List.getElem_mem hi
theorem ZaD (d : Day) (m : Mv) : (mkZ d m).length ≤ d.length := by
 have := List.length_filterMap_le (yV d m) (List.range d.length)
 simpa [mkZ] using this
theorem Ql {d : Day} {m : Mv} (h : yv d m = true) : (mkZ d m).flatten.Perm d.flatten := by
 obtain ⟨-, ha, hb, -, -⟩ := wO h
 refine List.perm_iff_count.2 fun s => ?_
 have hc := Zhn h s
 unfold mkZ
 rw [(Xc d m _).1, Xb]
 obtain ⟨ua, hua⟩ : ∃ u, d[m.a]? = some u := ⟨_, List.getElem?_eq_getElem ha⟩
 obtain ⟨ub, hub⟩ : ∃ u, d[m.b]? = some u := ⟨_, List.getElem?_eq_getElem hb⟩
 have ga : d.getD m.a [] = ua := by rw [List.getD_eq_getElem?_getD, hua]; rfl
 have gb : d.getD m.b [] = ub := by rw [List.getD_eq_getElem?_getD, hub]; rfl
 rw [ga, gb] at hc
 generalize zO d (zz d m).1 = t1 at *
 generalize zO d (zz d m).2 = t2 at *
 by_cases hab : m.a = m.b
 ·rw [if_pos hab, if_pos hab] at hc
  rw [← hab, List.set_set]
  have := J9 t1 hua s
  omega
 ·rw [if_neg hab, if_neg hab] at hc
  have h1 := J9 t2 hub s
  have h2 := J9 (d := d.set m.b t2) (i := m.a) (u := ua) t1 (by rw [List.getElem?_set_ne (fun e => hab e.symm)]; exact hua) s
  omega
theorem Xd {x : Inst} {d : Day} {m : Mv} (h : yv d m = true) (h0 : arc x 0 0 = 0) : zA x (mkZ d m) = zA x d + byM x d m := by
 obtain ⟨-, ha, hb, r1, r2⟩ := wO h
 unfold mkZ byM ZI
 rw [(Xc d m _).2, Xb, J6 r1 h0, J6 r2 h0]
 obtain ⟨ua, hua⟩ : ∃ u, d[m.a]? = some u := ⟨_, List.getElem?_eq_getElem ha⟩
 obtain ⟨ub, hub⟩ : ∃ u, d[m.b]? = some u := ⟨_, List.getElem?_eq_getElem hb⟩
 have ga : d.getD m.a [] = ua := by rw [List.getD_eq_getElem?_getD, hua]; rfl
 have gb : d.getD m.b [] = ub := by rw [List.getD_eq_getElem?_getD, hub]; rfl
 rw [ga, gb]
 generalize zO d (zz d m).1 = t1 at *
 generalize zO d (zz d m).2 = t2 at *
 by_cases hab : m.a = m.b
 ·rw [if_pos hab, ← hab, List.set_set]
  have := Xa t1 hua x
  omega
 ·rw [if_neg hab]
  have h1 := Xa t2 hub x
  have h2 := Xa (d := d.set m.b t2) (i := m.a) (u := ua) t1 (by rw [List.getElem?_set_ne (fun e => hab e.symm)]; exact hua) x
  omega
open Go Go.Proofs Hp
theorem Xe (x : Inst) : ∀ (ds : List Day) (st : Day × Int × Bool), (ds.foldl (qk x) st).2.2 = true → ds.foldl (qk x) st = st ∨ (∃ d ∈ ds, zL x d = 0 ∧ ds.foldl (qk x) st = (d, W (zA x d), true))
 | [], st, _ => .inl rfl
 | d :: ds, st, h => by
  rw [List.foldl_cons] at h ⊢
  rcases Xe x ds _ h with e | ⟨d2, h1, h2, h3⟩
  ·rw [e]
   unfold qk
   split
   ·rename_i h0
    split
    ·exact .inr ⟨d, by simp, h0, rfl⟩
    ·exact .inl rfl
   ·exact .inl rfl
  ·exact .inr ⟨d2, by simp [h1], h2, h3⟩
theorem ZaE {x : Inst} {e : Int} {ds : List Day} (h : (yY x e ds).2 = 0) : e = 0 ∧ (yY x e ds).1 ∈ ds ∧ zL x (yY x e ds).1 = 0 := by
 unfold yY at h ⊢
 by_cases he : e = 0
 ·rw [if_pos he] at h ⊢
  cases hz : (yX x ds).2.2 with
  | false => rw [hz] at h; cases h
  | true =>
   refine ⟨he, ?_⟩
   rcases Xe x ds ([], 0, false) hz with q | ⟨d, h1, h2, h3⟩
   ·have : (yX x ds).2.2 = false := by unfold yX; rw [q]
    rw [this] at hz; cases hz
   ·have : yX x ds = (d, W (zA x d), true) := h3
    rw [this]; exact ⟨h1, h2⟩
 ·rw [if_neg he] at h; exact absurd h he
theorem Zho (x : Inst) : ye (qK x) := by
 refine V8 fun row hr d hd => ?_
 simp only [qK, List.mem_map] at hr
 obtain ⟨a, _, rfl⟩ := hr
 unfold xc at hd
 obtain ⟨b, _, rfl⟩ := List.mem_map.1 hd
 split
 ·have := uv (arc x a b) 0 60 (by omega); omega
 ·omega
theorem Zhp (x : Inst) : 0 ≤ (qK x).veh := (uv x.veh 0 5 (by omega)).1
open Go Go.Proofs
structure SG (x : Inst) (l : List Stop) (d : Day) : Prop where
 may : ∀ t ∈ d, zp x t = 0
 perm : d.flatten.Perm l
def ZaF (x : Inst) (t : zn) : Prop := (∀ s ∈ t, qj x s = true) ∧ (t.map (·.c)).Nodup ∧ t.length ≤ 1000
theorem Qm {x : Inst} {t : zn} (h : zp x t = 0) : (∀ s ∈ t, qj x s = true) ∧ t ≠ [] := by
 have := ((vj x t).1 h).1
 unfold yo at this
 rw [Bool.and_eq_true, List.all_eq_true] at this
 refine ⟨this.1, fun e => ?_⟩
 subst e
 simp at this
theorem Xf {x : Inst} : ∀ t : zn, (∀ s ∈ t, qj x s = true) → 0 ≤ zt t ∧ zt t ≤ 2147483648 * (t.length : Int)
 | [], _ => by simp [zt]
 | s :: t, h => by
  have h1 := Xf t fun s hs => h s (by simp [hs])
  have h2 := h s (by simp)
  simp [qj] at h2
  unfold zt at h1 ⊢
  simp only [List.map_cons, List.sum_cons, List.length_cons]
  omega
theorem ZL {x : Inst} (hx : ye x) {t : zn} (h : ZaF x t) (hn : t ≠ []) : zp x t = 0 ↔ zt t ≤ x.cap ∧ zB x (t.map (·.c)) ≤ x.len := by
 obtain ⟨h1, h2, h3⟩ := h
 have b1 := Xf t h1
 have b2 := vZ hx (t.map (·.c))
 rw [List.length_map] at b2
 have w1 : W (zt t) = zt t := wr _ (by omega) (by omega)
 have w2 : W (zB x (t.map (·.c))) = zB x (t.map (·.c)) := wr _ (by omega) (by omega)
 rw [vj, w1, w2]
 have : yo x t = true := by
  unfold yo
  rw [Bool.and_eq_true, List.all_eq_true]
  exact ⟨h1, by cases t <;> simp at hn ⊢⟩
 exact ⟨fun e => e.2.2, fun e => ⟨this, h2, e⟩⟩
theorem SG.each {x : Inst} {l : List Stop} {d : Day} (g : SG x l d) : ∀ s ∈ l, qj x s = true := by
 intro s hs
 obtain ⟨t, ht, hst⟩ := List.mem_flatten.1 (g.perm.symm.subset hs)
 exact (Qm (g.may t ht)).1 s hst
section
variable {x : Inst} {l : List Stop} (h : SOk x l)
include h
theorem SG.len {d : Day} (g : SG x l d) : d.flatten.length ≤ 1000 ∧ d.length ≤ 1000 := by
 have h1 := uF d fun t ht => (Qm (g.may t ht)).2
 have h2 := g.perm.length_eq
 have h3 := h.len
 omega
theorem SG.tour {d : Day} (g : SG x l d) {e : Day} (he : e.flatten.Perm l) {t : zn} (ht : t ∈ e) : ZaF x t := by
 have hs := qC ht
 have hl := h.len
 refine ⟨fun s q => g.each s (he.subset (hs.subset q)), ?_, ?_⟩
 ·exact ((he.map _).nodup_iff.2 h.nd).sublist (hs.map _)
 ·have := hs.length_le
  have := he.length_eq
  omega
theorem SG.mv {d : Day} (g : SG x l d) : MvDay d := by
 refine ⟨(g.len h).2, fun t ht => (g.tour h g.perm ht).2.2, fun t ht s hs => ?_⟩
 have := (g.tour h g.perm ht).1 s hs
 have hc := h.cust
 simp [qj] at this
 unfold small
 omega
theorem SG.ok {d : Day} (g : SG x l d) : DayOk d := by
 have h1 := g.len h
 have h2 := g.mv h
 exact ⟨by omega, fun t ht => Nat.le_trans (h2.t t ht) (by decide), fun t ht s hs => (h2.s t ht s hs).1⟩
end
theorem ZaG {x : Inst} {d : Day} {r : Rw5} (hr : xq d r) (h0 : arc x 0 0 = 0) : qH x d r ↔ zt (zO d r) ≤ x.cap ∧ zB x ((zO d r).map (·.c)) ≤ x.len := by
 unfold qH
 rw [J6 hr h0, Zhe hr]
theorem Zhq {d : Day} {m : Mv} (h : yv d m = true) (hab : m.a = m.b) : zO d (zz d m).2 = [] := by
 have e0 : zO d rw0 = [] := rfl
 unfold yv at h
 rw [Bool.and_eq_true] at h
 obtain ⟨-, h2⟩ := h
 unfold qD at h2
 unfold zz qu
 by_cases k0 : m.k = 0
 ·rw [if_pos k0]; exact e0
 rw [if_neg k0] at h2 ⊢
 by_cases k1 : m.k = 1
 ·rw [if_pos k1, if_neg (by simp [hab])]
  split <;> exact e0
 rw [if_neg k1] at h2 ⊢
 by_cases k2 : m.k = 2
 ·rw [if_pos k2, if_pos hab]; exact e0
 rw [if_neg k2] at h2
 have h2 := of_decide_eq_true h2
 omega
theorem Zhr {d : Day} {m : Mv} (h : yv d m = true) (hn : zO d (zz d m).1 ≠ []) : zO d (zz d m).1 ∈ mkZ d m := by
 obtain ⟨-, ha, -⟩ := wO h
 refine List.mem_filterMap.2 ⟨m.a, List.mem_range.2 ha, ?_⟩
 have e : mkT d m m.a = zO d (zz d m).1 := by unfold mkT; rw [if_pos rfl]
 unfold yV
 rw [e, if_neg fun q => hn (List.length_eq_zero_iff.1 q)]
theorem Zhs {d : Day} {m : Mv} (h : yv d m = true) (hab : m.a ≠ m.b) (hn : zO d (zz d m).2 ≠ []) : zO d (zz d m).2 ∈ mkZ d m := by
 obtain ⟨-, -, hb, -⟩ := wO h
 refine List.mem_filterMap.2 ⟨m.b, List.mem_range.2 hb, ?_⟩
 have e : mkT d m m.b = zO d (zz d m).2 := by unfold mkT; rw [if_neg fun q => hab q.symm, if_pos rfl]
 unfold yV
 rw [e, if_neg fun q => hn (List.length_eq_zero_iff.1 q)]
theorem ZaH {x : Inst} {l : List Stop} (h : SOk x l) (h0 : arc x 0 0 = 0) {d : Day} (g : SG x l d) {m : Mv} (hm : yv d m = true) : (qH x d (zz d m).1 ∧ qH x d (zz d m).2) ↔ ∀ t ∈ mkZ d m, zp x t = 0 := by
 obtain ⟨-, ha, hb, r1, r2⟩ := wO hm
 have hp : (mkZ d m).flatten.Perm l := (Ql hm).trans g.perm
 rw [ZaG r1 h0, ZaG r2 h0]
 have hz : 0 ≤ x.cap ∧ 0 ≤ x.len := by
  have ht := g.may _ (List.getElem_mem ha)
  have hg := g.tour h g.perm (List.getElem_mem ha)
  have := (ZL h.arc hg (Qm ht).2).1 ht
  have b1 := Xf _ hg.1
  have b2 := vZ h.arc (d[m.a].map (·.c))
  omega
 have e0 : zt [] = 0 ∧ zB x (([] : zn).map (·.c)) = 0 := ⟨rfl, rfl⟩
 constructor
 ·rintro ⟨q1, q2⟩ t ht
  obtain ⟨hn, h3⟩ := ZaC ht
  have hg := g.tour h hp ht
  rcases h3 with rfl | rfl | h3
  ·exact (ZL h.arc hg hn).2 q1
  ·exact (ZL h.arc hg hn).2 q2
  ·exact g.may t h3
 ·intro hall
  constructor
  ·by_cases hn : zO d (zz d m).1 = []
   ·rw [hn, e0.1, e0.2]; exact hz
   ·have ht := Zhr hm hn
    exact (ZL h.arc (g.tour h hp ht) hn).1 (hall _ ht)
  ·by_cases hn : zO d (zz d m).2 = []
   ·rw [hn, e0.1, e0.2]; exact hz
   ·by_cases hab : m.a = m.b
    ·exact absurd (Zhq hm hab) hn
    ·have ht := Zhs hm hab hn
     exact (ZL h.arc (g.tour h hp ht) hn).1 (hall _ ht)
theorem ZaI (x : Inst) (d : Day) : ∀ (ms : List Mv) (st : Mv × Int), (ms.foldl (mbS x d) st = st) ∨ (∃ m ∈ ms, (ms.foldl (mbS x d) st) = (m, byM x d m) ∧ qH x d (zz d m).1 ∧ qH x d (zz d m).2)
 | [], st => .inl rfl
 | m :: ms, st => by
  rw [List.foldl_cons]
  rcases ZaI x d ms (mbS x d st m) with e | ⟨m2, h1, h2, h3⟩
  ·rw [e]
   unfold mbS
   split
   ·rename_i hc
    exact .inr ⟨m, by simp, rfl, hc.2⟩
   ·exact .inl rfl
  ·exact .inr ⟨m2, by simp [h1], h2, h3⟩
def qO (x : Inst) (d : Day) : Option Day := if (mbZ x d).2 < 0 then some (mkZ d (mbZ x d).1) else none
theorem Xg {x : Inst} {d : Day} (hb : (mbZ x d).2 < 0) : (mbZ x d).1 ∈ jG d ∧ byM x d (mbZ x d).1 < 0 ∧ qH x d (zz d (mbZ x d).1).1 ∧ qH x d (zz d (mbZ x d).1).2 := by
 rcases ZaI x d (jG d) (mv0, 0) with e | ⟨m, h1, h2, h3⟩
 ·unfold mbZ at hb; rw [e] at hb; cases hb
 ·unfold mbZ at hb ⊢
  rw [h2] at hb ⊢
  exact ⟨h1, hb, h3⟩
theorem Xh {x : Inst} {l : List Stop} (h : SOk x l) (h0 : arc x 0 0 = 0) {d e : Day} (g : SG x l d) (hs : qO x d = some e) : SG x l e ∧ zA x e < zA x d ∧ e.length ≤ d.length := by
 unfold qO at hs
 split at hs
 ·rename_i hb
  cases hs
  obtain ⟨h1, h2, h3⟩ := Xg hb
  have hm := (ZK h1).1
  refine ⟨⟨(ZaH h h0 g hm).1 h3, (Ql hm).trans g.perm⟩, ?_, ZaD _ _⟩
  rw [Xd hm h0]; omega
 ·cases hs
theorem Zht {x : Inst} {l : List Stop} (h : SOk x l) (h0 : arc x 0 0 = 0) : Zac x (qO x) (SG x l) := by
 intro d g
 have hv := g.mv h
 have hl : ∀ a, tlen d a ≤ 1000 := by
  intro a
  unfold tlen
  rw [List.getD_eq_getElem?_getD]
  cases hq : d[a]? with
  | none => simp
  | some l => exact hv.t l (List.mem_of_getElem? hq)
 have hd1 : (qO x d).isSome = decide ((mbZ x d).2 < 0) := by
  unfold qO
  split
  ·rename_i q; simp [q]
  ·rename_i q; simp [q]
 refine ⟨_, _, _, _, _, _, by rw [hd1]; exact Zhk x d h.arc hv, fun e he => ⟨?_, (Xh h h0 g he).1⟩⟩
 unfold qO at he
 split at he
 ·rename_i hb
  cases he
  obtain ⟨h1, -, -⟩ := Xg hb
  obtain ⟨h1, h2, h3⟩ := ZK h1
  have := hl (mbZ x d).1.a
  have := hl (mbZ x d).1.b
  exact Zhl x d _ hv.n hv.t h1 (by omega) (by omega)
 ·cases he
theorem Qn {x : Inst} {l : List Stop} (h : SOk x l) (h0 : arc x 0 0 = 0) : ∀ (n : Nat) (d : Day), SG x l d → SG x l (yH (qO x) n d) ∧ zA x (yH (qO x) n d) ≤ zA x d ∧ (yH (qO x) n d).length ≤ d.length
 | 0, d, g => ⟨g, Int.le_refl _, Nat.le_refl _⟩
 | n + 1, d, g => by
  unfold yH
  cases hs : qO x d with
  | none => exact ⟨g, Int.le_refl _, Nat.le_refl _⟩
  | some e =>
   obtain ⟨a, b, c⟩ := Xh h h0 g hs
   obtain ⟨a', b', c'⟩ := Qn h h0 n e a
   exact ⟨a', by simp only; omega, by simp only; omega⟩
open Go Go.Proofs Hp
theorem Zhu (x : Inst) : arc (qK x) 0 0 = 0 := by
 have h1 : (qK x).dist[0]? = some (xc x (x.cust.take 6).length 0) := by
  unfold qK
  rw [List.getElem?_map, List.getElem?_range (by omega)]; rfl
 have h2 : (xc x (x.cust.take 6).length 0)[0]? = some 0 := by
  unfold xc
  rw [List.getElem?_map, List.getElem?_range (by omega)]; rfl
 unfold arc
 split
 ·rfl
 ·rw [List.getD_eq_getElem?_getD, List.getD_eq_getElem?_getD]
  show (((qK x).dist[0]?).getD [])[0]?.getD 0 = 0
  rw [h1]
  show ((xc x (x.cust.take 6).length 0)[0]?).getD 0 = 0
  rw [h2]; rfl
theorem ZaJ {x : Inst} {l : List Stop} (h : yk x l = 0) : ∀ s ∈ l, zp x [s] = 0 := by
 unfold yk at h
 intro s hs
 cases hf : l.find? (fun s => zp x [s] != 0) with
 | some s2 =>
  have := List.find?_some hf
  rw [hf] at h
  simp only at h
  rw [h] at this; simp at this
 | none =>
  have := List.find?_eq_none.1 hf s hs
  simpa using this
theorem Zhv {x : Inst} {l : List Stop} (h : SOk x l) (hf : yk x l = 0) : ∀ t ∈ qq x l, zp x t = 0 := by
 have key : ∀ (ps : List Pr) (st : Day × Int), (∀ t ∈ st.1, t.length ≤ 1 ∨ zp x t = 0) → ∀ t ∈ (ps.foldl (yu x) st).1, t.length ≤ 1 ∨ zp x t = 0 := by
  intro ps
  induction ps with
  | nil => intro st h; exact h
  | cons p ps ih =>
   intro st hst
   rw [List.foldl_cons]
   refine ih _ fun t ht => ?_
   unfold yu uC at ht
   generalize xz st.1 p.a = i at ht
   generalize xz st.1 p.b = k at ht
   generalize st.1.getD i [] = a at ht
   generalize st.1.getD k [] = b at ht
   cases hc : yf x st.2 p i k a b with
   | false => rw [hc] at ht; exact hst t ht
   | true =>
    rw [hc] at ht
    simp only [cond_true] at ht
    unfold yf at hc
    simp only [Bool.and_eq_true, decide_eq_true_eq] at hc
    rcases List.mem_or_eq_of_mem_set ht with ht | ht
    ·rcases List.mem_or_eq_of_mem_set ht with ht | ht
     ·exact hst t ht
     ·rw [ht]; exact .inr hc.2
    ·rw [ht]; exact .inl (by simp)
 intro t ht
 obtain ⟨-, hp, -, hne⟩ := h.join
 have hs := qC ht
 have h1 := key (yd x (l.map fun s : Stop => s.c)) (l.map fun s => [s], (l.length : Int)) (fun t ht => by obtain ⟨s, _, rfl⟩ := List.mem_map.1 ht; simp) t (List.mem_filter.1 ht).1
 rcases h1 with h1 | h1
 ·have := hne t ht
  match t, h1, this with
  | [s], _, _ => exact ZaJ hf s (hp.subset (hs.subset (by simp)))
 ·exact h1
theorem Qo {x : Inst} {l : List Stop} (h : SOk x l) (hf : yk x l = 0) : ∀ d ∈ jX x l, SG x l d := by
 intro d hd
 unfold jX at hd
 simp only [List.cons_append, List.nil_append, List.mem_cons] at hd
 rcases hd with rfl | rfl | hd
 ·exact ⟨Zhv h hf, h.join.2.1⟩
 ·refine ⟨fun t ht => ?_, by rw [h.apart.2.1]⟩
  obtain ⟨s, hs, rfl⟩ := List.mem_map.1 ht
  exact ZaJ hf s hs
 ·cases hall : (zT x l).2 with
  | false => rw [hall] at hd; simp at hd
  | true =>
   rw [hall] at hd
   simp at hd; subst hd
   obtain ⟨r, hp⟩ := h.regret
   exact ⟨((xk x _).1 r.may).1, hp hall⟩
def ZM (x : Inst) (b : Int) (d : Day) : Day := yH (qO x) b.toNat d
def yI (x : Inst) (b : Int) (l : List Stop) : Day × Int := yY x (yk x l) (qU x (ZM x b) l)
theorem Zhw {x : Inst} {l : List Stop} (h : SOk x l) (h0 : arc x 0 0 = 0) (hf : yk x l = 0) {b : Int} (hb : b ≤ 9223372036854775807) : Zap x b (ZM x b) (jX x l) := by
 intro d hd
 have g := Qo h hf d hd
 obtain ⟨g2, -, -⟩ := Qn h h0 b.toNat d g
 have o := g.ok h
 refine ⟨⟨_, ZgG x d b (qO x) (SG x l) hb o.n o.t (fun _ => g) (Zht h h0)⟩, g2.ok h, ?_⟩
 have := (g2.len h).1
 show (yH (qO x) b.toNat d).flatten.length ≤ 1048576
 omega
theorem Zhx {x : Inst} {l : List Stop} (h : SOk x l) (h0 : arc x 0 0 = 0) {b : Int} (hb : b ≤ 9223372036854775807) : Pure Tryz.prog 130 [.agg (zm x), L l, I b] (.tup [.agg [L (yI x b l).1], I (yI x b l).2]) :=
 Zg3 x l b _ h fun hf => Zhw h h0 hf hb
theorem ZaK {x : Inst} {l : List Stop} (h : SOk x l) (h0 : arc x 0 0 = 0) (hf : yk x l = 0) (b : Int) : ∀ d ∈ qU x (ZM x b) l, SG x l d := by
 have hb := Qo h hf
 have hi := fun d g => (Qn h h0 b.toNat d g).1
 intro d hd
 unfold qU at hd
 unfold jX at hb
 simp only [List.cons_append, List.nil_append, List.mem_cons] at hd hb
 rcases hd with rfl | rfl | rfl | hd
 ·exact hb _ (.inr (.inl rfl))
 ·exact hi _ (hb _ (.inl rfl))
 ·exact hi _ (hb _ (.inr (.inl rfl)))
 ·cases hall : (zT x l).2 with
  | false => rw [hall] at hd; simp at hd
  | true =>
   rw [hall] at hd
   simp at hd; subst hd
   exact hi _ (hb _ (.inr (.inr (by rw [hall]; simp))))
theorem ZaL (x : Inst) : ∀ (ds : List Day) (st : Day × Int × Bool), (st.2.2 = true → (ds.foldl (qk x) st).2.2 = true ∧ (ds.foldl (qk x) st).2.1 ≤ st.2.1) ∧ ∀ d ∈ ds, zL x d = 0 → (ds.foldl (qk x) st).2.2 = true ∧ (ds.foldl (qk x) st).2.1 ≤ W (zA x d)
 | [], st => ⟨fun e => ⟨e, Int.le_refl _⟩, by simp⟩
 | d :: ds, st => by
  rw [List.foldl_cons]
  obtain ⟨h1, h2⟩ := ZaL x ds (qk x st d)
  constructor
  ·intro e
   have : (qk x st d).2.2 = true ∧ (qk x st d).2.1 ≤ st.2.1 := by
    unfold qk
    split
    ·split
     ·rename_i hc
      rcases hc with hc | hc
      ·rw [e] at hc; cases hc
      ·exact ⟨rfl, Int.le_of_lt hc⟩
     ·exact ⟨e, Int.le_refl _⟩
    ·exact ⟨e, Int.le_refl _⟩
   obtain ⟨a, b⟩ := h1 this.1
   exact ⟨a, Int.le_trans b this.2⟩
  ·intro d2 hd hz
   rcases List.mem_cons.1 hd with rfl | hd
   ·have : (qk x st d2).2.2 = true ∧ (qk x st d2).2.1 ≤ W (zA x d2) := by
     unfold qk
     rw [if_pos hz]
     split
     ·exact ⟨rfl, Int.le_refl _⟩
     ·rename_i hc
      cases hq : st.2.2 with
      | false => exact absurd (.inl hq) hc
      | true => exact ⟨rfl, Int.not_lt.1 fun q => hc (.inr q)⟩
    obtain ⟨a, b⟩ := h1 this.1
    exact ⟨a, Int.le_trans b this.2⟩
   ·exact h2 d2 hd hz
theorem ZaM {x : Inst} {e : Int} {ds : List Day} (he : e = 0) {d : Day} (hd : d ∈ ds) (hz : zL x d = 0) : (yY x e ds).2 = 0 ∧ W (zA x (yY x e ds).1) ≤ W (zA x d) := by
 obtain ⟨h1, h2⟩ := (ZaL x ds ([], 0, false)).2 d hd hz
 change (yX x ds).2.2 = true at h1
 change (yX x ds).2.1 ≤ W (zA x d) at h2
 unfold yY
 rw [if_pos he, h1]
 refine ⟨rfl, ?_⟩
 rcases Xe x ds ([], 0, false) h1 with q | ⟨d2, g1, g2, g3⟩
 ·have : (yX x ds).2.2 = false := by unfold yX; rw [q]
  rw [this] at h1; cases h1
 ·have : yX x ds = (d2, W (zA x d2), true) := g3
  rw [this] at h2 ⊢; exact h2
theorem ZaN {x : Inst} {e : Int} {ds : List Day} (h : (yY x e ds).2 ≠ 0) : (yY x e ds).1 = [] := by
 unfold yY at h ⊢
 by_cases he : e = 0
 ·rw [if_pos he] at h ⊢
  cases hz : (yX x ds).2.2 with
  | true => rw [hz] at h; exact absurd rfl h
  | false => rfl
 ·rw [if_neg he]
theorem ZaO (x : Inst) (imp : Day → Day) (l : List Stop) : zE l ∈ qU x imp l := by simp [qU]
section
variable {x : Inst} {l : List Stop} (h : SOk x l) (h0 : arc x 0 0 = 0) (b : Int)
include h h0
theorem Zhy : DayOk (yI x b l).1 ∧ (yI x b l).1.length ≤ 1000 ∧ (yI x b l).1.flatten.length ≤ 1000 := by
 by_cases he : (yI x b l).2 = 0
 ·obtain ⟨hf, hm, -⟩ := ZaE he
  have g := ZaK h h0 hf b _ hm
  exact ⟨g.ok h, (g.len h).2, (g.len h).1⟩
 ·have : (yI x b l).1 = [] := ZaN he
  rw [this]; exact ⟨⟨by simp, by simp, by simp⟩, by simp, by simp⟩
theorem Zhz (he : (yI x b l).2 = 0) : yk x l = 0 ∧ zL x (yI x b l).1 = 0 ∧ (yI x b l).1.flatten.Perm l ∧ (zL x (zE l) = 0 → W (zA x (yI x b l).1) ≤ W (zA x (zE l))) := by
 obtain ⟨hf, hm, hz⟩ := ZaE he
 have g := ZaK h h0 hf b _ hm
 exact ⟨hf, hz, g.perm, fun q => (ZaM hf (ZaO x _ l) q).2⟩
omit h0 in
theorem ZhA (he : (yI x b l).2 ≠ 0) : (yI x b l).1 = [] ∧ (yk x l ≠ 0 ∨ x.veh < l.length) := by
 refine ⟨ZaN he, ?_⟩
 by_cases hf : yk x l = 0
 ·refine .inr ?_
  by_cases hv : x.veh < l.length
  ·exact hv
  ·refine absurd (ZaM hf (ZaO x (ZM x b) l) ?_).1 he
   have g := Qo h hf (zE l) (by simp [jX])
   refine (xk x _).2 ⟨g.may, by rw [h.apart.2.1]; exact h.nd, ?_⟩
   rw [vn]; omega
 ·exact .inl hf
end
open Go
structure Visit where
 d : Int
 q : Int
 deriving DecidableEq
instance : Inhabited Visit := ⟨⟨0, 0⟩⟩
instance : Enc Visit := ⟨fun s => [I s.d, I s.q], 2, fun _ => rfl, fun _ => rfl⟩
@[simp] theorem ZkZ (s : Visit) : Enc.enc s = [I s.d, I s.q] := rfl
@[simp high] theorem Zk0 (l : List Visit) : (l.flatMap Enc.enc).length = l.length * 2 := qX l
@[simp high] theorem Zk1 (l : List Visit) : (l.flatMap Enc.enc).take (l.length * 2) = l.flatMap Enc.enc := vd l
open Go
set_option maxRecDepth 20000 in
theorem ZaP (d : Int) : Pure Tryz.prog 210 [I d] (B (decide (0 ≤ d ∧ d < 64))) := by
 refine pwe Tryz.func210 Tryz.ntmps210 Tryz.results210 fun S nx hd => ?_
 (repeat apply za); refine pwn ?_; intros
 by_cases h1 : 0 ≤ d
 ·repeat apply za
  refine pwN [(2, 5)] h1 ?_
  intros
  repeat apply za
  exact zd (zg hd (by simp; rfl) (by simp [h1, zl]))
 ·repeat apply za
  refine pwN [(2, 5)] (jn2 h1 zr) ?_
  intros
  repeat apply za
  exact zd (zg hd (by simp; rfl) (by simp [h1, zl]))
open Go
def wP (a b : Int) : Int := if a + b < -9223372036854775808 then -9223372036854775808 else if 9223372036854775807 < a + b then 9223372036854775807 else a + b
set_option maxRecDepth 20000 in
theorem ZhB (a b : Int) (ha : I64 a) (hb : I64 b) : Pure Tryz.prog 243 [I a, I b] (if -9223372036854775808 ≤ a + b ∧ a + b ≤ 9223372036854775807 then .tup [I (a + b), B true] else .tup [I 0, B false]) := by
 unfold I64 at ha hb
 refine pwe Tryz.func243 Tryz.ntmps243 Tryz.results243 fun S nx hd => ?_
 (repeat apply za); refine pwn ?_; intros
 by_cases h : -9223372036854775808 ≤ a + b ∧ a + b ≤ 9223372036854775807
 ·have w1 : IntKind.i64.wrap (a + b) = a + b := wr _ h.1 h.2
  repeat apply za
  refine pwN [] w1 ?_
  intros
  by_cases h1 : b < 0
  ·have h2 : a + b < a := by omega
   repeat apply za
   refine pwN [] (jn2 h1 h2) ?_
   intros
   repeat apply za
   refine zi (by simp) ?_
   refine zb ?_
   (repeat apply za); refine pwn ?_; intros
   repeat apply za
   exact zd (zg hd (by simp; rfl) (by simp [h, zl]))
  ·have h2 : ¬ a + b < a := by omega
   repeat apply za
   refine pwN [] (jn2 h1 h2) ?_
   intros
   repeat apply za
   refine zi (by simp) ?_
   refine zb ?_
   (repeat apply za); refine pwn ?_; intros
   repeat apply za
   exact zd (zg hd (by simp; rfl) (by simp [h, zl]))
 ·by_cases h0 : a + b < -9223372036854775808
  ·have w1 : IntKind.i64.wrap (a + b) = a + b + 18446744073709551616 := by rw [IntKind.wrap_i64]; omega
   have h1 : b < 0 := by omega
   have h2 : ¬ a + b + 18446744073709551616 < a := by omega
   repeat apply za
   refine pwN [] w1 ?_
   intros
   repeat apply za
   refine pwN [] (jn2 h1 h2) ?_
   intros
   repeat apply za
   refine zj (by simp) ?_
   (repeat apply za); refine pwn ?_; intros
   repeat apply za
   exact zd (zg hd (by simp; rfl) (by simp only [h, if_false]; rfl))
  ·have w1 : IntKind.i64.wrap (a + b) = a + b - 18446744073709551616 := by rw [IntKind.wrap_i64]; omega
   have h1 : ¬ b < 0 := by omega
   have h2 : a + b - 18446744073709551616 < a := by omega
   repeat apply za
   refine pwN [] w1 ?_
   intros
   repeat apply za
   refine pwN [] (jn2 h1 h2) ?_
   intros
   repeat apply za
   refine zj (by simp) ?_
   (repeat apply za); refine pwn ?_; intros
   repeat apply za
   exact zd (zg hd (by simp; rfl) (by simp only [h, if_false]; rfl))
set_option maxRecDepth 20000 in
theorem ZhC (a b : Int) (ha : I64 a) (hb : I64 b) : Pure Tryz.prog 209 [I a, I b] (I (wP a b)) := by
 have hadd := ZhB a b ha hb
 unfold I64 at ha hb
 refine pwe Tryz.func209 Tryz.ntmps209 Tryz.results209 fun S nx hd => ?_
 (repeat apply za); refine pwn ?_; intros
 by_cases h : -9223372036854775808 ≤ a + b ∧ a + b ≤ 9223372036854775807
 ·rw [if_pos h] at hadd
  repeat apply za
  refine pwn ?_
  refine pwc hadd ?_
  intros
  repeat apply za
  refine ze ?_
  (repeat apply za); refine pwn ?_; intros
  repeat apply za
  refine zj rfl ?_
  (repeat apply za); refine pwn ?_; intros
  repeat apply za
  exact zd (zg hd (by simp; rfl) (by simp only [wP, zl]; rw [if_neg (by omega), if_neg (by omega)]))
 ·rw [if_neg h] at hadd
  repeat apply za
  refine pwn ?_
  refine pwc hadd ?_
  intros
  repeat apply za
  refine ze ?_
  (repeat apply za); refine pwn ?_; intros
  repeat apply za
  refine zi rfl ?_
  (repeat apply za); refine pwn ?_; intros
  repeat apply za
  refine zk rfl (fun h1 => ?_) (fun h1 => ?_)
  ·simp at h1
   (repeat apply za); refine pwn ?_; intros
   repeat apply za
   exact zd (zg hd (by simp; rfl) (by simp only [wP, zl]; rw [if_pos (by omega)]))
  ·simp at h1
   refine zb ?_
   (repeat apply za); refine pwn ?_; intros
   repeat apply za
   exact zd (zg hd (by simp; rfl) (by simp only [wP, zl]; rw [if_neg (by omega), if_pos (by omega)]))
open Go
theorem ZhD (n d : Nat) : ((n : Int).fdiv (2 ^ d)) = ((n / 2 ^ d : Nat) : Int) := by
 have h : (2 : Int) ^ d = ((2 ^ d : Nat) : Int) := by simp
 rw [h, Int.fdiv_eq_ediv_of_nonneg _ (Int.natCast_nonneg _)]
 rfl
set_option maxRecDepth 20000 in
theorem ZhE (n : Nat) (d : Int) (hn : n < 2 ^ 64) : Pure Tryz.prog 242 [U n, I d] (B (decide (0 ≤ d ∧ d < 64 ∧ qA n d.toNat = 1))) := by
 by_cases h : 0 ≤ d ∧ d < 64
 ·have h1 : ¬ d < 0 := by omega
  have h2 : min d.toNat 64 = d.toNat := by omega
  have hlt : n / 2 ^ d.toNat ≤ n := Nat.div_le_self _ _
  have h3 := ZhD n d.toNat
  have hb : qA n d.toNat = n / 2 ^ d.toNat % 2 := rfl
  generalize n / 2 ^ d.toNat = m at hlt h3 hb
  have h4 := and_one_u64 (m : Int) (by omega) (by omega)
  have h5 : IntKind.u64.wrap (m : Int) = (m : Int) := by
   simp only [IntKind.wrap, IntKind.bits, IntKind.signed]
   simp
   omega
  have h6 : ((m : Int) % 2 = 1) = (qA n d.toNat = 1) := by rw [hb]; exact propext ⟨fun q => by omega, fun q => by omega⟩
  refine pwe Tryz.func242 Tryz.ntmps242 Tryz.results242 fun S nx hd => ?_
  (repeat apply za); refine pwn ?_; intros
  repeat apply za
  refine zM [(2, 7)] (by rfl) (by rfl) fun K Gc Gh hK hGc hGh X hX0 hX => ?_
  simp -implicitDefEqProofs [hX0, hX]
  try clear hX0 hX X
  refine hGc _ _ _ _ _ _ _ fun hsuf => ((ZaP d _).mono ?_).v
  rintro _ _ ⟨rfl, rfl⟩
  refine ⟨_, _, rfl, ?_⟩
  clear hGc hGh
  clear Gc Gh
  refine zK hsuf (D := [(2, 7)]) (by rfl) fun Gc Gh hGc hGh X hX0 hX => ?_
  simp -implicitDefEqProofs [hX0, hX, h, h1, h2, h3, h5, h4, IntKind.bits]
  try clear hX0 hX X
  intros
  refine hK _ _ _ ?_
  clear hK hGc hGh
  clear K Gc Gh
  repeat apply za
  exact zd (zg hd (by simp; rfl) (by simp [h, zl, h6]))
 ·refine pwe Tryz.func242 Tryz.ntmps242 Tryz.results242 fun S nx hd => ?_
  (repeat apply za); refine pwn ?_; intros
  repeat apply za
  refine pwN [(2, 7)] trivial ?_
  refine pwC [(2, 7)] (ZaP d) (jn2 h zr) ?_
  intros
  have h7 : ¬ (0 ≤ d ∧ d < 64 ∧ qA n d.toNat = 1) := fun q => h ⟨q.1, q.2.1⟩
  repeat apply za
  exact zd (zg hd (by simp; rfl) (by simp only [h7, zl, decide_false]))
def qc (n a k : Nat) : List Int := ((List.range k).filter fun i => decide (a ≤ i) && decide (qA n i = 1)).map fun (i : Nat) => (i : Int)
theorem Xi (n a k : Nat) : (qc n a k).length ≤ k := by
 simp only [qc, List.length_map]
 exact Nat.le_trans (List.length_filter_le _ _) (by simp)
theorem ZhF (n a k : Nat) (h : a ≤ k) : qc n a (k + 1) = qc n a k ++ (if qA n k = 1 then [(k : Int)] else []) := by
 simp only [qc, List.range_succ, List.filter_append, List.map_append]
 by_cases q : qA n k = 1 <;> simp [q, h]
theorem Xj (n a k : Nat) (h : k ≤ a) : qc n a k = [] := by
 simp only [qc, List.map_eq_nil_iff, List.filter_eq_nil_iff, List.mem_range]
 intro i hi; simp; omega
set_option maxRecDepth 20000 in
theorem ZhG (n : Nat) (d : Int) (hn : n < 2 ^ 64) (hdl : d ≤ 1000) : Pure Tryz.prog 241 [.fn (.func 242) [U n] [], I d] (L (qc n d.toNat 64)) := by
 have hmax : uj d 0 = ((d.toNat : Nat) : Int) := by unfold uj; split <;> omega
 have h64 : qc n d.toNat (max d.toNat 64) = qc n d.toNat 64 := by
  by_cases q : d.toNat ≤ 64
  ·rw [Nat.max_eq_right q]
  ·rw [Nat.max_eq_left (by omega), Xj _ _ _ (Nat.le_refl _), Xj _ _ _ (by omega)]
 have ha : d.toNat ≤ 1000 := by omega
 have main : ∀ a : Nat, a ≤ 1000 → qc n a (max a 64) = qc n d.toNat 64 → uj d 0 = (a : Int) → Pure Tryz.prog 241 [.fn (.func 242) [U n] [], I d] (L (qc n d.toNat 64)) := by
  intro a ha h64 hmax
  refine pwe Tryz.func241 Tryz.ntmps241 Tryz.results241 fun S nx hd => ?_
  (repeat apply za); refine pwn ?_; intros
  (repeat apply za); refine pwn ?_; intros
  refine za (qm 5 3 1 rfl fun v1 => ?_)
  repeat apply za
  refine pwN [] hmax ?_
  intros
  repeat apply za
  refine ze (zq (fun s : Nat × List Int × Nat => a ≤ s.1 ∧ s.1 ≤ max a 64 ∧ s.2.1 = qc n a s.1) (fun (k, out, v1) => [(0, .fn (.func 242) [U n] []), (5, .sl nx v1 1 0 out.length), (6, I k)]) (fun (k, out, v1) => [.cells v1 3 (out.flatMap Enc.enc)]) (fun s => max a 64 - s.1) (a, [], v1) [] (by simp [Xj]; omega) (by simp) (by simp) ?_)
  rintro ⟨k, out, v1⟩ ⟨hk0, hk, ho⟩
  simp only at hk0 hk ho ⊢
  have hol : out.length ≤ k := by rw [ho]; exact Xi _ _ _
  (repeat apply za); refine pwn ?_; intros
  repeat apply za
  refine zk rfl (fun hc => ?_) (fun hc => ?_)
  ·simp at hc
   have hc' : k < 64 := by omega
   refine zb (za (ze ?_))
   repeat apply za
   refine pwn ?_
   refine pwc (ZhE n k hn) ?_
   intros
   have hs := ZhF n a k hk0
   repeat apply za
   refine zk rfl (fun hb => ?_) (fun hb => ?_)
   ·simp at hb
    repeat apply za
    refine pwn ?_
    refine ⟨by omega, ?_⟩
    intros
    (repeat apply za); refine pwn ?_; intros
    exact zh (k + 1, out ++ [(k : Int)], v1 + 1) [] ⟨by omega, by omega, by rw [hs, if_pos hb.2, ho]⟩ (by simp; omega) (by simp [wrN k (by omega)]) rfl (by simp)
   ·have hb' : ¬ qA n k = 1 := by simp at hb; exact hb (by omega)
    refine zb ?_
    (repeat apply za); refine pwn ?_; intros
    exact zh (k + 1, out, v1) [] ⟨by omega, by omega, by rw [hs, if_neg hb', ho]; simp⟩ (by simp; omega) (by simp [wrN k (by omega)]) rfl (by simp)
  ·simp at hc
   obtain rfl : k = max a 64 := by omega
   refine zo ?_
   (repeat apply za); refine pwn ?_; intros
   refine zC 0 rfl ?_
   repeat apply za
   exact zd (zg hd (by simp; rfl) (by simp [ho, h64, zl]))
 exact main d.toNat ha h64 hmax
open Go
structure Must where
 f : FuncId
 b : Bool
instance : Enc Must := ⟨fun m => [.fn (.func m.f) [] []], 1, fun _ => rfl, fun _ => rfl⟩
@[simp] theorem Zk2 (m : Must) : Enc.enc m = [.fn (.func m.f) [] []] := rfl
@[simp high] theorem Zk3 (l : List Must) : (l.flatMap Enc.enc).length = l.length := (qX l).trans (Nat.mul_one _)
open Go
def jH : List Int → Int
 | [] => 0
 | e :: l => if e ≠ 0 then e else jH l
theorem ZaQ {l : List Int} (h : ∀ e ∈ l, e = 0) : jH l = 0 := by
 induction l with
 | nil => rfl
 | cons e l ih => simp only [jH, h e (by simp), ne_eq, not_true, if_false]; exact ih fun x hx => h x (by simp [hx])
theorem ZaR {l : List Int} {k : Nat} {e : Int} (h : ∀ e ∈ l.take k, e = 0) (hk : l[k]? = some e) (he : e ≠ 0) : jH l = e := by
 induction l generalizing k with
 | nil => cases hk
 | cons a l ih =>
  cases k with
  | zero => simp at hk; subst hk; simp [jH, he]
  | succ k =>
   simp only [jH, h a (by simp), ne_eq, not_true, if_false]
   exact ih (k := k) (fun x hx => h x (by rw [List.take_succ_cons]; simp [hx])) (by simpa using hk)
open Go Go.Proofs Hp
def vp (l : List Visit) (day : Int) (i k : Nat) : List Stop := ((l.take k).filter (fun w => w.d = day)).map fun w => ⟨i, w.q⟩
def wQ (v : List (List Visit)) (day : Int) (i : Nat) : List Stop := ((v.getD i []).filter (fun w => w.d = day)).map fun w => ⟨i, w.q⟩
def yp (v : List (List Visit)) (day : Int) (n : Nat) : List Stop := (List.range n).flatMap (wQ v day)
theorem Xk (v : List (List Visit)) (day : Int) (n : Nat) : yp v day (n + 1) = yp v day n ++ wQ v day n := by simp [yp, List.range_succ]
theorem ZaS (l : List Visit) (day : Int) (i : Nat) : vp l day i 0 = [] := rfl
theorem ZaT (v : List (List Visit)) (day : Int) (i : Nat) (l : List Visit) (h : v[i]? = some l) : vp l day i l.length = wQ v day i := by
 unfold vp wQ; rw [List.take_length, List.getD_eq_getElem?_getD, h]; rfl
theorem Qp {l : List Visit} {k : Nat} {w : Visit} (h : l[k]? = some w) (day : Int) (i : Nat) : vp l day i (k + 1) = vp l day i k ++ (if w.d = day then [⟨i, w.q⟩] else []) := by
 unfold vp
 rw [List.take_add_one, h]
 simp only [Option.toList_some, List.filter_append, List.map_append]
 split
 ·rename_i e; simp [e]
 ·rename_i e; simp [e]
structure VsOk (m n : Nat) (v : List (List Visit)) : Prop where
 len : v.length = m
 ok : ∀ l ∈ v, ∀ w ∈ l, (0 ≤ w.d ∧ w.d < n) ∧ 1 ≤ w.q ∧ w.q ≤ 2147483648
 nd : ∀ l ∈ v, (l.map (·.d)).Nodup
 few : ∀ l ∈ v, l.length ≤ 1000
theorem VsOk.at {m n : Nat} {v : List (List Visit)} (h : VsOk m n v) (i : Nat) : (∀ w ∈ v.getD i [], (0 ≤ w.d ∧ w.d < n) ∧ 1 ≤ w.q ∧ w.q ≤ 2147483648) ∧ ((v.getD i []).map (·.d)).Nodup := by
 rw [List.getD_eq_getElem?_getD]
 cases e : v[i]? with
 | none => exact ⟨by simp, by simp⟩
 | some l => exact ⟨h.ok l (List.mem_of_getElem? e), h.nd l (List.mem_of_getElem? e)⟩
theorem ZhH {l : List Visit} (h : (l.map (·.d)).Nodup) (day : Int) : (l.filter (fun w => w.d = day)).length ≤ 1 := by
 have h1 := (List.filter_sublist (p := fun w : Visit => decide (w.d = day)) (l := l)).map (·.d)
 have h2 := h.sublist h1
 have h3 : ∀ w ∈ l.filter (fun w => w.d = day), w.d = day := fun w hw => by simpa using (List.mem_filter.1 hw).2
 generalize l.filter (fun w => decide (w.d = day)) = m at h2 h3
 match m, h2, h3 with
 | [], _, _ => simp
 | [_], _, _ => simp
 | a :: b :: m, h2, h3 =>
  exfalso
  have ea := h3 a (by simp)
  have eb := h3 b (by simp)
  simp only [List.map_cons, List.nodup_cons, List.mem_cons] at h2
  exact h2.1 (.inl (by rw [ea, eb]))
theorem ZhI {m n : Nat} {v : List (List Visit)} (h : VsOk m n v) (day : Int) (i : Nat) : (wQ v day i).length ≤ 1 := by
 unfold wQ; rw [List.length_map]; exact ZhH (h.at i).2 day
theorem ZhJ {m n : Nat} {v : List (List Visit)} (h : VsOk m n v) {day : Int} {i : Nat} {s : Stop} (hs : s ∈ wQ v day i) : s.c = i ∧ 1 ≤ s.q ∧ s.q ≤ 2147483648 := by
 obtain ⟨w, hw, rfl⟩ := List.mem_map.1 hs
 exact ⟨rfl, ((h.at i).1 w (List.mem_filter.1 hw).1).2⟩
theorem uS {m n : Nat} {v : List (List Visit)} (h : VsOk m n v) (day : Int) : ∀ k : Nat, (yp v day k).length ≤ k ∧ (∀ s ∈ yp v day k, (0 ≤ s.c ∧ s.c < k) ∧ 1 ≤ s.q ∧ s.q ≤ 2147483648) ∧ ((yp v day k).map (·.c)).Nodup
 | 0 => ⟨by simp [yp], by simp [yp], by simp [yp]⟩
 | k + 1 => by
  obtain ⟨h1, h2, h3⟩ := uS h day k
  have h4 := ZhI h day k
  have h5 : ∀ s ∈ wQ v day k, s.c = k ∧ 1 ≤ s.q ∧ s.q ≤ 2147483648 := fun s hs => ZhJ h hs
  rw [Xk]
  refine ⟨by rw [List.length_append]; omega, fun s hs => ?_, ?_⟩
  ·rcases List.mem_append.1 hs with hs | hs
   ·have := h2 s hs; omega
   ·have := h5 s hs; omega
  ·rw [List.map_append]
   generalize wQ v day k = e at h4 h5
   match e, h4, h5 with
   | [], _, _ => simpa using h3
   | [s], _, h5 =>
    refine uA _ _ h3 fun hm => ?_
    obtain ⟨u, hu, e⟩ := List.mem_map.1 hm
    have q1 := h2 u hu
    have q2 := h5 s (by simp)
    have q3 : u.c = s.c := e
    omega
   | _ :: _ :: _, h4, _ => simp at h4
structure InstH (x : Inst) : Prop where
 cust : x.cust.length ≤ 1000
 diag : arc x 0 0 = 0
 arc : ye x
 veh : 0 ≤ x.veh
theorem Qq {x : Inst} (hx : InstH x) {n : Nat} {v : List (List Visit)} (h : VsOk x.cust.length n v) (day : Int) : SOk x (yp v day x.cust.length) := by
 obtain ⟨h1, h2, h3⟩ := uS h day x.cust.length
 have := hx.cust
 exact ⟨by omega, hx.arc, hx.veh, by omega, fun s hs => by have := h2 s hs; unfold small; omega, h3⟩
def wB (x : Inst) (v : List (List Visit)) (b : Int) (n : Nat) : List (Day × Int) := (List.range n).map fun d : Nat => yI x b (yp v d x.cust.length)
def qe (x : Inst) (v : List (List Visit)) (b : Int) (n : Nat) : jP := (wB x v b n).map (·.1)
def z8 (x : Inst) (v : List (List Visit)) (b : Int) (n : Nat) : List Int := (wB x v b n).map (·.2)
theorem ZN (x : Inst) (v : List (List Visit)) (b : Int) (n : Nat) : (qe x v b n).length = n := by simp [qe, wB]
theorem ZaU (x : Inst) (v : List (List Visit)) (b : Int) (n : Nat) : (z8 x v b n).length = n := by simp [z8, wB]
theorem ZaV (x : Inst) (v : List (List Visit)) (b : Int) (n : Nat) : qe x v b (n + 1) = qe x v b n ++ [(yI x b (yp v n x.cust.length)).1] := by simp [qe, wB, List.range_succ]
theorem ZaW (x : Inst) (v : List (List Visit)) (b : Int) (n : Nat) : z8 x v b (n + 1) = z8 x v b n ++ [(yI x b (yp v n x.cust.length)).2] := by simp [z8, wB, List.range_succ]
def jI (x : Inst) (v : List (List Visit)) (b : Int) (n : Nat) : jP × Int := if jH (z8 x v b n) = 0 then (qe x v b n, 0) else ([], jH (z8 x v b n))
open Go Go.Proofs Hp
def ZO (b : Int) : Int := if 20 < b then b % 21 else b
set_option maxRecDepth 20000 in
theorem ZhK (b : Int) : Pure Tryz.prog 14 [I b] (I (ZO b)) := by
 unfold ZO
 refine pwe Tryz.func14 Tryz.ntmps14 Tryz.results14 fun S nx hd => ?_
 (repeat apply za); refine pwn ?_; intros
 (repeat apply za); refine pwn ?_; intros
 by_cases h : 20 < b
 ·rw [if_pos h]
  have w : b.tmod 21 = b % 21 := Int.tmod_eq_emod_of_nonneg (by omega)
  repeat apply za
  refine zj (by simp [h]) ?_
  repeat apply za
  refine pwN [] w ?_
  intros
  repeat apply za
  exact zd (zg hd rfl rfl)
 ·rw [if_neg h]
  repeat apply za
  refine zi (by simp; omega) ?_
  refine zb ?_
  (repeat apply za); refine pwn ?_; intros
  repeat apply za
  exact zd (zg hd rfl rfl)
set_option maxRecDepth 20000 in
theorem ZaX (x : Inst) (v : List (List Visit)) (day : Int) (n : Nat) (hx : x.cust.length ≤ 1000) (hv : VsOk x.cust.length n v) : Pure Tryz.prog 22 [.agg (zm x), L v, I day] (L (yp v day x.cust.length)) := by
 have hvl := hv.len
 have hso := fun k => (uS hv day k).1
 have hmi : vz (x.cust.length : Int) (x.cust.length : Int) = x.cust.length := by unfold vz; simp
 refine pwe Tryz.func22 Tryz.ntmps22 Tryz.results22 fun S nx hd => ?_
 repeat apply za
 refine pwn ?_
 intro v0
 (repeat apply za); refine pwn ?_; intros
 refine za (qm 7 50 2 rfl fun v1 => ?_)
 (repeat apply za); refine pwn ?_; intros
 repeat apply za
 refine ze (zq (fun s : Nat × List Stop × Nat => s.1 ≤ x.cust.length ∧ s.2.1 = yp v day s.1) (fun (i, out, w) => [(1, L v), (2, I day), (7, .sl (nx + 1) w 2 0 out.length), (16, I x.cust.length), (17, I i)]) (fun (i, out, w) => [.cells v0 25 (zm x), .cells w 50 (out.flatMap Enc.enc)]) (fun s => x.cust.length - s.1) (0, [], v1) [] (by simp [yp]) (by simp [hvl, hmi]) (by simp) ?_)
 rintro ⟨i, out, w⟩ ⟨hi, ho⟩
 simp only at hi ho ⊢
 (repeat apply za); refine pwn ?_; intros
 repeat apply za
 refine zk rfl (fun hc => ?_) (fun hc => ?_)
 ·simp at hc
  have hiv : i < v.length := by omega
  obtain ⟨l, tl, a1, a2, a3, e0⟩ := el1 rfl v i hiv
  have hll := hv.few l (List.mem_of_getElem? a1)
  have hoi := hso i
  refine zb (za (ze ?_))
  (repeat apply za); refine pwn ?_; intros
  repeat apply za
  refine pwN [] (jn2 e0 hiv) ?_
  intros
  repeat apply za
  refine ze (zq (fun s : Nat × List Stop × Nat => s.1 ≤ l.length ∧ s.2.1 = yp v day i ++ vp l day i s.1 ∧ s.2.1.length ≤ i + s.1) (fun (k, out, w) => [(1, L v), (2, I day), (7, .sl (nx + 1) w 2 0 out.length), (8, I i), (16, I x.cust.length), (17, I i), (23, L l), (24, I l.length), (25, I k)]) (fun (k, out, w) => [.cells v0 25 (zm x), .cells w 50 (out.flatMap Enc.enc)]) (fun s => l.length - s.1) (0, out, w) [] ⟨by simp, by simp [ZaS, ho], by simp [ho]; omega⟩ (by simp) (by simp) ?_)
  clear ho
  rintro ⟨k, out, w⟩ ⟨hk, ho, hol⟩
  simp only at hk ho hol ⊢
  (repeat apply za); refine pwn ?_; intros
  repeat apply za
  refine zk rfl (fun hc2 => ?_) (fun hc2 => ?_)
  ·simp at hc2
   obtain ⟨s, tl2, b1, b2, b3, e1, e2⟩ := el 2 rfl l k hc2
   refine zb (za (ze ?_))
   repeat apply za
   refine pwN [] (jn3 e1 e2 hc2) ?_
   intro v2
   (repeat apply za); refine pwn ?_; intros
   by_cases hd : s.d = day
   ·repeat apply za
    refine zj (by simp [hd]) ?_
    repeat apply za
    refine pwn ?_
    refine ⟨by omega, ?_⟩
    intros
    (repeat apply za); refine pwn ?_; intros
    exact zh (k + 1, out ++ [⟨i, s.q⟩], w + 1) [_] ⟨hc2, by rw [Qp b1, if_pos hd, ho]; simp, by simp; omega⟩ (by simp; omega) (by simp [wrN k (by omega)]) rfl (by simp; rfl)
   ·repeat apply za
    refine zi (by simp [hd]) ?_
    refine zb ?_
    (repeat apply za); refine pwn ?_; intros
    exact zh (k + 1, out, w) [_] ⟨hc2, by rw [Qp b1, if_neg hd, ho]; simp, by dsimp only; omega⟩ (by simp; omega) (by simp [wrN k (by omega)]) rfl (by simp; rfl)
  ·simp at hc2
   obtain rfl : k = l.length := by omega
   rw [ZaT v day i l a1, ← Xk] at ho
   refine zo ?_
   (repeat apply za); refine pwn ?_; intros
   exact zh (i + 1, out, w) [] ⟨hc, ho⟩ (by simp; omega) (by simp [wrN i (by omega)]) rfl (by simp)
 ·simp at hc
  obtain rfl : i = x.cust.length := by omega
  refine zo ?_
  refine zC 1 rfl ?_
  (repeat apply za); refine pwn ?_; intros
  repeat apply za
  exact zd (zg hd (by simp; rfl) (by simp [zl, ho]))
set_option maxRecDepth 20000 in
theorem ZaY (v : List (List Visit)) (day : Int) (m n : Nat) (hx : m ≤ 1000) (hv : VsOk m n v) : Pure Tryz.prog 23 [L v, I day] (L (yp v day m)) := by
 have hvl := hv.len
 have hso := fun k => (uS hv day k).1
 refine pwe Tryz.func23 Tryz.ntmps23 Tryz.results23 fun S nx hd => ?_
 (repeat apply za); refine pwn ?_; intros
 (repeat apply za); refine pwn ?_; intros
 refine za (qm 5 50 2 rfl fun v1 => ?_)
 (repeat apply za); refine pwn ?_; intros
 repeat apply za
 refine ze (zq (fun s : Nat × List Stop × Nat => s.1 ≤ m ∧ s.2.1 = yp v day s.1) (fun (i, out, w) => [(0, L v), (1, I day), (5, .sl nx w 2 0 out.length), (6, I i)]) (fun (i, out, w) => [.cells w 50 (out.flatMap Enc.enc)]) (fun s => m - s.1) (0, [], v1) [] (by simp [yp]) (by simp) (by simp) ?_)
 rintro ⟨i, out, w⟩ ⟨hi, ho⟩
 simp only at hi ho ⊢
 (repeat apply za); refine pwn ?_; intros
 repeat apply za
 refine zk rfl (fun hc => ?_) (fun hc => ?_)
 ·simp at hc
  obtain ⟨l, tl, a1, a2, a3, e0⟩ := el1 rfl v i hc
  have hll := hv.few l (List.mem_of_getElem? a1)
  have hoi := hso i
  have hiv : 1 ≤ v.length - i := by omega
  refine zb (za (ze ?_))
  (repeat apply za); refine pwn ?_; intros
  repeat apply za
  refine ze (zq (fun s : Nat × List Stop × Nat => s.1 ≤ l.length ∧ s.2.1 = yp v day i ++ vp l day i s.1 ∧ s.2.1.length ≤ i + s.1) (fun (k, out, w) => [(0, L v), (1, I day), (5, .sl nx w 2 0 out.length), (6, I i), (7, I k)]) (fun (k, out, w) => [.cells w 50 (out.flatMap Enc.enc)]) (fun s => l.length - s.1) (0, out, w) [] ⟨by simp, by simp [ZaS, ho], by simp [ho]; omega⟩ (by simp) (by simp) ?_)
  clear ho
  rintro ⟨k, out, w⟩ ⟨hk, ho, hol⟩
  simp only at hk ho hol ⊢
  repeat apply za
  refine pwN [] (jn3 e0 hc hiv) ?_
  intros
  repeat apply za
  refine zk rfl (fun hc2 => ?_) (fun hc2 => ?_)
  ·simp at hc2
   obtain ⟨s, tl2, b1, b2, b3, e1, e2⟩ := el 2 rfl l k hc2
   have e11 := e1 1 (by omega)
   have g1 : 1 ≤ l.length * 2 - k * 2 := by omega
   refine zb (za (ze ?_))
   repeat apply za
   refine pwN [] (jn6 e0 hc hiv e1 e2 (jn2 hc2 g1)) ?_
   intros
   by_cases hd : s.d = day
   ·repeat apply za
    refine zj (by simp [hd]) ?_
    repeat apply za
    refine pwN [] (jn6 e0 hc hiv e11 e2 (jn2 hc2 g1)) ?_
    refine ⟨by omega, ?_⟩
    intros
    (repeat apply za); refine pwn ?_; intros
    exact zh (k + 1, out ++ [⟨i, s.q⟩], w + 1) [] ⟨hc2, by rw [Qp b1, if_pos hd, ho]; simp, by simp; omega⟩ (by simp; omega) (by simp [wrN k (by omega)]) rfl (by simp)
   ·repeat apply za
    refine zi (by simp [hd]) ?_
    refine zb ?_
    (repeat apply za); refine pwn ?_; intros
    exact zh (k + 1, out, w) [] ⟨hc2, by rw [Qp b1, if_neg hd, ho]; simp, by dsimp only; omega⟩ (by simp; omega) (by simp [wrN k (by omega)]) rfl (by simp)
  ·simp at hc2
   obtain rfl : k = l.length := by omega
   rw [ZaT v day i l a1, ← Xk] at ho
   refine zo ?_
   (repeat apply za); refine pwn ?_; intros
   exact zh (i + 1, out, w) [] ⟨by dsimp only; omega, ho⟩ (by simp; omega) (by simp [wrN i (by omega)]) rfl (by simp)
 ·simp at hc
  obtain rfl : i = m := by omega
  refine zo ?_
  refine zC 0 rfl ?_
  (repeat apply za); refine pwn ?_; intros
  repeat apply za
  exact zd (zg hd (by simp; rfl) (by simp [zl, ho]))
set_option maxHeartbeats 800000 in
theorem ZhL (a b : jP) (ha : a.length ≤ 1048576) (hat : ∀ t ∈ a, t.length ≤ 1048576) (hau : ∀ t ∈ a, ∀ u ∈ t, u.length ≤ 1048576) : Pure Tryz.prog 26 [.agg [L a], .agg [L b]] (B (decide (a = b))) := by
 refine pwe Tryz.func26 Tryz.ntmps26 Tryz.results26 fun S nx hd => ?_
 repeat apply za
 refine pwn ?_
 intro v0 v1
 by_cases hab : a.length = b.length
 case neg =>
  have : a ≠ b := fun e => hab (by rw [e])
  (repeat apply za); refine pwn ?_; intros
  repeat apply za
  refine zj (by simp; omega) ?_
  (repeat apply za); refine pwn ?_; intros
  repeat apply za
  exact zd (zg hd rfl (by simp [this]))
 (repeat apply za); refine pwn ?_; intros
 repeat apply za
 refine zi (by simp; omega) ?_
 refine zb ?_
 (repeat apply za); refine pwn ?_; intros
 repeat apply za
 refine ze (zq (fun k : Nat => k ≤ a.length ∧ a.take k = b.take k) (fun k => [(2, .ptr nx v0 0), (3, .ptr (nx + 1) v1 0), (5, I k)]) (fun _ => [.cells v0 29 [L a], .cells v1 29 [L b]]) (fun k => a.length - k) 0 [] (by simp) (by simp) (by simp) ?_)
 rintro k ⟨hk, hkt⟩
 (repeat apply za); refine pwn ?_; intros
 repeat apply za
 refine zk rfl (fun hc => ?_) (fun hc => ?_)
 ·simp at hc
  obtain ⟨s, ts, a1, -, a3, e1⟩ := el1 rfl a k hc
  obtain ⟨t, tt, b1, -, b3, e2⟩ := el1 rfl b k (by omega)
  have hcb : k < b.length := by omega
  have h1 : 1 ≤ a.length - k := by omega
  have h2 : 1 ≤ b.length - k := by omega
  have hsl := hat s (List.mem_of_getElem? a1)
  have hsu := hau s (List.mem_of_getElem? a1)
  refine zb (za (ze ?_))
  repeat apply za
  refine pwY (some [nx, nx + 1]) (Row.pures [0, 1, 2, 3, 4, 5, 6, 7, 8, 9, 10, 11, 12, 13, 14] .done) mixed (jn6 e1 e2 hc hcb h1 h2) ?_
  intros
  by_cases hst : s.length = t.length
  case neg =>
   have : a ≠ b := uJ a1 b1 fun e => hst (by rw [e])
   repeat apply za
   refine zj (by simp; omega) ?_
   (repeat apply za); refine pwn ?_; intros
   repeat apply za
   exact zd (zg hd rfl (by simp [this]))
  repeat apply za
  refine zi (by simp; omega) ?_
  refine zb ?_
  (repeat apply za); refine pwn ?_; intros
  repeat apply za
  refine ze (zq (fun j : Nat => j ≤ s.length ∧ s.take j = t.take j) (fun j => [(2, .ptr nx v0 0), (3, .ptr (nx + 1) v1 0), (5, I k), (6, I j)]) (fun _ => [.cells v0 29 [L a], .cells v1 29 [L b]]) (fun j => s.length - j) 0 [] (by simp) (by simp) (by simp) ?_)
  rintro j ⟨hj, hjt⟩
  repeat apply za
  refine pwN [] (jn3 e1 hc h1) ?_
  intros
  repeat apply za
  refine zk rfl (fun hcj => ?_) (fun hcj => ?_)
  ·simp at hcj
   obtain ⟨p, tp, p1, -, p3, q1⟩ := el1 rfl s j hcj
   obtain ⟨q, tq, c1, -, c3, q2⟩ := el1 rfl t j (by omega)
   have hjb : j < t.length := by omega
   have g1 : 1 ≤ s.length - j := by omega
   have g2 : 1 ≤ t.length - j := by omega
   have hpl := hsu p (List.mem_of_getElem? p1)
   refine zb (za (ze ?_))
   repeat apply za
   refine pwN [] (jn6 e1 hc h1 q1 hcj g1) ?_
   intros
   repeat apply za
   refine pwN [] (jn6 e2 hcb h2 q2 hjb g2) ?_
   intros
   (repeat apply za); refine pwn ?_; intros
   by_cases hpq : p.length = q.length
   case neg =>
    have : a ≠ b := uJ a1 b1 (uJ p1 c1 fun e => hpq (by rw [e]))
    repeat apply za
    refine zj (by simp; omega) ?_
    (repeat apply za); refine pwn ?_; intros
    repeat apply za
    exact zd (zg hd rfl (by simp [this]))
   repeat apply za
   refine zi (by simp; omega) ?_
   refine zb ?_
   (repeat apply za); refine pwn ?_; intros
   repeat apply za
   refine ze (zq (fun i : Nat => i ≤ p.length ∧ p.take i = q.take i) (fun i => [(2, .ptr nx v0 0), (3, .ptr (nx + 1) v1 0), (5, I k), (6, I j), (7, L p), (8, L q), (9, I i)]) (fun _ => [.cells v0 29 [L a], .cells v1 29 [L b]]) (fun i => p.length - i) 0 [] (by simp) (by simp) (by simp) ?_)
   rintro i ⟨hi, hit⟩
   (repeat apply za); refine pwn ?_; intros
   repeat apply za
   refine zk rfl (fun hci => ?_) (fun hci => ?_)
   ·simp at hci
    obtain ⟨y, ty, y1, -, y3, -, r1⟩ := el 2 rfl p i hci
    obtain ⟨z, tz, z1, -, z3, -, r2⟩ := el 2 rfl q i (by omega)
    have hib : i < q.length := by omega
    refine zb (za (ze ?_))
    repeat apply za
    refine pwY none (Row.pures [0, 1, 2, 3, 4, 5, 6, 7, 8] .done) mixed (jn4 r1 r2 hci hib) ?_
    intros
    by_cases hyz : y = z
    ·subst hyz
     repeat apply za
     refine zi (by simp) ?_
     refine zb ?_
     (repeat apply za); refine pwn ?_; intros
     exact zh (i + 1) [] ⟨by omega, by rw [y3, z3, hit]⟩ (by omega) (by simp [wrN i (by omega)]) rfl (by simp)
    ·have hne : ¬ y.c = z.c ∨ ¬ y.q = z.q := by
      by_cases h1 : y.c = z.c
      ·right
       intro h2
       apply hyz
       cases y; cases z
       cases h1; cases h2; rfl
      ·exact .inl h1
     have : a ≠ b := uJ a1 b1 (uJ p1 c1 (uJ y1 z1 hyz))
     repeat apply za
     refine zj (by simp; exact hne) ?_
     (repeat apply za); refine pwn ?_; intros
     repeat apply za
     exact zd (zg hd rfl (by simp [this]))
   ·simp at hci
    obtain rfl : i = p.length := by omega
    rw [List.take_length, hpq, List.take_length] at hit
    refine zo ?_
    (repeat apply za); refine pwn ?_; intros
    exact zh (j + 1) [] ⟨by omega, by rw [p3, c3, hjt, hit]⟩ (by omega) (by simp [wrN j (by omega)]) rfl (by simp)
  ·simp at hcj
   obtain rfl : j = s.length := by omega
   rw [List.take_length, hst, List.take_length] at hjt
   refine zo ?_
   (repeat apply za); refine pwn ?_; intros
   exact zh (k + 1) [] ⟨by omega, by rw [a3, b3, hkt, hjt]⟩ (by omega) (by simp [wrN k (by omega)]) rfl (by simp)
 ·simp at hc
  obtain rfl : k = a.length := by omega
  rw [List.take_length, hab, List.take_length] at hkt
  refine zo ?_
  (repeat apply za); refine pwn ?_; intros
  repeat apply za
  exact zd (zg hd rfl (by simp [hkt]))
open Go
section
variable {P : Program} {r : Rd} {n N : Nat} {Q : Exit → (Nat → PV) → Store → Prop} {F : Nat → PV} {c : Code}
theorem Xl {S1 T : Store} {G : Nat → PV} {id ver e : Nat} {cs : List PV} (hid : S1 id = .cells ver e cs) (hT : T id = .dead) (hat : ∀ o, T o = .dead ∨ T o = S1 o ∨ T o = yW id ver cs (S1 o))
  (hG : ∀ i, G i = F i ∨ G i = zI id ver cs (F i)) (h : PW P r n N c Q G T) : PW P r n N c Q F S1 := by
 refine wY (F' := G) (S' := T) (fun C w a st => ?_) h
 have hver : ∀ o v, (T o).ver = some v → (S1 o).ver = some v := by
  intro o v hv
  rcases hat o with q | q | q
  ·rw [q] at hv; cases hv
  ·rw [q] at hv; exact hv
  ·rw [q, Wb] at hv; exact hv
 have hne : ∀ o, T o ≠ .dead → S1 o ≠ .dead := by
  intro o ho hd
  rcases hat o with q | q | q
  ·exact ho q
  ·exact ho (q.trans hd)
  ·rw [hd] at q; exact ho q
 have hM : ∀ b, C.M T b → C.M S1 b := fun b ⟨o, k, ho, hl⟩ => ⟨o, k, hne o ho, hl⟩
 have hstep : Step C S1 w C T w := ⟨rfl, ⟨rfl, Nat.le_refl _⟩, rfl, Nat.le_refl _, Nat.le_refl _, Nat.le_refl _, fun b _ hb => ⟨rfl, fun h => hb (hM b h)⟩, fun o v1 hv => .inr ⟨v1, hver o v1 hv, Nat.le_refl _, fun _ => rfl⟩⟩
 have hrel : ∀ {p u}, Rel C S1 w p u → Rel C T w (zI id ver cs p) u := fun h => Yv st.sim hid hT hne hstep h
 refine ⟨C, ⟨⟨fun o ho => st.sim.lt o (hne o ho), fun o v hv => st.sim.clk o v (hver o v hv), fun o o' b k k' ho ho' => st.sim.dist o o' b k k' (hne o ho) (hne o' ho'), ?_, ?_⟩, st.size, fun i => ?_, r.keep hstep st.v⟩, hstep⟩
 ·intro o v e' ds ho
  rcases hat o with q | q | q
  ·rw [q] at ho; cases ho
  ·rw [q] at ho
   rcases st.sim.cells o v e' ds ho with hn | ⟨b, k, c, h1, h2, h3, h4, h5, h6⟩
   ·exact .inl hn
   ·exact .inr ⟨b, k, c, h1, h2, h3, h4, h5, fun i p u hp hu => (h6 i p u hp hu).mono hstep⟩
  ·rw [q] at ho
   cases hs : S1 o with
   | dead => rw [hs] at ho; cases ho
   | map v es => rw [hs] at ho; cases ho
   | cells v2 e2 ds2 =>
    rw [hs] at ho
    cases ho
    rcases st.sim.cells o _ _ ds2 hs with ⟨h1, h2⟩ | ⟨b, k, c, h1, h2, h3, h4, h5, h6⟩
    ·exact .inl ⟨h1, by rw [h2]; rfl⟩
    ·refine .inr ⟨b, k, c, h1, h2, h3, by simpa using h4, fun i v hi hv => h5 i v (by simpa using hi) hv, fun i p u hp hu => ?_⟩
     rw [List.getElem?_map] at hp
     obtain ⟨p0, hp0, rfl⟩ := Option.map_eq_some_iff.1 hp
     exact hrel (h6 i p0 u hp0 hu)
 ·intro o v es ho
  have hs : S1 o = .map v es := by
   rcases hat o with q | q | q
   ·rw [q] at ho; cases ho
   ·rw [q] at ho; exact ho
   ·rw [q] at ho
    cases hs : S1 o with
    | dead => rw [hs] at ho; cases ho
    | map v es => rw [hs] at ho; exact ho
    | cells v2 e2 ds2 => rw [hs] at ho; cases ho
  obtain ⟨b, k, ms, cl, h1, h2, h3, h4⟩ := st.sim.maps o v es hs
  exact ⟨b, k, ms, cl, h1, h2, h3, fun i x m hx hm => ⟨(h4 i x m hx hm).1, (h4 i x m hx hm).2.mono hstep⟩⟩
 ·rcases hG i with q | q
  ·rw [q]; exact (st.fr i).mono hstep
  ·rw [q]; exact hrel (st.fr i)
def rwC {α : Type} (base sz : Nat) (ws : Nat → Nat) (rows : List (List α)) : List PV := (List.range rows.length).map fun i => .sl (base + i) (ws i) sz 0 (rows.getD i []).length
theorem wR {α : Type} (base sz : Nat) (ws : Nat → Nat) (rows : List (List α)) : (rwC base sz ws rows).length = rows.length := by simp [rwC]
theorem uT {α : Type} (base sz : Nat) (ws : Nat → Nat) (rows : List (List α)) (i : Nat) (h : i < rows.length) : (rwC base sz ws rows)[i]? = some (.sl (base + i) (ws i) sz 0 (rows.getD i []).length) := by
 simp [rwC, h]
theorem Qr {α : Type} (base sz : Nat) (ws : Nat → Nat) (rows : List (List α)) (i : Nat) (h : i < rows.length) : ∃ tl, (rwC base sz ws rows).drop i = .sl (base + i) (ws i) sz 0 (rows.getD i []).length :: tl := by
 refine ⟨(rwC base sz ws rows).drop (i + 1), ?_⟩
 have hl : i < (rwC base sz ws rows).length := by rw [wR]; exact h
 rw [List.drop_eq_getElem_cons hl]
 have := uT base sz ws rows i h
 rw [List.getElem?_eq_getElem hl] at this
 rw [Option.some.inj this]
structure RowsAt {α : Type} [Enc α] (T : Store) (A va tA base e sz : Nat) (ws : Nat → Nat) (rows : List (List α)) : Prop where
 arr : T A = .cells va tA (rwC base sz ws rows)
 row : ∀ i, i < rows.length → T (base + i) = .cells (ws i) e ((rows.getD i []).flatMap Enc.enc)
 out : A < base
theorem RowsAt.other {α : Type} [Enc α] {T T' : Store} {A va tA base e sz : Nat} {ws : Nat → Nat} {rows : List (List α)} (h : RowsAt T A va tA base e sz ws rows) (hT : ∀ o, o = A ∨ (base ≤ o ∧ o < base + rows.length) → T' o = T o) : RowsAt T' A va tA base e sz ws rows :=
 ⟨(hT A (.inl rfl)).trans h.arr, fun i hi => (hT _ (.inr ⟨by omega, by omega⟩)).trans (h.row i hi), h.out⟩
theorem RowsAt.turn {α : Type} [Enc α] {T T' : Store} {A va tA base e sz : Nat} {ws : Nat → Nat} {rows : List (List α)} (h : RowsAt T A va tA base e sz ws rows) {i : Nat} (hi : i < rows.length) (w : Nat) (l : List α)
  (hA : T' A = .cells va tA ((rwC base sz ws rows).set i (.sl (base + i) w sz 0 l.length))) (hB : T' (base + i) = .cells w e (l.flatMap Enc.enc)) (hT : ∀ o, o ≠ A → o ≠ base + i → T' o = T o) : RowsAt T' A va tA base e sz (fun k => if k = i then w else ws k) (rows.set i l) := by
 have hout := h.out
 refine ⟨?_, fun k hk => ?_, h.out⟩
 ·rw [hA]
  congr 1
  apply List.ext_getElem?
  intro k
  rw [List.getElem?_set, wR]
  by_cases hki : i = k
  ·subst hki
   rw [if_pos rfl, if_pos hi, uT _ _ _ _ _ (by simpa using hi)]
   simp [hi]
  ·rw [if_neg hki]
   by_cases hk : k < rows.length
   ·rw [uT _ _ _ _ _ hk, uT _ _ _ _ _ (by simpa using hk)]
    simp only [List.getD_eq_getElem?_getD, List.getElem?_set_ne hki, if_neg (fun e : k = i => hki e.symm)]
   ·rw [List.getElem?_eq_none (by rw [wR]; omega), List.getElem?_eq_none (by rw [wR]; simp; omega)]
 ·rw [List.length_set] at hk
  by_cases hki : k = i
  ·subst hki
   rw [hB, if_pos rfl]
   simp [hi]
  ·rw [hT _ (by omega) (by omega), h.row k hk, if_neg hki]
   simp only [List.getD_eq_getElem?_getD, List.getElem?_set_ne (fun e : i = k => hki e.symm)]
theorem ZhM {α : Type} (base sz : Nat) (ws : Nat → Nat) (m : Nat) : rwC (α := α) base sz ws (List.replicate m []) = (List.range m).map fun i => .sl (base + i) (ws i) sz 0 0 := by
 unfold rwC
 rw [List.length_replicate]
 refine List.map_congr_left fun i hi => ?_
 have := List.mem_range.1 hi
 simp [this]
theorem ZaZ {α : Type} [Enc α] (A va tA base e sz m : Nat) (hAb : A < base) : ∀ (j k : Nat) (T : Store) (ws : Nat → Nat), k + j = m → T A = .cells va tA ((List.range k).map (fun i => .sl (base + i) (ws i) sz 0 0) ++ List.replicate j (.sc (.slice none 0 0))) →
  (∀ i, i < k → T (base + i) = .cells (ws i) e []) → zF (base + k) T →
  (∀ (T' : Store) (ws' : Nat → Nat), RowsAt T' A va tA base e sz ws' (List.replicate m ([] : List α)) → (∀ o, o ≠ A → o < base → T' o = T o) → zF (base + m) T' → PW P r n N c Q F T') → PW P r n N c Q F T
 | 0, k, T, ws, hk, hA, hrow, hd, h => by
  obtain rfl : k = m := by omega
  refine h T ws ⟨by rw [hA, ZhM]; simp, fun i hi => ?_, hAb⟩ (fun _ _ _ => rfl) hd
  rw [List.length_replicate] at hi
  rw [hrow i hi]; simp [hi]
 | j + 1, k, T, ws, hk, hA, hrow, hd, h => by
  have hget : ((List.range k).map (fun i => PV.sl (base + i) (ws i) sz 0 0) ++ List.replicate (j + 1) (.sc (.slice none 0 0)))[k]? = some (.sc (.slice none 0 0)) := by
   rw [List.getElem?_append_right (by simp)]; simp
  refine QS (o := A) k e sz hA hget (xX (X := fun id v => PW P r n N c Q F ((T.set id (.cells v e [])).set A (.cells va tA (((List.range k).map (fun i => PV.sl (base + i) (ws i) sz 0 0) ++ List.replicate (j + 1) (PV.sc (.slice none 0 0))).set k (.sl id v sz 0 0))))) (base + k) (hd _ (Nat.le_refl _)) fun v => ?_)
  refine ZaZ A va tA base e sz m hAb j (k + 1) _ (fun i => if i = k then v else ws i) (by omega) ?_ ?_ ?_ fun T' ws' hR hT' hd' => h T' ws' hR (fun o ho hob => ?_) hd'
  ·rw [Store.set_same]
   congr 1
   rw [List.set_append_right _ _ (by simp), List.range_succ, List.map_append]
   simp only [List.length_map, List.length_range, Nat.sub_self, List.replicate_succ, List.set_cons_zero, List.map_cons, List.map_nil, if_true]
   rw [List.append_assoc]
   congr 1
   refine List.map_congr_left fun i hi => ?_
   have := List.mem_range.1 hi
   rw [if_neg (by omega)]
  ·intro i hi
   rw [Store.set_other _ _ _ _ (by omega)]
   by_cases hik : i = k
   ·subst hik; rw [Store.set_same, if_pos rfl]
   ·rw [Store.set_other _ _ _ _ (by omega), if_neg hik]
    exact hrow i (by omega)
  ·intro i hi
   rw [Store.set_other _ _ _ _ (by omega), Store.set_other _ _ _ _ (by omega)]
   exact hd i (by omega)
  ·rw [hT' o ho hob, Store.set_other _ _ _ _ ho, Store.set_other _ _ _ _ (by omega)]
theorem Za0 {α : Type} [Enc α] (A va tA base e sz m : Nat) {T : Store} (hA : T A = .cells va tA (List.replicate m (.sc (.slice none 0 0)))) (hd : zF base T)
  (h : ∀ (T' : Store) (ws : Nat → Nat), RowsAt T' A va tA base e sz ws (List.replicate m ([] : List α)) → (∀ o, o ≠ A → o < base → T' o = T o) → zF (base + m) T' → PW P r n N c Q F T') : PW P r n N c Q F T := by
 have hAb : A < base := by
  rcases Nat.lt_or_ge A base with q | q
  ·exact q
  ·rw [hd A q] at hA; cases hA
 exact ZaZ A va tA base e sz m hAb m 0 T (fun _ => 0) (by omega) (by simpa using hA) (fun i hi => by omega) (by simpa using hd) h
theorem Za1 {α : Type} [Enc α] (A va tA base e sz : Nat) (hsz : Enc.sz α = sz) (ws : Nat → Nat) (rows : List (List α)) (hAb : A < base) : ∀ (j k : Nat) (T : Store), k + j = rows.length →
  T A = .cells va tA ((rows.take k).flatMap Enc.enc ++ (rwC base sz ws rows).drop k) → (∀ i, k ≤ i → i < rows.length → T (base + i) = .cells (ws i) e ((rows.getD i []).flatMap Enc.enc)) → (∀ i, i < k → T (base + i) = .dead) →
  (∀ T' : Store, T' A = .cells va tA (rows.flatMap Enc.enc) → (∀ o, o ≠ A → (o < base ∨ base + rows.length ≤ o) → T' o = T o) → (∀ i, i < rows.length → T' (base + i) = .dead) → PW P r n N c Q F T') → PW P r n N c Q F T
 | 0, k, T, hk, hA, _, hdead, h => by
  obtain rfl : k = rows.length := by omega
  refine h T ?_ (fun _ _ _ => rfl) hdead
  rw [hA, List.take_length, List.drop_eq_nil_of_le (by rw [wR]; exact Nat.le_refl _), List.append_nil]
 | j + 1, k, T, hk, hA, hrow, hdead, h => by
  have hkl : k < rows.length := by omega
  have hid := hrow k (Nat.le_refl _) hkl
  obtain ⟨s, hs⟩ : ∃ s, rows[k]? = some s := ⟨_, List.getElem?_eq_getElem hkl⟩
  have hg : rows.getD k [] = s := by rw [List.getD_eq_getElem?_getD, hs]; rfl
  rw [hg] at hid
  have hdr : (rwC base sz ws rows).drop k = .sl (base + k) (ws k) sz 0 s.length :: (rwC base sz ws rows).drop (k + 1) := by
   have hl : k < (rwC base sz ws rows).length := by rw [wR]; exact hkl
   rw [List.drop_eq_getElem_cons hl]
   have := uT base sz ws rows k hkl
   rw [List.getElem?_eq_getElem hl, hg] at this
   rw [Option.some.inj this]
  have hmap : ((rows.take k).flatMap Enc.enc ++ (rwC base sz ws rows).drop k).map (zI (base + k) (ws k) (s.flatMap Enc.enc)) = (rows.take (k + 1)).flatMap Enc.enc ++ (rwC base sz ws rows).drop (k + 1) := by
   rw [hdr, List.map_append, List.take_add_one, hs, List.flatMap_append, List.map_cons, Option.toList_some, List.append_assoc]
   congr 1
   ·refine (List.map_congr_left fun p hp => ?_).trans (List.map_id _)
    obtain ⟨l, _, hl⟩ := List.mem_flatMap.1 hp
    rw [Wi, List.mem_singleton] at hl
    subst hl
    rfl
   ·have e1 : zI (base + k) (ws k) (s.flatMap Enc.enc) (.sl (base + k) (ws k) sz 0 s.length) = L s := by
     simp only [zI]
     rw [if_pos ⟨trivial, trivial, by rw [qX, hsz]⟩]
    rw [e1]
    simp only [List.flatMap_cons, List.flatMap_nil, List.append_nil, Wi, List.cons_append, List.nil_append, List.cons.injEq, true_and]
    refine (List.map_congr_left fun p hp => ?_).trans (List.map_id _)
    obtain ⟨q, hq, rfl⟩ := List.getElem_of_mem hp
    simp only [List.getElem_drop, rwC, List.getElem_map, List.getElem_range, id]
    simp only [zI]
    rw [if_neg (by omega)]
  refine Xl (T := (T.set A (.cells va tA ((rows.take (k + 1)).flatMap Enc.enc ++ (rwC base sz ws rows).drop (k + 1)))).set (base + k) .dead) (G := F) hid (Store.set_same _ _ _) (fun o => ?_) (fun _ => .inl rfl) ?_
  ·by_cases ho : o = base + k
   ·rw [ho, Store.set_same]; exact .inl rfl
   ·rw [Store.set_other _ _ _ _ ho]
    by_cases hoA : o = A
    ·subst hoA
     rw [Store.set_same, hA]
     refine .inr (.inr ?_)
     rw [← hmap]; rfl
    ·rw [Store.set_other _ _ _ _ hoA]; exact .inr (.inl rfl)
  ·refine Za1 A va tA base e sz hsz ws rows hAb j (k + 1) _ (by omega) ?_ ?_ ?_ fun T' h1 h2 h3 => h T' h1 (fun o ho hob => ?_) h3
   ·rw [Store.set_other _ _ _ _ (by omega), Store.set_same]
   ·intro i h1 h2
    rw [Store.set_other _ _ _ _ (by omega), Store.set_other _ _ _ _ (by omega)]
    exact hrow i (by omega) h2
   ·intro i hi
    by_cases hik : i = k
    ·subst hik; exact Store.set_same _ _ _
    ·rw [Store.set_other _ _ _ _ (by omega), Store.set_other _ _ _ _ (by omega)]
     exact hdead i (by omega)
   ·rw [h2 o ho hob, Store.set_other _ _ _ _ (by omega), Store.set_other _ _ _ _ ho]
theorem ZhN {α : Type} [Enc α] {T : Store} {A va tA base e sz : Nat} {ws : Nat → Nat} {rows : List (List α)} (hR : RowsAt T A va tA base e sz ws rows) (hsz : Enc.sz α = sz)
  (h : ∀ T' : Store, T' A = .cells va tA (rows.flatMap Enc.enc) → (∀ o, o ≠ A → (o < base ∨ base + rows.length ≤ o) → T' o = T o) → (∀ i, i < rows.length → T' (base + i) = .dead) → PW P r n N c Q F T') : PW P r n N c Q F T :=
 Za1 A va tA base e sz hsz ws rows hR.out rows.length 0 T (by omega) (by simpa using hR.arr) (fun i _ hi => hR.row i hi) (fun i hi => by omega) h
theorem ZhO {T : Store} {A va tA : Nat} {cs : List PV} (hA : T A = .cells va tA cs) (h : PW P r n N c Q (fun i => zI A va cs (F i)) (T.set A .dead)) : PW P r n N c Q F T := by
 refine Xl hA (Store.set_same _ _ _) (fun o => ?_) (fun _ => .inr rfl) h
 by_cases ho : o = A
 ·rw [ho, Store.set_same]; exact .inl rfl
 ·rw [Store.set_other _ _ _ _ ho]; exact .inr (.inl rfl)
theorem Za2 {nx : Nat} {S : Store} {obs : List Ob} {id ver e0 : Nat} {cs : List PV} (i e sz : Nat) (hlt : id < nx) (hs : S id = .cells ver e0 cs) (hi : cs[i]? = some (.sc (.slice none 0 0)))
  (h : ∀ v, PW P r n N c Q F (ext (S.set id (.cells ver e0 (cs.set i (.sl (nx + obs.length) v sz 0 0)))) nx (obs ++ [.cells v e []]))) : PW P r n N c Q F (ext S nx obs) :=
 QS (o := id) i e sz (by rw [zx hlt]; exact hs) hi (xX (X := fun id' v => PW P r n N c Q F (((ext S nx obs).set id' (.cells v e [])).set id (.cells ver e0 (cs.set i (.sl id' v sz 0 0))))) _ x4 fun v => by
  rw [qh, xF _ hlt]; exact h v)
end
open Go Go.Proofs
set_option maxRecDepth 20000 in
theorem ud (l : List Stop) (hl : l.length ≤ 1048576) (S : Store) (nx : Nat) (hd : zF nx S) :
  Spec Tryz.prog 186 [L l] S (fun p S' => ∃ v, p = .sl (nx + 0) v 2 0 l.length ∧ S' = S.set (nx + 0) (.cells v 50 (l.flatMap Enc.enc))) := by
 have hf : (l.flatMap Enc.enc : List PV).length = l.length * 2 := yq l
 have ht : (l.flatMap Enc.enc : List PV).take (l.length * 2) = l.flatMap Enc.enc := List.take_of_length_le (by omega)
 refine vM hd Tryz.func186 Tryz.ntmps186 Tryz.results186 ?_
 (repeat apply za); refine pwn ?_; intros
 (repeat apply za); refine pwn ?_; intros
 refine za (qm 3 50 2 rfl fun v0 => ?_)
 repeat apply za
 refine pwN [] (jn2 hf ht) ?_
 refine ⟨by omega, ?_⟩
 intros
 repeat apply za
 have he := qh (S := S) (nx := nx) (obs := []) (.cells (v0 + 1) 50 (l.flatMap Enc.enc))
 rw [zY hd] at he
 exact zd ⟨_, S.set (nx + 0) (.cells (v0 + 1) 50 (l.flatMap Enc.enc)), by simp; rfl, ⟨v0 + 1, rfl, rfl⟩, fun o => .inl (congrFun he o)⟩
theorem Za3 (l : List Stop) (hl : l.length ≤ 1048576) : Pure Tryz.prog 186 [L l] (L l) :=
 Yw 0 (ud l hl) (yq l).symm
theorem xB (a : List Stop) {k : Nat} (h : a.length = k) : (L a : PV) = .lst k (a.flatMap Enc.enc) := by rw [← h]
set_option maxRecDepth 20000 in
theorem ZhP (l : List Stop) (k : Nat) (hk : k < l.length) (hl : l.length ≤ 1048576) : Pure Tryz.prog 187 [L l, I k] (L (l.take k ++ l.drop (k + 1))) := by
 have ha : (l.take k).length = k := by simp; omega
 have hb : (l.drop (k + 1)).length = l.length - (k + 1) := by simp
 have hc := ud (l.take k) (by omega)
 rw [xB _ ha, ha] at hc
 have w1 : IntKind.i64.wrap ((k : Int) + 1) = ((k + 1 : Nat) : Int) := wrN k (by omega)
 have f1 : (l.flatMap Enc.enc : List PV).take (k * 2) = (l.take k).flatMap Enc.enc := jM Enc.enc 2 (fun _ => rfl) l k
 have f2 : (l.flatMap Enc.enc : List PV).drop ((k + 1) * 2) = (l.drop (k + 1)).flatMap Enc.enc := j6 Enc.enc 2 (fun _ => rfl) l (k + 1)
 have f3 : ((l.take k).flatMap Enc.enc : List PV).length = k * 2 := by rw [yq, ha]
 have f4 : ((l.take k).flatMap Enc.enc : List PV).take (k * 2) = (l.take k).flatMap Enc.enc := List.take_of_length_le (by omega)
 have f5 : ((l.drop (k + 1)).flatMap Enc.enc : List PV).length = (l.length - (k + 1)) * 2 := by rw [yq, hb]
 have f6 : ((l.drop (k + 1)).flatMap Enc.enc : List PV).take ((l.length - (k + 1)) * 2) = (l.drop (k + 1)).flatMap Enc.enc := List.take_of_length_le (by omega)
 have hr : (L (l.take k ++ l.drop (k + 1)) : PV) = .lst (k + (l.length - (k + 1))) ((l.take k).flatMap Enc.enc ++ (l.drop (k + 1)).flatMap Enc.enc) := by
  rw [xB _ (by rw [List.length_append, ha, hb]), List.flatMap_append]
 rw [hr]
 clear hr
 have q1 : k ≤ l.length := by omega
 have q0 : 0 ≤ (k : Int) + 1 := by omega
 have q2 : k + 1 ≤ l.length := by omega
 generalize ((l.take k).flatMap Enc.enc : List PV) = ca at *
 generalize ((l.drop (k + 1)).flatMap Enc.enc : List PV) = cb at *
 refine pwe Tryz.func187 Tryz.ntmps187 Tryz.results187 fun S nx hd => ?_
 (repeat apply za); refine pwn ?_; intros
 repeat apply za
 refine zM [] (by rfl) (by rfl) fun K Gc Gh hK hGc hGh X hX0 hX => ?_
 simp -implicitDefEqProofs [hX0, hX, f1, q1]
 try clear hX0 hX X
 refine hGc _ _ _ _ _ _ _ fun hsuf => ((hc _ _ qi).mono ?_).v
 rintro _ _ ⟨v0, rfl, rfl⟩
 refine ⟨_, _, ve 0 _, ?_⟩
 clear hGc hGh
 clear Gc Gh
 refine zK hsuf (D := []) (by rfl) fun Gc Gh hGc hGh X hX0 hX => ?_
 simp -implicitDefEqProofs [hX0, hX, f1, q1]
 clear hX0 hX X
 intros
 refine hK _ _ _ ?_
 clear hK hGc hGh
 clear K Gc Gh
 repeat apply za
 refine pwN [] (jn6 f2 f3 f4 f5 f6 (jn4 w1 q0 q2 hk)) ?_
 refine ⟨by omega, ?_⟩
 intros
 refine zC 0 rfl ?_
 repeat apply za
 exact zd (zg hd (by simp; rfl) (by simp [zl, f3, f5, Nat.add_mul]))
set_option maxRecDepth 20000 in
theorem ZhQ (l : List Stop) (k : Nat) (s : Stop) (hk : k ≤ l.length) (hl : l.length ≤ 1048576) : Pure Tryz.prog 188 [L l, I k, .agg [I s.c, I s.q]] (L (l.take k ++ s :: l.drop k)) := by
 have ha : (l.take k).length = k := by simp; omega
 have hb : (l.drop k).length = l.length - k := by simp
 have hc := ud (l.take k) (by omega)
 rw [xB _ ha, ha] at hc
 have f1 : (l.flatMap Enc.enc : List PV).take (k * 2) = (l.take k).flatMap Enc.enc := jM Enc.enc 2 (fun _ => rfl) l k
 have f2 : (l.flatMap Enc.enc : List PV).drop (k * 2) = (l.drop k).flatMap Enc.enc := j6 Enc.enc 2 (fun _ => rfl) l k
 have f3 : ((l.take k).flatMap Enc.enc : List PV).length = k * 2 := by rw [yq, ha]
 have f4 : ((l.take k).flatMap Enc.enc : List PV).take (k * 2) = (l.take k).flatMap Enc.enc := List.take_of_length_le (by omega)
 have f5 : ((l.drop k).flatMap Enc.enc : List PV).length = (l.length - k) * 2 := by rw [yq, hb]
 have f6 : ((l.drop k).flatMap Enc.enc : List PV).take ((l.length - k) * 2) = (l.drop k).flatMap Enc.enc := List.take_of_length_le (by omega)
 have f7 : ((l.take k).flatMap Enc.enc ++ [I s.c, I s.q] : List PV).length = (k + 1) * 2 := by rw [List.length_append, f3]; simp; omega
 have f8 : ((l.take k).flatMap Enc.enc ++ [I s.c, I s.q] : List PV).take ((k + 1) * 2) = (l.take k).flatMap Enc.enc ++ [I s.c, I s.q] := List.take_of_length_le (by omega)
 have hr : (L (l.take k ++ s :: l.drop k) : PV) = .lst (k + 1 + (l.length - k)) ((l.take k).flatMap Enc.enc ++ [I s.c, I s.q] ++ (l.drop k).flatMap Enc.enc) := by
  rw [xB _ (k := k + 1 + (l.length - k)) (by rw [List.length_append, List.length_cons, ha, hb]; omega), List.flatMap_append, List.flatMap_cons]; simp
 rw [hr]
 clear hr
 generalize ((l.take k).flatMap Enc.enc : List PV) = ca at *
 generalize ((l.drop k).flatMap Enc.enc : List PV) = cb at *
 refine pwe Tryz.func188 Tryz.ntmps188 Tryz.results188 fun S nx hd => ?_
 repeat apply za
 refine pwn ?_
 intro v0
 repeat apply za
 refine zM [] (by rfl) (by rfl) fun K Gc Gh hK hGc hGh X hX0 hX => ?_
 simp -implicitDefEqProofs [hX0, hX, f1, hk]
 try clear hX0 hX X
 refine hGc _ _ _ _ _ _ _ fun hsuf => ((hc _ _ qi).mono ?_).v
 rintro _ _ ⟨v1, rfl, rfl⟩
 refine ⟨_, _, ve 0 _, ?_⟩
 clear hGc hGh
 clear Gc Gh
 refine zK hsuf (D := []) (by rfl) fun Gc Gh hGc hGh X hX0 hX => ?_
 simp -implicitDefEqProofs [hX0, hX, f1, hk]
 clear hX0 hX X
 intros
 refine hK _ _ _ ?_
 clear hK hGc hGh
 clear K Gc Gh
 repeat apply za
 refine pwN [] (jn2 f3 f4) ?_
 refine ⟨by omega, ?_⟩
 intros
 show PW _ _ _ _ _ _ _ (ext _ _ _)
 generalize hcc : (ca ++ [I s.c, I s.q] : List PV) = cc at *
 repeat apply za
 refine pwN [] (jn6 f2 f5 f6 f7 f8 hk) ?_
 refine ⟨by omega, ?_⟩
 intros
 refine zC 1 rfl ?_
 repeat apply za
 exact zd (zg hd (by simp; rfl) (by simp [zl, f7, f5, Nat.add_mul]))
open Go Go.Proofs
set_option maxRecDepth 20000 in
set_option maxHeartbeats 3200000 in
theorem ZhR (d : Day) (k a b i j : Nat) (hdn : d.length ≤ 1048576) (hdt : ∀ t ∈ d, t.length ≤ 1048576) (hk : k ≤ 3) (ha : a < d.length) (hb : b < d.length) : Pure Tryz.prog 223 [.agg [L d], .agg [I k, I a, I b, I i, I j]] (B (yv d ⟨k, a, b, i, j⟩)) := by
 obtain ⟨ta, xa, a1, -, -, a0⟩ := el1 rfl d a ha
 obtain ⟨tb, xb, b1, -, -, b0⟩ := el1 rfl d b hb
 have ha1 : 1 ≤ d.length - a := by omega
 have hb1 : 1 ≤ d.length - b := by omega
 have la : tlen d a = ta.length := by unfold tlen; rw [List.getD_eq_getElem?_getD, a1]; rfl
 have lb : tlen d b = tb.length := by unfold tlen; rw [List.getD_eq_getElem?_getD, b1]; rfl
 have hz : yv d ⟨k, a, b, i, j⟩ = qD ⟨k, a, b, i, j⟩ ta.length tb.length := by
  unfold yv
  rw [la, lb, decide_eq_true ⟨hk, ha, hb⟩, Bool.true_and]
 rw [hz]
 clear hz
 have hsame : a = b → ta.length = tb.length := fun e => by subst e; rw [← la, lb]
 have na : ¬ d.length ≤ a := by omega
 have nb : ¬ d.length ≤ b := by omega
 have z1 : ¬ (a : Int) < 0 := by omega
 have z2 : ¬ (b : Int) < 0 := by omega
 have z3 : ¬ (i : Int) < 0 := by omega
 have z4 : ¬ (j : Int) < 0 := by omega
 clear la lb a1 b1
 unfold qD
 simp only
 refine pwe Tryz.func223 Tryz.ntmps223 Tryz.results223 fun S nx hd => ?_
 repeat apply za
 refine pwn ?_
 intro v0 v1
 (repeat apply za); refine pwn ?_; intros
 repeat apply za
 refine pwN [(3, 14), (8, 19), (14, 25), (20, 31), (25, 36)] (jn6 z1 z2 z3 z4 na (jn2 nb zr)) ?_
 intros
 repeat apply za
 refine zi rfl ?_
 refine zb ?_
 repeat apply za
 refine pwN [] (jn3 a0 ha ha1) ?_
 intros
 repeat apply za
 refine pwN [] (jn3 b0 hb hb1) ?_
 intros
 generalize ta.length = la at *
 generalize tb.length = lb at *
 clear a0 b0
 match k, hk with
 | 0, _ =>
  rw [if_pos rfl]
  (repeat apply za); refine pwn ?_; intros
  repeat apply za
  refine zj rfl ?_
  by_cases h1 : a = b
  case neg =>
   have h1' : ¬ (a : Int) = b := by omega
   have h1s : ¬ b = a := fun e => h1 e.symm
   repeat apply za
   refine pwN [(5, 65), (12, 72)] (jn2 h1' zr) ?_
   intros
   repeat apply za
   exact zd (zg hd rfl (by simp [h1s, zl]))
  subst h1
  by_cases h2 : i < j
  case neg =>
   repeat apply za
   refine pwN [(5, 65), (12, 72)] (jn2 h2 zr) ?_
   intros
   repeat apply za
   exact zd (zg hd rfl (by simp [h2, zl]))
  by_cases h3 : j < la
  case neg =>
   repeat apply za
   refine pwN [(5, 65), (12, 72)] (jn2 h2 h3) ?_
   intros
   repeat apply za
   exact zd (zg hd rfl (by simp [h3, zl]))
  repeat apply za
  refine pwN [(5, 65), (12, 72)] (jn2 h2 h3) ?_
  intros
  repeat apply za
  exact zd (zg hd rfl (by simp [h2, h3, zl]))
 | 1, _ =>
  rw [if_neg (by decide), if_pos rfl]
  by_cases h1 : a = b
  ·have := hsame h1
   subst this
   subst h1
   (repeat apply za); refine pwn ?_; intros
   repeat apply za
   refine zi rfl ?_
   refine zb ?_
   (repeat apply za); refine pwn ?_; intros
   repeat apply za
   refine zj rfl ?_
   (repeat apply za); refine pwn ?_; intros
   repeat apply za
   refine zj rfl ?_
   by_cases h2 : i < la
   case neg =>
    repeat apply za
    refine pwN [(4, 90)] (jn2 h2 zr) ?_
    intros
    repeat apply za
    exact zd (zg hd rfl (by simp [h2, zl]))
   repeat apply za
   refine pwN [(4, 90)] h2 ?_
   intros
   repeat apply za
   exact zd (zg hd rfl (by simp [h2, zl]))
  ·have h1' : ¬ (a : Int) = b := by omega
   (repeat apply za); refine pwn ?_; intros
   repeat apply za
   refine zi rfl ?_
   refine zb ?_
   (repeat apply za); refine pwn ?_; intros
   repeat apply za
   refine zj rfl ?_
   (repeat apply za); refine pwn ?_; intros
   repeat apply za
   refine zi (by simp [h1']) ?_
   refine zb ?_
   by_cases h2 : i < la
   case neg =>
    repeat apply za
    refine pwN [(4, 100)] (jn2 h2 zr) ?_
    intros
    repeat apply za
    exact zd (zg hd rfl (by simp [h1, h2, zl]))
   repeat apply za
   refine pwN [(4, 100)] h2 ?_
   intros
   repeat apply za
   exact zd (zg hd rfl (by simp [h1, h2, zl]))
 | 2, _ =>
  rw [if_neg (by decide), if_neg (by decide), if_pos rfl]
  (repeat apply za); refine pwn ?_; intros
  repeat apply za
  refine zi rfl ?_
  refine zb ?_
  (repeat apply za); refine pwn ?_; intros
  repeat apply za
  refine zi rfl ?_
  refine zb ?_
  (repeat apply za); refine pwn ?_; intros
  repeat apply za
  refine zj rfl ?_
  (repeat apply za); refine pwn ?_; intros
  by_cases h1 : a = b
  ·have := hsame h1
   subst this
   subst h1
   repeat apply za
   refine zj (by simp) ?_
   by_cases h2 : i < j
   case neg =>
    have h2' : j ≤ i := by omega
    repeat apply za
    refine pwN [(5, 119)] (jn2 h2 zr) ?_
    intros
    repeat apply za
    exact zd (zg hd rfl (by simp [h2', zl]))
   have h2' : ¬ j ≤ i := by omega
   by_cases h3 : j < la
   case neg =>
    repeat apply za
    refine pwN [(5, 119)] (jn2 h2 h3) ?_
    intros
    repeat apply za
    exact zd (zg hd rfl (by simp [h3, zl]))
   have h4 : i < la := by omega
   repeat apply za
   refine pwN [(5, 119)] (jn2 h2 h3) ?_
   intros
   repeat apply za
   exact zd (zg hd rfl (by simp [h2', h3, h4, zl]))
  ·have h1' : ¬ (a : Int) = b := by omega
   repeat apply za
   refine zi (by simp [h1']) ?_
   refine zb ?_
   by_cases h2 : a < b
   case neg =>
    have h2' : b < a := by omega
    repeat apply za
    refine pwN [(5, 130), (11, 136)] (jn2 h2 zr) ?_
    intros
    repeat apply za
    exact zd (zg hd rfl (by simp [h2', zl]))
   have h2' : ¬ (b < a ∨ a = b ∧ j ≤ i) := by omega
   by_cases h3 : i < la
   case neg =>
    repeat apply za
    refine pwN [(5, 130), (11, 136)] (jn3 h2 h3 zr) ?_
    intros
    repeat apply za
    exact zd (zg hd rfl (by simp [h3, zl]))
   repeat apply za
   refine pwN [(5, 130), (11, 136)] (jn2 h2 h3) ?_
   intros
   repeat apply za
   exact zd (zg hd rfl (by simp [h2', h3, zl]))
 | 3, _ =>
  rw [if_neg (by decide), if_neg (by decide), if_neg (by decide)]
  (repeat apply za); refine pwn ?_; intros
  repeat apply za
  refine zi rfl ?_
  refine zb ?_
  (repeat apply za); refine pwn ?_; intros
  repeat apply za
  refine zi rfl ?_
  refine zb ?_
  (repeat apply za); refine pwn ?_; intros
  repeat apply za
  refine zi rfl ?_
  refine zb ?_
  by_cases h2 : a < b
  case neg =>
   repeat apply za
   refine pwN [(3, 145), (10, 152), (16, 158)] (jn2 h2 zr) ?_
   intros
   repeat apply za
   exact zd (zg hd rfl (by simp [h2, zl]))
  by_cases h3 : i ≤ la
  case neg =>
   repeat apply za
   refine pwN [(3, 145), (10, 152), (16, 158)] (jn3 h2 h3 zr) ?_
   intros
   repeat apply za
   exact zd (zg hd rfl (by simp [h3, zl]))
  repeat apply za
  refine pwN [(3, 145), (10, 152), (16, 158)] (jn2 h2 h3) ?_
  intros
  repeat apply za
  exact zd (zg hd rfl (by simp [h2, h3, zl]))
open Go Go.Proofs
instance : Enc Mv := ⟨fun m => mvL m, 5, fun _ => rfl, fun _ => rfl⟩
@[simp] theorem Zk4 (m : Mv) : Enc.enc m = mvL m := rfl
@[simp high] theorem Zk5 (l : List Mv) : (l.flatMap Enc.enc).length = l.length * 5 := qX l
@[simp high] theorem Zk6 (l : List Mv) : (l.flatMap Enc.enc).take (l.length * 5) = l.flatMap Enc.enc := vd l
theorem vq {α : Type} {W : Nat → List α} {c : Nat} : ∀ n : Nat, (∀ i, i < n → (W i).length ≤ c) → ((List.range n).flatMap W).length ≤ c * n
 | 0, _ => by simp
 | n + 1, h => by
  rw [ZJ]
  have h1 := vq n fun i hi => h i (by omega)
  have h2 := h n (by omega)
  rw [Nat.mul_add]; omega
theorem Qs {α : Type} (W : Nat → List α) (k : Nat) : (List.range (k + 1)).flatMap W = (List.range k).flatMap W ++ W k := by
 rw [List.range_succ, List.flatMap_append]; simp
theorem Za4 (d : Day) (hdn : d.length ≤ 6) (hdt : ∀ t ∈ d, t.length ≤ 6) : (∀ k a b i, b < d.length → (yU d k a b i).length ≤ 7) ∧ (∀ k a b, a < d.length → b < d.length → (y8 d k a b).length ≤ 49) ∧ (∀ k a, a < d.length → (qw d k a).length ≤ 294) ∧ ∀ k, ((List.range k).flatMap (qx d)).length ≤ 1764 * k := by
 have nR : ∀ k a b i, b < d.length → (yU d k a b i).length ≤ 7 := by
  intro k a b i hb
  have h1 := List.length_filterMap_le (qG d k a b i) (List.range (tlen d b + 1))
  rw [List.length_range] at h1
  have h2 : tlen d b ≤ 6 := by unfold tlen; rw [List.getD_eq_getElem?_getD, List.getElem?_eq_getElem hb]; exact hdt _ (List.getElem_mem hb)
  unfold yU; omega
 have nP : ∀ k a b, a < d.length → b < d.length → (y8 d k a b).length ≤ 49 := by
  intro k a b ha hb
  have h1 := vq (W := yU d k a b) (c := 7) (tlen d a + 1) fun i _ => nR k a b i hb
  have h2 : tlen d a ≤ 6 := by unfold tlen; rw [List.getD_eq_getElem?_getD, List.getElem?_eq_getElem ha]; exact hdt _ (List.getElem_mem ha)
  unfold y8; omega
 have nK : ∀ k a, a < d.length → (qw d k a).length ≤ 294 := by
  intro k a ha
  have h1 := vq (W := y8 d k a) (c := 49) d.length fun b hb => nP k a b ha hb
  unfold qw; omega
 have nA : ∀ k, (qx d k).length ≤ 1764 := by
  intro k
  have h1 := vq (W := qw d k) (c := 294) d.length fun a ha => nK k a ha
  unfold qx; omega
 have lA := fun k => vq (W := qx d) (c := 1764) k fun i _ => nA i
 exact ⟨nR, nP, nK, lA⟩
set_option maxRecDepth 20000 in
set_option maxHeartbeats 3200000 in
theorem ZhS (d : Day) (hdn : d.length ≤ 6) (hdt : ∀ t ∈ d, t.length ≤ 6) : Pure Tryz.prog 185 [.agg [L d]] (L (jG d)) := by
 have hmay := fun k a b i j (hk : k ≤ 3) (ha : a < d.length) (hb : b < d.length) => ZhR d k a b i j (by omega) (fun t ht => Nat.le_trans (hdt t ht) (by decide)) hk ha hb
 obtain ⟨nR, nP, nK, lA⟩ := Za4 d hdn hdt
 refine pwe Tryz.func185 Tryz.ntmps185 Tryz.results185 fun S nx hd => ?_
 repeat apply za
 refine pwn ?_
 intro v0
 (repeat apply za); refine pwn ?_; intros
 refine za (qm 3 160 5 rfl fun v1 => ?_)
 (repeat apply za); refine pwn ?_; intros
 repeat apply za
 refine ze (zq (fun s' : Nat × Nat => s'.1 ≤ 4) (fun (k, v1) => [(1, .ptr nx v0 0), (3, .sl (nx + 1) v1 5 0 ((List.range k).flatMap (qx d)).length), (4, I k)]) (fun (k, v1) => [.cells v0 66 [L d], .cells v1 160 (((List.range k).flatMap (qx d)).flatMap Enc.enc)]) (fun s' => 4 - s'.1) (0, v1) [] (by simp) (by simp) (by simp) ?_)
 rintro ⟨k, v1⟩ hk
 simp only at hk ⊢
 by_cases hk4 : k < 4
 ·have hk4' : (k : Int) < 4 := by omega
  have wk := wrN k (by omega)
  have hOA := lA k
  have hsA := Qs (qx d) k
  have hEA : qx d k = (List.range d.length).flatMap (qw d k) := rfl
  generalize (List.range k).flatMap (qx d) = oA at *
  repeat apply za
  refine pwN [] hk4' ?_
  intros
  repeat apply za
  refine zj rfl ?_
  refine zb (za (ze ?_))
  (repeat apply za); refine pwn ?_; intros
  repeat apply za
  refine ze (zq (fun s' : Nat × Nat => s'.1 ≤ d.length) (fun (a, v1) => [(1, .ptr nx v0 0), (3, .sl (nx + 1) v1 5 0 (oA ++ (List.range a).flatMap (qw d k)).length), (4, I k), (5, I a)]) (fun (a, v1) => [.cells v0 66 [L d], .cells v1 160 ((oA ++ (List.range a).flatMap (qw d k)).flatMap Enc.enc)]) (fun s' => d.length - s'.1) (0, v1) [] (by simp) (by simp) (by simp) ?_)
  clear v1
  rintro ⟨a, v1⟩ ha
  simp only at ha ⊢
  obtain ⟨oK, hoK⟩ : ∃ o, o = oA ++ (List.range a).flatMap (qw d k) := ⟨_, rfl⟩
  rw [← hoK]
  (repeat apply za); refine pwn ?_; intros
  repeat apply za
  refine zk rfl (fun hca => ?_) (fun hca => ?_)
  ·simp at hca
   have wa := wrN a (by omega)
   have hOK := vq (W := qw d k) (c := 294) a fun i hi => nK k i (by omega)
   have hsK : oA ++ (List.range (a + 1)).flatMap (qw d k) = oK ++ qw d k a := by rw [hoK, Qs, List.append_assoc]
   have hEK : qw d k a = (List.range d.length).flatMap (y8 d k a) := rfl
   have hOK2 : oK.length ≤ 20000 := by rw [hoK, List.length_append]; omega
   refine zb (za (ze ?_))
   (repeat apply za); refine pwn ?_; intros
   repeat apply za
   refine ze (zq (fun s' : Nat × Nat => s'.1 ≤ d.length) (fun (b, v1) => [(1, .ptr nx v0 0), (3, .sl (nx + 1) v1 5 0 (oK ++ (List.range b).flatMap (y8 d k a)).length), (4, I k), (5, I a), (6, I b)]) (fun (b, v1) => [.cells v0 66 [L d], .cells v1 160 ((oK ++ (List.range b).flatMap (y8 d k a)).flatMap Enc.enc)]) (fun s' => d.length - s'.1) (0, v1) [] (by simp) (by simp) (by simp) ?_)
   clear v1
   rintro ⟨b, v1⟩ hb
   simp only at hb ⊢
   obtain ⟨oP, hoP⟩ : ∃ o, o = oK ++ (List.range b).flatMap (y8 d k a) := ⟨_, rfl⟩
   rw [← hoP]
   (repeat apply za); refine pwn ?_; intros
   repeat apply za
   refine zk rfl (fun hcb => ?_) (fun hcb => ?_)
   ·simp at hcb
    have wb := wrN b (by omega)
    have hOP := vq (W := y8 d k a) (c := 49) b fun i hi => nP k a i hca (by omega)
    have hsP : oK ++ (List.range (b + 1)).flatMap (y8 d k a) = oP ++ y8 d k a b := by rw [hoP, Qs, List.append_assoc]
    obtain ⟨ta, xa, a1, -, -, a0⟩ := el1 rfl d a hca
    obtain ⟨tb, xb, b1, -, -, b0⟩ := el1 rfl d b hcb
    have ha1 : 1 ≤ d.length - a := by omega
    have hb1 : 1 ≤ d.length - b := by omega
    have hal := hdt ta (List.mem_of_getElem? a1)
    have hbl := hdt tb (List.mem_of_getElem? b1)
    have la : tlen d a = ta.length := by unfold tlen; rw [List.getD_eq_getElem?_getD, a1]; rfl
    have lb : tlen d b = tb.length := by unfold tlen; rw [List.getD_eq_getElem?_getD, b1]; rfl
    have hEP : y8 d k a b = (List.range (ta.length + 1)).flatMap (yU d k a b) := by unfold y8; rw [la]
    have hER : ∀ i, yU d k a b i = (List.range (tb.length + 1)).filterMap (qG d k a b i) := fun i => by unfold yU; rw [lb]
    have hOP2 : oP.length ≤ 30000 := by rw [hoP, List.length_append]; omega
    refine zb (za (ze ?_))
    (repeat apply za); refine pwn ?_; intros
    repeat apply za
    refine ze (zq (fun s' : Nat × Nat => s'.1 ≤ ta.length + 1) (fun (i, v1) => [(1, .ptr nx v0 0), (3, .sl (nx + 1) v1 5 0 (oP ++ (List.range i).flatMap (yU d k a b)).length), (4, I k), (5, I a), (6, I b), (7, I i)]) (fun (i, v1) => [.cells v0 66 [L d], .cells v1 160 ((oP ++ (List.range i).flatMap (yU d k a b)).flatMap Enc.enc)]) (fun s' => ta.length + 1 - s'.1) (0, v1) [] (by simp) (by simp) (by simp) ?_)
    clear v1
    rintro ⟨i, v1⟩ hi
    simp only at hi ⊢
    obtain ⟨oR, hoR⟩ : ∃ o, o = oP ++ (List.range i).flatMap (yU d k a b) := ⟨_, rfl⟩
    rw [← hoR]
    repeat apply za
    refine pwN [] (jn3 a0 hca ha1) ?_
    intros
    repeat apply za
    refine zk rfl (fun hci => ?_) (fun hci => ?_)
    ·simp at hci
     have wi := wrN i (by omega)
     have hOR := vq (W := yU d k a b) (c := 7) i fun q _ => nR k a b q hcb
     have hsR : oP ++ (List.range (i + 1)).flatMap (yU d k a b) = oR ++ yU d k a b i := by rw [hoR, Qs, List.append_assoc]
     have hOR2 : oR.length ≤ 40000 := by rw [hoR, List.length_append]; omega
     have hERi := hER i
     refine zb (za (ze ?_))
     (repeat apply za); refine pwn ?_; intros
     repeat apply za
     refine ze (zq (fun s' : Nat × Nat => s'.1 ≤ tb.length + 1) (fun (j, v1) => [(1, .ptr nx v0 0), (3, .sl (nx + 1) v1 5 0 (oR ++ (List.range j).filterMap (qG d k a b i)).length), (4, I k), (5, I a), (6, I b), (7, I i), (8, I j)]) (fun (j, v1) => [.cells v0 66 [L d], .cells v1 160 ((oR ++ (List.range j).filterMap (qG d k a b i)).flatMap Enc.enc)]) (fun s' => tb.length + 1 - s'.1) (0, v1) [] (by simp) (by simp) (by simp) ?_)
     clear v1
     rintro ⟨j, v1⟩ hj
     simp only at hj ⊢
     obtain ⟨oC, hoC⟩ : ∃ o, o = oR ++ (List.range j).filterMap (qG d k a b i) := ⟨_, rfl⟩
     rw [← hoC]
     repeat apply za
     refine pwN [] (jn3 b0 hcb hb1) ?_
     intros
     repeat apply za
     refine zk rfl (fun hcj => ?_) (fun hcj => ?_)
     ·simp at hcj
      have wj := wrN j (by omega)
      have hm := hmay k a b i j (by omega) hca hcb
      have hOC : ((List.range j).filterMap (qG d k a b i)).length ≤ j := by have := List.length_filterMap_le (qG d k a b i) (List.range j); simpa using this
      have hsC : oR ++ (List.range (j + 1)).filterMap (qG d k a b i) = oC ++ (qG d k a b i j).toList := by
       rw [hoC, List.range_succ, List.filterMap_append, List.append_assoc]
       simp only [List.filterMap_cons, List.filterMap_nil]
       cases qG d k a b i j <;> rfl
      have hOC2 : oC.length ≤ 50000 := by rw [hoC, List.length_append]; omega
      have hC : qG d k a b i j = if yv d ⟨k, a, b, i, j⟩ = true then some ⟨k, a, b, i, j⟩ else none := rfl
      refine zb (za (ze ?_))
      repeat apply za
      refine pwn ?_
      intro v2
      repeat apply za
      refine pwn ?_
      refine pwc hm ?_
      intros
      cases hmm : yv d ⟨k, a, b, i, j⟩ with
      | true =>
       rw [hmm, if_pos rfl] at hC
       (repeat apply za); refine pwn ?_; intros
       repeat apply za
       refine zj rfl ?_
       repeat apply za
       refine pwn ?_
       refine ⟨by omega, ?_⟩
       intros
       (repeat apply za); refine pwn ?_; intros
       exact zh (j + 1, v1 + 1) [_] (by simp; omega) (by simp; omega) (by simp [wj, hsC, hC]) rfl (by simp [hsC, hC]; rfl)
      | false =>
       rw [hmm, if_neg (by simp)] at hC
       (repeat apply za); refine pwn ?_; intros
       repeat apply za
       refine zi rfl ?_
       refine zb ?_
       (repeat apply za); refine pwn ?_; intros
       exact zh (j + 1, v1) [_] (by simp; omega) (by simp; omega) (by simp [wj, hsC, hC]) rfl (by simp [hsC, hC]; rfl)
     ·simp at hcj
      obtain rfl : j = tb.length + 1 := by omega
      rw [show oC = oP ++ (List.range (i + 1)).flatMap (yU d k a b) from by rw [hoC, hsR, hERi]]
      refine zo ?_
      (repeat apply za); refine pwn ?_; intros
      exact zh (i + 1, v1) [] (by simp; omega) (by simp; omega) (by simp [wi]) rfl (by simp)
    ·simp at hci
     obtain rfl : i = ta.length + 1 := by omega
     rw [show oR = oK ++ (List.range (b + 1)).flatMap (y8 d k a) from by rw [hoR, hsP, hEP]]
     refine zo ?_
     (repeat apply za); refine pwn ?_; intros
     exact zh (b + 1, v1) [] hcb (by simp; omega) (by simp [wb]) rfl (by simp)
   ·simp at hcb
    obtain rfl : b = d.length := by omega
    rw [show oP = oA ++ (List.range (a + 1)).flatMap (qw d k) from by rw [hoP, hsK, hEK]]
    refine zo ?_
    (repeat apply za); refine pwn ?_; intros
    exact zh (a + 1, v1) [] hca (by simp; omega) (by simp [wa]) rfl (by simp)
  ·simp at hca
   obtain rfl : a = d.length := by omega
   rw [show oK = (List.range (k + 1)).flatMap (qx d) from by rw [hoK, hsA, hEA]]
   refine zo ?_
   (repeat apply za); refine pwn ?_; intros
   exact zh (k + 1, v1) [] hk4 (by simp; omega) (by simp [wk]) rfl (by simp)
 ·obtain rfl : k = 4 := by omega
  have hE : jG d = (List.range 4).flatMap (qx d) := rfl
  rw [← hE]
  (repeat apply za); refine pwn ?_; intros
  repeat apply za
  refine zi rfl ?_
  refine zo ?_
  refine zC 1 rfl ?_
  (repeat apply za); refine pwn ?_; intros
  repeat apply za
  exact zd (zg hd (by simp; rfl) (by simp [zl]))
open Go Go.Proofs
def tG (d : Day) (t : Nat) : zn := d.getD t []
def sG (u : zn) (i : Nat) : Stop := u.getD i default
def vr (A : zn) (i j : Nat) : zn := A.take i ++ ((A.drop i).take (j + 1 - i)).reverse ++ A.drop (j + 1)
def vt (d : Day) (m : Mv) : Day :=
 if m.k = 0 then d.set m.a (vr (tG d m.a) m.i m.j)
 else if m.k = 1 then (d.set m.a ((tG d m.a).take m.i ++ (tG d m.a).drop (m.i + 1))).set m.b ((tG (d.set m.a ((tG d m.a).take m.i ++ (tG d m.a).drop (m.i + 1))) m.b).take m.j ++ sG (tG d m.a) m.i :: (tG (d.set m.a ((tG d m.a).take m.i ++ (tG d m.a).drop (m.i + 1))) m.b).drop m.j)
 else if m.k = 2 then (d.set m.a ((tG d m.a).set m.i (sG (tG d m.b) m.j))).set m.b ((tG (d.set m.a ((tG d m.a).set m.i (sG (tG d m.b) m.j))) m.b).set m.j (sG (tG d m.a) m.i))
 else (d.set m.a ((tG d m.a).take m.i ++ (tG d m.b).drop m.j)).set m.b ((tG d m.b).take m.j ++ (tG d m.a).drop m.i)
def neT (t : zn) : Bool := !decide (t.length = 0)
theorem pz (d : Day) (t f o : Nat) : zP d ⟨t, f, o, false⟩ = ((tG d t).drop f).take (o - f) := by
 unfold zP tG
 simp only [cond_false]
 split
 ·rfl
 ·rw [show o - f = 0 by omega]; simp
theorem pzb (d : Day) (t f o : Nat) : zP d ⟨t, f, o, true⟩ = (((tG d t).drop f).take (o - f)).reverse := by
 unfold zP tG
 simp only [cond_true]
 split
 ·rfl
 ·rw [show o - f = 0 by omega]; simp
theorem pz0 (d : Day) : zP d pc0 = [] := rfl
theorem ue {A : zn} {i : Nat} (h : i < A.length) : (A.drop i).take 1 = [sG A i] := by
 have e : sG A i = A[i] := by unfold sG; rw [List.getD_eq_getElem?_getD, List.getElem?_eq_getElem h]; rfl
 rw [List.drop_eq_getElem_cons h, List.take_succ_cons, List.take_zero, e]
theorem wC (A : zn) (i : Nat) : (A.drop i).take (A.length - i) = A.drop i := List.take_of_length_le (by simp)
theorem wD (d : Day) (a b c e f : Pc) : zO d ⟨a, b, c, e, f⟩ = zP d a ++ (zP d b ++ (zP d c ++ (zP d e ++ zP d f))) := by
 unfold zO Rw5.l; simp
theorem Za5 {d : Day} {m : Mv} (h : yv d m = true) : vt d m = (d.set m.b (zO d (zz d m).2)).set m.a (zO d (zz d m).1) := by
 obtain ⟨hk, ha, hb, -, -⟩ := wO h
 unfold yv at h
 rw [Bool.and_eq_true] at h
 obtain ⟨-, h2⟩ := h
 have lA : tlen d m.a = (tG d m.a).length := rfl
 have lB : tlen d m.b = (tG d m.b).length := rfl
 have gs : ∀ (t : Nat) (u : zn), t < d.length → tG (d.set t u) t = u := fun t u ht => by unfold tG; rw [List.getD_eq_getElem?_getD, List.getElem?_set_self ht]; rfl
 have gn : ∀ (t q : Nat) (u : zn), t ≠ q → tG (d.set t u) q = tG d q := fun t q u ht => by unfold tG; rw [List.getD_eq_getElem?_getD, List.getElem?_set_ne ht, ← List.getD_eq_getElem?_getD]
 unfold qD at h2
 rw [lA, lB] at h2
 unfold zz qu vt
 rw [lA, lB]
 by_cases k0 : m.k = 0
 ·rw [if_pos k0] at h2 ⊢
  rw [if_pos k0]
  have h2 := of_decide_eq_true h2
  simp only
  rw [h2.1, List.set_set, wD, pz, pzb, pz, pz0, List.drop_zero, Nat.sub_zero, wC]
  simp [vr]
 rw [if_neg k0] at h2 ⊢
 rw [if_neg k0]
 by_cases k1 : m.k = 1
 ·rw [if_pos k1] at h2 ⊢
  rw [if_pos k1]
  have h2 := of_decide_eq_true h2
  by_cases hab : m.a = m.b
  ·rw [if_pos hab] at h2
   rw [if_neg (by simp [hab]), ← hab, gs _ _ ha, List.set_set]
   rw [← hab] at h2
   have hl : ((tG d m.a).take m.i).length = m.i := by simp; omega
   by_cases hij : m.i < m.j
   ·rw [if_pos hij]
    simp only
    rw [List.set_set, wD, pz, pz, pz, pz, pz0, List.drop_zero, Nat.sub_zero, wC, show m.i + 1 - m.i = 1 by omega, ue h2.1]
    congr 1
    rw [List.take_append, hl, List.take_of_length_le (l := (tG d m.a).take m.i) (by omega), List.drop_append, hl, List.drop_of_length_le (l := (tG d m.a).take m.i) (by omega), List.drop_drop, show m.i + 1 + (m.j - m.i) = m.j + 1 by omega, show m.j + 1 - (m.i + 1) = m.j - m.i by omega]
    simp
   ·rw [if_neg hij]
    simp only
    rw [List.set_set, wD, pz, pz, pz, pz, pz0, List.drop_zero, Nat.sub_zero, wC, show m.i + 1 - m.i = 1 by omega, ue h2.1]
    congr 1
    rw [List.take_append_of_le_length (by omega), List.take_take, show min m.j m.i = m.j by omega, List.drop_append_of_le_length (by omega), List.drop_take]
    simp
  ·rw [if_neg hab] at h2
   rw [if_pos hab, gn _ _ _ hab]
   simp only
   rw [wD, wD, pz, pz, pz, pz, pz, pz0, List.drop_zero, List.drop_zero, Nat.sub_zero, Nat.sub_zero, wC, wC, show m.i + 1 - m.i = 1 by omega, ue h2.1, List.set_comm _ _ hab]
   simp
 rw [if_neg k1] at h2 ⊢
 rw [if_neg k1]
 by_cases k2 : m.k = 2
 ·rw [if_pos k2] at h2 ⊢
  rw [if_pos k2]
  have h2 := of_decide_eq_true h2
  obtain ⟨h20, h21, h22⟩ := h2
  by_cases hab : m.a = m.b
  ·rw [if_pos hab, ← hab, gs _ _ ha, List.set_set]
   rw [← hab] at h22
   have hij : m.i < m.j := by omega
   simp only
   rw [List.set_set, wD, pz, pz, pz, pz, pz, List.drop_zero, Nat.sub_zero, wC, show m.i + 1 - m.i = 1 by omega, show m.j + 1 - m.j = 1 by omega, ue h21, ue h22]
   congr 1
   rw [List.set_eq_take_append_cons_drop, if_pos (by simp; omega), List.take_set, List.drop_set_of_lt (by omega), List.set_eq_take_append_cons_drop, if_pos (by simp; omega), List.take_take, show min m.i m.j = m.i by omega, List.drop_take]
   simp
  ·rw [if_neg hab, gn _ _ _ hab]
   simp only
   rw [wD, wD, pz, pz, pz, pz, pz, pz, pz0, List.drop_zero, List.drop_zero, Nat.sub_zero, Nat.sub_zero, wC, wC, show m.i + 1 - m.i = 1 by omega, show m.j + 1 - m.j = 1 by omega, ue h21, ue h22, List.set_comm _ _ hab]
   rw [List.set_eq_take_append_cons_drop (l := tG d m.a), if_pos h21, List.set_eq_take_append_cons_drop (l := tG d m.b), if_pos h22]
   simp
 rw [if_neg k2] at h2 ⊢
 rw [if_neg k2]
 have h2 := of_decide_eq_true h2
 have hab : m.a ≠ m.b := by omega
 simp only
 rw [wD, wD, pz, pz, pz, pz, pz0, List.drop_zero, List.drop_zero, Nat.sub_zero, Nat.sub_zero, wC, wC, List.set_comm _ _ hab]
 simp
theorem Za6 (d : Day) (m : Mv) : ∀ l : List Nat, l.filterMap (yV d m) = (l.map (mkT d m)).filter neT
 | [] => rfl
 | i :: l => by
  have e : yV d m i = if (mkT d m i).length = 0 then none else some (mkT d m i) := rfl
  rw [List.filterMap_cons, e, List.map_cons, List.filter_cons, Za6 d m l]
  by_cases h : (mkT d m i).length = 0
  ·rw [if_pos h]; simp [neT, h]
  ·rw [if_neg h]; simp [neT, h]
theorem ZhT {d : Day} {m : Mv} (h : yv d m = true) : mkZ d m = (vt d m).filter neT := by
 unfold mkZ
 rw [Za6, Xb, Za5 h]
open Go Go.Proofs
theorem uf {P : Program} {r : Rd} {n N : Nat} {Q : Exit → (Nat → PV) → Store → Prop} {F : Nat → PV} {S : Store} {c : Code} (L : List (Nat × PV)) (hL : ∀ x ∈ L, F x.1 = x.2) (h : PW P r n N c Q (fr L) S) : PW P r n N c Q F S := XZ (F' := fr L) (QX hL) h
theorem ZhU {A B : Prop} (h2 : A → B) (h1 : A) : B := h2 h1
def qI (d : Day) (a b : Nat) (pa pb : PV) (k : Nat) : List PV := (List.range k).map fun q => if q = a then pa else if q = b then pb else L (tG d q)
theorem Za7 (d : Day) (a b : Nat) (pa pb : PV) (k : Nat) : (qI d a b pa pb k).length = k := by simp [qI]
theorem ZhV (d : Day) (a b : Nat) (pa pb : PV) (k : Nat) : qI d a b pa pb (k + 1) = qI d a b pa pb k ++ [if k = a then pa else if k = b then pb else L (tG d k)] := by
 unfold qI; rw [List.range_succ, List.map_append]; rfl
theorem ZhW (d : Day) {a b k : Nat} (pa pa' pb : PV) (h : k ≤ a) : qI d a b pa pb k = qI d a b pa' pb k := by
 unfold qI
 refine List.map_congr_left fun q hq => ?_
 have := List.mem_range.1 hq
 rw [if_neg (show ¬ q = a by omega), if_neg (show ¬ q = a by omega)]
theorem ZhX (d : Day) {a b k : Nat} (pa pb pb' : PV) (h : k ≤ b) : qI d a b pa pb k = qI d a b pa pb' k := by
 unfold qI
 refine List.map_congr_left fun q hq => ?_
 have := List.mem_range.1 hq
 rw [if_neg (show ¬ q = b by omega), if_neg (show ¬ q = b by omega)]
theorem Za8 (d : Day) (a b : Nat) (pa pb : PV) {k q : Nat} (h : q < k) : ∃ tl, (qI d a b pa pb k).drop q = (if q = a then pa else if q = b then pb else L (tG d q)) :: tl := by
 have hl : q < (qI d a b pa pb k).length := by rw [Za7]; exact h
 refine ⟨(qI d a b pa pb k).drop (q + 1), ?_⟩
 rw [List.drop_eq_getElem_cons hl]
 congr 1
 simp [qI]
theorem ZhY (d : Day) : (d.flatMap Enc.enc : List PV) = d.map fun t => L t := by
 induction d with
 | nil => rfl
 | cons t d ih => rw [List.flatMap_cons, ih]; rfl
theorem ZhZ (d : Day) (a b : Nat) (pa pb : PV) : qI d a b pa pb d.length = ((d.flatMap Enc.enc : List PV).set b pb).set a pa := by
 rw [ZhY]
 refine List.ext_getElem? fun i => ?_
 unfold qI
 by_cases hi : i < d.length
 ·rw [List.getElem?_map, List.getElem?_range hi]
  simp only [Option.map_some, List.getElem?_set, List.length_set, List.length_map]
  by_cases h1 : i = a
  ·rw [if_pos h1, if_pos h1.symm, if_pos (by omega)]
  ·rw [if_neg h1, if_neg (fun e : a = i => h1 e.symm)]
   by_cases h2 : i = b
   ·rw [if_pos h2, if_pos h2.symm, if_pos (by omega)]
   ·rw [if_neg h2, if_neg (fun e : b = i => h2 e.symm), List.getElem?_map, List.getElem?_eq_getElem hi]
    simp [tG, List.getD_eq_getElem?_getD, List.getElem?_eq_getElem hi]
 ·rw [List.getElem?_eq_none (by simp; omega), List.getElem?_eq_none (by simp; omega)]
theorem Qt (d : Day) (k : Nat) (p : PV) (h : k < d.length) : zH (d.flatMap Enc.enc : List PV) k [p] = (d.flatMap Enc.enc : List PV).set k p := by
 have hl : k < (d.flatMap Enc.enc : List PV).length := by rw [yD]; exact h
 have := V4 (d.flatMap Enc.enc : List PV) k ((d.flatMap Enc.enc : List PV)[k]) p hl
 rwa [List.set_getElem_self] at this
def jY (A : zn) (i j q : Nat) : zn := (List.range A.length).map fun p => if i ≤ p ∧ p < q then sG A (i + j - p) else sG A p
theorem Xm (A : zn) (i j q : Nat) : (jY A i j q).length = A.length := by simp [jY]
theorem Zh0 (A : zn) (i j : Nat) : jY A i j i = A := by
 refine List.ext_getElem? fun p => ?_
 unfold jY
 by_cases h : p < A.length
 ·rw [List.getElem?_map, List.getElem?_range h, List.getElem?_eq_getElem h]
  simp only [Option.map_some]
  rw [if_neg (by omega)]
  simp [sG, List.getD_eq_getElem?_getD, List.getElem?_eq_getElem h]
 ·rw [List.getElem?_eq_none (by simp; omega), List.getElem?_eq_none (by omega)]
theorem Zh1 (A : zn) {i j q : Nat} (hi : i ≤ q) : (jY A i j q).set q (sG A (i + j - q)) = jY A i j (q + 1) := by
 refine List.ext_getElem? fun p => ?_
 unfold jY
 rw [List.getElem?_set]
 by_cases h : p < A.length
 ·rw [List.getElem?_map, List.getElem?_map, List.getElem?_range h]
  simp only [Option.map_some, List.length_map, List.length_range]
  by_cases e : q = p
  ·subst e
   rw [if_pos rfl, if_pos h, if_pos (by omega)]
  ·rw [if_neg e]
   by_cases h2 : i ≤ p ∧ p < q
   ·rw [if_pos h2, if_pos (by omega)]
   ·rw [if_neg h2, if_neg (by omega)]
 ·rw [List.getElem?_eq_none (l := List.map _ _) (by simp; omega), List.getElem?_eq_none (l := List.map _ _) (by simp; omega)]
  split
  ·simp; omega
  ·rfl
theorem Za9 (A : zn) {i j : Nat} (hij : i < j) (hj : j < A.length) : jY A i j (j + 1) = vr A i j := by
 have hA : ∀ p, p < A.length → A[p]? = some (sG A p) := fun p h => by rw [List.getElem?_eq_getElem h]; simp [sG, List.getD_eq_getElem?_getD, List.getElem?_eq_getElem h]
 have l1 : (A.take i).length = i := by simp; omega
 have l2 : ((A.drop i).take (j + 1 - i)).length = j + 1 - i := by simp; omega
 refine List.ext_getElem? fun p => ?_
 unfold vr
 by_cases h : p < A.length
 ·have e : (jY A i j (j + 1))[p]? = some (if i ≤ p ∧ p < j + 1 then sG A (i + j - p) else sG A p) := by
   unfold jY; rw [List.getElem?_map, List.getElem?_range h]; rfl
  rw [e]
  by_cases h1 : p < i
  ·rw [if_neg (by omega), List.append_assoc, List.getElem?_append_left (by omega), List.getElem?_take, if_pos h1, hA p h]
  ·by_cases h2 : p < j + 1
   ·rw [if_pos ⟨by omega, h2⟩, List.append_assoc, List.getElem?_append_right (by omega), l1, List.getElem?_append_left (by rw [List.length_reverse, l2]; omega), List.getElem?_reverse (by rw [l2]; omega), l2, List.getElem?_take, if_pos (by omega), List.getElem?_drop, show i + (j + 1 - i - 1 - (p - i)) = i + j - p by omega, hA _ (by omega)]
   ·rw [if_neg (by omega), List.getElem?_append_right (by rw [List.length_append, List.length_reverse, l1, l2]; omega), List.length_append, List.length_reverse, l1, l2, List.getElem?_drop, show j + 1 + (p - (i + (j + 1 - i))) = p by omega, hA p h]
 ·rw [List.getElem?_eq_none (by rw [Xm]; omega), List.getElem?_eq_none (by rw [List.length_append, List.length_append, List.length_reverse, l1, l2, List.length_drop]; omega)]
def obA (q a : Nat) (o : Ob) : Ob := if q ≤ a then .dead else o
theorem ZP {q a : Nat} (h : q ≤ a) (o : Ob) : obA q a o = .dead := if_pos h
theorem uU {q a : Nat} (h : ¬ q ≤ a) (o : Ob) : obA q a o = o := if_neg h
set_option maxRecDepth 20000 in
set_option maxHeartbeats 3200000 in
theorem Zba (d : Day) (m : Mv) (hdn : d.length ≤ 1000) (hdt : ∀ t ∈ d, t.length ≤ 1000) (hm : yv d m = true) : Pure Tryz.prog 139 [.agg [L d], .agg (mvL m)] (.agg [L (mkZ d m)]) := by
 obtain ⟨hk, ha, hb, r1, r2⟩ := wO hm
 rw [ZhT hm]
 have hlR : (vt d m).length = d.length := by unfold vt; (repeat' split) <;> simp
 have htR : ∀ t ∈ vt d m, t.length ≤ 5000 := by
  rw [Za5 hm]
  intro t ht
  have n1 := Qk (r := (zz d m).1) hdt
  have n2 := Qk (r := (zz d m).2) hdt
  rcases List.mem_or_eq_of_mem_set ht with ht | rfl
  ·rcases List.mem_or_eq_of_mem_set ht with ht | rfl
   ·have := hdt t ht; omega
   ·omega
  ·omega
 obtain ⟨T, hT⟩ : ∃ T, T = vt d m := ⟨_, rfl⟩
 rw [← hT] at hlR htR ⊢
 refine pwe Tryz.func139 Tryz.ntmps139 Tryz.results139 fun S nx hd => ?_
 repeat apply za
 refine pwn ?_
 intro v0 v1 v2
 (repeat apply za); refine pwn ?_; intros
 refine za (qm 5 46 1 rfl fun v3 => ?_)
 (repeat apply za); refine pwn ?_; intros
 refine ZhU (A := ∀ v3, PW Tryz.prog nor 0 174 ?tl ?Q2 (fr [(2, .ptr nx v0 0), (4, .ptr (nx + 2) v2 0), (5, .sl (nx + 3) v3 1 0 d.length)]) (ext S nx [.cells v0 66 [L d], .cells v1 160 (mvL m), .cells v2 66 [zJ], .cells v3 46 (T.flatMap Enc.enc)])) ?h2 ?h1
 case h2 =>
  intro htail
  obtain ⟨k, a, b, i, j⟩ := m
  simp only at hk ha hb
  obtain ⟨ta, xa, a1, -, -, a0⟩ := el1 rfl d a ha
  obtain ⟨tb, xb, b1, -, -, b0⟩ := el1 rfl d b hb
  have ha1 : 1 ≤ d.length - a := by omega
  have hb1 : 1 ≤ d.length - b := by omega
  have ga : tG d a = ta := by unfold tG; rw [List.getD_eq_getElem?_getD, a1]; rfl
  have gb : tG d b = tb := by unfold tG; rw [List.getD_eq_getElem?_getD, b1]; rfl
  have hal := hdt ta (List.mem_of_getElem? a1)
  have hbl := hdt tb (List.mem_of_getElem? b1)
  have hmz : qD ⟨k, a, b, i, j⟩ ta.length tb.length = true := by
   unfold yv at hm
   rw [Bool.and_eq_true] at hm
   rw [← ga, ← gb]; exact hm.2
  unfold qD at hmz
  unfold vt at hT
  simp only [ga, gb] at hmz hT
  by_cases hfz : k = 1 ∨ k = 3
  ·repeat apply za
   refine ze (zq (fun s' : Nat × Nat => s'.1 ≤ d.length) (fun (q, v3) => [(2, .ptr nx v0 0), (3, .ptr (nx + 1) v1 0), (4, .ptr (nx + 2) v2 0), (5, .sl (nx + 3) v3 1 0 q), (6, I q)]) (fun (q, v3) => [.cells v0 66 [L d], .cells v1 160 [I k, I a, I b, I i, I j], .cells v2 66 [zJ], .cells v3 46 ((d.take q).flatMap Enc.enc)]) (fun s' => d.length - s'.1) (0, v3) [] (by simp) (by simp) (by simp) ?_)
   rintro ⟨q, v3⟩ hq
   simp only at hq ⊢
   (repeat apply za); refine pwn ?_; intros
   repeat apply za
   refine zk rfl (fun hc => ?_) (fun hc => ?_)
   ·simp at hc
    obtain ⟨t, tl, c1, c2, c3, e0⟩ := el1 rfl d q hc
    have hq1 : 1 ≤ d.length - q := by omega
    have htl := hdt t (List.mem_of_getElem? c1)
    have hcp := Za3 t (by omega)
    have hof : ((d.take q).flatMap Enc.enc : List PV).length = q := by rw [yD, List.length_take]; omega
    have hot : ((d.take q).flatMap Enc.enc : List PV).take q = (d.take q).flatMap Enc.enc := List.take_of_length_le (by omega)
    have hon : ((d.take (q + 1)).flatMap Enc.enc : List PV) = (d.take q).flatMap Enc.enc ++ [L t] := by rw [c3, List.flatMap_append]; rfl
    generalize ((d.take q).flatMap Enc.enc : List PV) = cs at *
    refine zb (za (ze ?_))
    repeat apply za
    refine pwN [] (jn5 e0 hc hq1 hof hot) ?_
    refine pwC [] hcp (jn5 e0 hc hq1 hof hot) ?_
    refine ⟨by omega, ?_⟩
    intros
    (repeat apply za); refine pwn ?_; intros
    exact zh (q + 1, v3 + 1) [] hc (by simp; omega) (by simp [wrN q (by omega)]) rfl (by simp [hon])
   ·simp at hc
    obtain rfl : q = d.length := by omega
    refine zo ?_
    rw [List.take_length]
    clear hc hq
    repeat apply za
    refine pwN [] (jn3 a0 ha ha1) ?_
    intros
    repeat apply za
    refine pwN [] (jn3 b0 hb hb1) ?_
    intros
    (repeat apply za); refine pwn ?_; intros
    repeat apply za
    refine ze ?_
    rcases hfz with rfl | rfl
    ·rw [if_neg (by decide), if_pos rfl] at hmz hT
     have hz := of_decide_eq_true hmz
     obtain ⟨s, tl, s1, s2, s3, e1, e0⟩ := el 2 rfl ta i hz.1
     have hsG : sG ta i = s := by unfold sG; rw [List.getD_eq_getElem?_getD, s1]; rfl
     have hcut := ZhP ta i hz.1 (by omega)
     have hEl : (ta.take i ++ ta.drop (i + 1)).length = ta.length - 1 := by simp; omega
     rw [hsG] at hT
     generalize ta.take i ++ ta.drop (i + 1) = E at *
     have hdl : (d.set a E).length = d.length := by simp
     obtain ⟨t2, tl2, d1, -, -, d0⟩ := el1 rfl (d.set a E) b (by rw [hdl]; exact hb)
     have g2 : tG (d.set a E) b = t2 := by unfold tG; rw [List.getD_eq_getElem?_getD, d1]; rfl
     have hj2 : j ≤ t2.length ∧ t2.length ≤ 1000 := by
      by_cases hab : a = b
      ·subst hab
       rw [List.getElem?_set_self ha] at d1
       cases d1
       have e := a1.symm.trans b1
       cases e
       have := hz.2
       rw [if_pos rfl] at this
       omega
      ·rw [List.getElem?_set_ne hab, b1] at d1
       cases d1
       have := hz.2
       rw [if_neg hab] at this
       omega
     have hput := ZhQ t2 j s hj2.1 (by omega)
     rw [g2] at hT
     have hsp1 : zH (d.flatMap Enc.enc : List PV) a [L E] = (d.set a E).flatMap Enc.enc := by rw [Qt d a _ ha, wy]
     have hsp2 : zH ((d.set a E).flatMap Enc.enc : List PV) b [L (t2.take j ++ s :: t2.drop j)] = T.flatMap Enc.enc := by rw [Qt _ b _ (by rw [hdl]; exact hb), wy, hT]
     (repeat apply za); refine pwn ?_; intros
     repeat apply za
     refine zi rfl ?_
     (repeat apply za); refine pwn ?_; intros
     repeat apply za
     refine zj rfl ?_
     repeat apply za
     refine pwN [] (jn3 e1 e0 hz.1) ?_
     intro v4
     repeat apply za
     refine pwY (some [nx + 1]) (Row.pures [0, 1, 2, 3, 4, 5, 6, 7] (.alt 8 (.done) .stop)) mixed ha ?_
     refine pwP (hcut) ha ?_
     refine ⟨by omega, ?_⟩
     intros
     show PW _ _ _ _ _ _ _ (ext _ _ _)
     rw [hsp1]
     repeat apply za
     refine pwY (some [nx + 1, nx + 4]) (Row.pures [0, 1, 2, 3, 4, 5, 6, 8, 9, 10] (.alt 7 (Row.pures [11, 12] (.alt 13 (.done) .stop)) .stop)) mixed (jn4 d0 hb hb1 hdl) ?_
     refine pwP (hput) (jn4 d0 hb hb1 hdl) ?_
     refine ⟨by omega, ?_⟩
     intros
     rw [hsp2]
     simp only [yK]
     refine vJ _ ?_ (htail v3)
     simp
    ·rw [if_neg (by decide), if_neg (by decide), if_neg (by decide)] at hmz hT
     have hz := of_decide_eq_true hmz
     obtain ⟨z1, z2, z3⟩ := hz
     have A1 : (ta.take i).length = i := by simp; omega
     have A2 : (ta.drop i).length = ta.length - i := by simp
     have B1 : (tb.take j).length = j := by simp; omega
     have B2 : (tb.drop j).length = tb.length - j := by simp
     have hcA := ud (ta.take i) (by omega)
     have hcB := ud (tb.take j) (by omega)
     rw [xB _ A1, A1] at hcA
     rw [xB _ B1, B1] at hcB
     have a3 : (ta.flatMap Enc.enc : List PV).take (i * 2) = (ta.take i).flatMap Enc.enc := jM Enc.enc 2 (fun _ => rfl) ta i
     have a4 : (ta.flatMap Enc.enc : List PV).drop (i * 2) = (ta.drop i).flatMap Enc.enc := j6 Enc.enc 2 (fun _ => rfl) ta i
     have b3 : (tb.flatMap Enc.enc : List PV).take (j * 2) = (tb.take j).flatMap Enc.enc := jM Enc.enc 2 (fun _ => rfl) tb j
     have b4 : (tb.flatMap Enc.enc : List PV).drop (j * 2) = (tb.drop j).flatMap Enc.enc := j6 Enc.enc 2 (fun _ => rfl) tb j
     have a5 : ((ta.take i).flatMap Enc.enc : List PV).length = i * 2 := by rw [yq, A1]
     have a6 : ((ta.take i).flatMap Enc.enc : List PV).take (i * 2) = (ta.take i).flatMap Enc.enc := List.take_of_length_le (by omega)
     have a7 : ((ta.drop i).flatMap Enc.enc : List PV).length = (ta.length - i) * 2 := by rw [yq, A2]
     have a8 : ((ta.drop i).flatMap Enc.enc : List PV).take ((ta.length - i) * 2) = (ta.drop i).flatMap Enc.enc := List.take_of_length_le (by omega)
     have b5 : ((tb.take j).flatMap Enc.enc : List PV).length = j * 2 := by rw [yq, B1]
     have b6 : ((tb.take j).flatMap Enc.enc : List PV).take (j * 2) = (tb.take j).flatMap Enc.enc := List.take_of_length_le (by omega)
     have b7 : ((tb.drop j).flatMap Enc.enc : List PV).length = (tb.length - j) * 2 := by rw [yq, B2]
     have b8 : ((tb.drop j).flatMap Enc.enc : List PV).take ((tb.length - j) * 2) = (tb.drop j).flatMap Enc.enc := List.take_of_length_le (by omega)
     have hX : (L (ta.take i ++ tb.drop j) : PV) = .lst (i + (tb.length - j)) ((ta.take i).flatMap Enc.enc ++ (tb.drop j).flatMap Enc.enc) := by
      rw [xB _ (k := i + (tb.length - j)) (by rw [List.length_append, A1, B2]), List.flatMap_append]
     have hY : (L (tb.take j ++ ta.drop i) : PV) = .lst (j + (ta.length - i)) ((tb.take j).flatMap Enc.enc ++ (ta.drop i).flatMap Enc.enc) := by
      rw [xB _ (k := j + (ta.length - i)) (by rw [List.length_append, B1, A2]), List.flatMap_append]
     generalize ta.take i ++ tb.drop j = X at *
     generalize tb.take j ++ ta.drop i = Y at *
     generalize ((ta.take i).flatMap Enc.enc : List PV) = ca at *
     generalize ((ta.drop i).flatMap Enc.enc : List PV) = cb at *
     generalize ((tb.take j).flatMap Enc.enc : List PV) = da at *
     generalize ((tb.drop j).flatMap Enc.enc : List PV) = db at *
     (repeat apply za); refine pwn ?_; intros
     repeat apply za
     refine zi rfl ?_
     (repeat apply za); refine pwn ?_; intros
     repeat apply za
     refine zi rfl ?_
     (repeat apply za); refine pwn ?_; intros
     repeat apply za
     refine zi rfl ?_
     (repeat apply za); refine pwn ?_; intros
     repeat apply za
     refine zj rfl ?_
     repeat apply za
     refine xH (some [nx + 1]) (Row.pures [0, 1, 2, 3, 4, 5, 6, 8, 9, 10, 11] (.alt 7 (.alt 12 (Row.pures [13] (.alt 14 (.done) .stop)) .stop) .stop)) mixed (by rfl) (by rfl) (by rfl) fun K Gp Gc Gh hK hGp hGc hGh X hX0 hX1 hX2 hX => ?_
     simp -implicitDefEqProofs [hX0, hX1, hX2, hX, ha, a3, b4, a5, a6, b7, b8, z2, z3]
     try clear hX0 hX1 hX2 hX X
     refine hGc _ _ _ _ _ _ _ ?_
     refine ((hcA _ _ qi).mono ?_).v
     rintro _ _ ⟨v4, rfl, rfl⟩
     rw [ve 0]
     refine ⟨by simp [zV], ?_⟩
     clear hGp hGc hGh
     clear Gp Gc Gh
     refine qQ fun Gp Gc Gh hGp hGc hGh X hX0 hX1 hX2 hX => ?_
     simp -implicitDefEqProofs [hX0, hX1, hX2, hX, ha, a3, b4, a5, a6, b7, b8, z2, z3]
     try clear hX0 hX1 hX2 hX X
     refine ⟨by omega, ?_⟩
     refine ⟨by omega, ?_⟩
     refine hK _ _ _ ?_
     clear hK hGp hGc hGh
     clear K Gp Gc Gh
     show PW _ _ _ _ _ _ _ (ext _ _ _)
     rw [Qt d a _ ha]
     have e4 : zI (nx + 4) (v4 + 1) (ca ++ db) (.sl (nx + 4) (v4 + 1) 2 0 (i + (tb.length - j))) = L X := by
      rw [vl _ _ _ _ _ (by rw [List.length_append, a5, b7, Nat.add_mul]), hX]
     have n4 : zI (nx + 4) (v4 + 1) (ca ++ db) (.sl (nx + 3) v3 1 0 d.length) = .sl (nx + 3) v3 1 0 d.length := by
      simp only [zI]; rw [if_neg (by omega)]
     refine uf [(2, .ptr nx v0 0), (3, .ptr (nx + 1) v1 0), (4, .ptr (nx + 2) v2 0), (5, .sl (nx + 3) v3 1 0 d.length), (7, L ta), (8, L tb)] ?_ ?_
     ·simp
     refine zC 4 rfl ?_
     simp only [List.map_cons, List.map_nil, List.set_cons_succ, List.set_cons_zero, yW, ZE, e4, wy]
     refine uf [(2, .ptr nx v0 0), (3, .ptr (nx + 1) v1 0), (4, .ptr (nx + 2) v2 0), (5, .sl (nx + 3) v3 1 0 d.length), (7, L ta), (8, L tb)] ?_ ?_
     ·simp [n4]
     clear e4 n4
     repeat apply za
     refine xH (some [nx + 1]) (Row.pures [0, 1, 2, 3, 4, 5, 6, 8, 9, 10, 11] (.alt 7 (.alt 12 (Row.pures [13] (.alt 14 (.done) .stop)) .stop) .stop)) mixed (by rfl) (by rfl) (by rfl) fun K Gp Gc Gh hK hGp hGc hGh X hX0 hX1 hX2 hX => ?_
     simp -implicitDefEqProofs [hX0, hX1, hX2, hX, hb, b3, a4, b5, b6, a7, a8, z2, z3]
     try clear hX0 hX1 hX2 hX X
     refine hGc _ _ _ _ _ _ _ ?_
     refine ((hcB _ _ qi).mono ?_).v
     rintro _ _ ⟨v5, rfl, rfl⟩
     rw [ve 0]
     refine ⟨by simp [zV], ?_⟩
     clear hGp hGc hGh
     clear Gp Gc Gh
     refine qQ fun Gp Gc Gh hGp hGc hGh X hX0 hX1 hX2 hX => ?_
     simp -implicitDefEqProofs [hX0, hX1, hX2, hX, hb, b3, a4, b5, b6, a7, a8, z2, z3]
     try clear hX0 hX1 hX2 hX X
     refine ⟨by omega, ?_⟩
     refine ⟨by omega, ?_⟩
     refine hK _ _ _ ?_
     clear hK hGp hGc hGh
     clear K Gp Gc Gh
     rw [Qt (d.set a X) b _ (by rw [List.length_set]; exact hb)]
     simp only [yK]
     show PW _ _ _ _ _ _ _ (ext _ _ _)
     have e5 : zI (nx + 5) (v5 + 1) (da ++ cb) (.sl (nx + 5) (v5 + 1) 2 0 (j + (ta.length - i))) = L Y := by
      rw [vl _ _ _ _ _ (by rw [List.length_append, b5, a7, Nat.add_mul]), hY]
     have n5 : zI (nx + 5) (v5 + 1) (da ++ cb) (.sl (nx + 3) v3 1 0 d.length) = .sl (nx + 3) v3 1 0 d.length := by
      simp only [zI]; rw [if_neg (by omega)]
     refine uf [(2, .ptr nx v0 0), (4, .ptr (nx + 2) v2 0), (5, .sl (nx + 3) v3 1 0 d.length)] ?_ ?_
     ·simp
     refine zC 5 rfl ?_
     simp only [List.map_cons, List.map_nil, List.set_cons_succ, List.set_cons_zero, yW, ZE, e5, wy]
     rw [← hT]
     refine vJ _ ?_ (htail v3)
     simp [n5]
  ·have hk02 : k = 0 ∨ k = 2 := by omega
   have hab : a ≤ b := by
    rcases hk02 with rfl | rfl
    ·rw [if_pos rfl] at hmz
     have hz := of_decide_eq_true hmz
     omega
    ·rw [if_neg (by decide), if_neg (by decide), if_pos rfl] at hmz
     have hz := of_decide_eq_true hmz
     omega
   obtain ⟨b', hb'⟩ : ∃ b', b' = if a = b then d.length else b := ⟨_, rfl⟩
   have hbb : a < b' ∧ b' ≤ d.length ∧ (b' < d.length → b' = b) := by
    rw [hb']
    split
    ·exact ⟨ha, Nat.le_refl _, fun q => absurd q (Nat.lt_irrefl _)⟩
    ·exact ⟨by omega, by omega, fun _ => rfl⟩
   show PW _ _ _ _ _ _ _ (ext _ _ _)
   rw [YA 2]
   repeat apply za
   refine ze (zq (fun s' : Nat × Nat × Nat × Nat => s'.1 ≤ d.length) (fun (q, v3, va, vb) => [(2, .ptr nx v0 0), (3, .ptr (nx + 1) v1 0), (4, .ptr (nx + 2) v2 0), (5, .sl (nx + 3) v3 1 0 q), (6, I q)]) (fun (q, v3, va, vb) => [.cells v0 66 [L d], .cells v1 160 [I k, I a, I b, I i, I j], .cells v2 66 [zJ], .cells v3 46 (qI d a b' (.sl (nx + 4) va 2 0 ta.length) (.sl (nx + 5) vb 2 0 tb.length) q), obA q a (.cells va 50 (ta.flatMap Enc.enc)), obA q b' (.cells vb 50 (tb.flatMap Enc.enc))]) (fun s' => d.length - s'.1) (0, v3, 0, 0) [] (by simp) (by simp) (by simp [qI, obA]) ?_)
   rintro ⟨q, v3, va, vb⟩ hq
   simp only at hq ⊢
   have hcl := Za7 d a b' (.sl (nx + 4) va 2 0 ta.length) (.sl (nx + 5) vb 2 0 tb.length) q
   have hpa := fun va' => ZhW d (a := a) (b := b') (k := q) (.sl (nx + 4) va 2 0 ta.length) (.sl (nx + 4) va' 2 0 ta.length) (.sl (nx + 5) vb 2 0 tb.length)
   have hpb := fun vb' => ZhX d (a := a) (b := b') (k := q) (.sl (nx + 4) va 2 0 ta.length) (.sl (nx + 5) vb 2 0 tb.length) (.sl (nx + 5) vb' 2 0 tb.length)
   have hsn := fun va vb => ZhV d a b' (.sl (nx + 4) va 2 0 ta.length) (.sl (nx + 5) vb 2 0 tb.length) q
   obtain ⟨cs, hcs⟩ : ∃ c, c = qI d a b' (.sl (nx + 4) va 2 0 ta.length) (.sl (nx + 5) vb 2 0 tb.length) q := ⟨_, rfl⟩
   obtain ⟨oa, hoa⟩ : ∃ o, o = obA q a (.cells va 50 (ta.flatMap Enc.enc)) := ⟨_, rfl⟩
   obtain ⟨ob, hob⟩ : ∃ o, o = obA q b' (.cells vb 50 (tb.flatMap Enc.enc)) := ⟨_, rfl⟩
   rw [← hcs] at hcl
   rw [← hcs, ← hoa, ← hob]
   have hct : cs.take q = cs := List.take_of_length_le (by omega)
   (repeat apply za); refine pwn ?_; intros
   repeat apply za
   refine zk rfl (fun hc => ?_) (fun hc => ?_)
   ·simp at hc
    obtain ⟨t, tl, c1, c2, c3, e0⟩ := el1 rfl d q hc
    have hq1 : 1 ≤ d.length - q := by omega
    have htl := hdt t (List.mem_of_getElem? c1)
    have gq : tG d q = t := by unfold tG; rw [List.getD_eq_getElem?_getD, c1]; rfl
    refine zb (za (ze ?_))
    by_cases hqa : q = a
    ·obtain rfl : ta = t := by rw [← ga, ← hqa, gq]
     rw [ZP (by omega)] at hoa hob
     subst hoa hob
     refine Wd [_, _, _, _] [_, _] rfl ?_
     repeat apply za
     refine zM [] (by rfl) (by rfl) fun K Gc Gh hK hGc hGh X hX0 hX => ?_
     simp -implicitDefEqProofs [hX0, hX, e0, hc, hq1, hcl, hct]
     try clear hX0 hX X
     refine hGc _ _ _ _ _ _ _ fun hsuf => ((ud ta (by omega) _ _ qi).mono ?_).v
     rintro _ _ ⟨va', rfl, rfl⟩
     refine ⟨_, _, ve 0 _, ?_⟩
     clear hGc hGh
     clear Gc Gh
     refine zK hsuf (D := []) (by rfl) fun Gc Gh hGc hGh X hX0 hX => ?_
     simp -implicitDefEqProofs [hX0, hX, e0, hc, hq1, hcl, hct]
     clear hX0 hX X
     refine ⟨by omega, ?_⟩
     intros
     refine hK _ _ _ ?_
     clear hK hGc hGh
     clear K Gc Gh
     show PW _ _ _ _ _ _ _ (ext _ _ _)
     rw [YA 1]
     (repeat apply za); refine pwn ?_; intros
     have hs2 := hsn va' vb
     rw [if_pos hqa, ← hpa va' (by omega), ← hcs] at hs2
     exact zh (q + 1, v3 + 1, va', vb) [] hc (by simp; omega) (by simp [wrN q (by omega)]) rfl (by simp [hs2, uU (show ¬ q + 1 ≤ a by omega), ZP (show q + 1 ≤ b' by omega)])
    by_cases hqb : q = b'
    ·obtain rfl : tb = t := by rw [← gb, ← hbb.2.2 (by omega), ← hqb, gq]
     rw [uU (by omega)] at hoa
     rw [ZP (by omega)] at hob
     subst hoa hob
     refine Wd [_, _, _, _, _] [_] rfl ?_
     repeat apply za
     refine zM [] (by rfl) (by rfl) fun K Gc Gh hK hGc hGh X hX0 hX => ?_
     simp -implicitDefEqProofs [hX0, hX, e0, hc, hq1, hcl, hct]
     try clear hX0 hX X
     refine hGc _ _ _ _ _ _ _ fun hsuf => ((ud tb (by omega) _ _ qi).mono ?_).v
     rintro _ _ ⟨vb', rfl, rfl⟩
     refine ⟨_, _, ve 0 _, ?_⟩
     clear hGc hGh
     clear Gc Gh
     refine zK hsuf (D := []) (by rfl) fun Gc Gh hGc hGh X hX0 hX => ?_
     simp -implicitDefEqProofs [hX0, hX, e0, hc, hq1, hcl, hct]
     clear hX0 hX X
     refine ⟨by omega, ?_⟩
     intros
     refine hK _ _ _ ?_
     clear hK hGc hGh
     clear K Gc Gh
     (repeat apply za); refine pwn ?_; intros
     have hs2 := hsn va vb'
     rw [if_neg hqa, if_pos hqb, ← hpb vb' (by omega), ← hcs] at hs2
     exact zh (q + 1, v3 + 1, va, vb') [] hc (by simp; omega) (by simp [wrN q (by omega)]) rfl (by simp [hs2, uU (show ¬ q + 1 ≤ a by omega), uU (show ¬ q + 1 ≤ b' by omega)])
    ·have hcp := Za3 t (by omega)
     have hs2 := hsn va vb
     rw [if_neg hqa, if_neg hqb, gq, ← hcs] at hs2
     have o1 : obA (q + 1) a (.cells va 50 (ta.flatMap Enc.enc)) = oa := by
      rw [hoa]; unfold obA
      by_cases h : q ≤ a
      ·rw [if_pos h, if_pos (by omega)]
      ·rw [if_neg h, if_neg (by omega)]
     have o2 : obA (q + 1) b' (.cells vb 50 (tb.flatMap Enc.enc)) = ob := by
      rw [hob]; unfold obA
      by_cases h : q ≤ b'
      ·rw [if_pos h, if_pos (by omega)]
      ·rw [if_neg h, if_neg (by omega)]
     repeat apply za
     refine pwN [] (jn5 e0 hc hq1 hcl hct) ?_
     refine pwC [] hcp (jn5 e0 hc hq1 hcl hct) ?_
     refine ⟨by omega, ?_⟩
     intros
     (repeat apply za); refine pwn ?_; intros
     exact zh (q + 1, v3 + 1, va, vb) [] hc (by simp; omega) (by simp [wrN q (by omega)]) rfl (by simp [hs2, o1, o2])
   ·simp at hc
    obtain rfl : q = d.length := by omega
    refine zo ?_
    rw [uU (by omega)] at hoa
    subst hoa
    obtain ⟨tla, hda⟩ := Za8 d a b' (.sl (nx + 4) va 2 0 ta.length) (.sl (nx + 5) vb 2 0 tb.length) ha
    rw [if_pos rfl, ← hcs] at hda
    obtain ⟨tlb, hdb⟩ := Za8 d a b' (.sl (nx + 4) va 2 0 ta.length) (.sl (nx + 5) vb 2 0 tb.length) hb
    rw [← hcs] at hdb
    rw [ZhZ] at hcs
    clear hpa hpb hsn hc hq hct
    rcases hk02 with rfl | rfl
    ·rw [if_pos rfl] at hmz hT
     have hz := of_decide_eq_true hmz
     obtain ⟨z1, z2, z3⟩ := hz
     subst z1
     rw [if_pos rfl] at hb'
     rw [hb', List.set_eq_of_length_le (l := (d.flatMap Enc.enc : List PV)) (by rw [yD]; exact Nat.le_refl _)] at hcs
     repeat apply za
     refine pwN [] (jn4 hda ha ha1 hcl) ?_
     intros
     repeat apply za
     refine pwN [] (jn4 hda ha ha1 hcl) ?_
     intros
     (repeat apply za); refine pwn ?_; intros
     repeat apply za
     refine ze ?_
     (repeat apply za); refine pwn ?_; intros
     repeat apply za
     refine zj rfl ?_
     (repeat apply za); refine pwn ?_; intros
     rw [ZP (by omega)] at hob
     subst hob
     repeat apply za
     refine ze (zq (fun q : Nat => i ≤ q ∧ q ≤ j + 1) (fun q => [(2, .ptr nx v0 0), (3, .ptr (nx + 1) v1 0), (4, .ptr (nx + 2) v2 0), (5, .sl (nx + 3) v3 1 0 d.length), (7, .sl (nx + 4) va 2 0 ta.length), (9, I q)]) (fun q => [.cells v0 66 [L d], .cells v1 160 [I 0, I b, I b, I i, I j], .cells v2 66 [zJ], .cells v3 46 cs, .cells va 50 ((jY ta i j q).flatMap Enc.enc)]) (fun q => j + 1 - q) i [.dead] (by simp; omega) (by simp) (by simp [Zh0]) ?_)
     rintro q ⟨hq1, hq2⟩
     (repeat apply za); refine pwn ?_; intros
     repeat apply za
     refine zk rfl (fun hcq => ?_) (fun hcq => ?_)
     ·simp at hcq
      obtain ⟨s, tl, s1, s2, s3, e1, e0⟩ := el 2 rfl ta (i + j - q) (by omega)
      have hs : sG ta (i + j - q) = s := by unfold sG; rw [List.getD_eq_getElem?_getD, s1]; rfl
      have hst := Zh1 ta (i := i) (j := j) (q := q) hq1
      rw [hs] at hst
      have hkl := Xm ta i j q
      have hsp := uK (jY ta i j q) q s (by omega)
      rw [hst] at hsp
      have hkf : ((jY ta i j q).flatMap Enc.enc : List PV).length = ta.length * 2 := by rw [yq, hkl]
      generalize (jY ta i j q).flatMap Enc.enc = ck at *
      have w1 : IntKind.i64.wrap ((i : Int) + j) = ((i + j : Nat) : Int) := by rw [wr _ (by omega) (by omega)]; omega
      have w2 : IntKind.i64.wrap (((i + j : Nat) : Int) - q) = ((i + j - q : Nat) : Int) := by rw [wr _ (by omega) (by omega)]; omega
      have w3 : IntKind.i64.wrap ((i : Int) + j - q) = ((i + j - q : Nat) : Int) := by rw [wr _ (by omega) (by omega)]; omega
      have z4 : i + j - q < ta.length := by omega
      have z5 : 2 ≤ ta.length * 2 - (i + j - q) * 2 := by omega
      have z6 : q < ta.length := by omega
      refine zb (za (ze ?_))
      repeat apply za
      refine pwY (some [nx, nx + 1]) (Row.pures [0, 1, 2, 3, 4, 5, 6, 7, 8, 9, 10, 11, 12, 13, 14, 15, 16, 17, 18] (.alt 19 (.done) .stop)) mixed (jn6 a0 ha ha1 w1 w2 (jn2 (jn6 w3 e1 e0 z4 z5 z6) hkf)) ?_
      refine ⟨by omega, ?_⟩
      intros
      (repeat apply za); refine pwn ?_; intros
      exact zh (q + 1) [] (by simp; omega) (by simp; omega) (by simp [wrN q (by omega)]) rfl (by simp [hsp])
     ·simp at hcq
      obtain rfl : q = j + 1 := by omega
      rw [Za9 ta z2 z3]
      have htl : (vr ta i j).length = ta.length := by rw [← Za9 ta z2 z3, Xm]
      refine zo ?_
      show PW _ _ _ _ _ _ _ (ext _ _ _)
      have e4 : zI (nx + 4) va ((vr ta i j).flatMap Enc.enc) (.sl (nx + 4) va 2 0 ta.length) = L (vr ta i j) := by
       rw [vl _ _ _ _ _ (by rw [yq, htl]), xB _ htl]
      have n4 : zI (nx + 4) va ((vr ta i j).flatMap Enc.enc) (.sl (nx + 3) v3 1 0 d.length) = .sl (nx + 3) v3 1 0 d.length := by
       simp only [zI]; rw [if_neg (by omega)]
      refine uf [(2, .ptr nx v0 0), (4, .ptr (nx + 2) v2 0), (5, .sl (nx + 3) v3 1 0 d.length)] ?_ ?_
      ·simp
      refine zC 4 rfl ?_
      rw [hcs]
      simp only [List.map_cons, List.map_nil, List.set_cons_succ, List.set_cons_zero, yW, ZE, e4, wy]
      rw [← hT]
      refine vJ _ ?_ (htail v3)
      simp [n4]
    ·rw [if_neg (by decide), if_neg (by decide), if_pos rfl] at hmz hT
     have hz := of_decide_eq_true hmz
     obtain ⟨z0, z1, z2⟩ := hz
     obtain ⟨si, tli, s1, -, -, e1, e0⟩ := el 2 rfl ta i z1
     obtain ⟨sj, tlj, u1, -, -, f1, f0⟩ := el 2 rfl tb j z2
     have hsi : sG ta i = si := by unfold sG; rw [List.getD_eq_getElem?_getD, s1]; rfl
     have hsj : sG tb j = sj := by unfold sG; rw [List.getD_eq_getElem?_getD, u1]; rfl
     rw [hsi, hsj] at hT
     have z3 : 2 ≤ ta.length * 2 - i * 2 := by omega
     have z4 : 2 ≤ tb.length * 2 - j * 2 := by omega
     have hsp1 := uK ta i sj z1
     by_cases hab2 : a = b
     ·subst hab2
      obtain rfl : ta = tb := ga.symm.trans gb
      rw [if_pos rfl] at hb'
      rw [hb', List.set_eq_of_length_le (l := (d.flatMap Enc.enc : List PV)) (by rw [yD]; exact Nat.le_refl _)] at hcs
      rw [ZP (by omega)] at hob
      subst hob
      have g2 : tG (d.set a (ta.set i sj)) a = ta.set i sj := by unfold tG; rw [List.getD_eq_getElem?_getD, List.getElem?_set_self ha]; rfl
      rw [g2, List.set_set] at hT
      have hsp2 := uK (ta.set i sj) j si (by rw [List.length_set]; exact z2)
      have hl2 : ((ta.set i sj).set j si).length = ta.length := by simp
      have hf2 : ((ta.set i sj).flatMap Enc.enc : List PV).length = ta.length * 2 := by rw [yq, List.length_set]
      repeat apply za
      refine pwN [] (jn4 hda ha ha1 hcl) ?_
      intros
      repeat apply za
      refine pwN [] (jn4 hda ha ha1 hcl) ?_
      intros
      (repeat apply za); refine pwn ?_; intros
      repeat apply za
      refine ze ?_
      (repeat apply za); refine pwn ?_; intros
      repeat apply za
      refine zi rfl ?_
      (repeat apply za); refine pwn ?_; intros
      repeat apply za
      refine zi rfl ?_
      (repeat apply za); refine pwn ?_; intros
      repeat apply za
      refine zj rfl ?_
      repeat apply za
      refine pwN [] (jn4 e1 e0 z1 z3) ?_
      intro v4
      repeat apply za
      refine pwY (some [nx + 1]) (Row.pures [0, 1, 2, 3, 4, 5, 6] (.alt 7 (Row.pures [8] (.alt 9 (.done) .stop)) .stop)) mixed (jn5 f1 f0 z1 z2 z4) ?_
      refine ⟨by omega, ?_⟩
      intros
      show PW _ _ _ _ _ _ _ (ext _ _ _)
      rw [hsp1]
      repeat apply za
      refine pwN [] (jn2 hf2 z2) ?_
      refine ⟨by omega, ?_⟩
      intros
      rw [hsp2]
      simp only [yK]
      show PW _ _ _ _ _ _ _ (ext _ _ _)
      generalize (ta.set i sj).set j si = X at *
      have e4 : zI (nx + 4) va (X.flatMap Enc.enc) (.sl (nx + 4) va 2 0 ta.length) = L X := by
       rw [vl _ _ _ _ _ (by rw [yq, hl2]), xB _ hl2]
      have n4 : zI (nx + 4) va (X.flatMap Enc.enc) (.sl (nx + 3) v3 1 0 d.length) = .sl (nx + 3) v3 1 0 d.length := by
       simp only [zI]; rw [if_neg (by omega)]
      refine uf [(2, .ptr nx v0 0), (4, .ptr (nx + 2) v2 0), (5, .sl (nx + 3) v3 1 0 d.length)] ?_ ?_
      ·simp
      refine zC 4 rfl ?_
      rw [hcs]
      simp only [List.map_cons, List.map_nil, List.set_cons_succ, List.set_cons_zero, yW, ZE, e4, wy]
      rw [← hT]
      refine vJ _ ?_ (htail v3)
      simp [n4]
     ·rw [if_neg hab2] at hb'
      rw [if_neg (fun e => hab2 e.symm), if_pos hb'.symm] at hdb
      rw [uU (by omega)] at hob
      subst hob
      have g2 : tG (d.set a (ta.set i sj)) b = tb := by unfold tG; rw [List.getD_eq_getElem?_getD, List.getElem?_set_ne hab2, b1]; rfl
      rw [g2, List.set_comm _ _ hab2] at hT
      have hsp2 := uK tb j si z2
      have hlX : (ta.set i sj).length = ta.length := by simp
      have hlY : (tb.set j si).length = tb.length := by simp
      repeat apply za
      refine pwN [] (jn4 hda ha ha1 hcl) ?_
      intros
      repeat apply za
      refine pwN [] (jn4 hdb hb hb1 hcl) ?_
      intros
      (repeat apply za); refine pwn ?_; intros
      repeat apply za
      refine ze ?_
      (repeat apply za); refine pwn ?_; intros
      repeat apply za
      refine zi rfl ?_
      (repeat apply za); refine pwn ?_; intros
      repeat apply za
      refine zi rfl ?_
      (repeat apply za); refine pwn ?_; intros
      repeat apply za
      refine zj rfl ?_
      repeat apply za
      refine pwN [] (jn4 e1 e0 z1 z3) ?_
      intro v4
      repeat apply za
      refine pwY (some [nx + 1, nx + 5]) (Row.pures [0, 1, 2, 3, 4, 5, 6, 7, 8] (.alt 9 (.done) .stop)) mixed (jn5 f1 f0 z1 z2 z4) ?_
      refine ⟨by omega, ?_⟩
      intros
      show PW _ _ _ _ _ _ _ (ext _ _ _)
      rw [hsp1]
      repeat apply za
      refine pwN [] z2 ?_
      refine ⟨by omega, ?_⟩
      intros
      rw [hsp2]
      simp only [yK]
      show PW _ _ _ _ _ _ _ (ext _ _ _)
      generalize ta.set i sj = X at *
      generalize tb.set j si = Y at *
      have e4 : zI (nx + 4) va (X.flatMap Enc.enc) (.sl (nx + 4) va 2 0 ta.length) = L X := by
       rw [vl _ _ _ _ _ (by rw [yq, hlX]), xB _ hlX]
      have m4 : zI (nx + 4) va (X.flatMap Enc.enc) (.sl (nx + 5) vb 2 0 tb.length) = .sl (nx + 5) vb 2 0 tb.length := by
       simp only [zI]; rw [if_neg (by omega)]
      have n4 : zI (nx + 4) va (X.flatMap Enc.enc) (.sl (nx + 3) v3 1 0 d.length) = .sl (nx + 3) v3 1 0 d.length := by
       simp only [zI]; rw [if_neg (by omega)]
      have e5 : zI (nx + 5) vb (Y.flatMap Enc.enc) (.sl (nx + 5) vb 2 0 tb.length) = L Y := by
       rw [vl _ _ _ _ _ (by rw [yq, hlY]), xB _ hlY]
      have n5 : zI (nx + 5) vb (Y.flatMap Enc.enc) (.sl (nx + 3) v3 1 0 d.length) = .sl (nx + 3) v3 1 0 d.length := by
       simp only [zI]; rw [if_neg (by omega)]
      refine uf [(2, .ptr nx v0 0), (4, .ptr (nx + 2) v2 0), (5, .sl (nx + 3) v3 1 0 d.length)] ?_ ?_
      ·simp
      refine zC 4 rfl ?_
      rw [hcs]
      simp only [List.map_cons, List.map_nil, List.set_cons_succ, List.set_cons_zero, yW, List.map_set, Qa, Q1, e4, m4]
      refine uf [(2, .ptr nx v0 0), (4, .ptr (nx + 2) v2 0), (5, .sl (nx + 3) v3 1 0 d.length)] ?_ ?_
      ·simp [n4]
      refine zC 5 rfl ?_
      simp only [List.map_cons, List.map_nil, List.set_cons_succ, List.set_cons_zero, yW, List.map_set, Qa, Q1, e5]
      have eL : zI (nx + 5) vb (Y.flatMap Enc.enc) (L X) = L X := rfl
      rw [eL, hb', wy, wy, ← hT]
      refine vJ _ ?_ (htail v3)
      simp [n5]
 case h1 =>
  intro v3
  clear hT hm r1 r2 ha hb hk hdt
  repeat apply za
  refine pwn ?_
  intro v4
  refine yN 4 0 72 1 rfl rfl fun v5 => ?_
  (repeat apply za); refine pwn ?_; intros
  repeat apply za
  refine ze (zq (fun s' : Nat × Nat => s'.1 ≤ d.length) (fun (q, v5) => [(4, .ptr (nx + 2) v2 0), (5, .sl (nx + 3) v3 1 0 d.length), (12, .ptr (nx + 4) v4 0), (13, I q)]) (fun (q, v5) => [.cells v0 66 [L d], .cells v1 160 (mvL m), .cells v2 66 [zJ], .cells v3 46 (T.flatMap Enc.enc), .cells v4 66 [.sl (nx + 5) v5 1 0 ((T.take q).filter neT).length], .cells v5 72 (((T.take q).filter neT).flatMap Enc.enc)]) (fun s' => d.length - s'.1) (0, v5) [] (by simp) (by simp) (by simp) ?_)
  rintro ⟨q, v5⟩ hq
  simp only at hq ⊢
  obtain ⟨out, hout⟩ : ∃ o, o = (T.take q).filter neT := ⟨_, rfl⟩
  rw [← hout]
  (repeat apply za); refine pwn ?_; intros
  repeat apply za
  refine zk rfl (fun hc => ?_) (fun hc => ?_)
  ·simp at hc
   obtain ⟨t, tl, c1, c2, c3, e0⟩ := el1 rfl T q (by omega)
   have hq1 : 1 ≤ d.length - q := by omega
   have htl := htR t (List.mem_of_getElem? c1)
   have hol : out.length ≤ q := by rw [hout]; exact Nat.le_trans (List.length_filter_le _ _) (by rw [List.length_take]; omega)
   have hof : (out.flatMap Enc.enc : List PV).length = out.length := yD _
   have hot : (out.flatMap Enc.enc : List PV).take out.length = out.flatMap Enc.enc := List.take_of_length_le (by omega)
   have hon : (T.take (q + 1)).filter neT = out ++ (if t.length = 0 then [] else [t]) := by
    rw [c3, List.filter_append, ← hout]
    by_cases h0 : t.length = 0
    ·rw [if_pos h0]; simp [neT, h0]
    ·rw [if_neg h0]; simp [neT, h0]
   refine zb (za (ze ?_))
   repeat apply za
   refine pwN [] (jn3 e0 hc hq1) ?_
   intros
   by_cases h0 : t.length = 0
   ·rw [if_pos h0] at hon
    have h0' : ¬ 0 < t.length := by omega
    repeat apply za
    refine zi (by simp [h0']) ?_
    refine zb ?_
    (repeat apply za); refine pwn ?_; intros
    exact zh (q + 1, v5) [] hc (by simp; omega) (by simp [wrN q (by omega)]) rfl (by simp [hon])
   ·rw [if_neg h0] at hon
    have h0' : 0 < t.length := by omega
    repeat apply za
    refine zj (by simp [h0']) ?_
    repeat apply za
    refine pwY (some [nx + 3]) (Row.pures [0, 2, 3, 4, 5, 6, 7] (.alt 1 (.alt 8 (Row.pures [9] (.alt 10 (.done) .stop)) .stop) .stop)) mixed (jn5 e0 hc hq1 hof hot) ?_
    refine ⟨by omega, ?_⟩
    intros
    (repeat apply za); refine pwn ?_; intros
    exact zh (q + 1, v5 + 1) [] hc (by simp; omega) (by simp [wrN q (by omega)]) rfl (by simp [hon])
  ·simp at hc
   obtain rfl : q = d.length := by omega
   rw [List.take_of_length_le (by omega)] at hout
   rw [← hout]
   refine zo ?_
   refine zC 5 rfl ?_
   (repeat apply za); refine pwn ?_; intros
   repeat apply za
   exact zd (zg hd (by simp; rfl) (by simp [zl]))
open Go Go.Proofs
theorem Zh2 {x : Inst} {l : List Stop} (h : SOk x l) (h0 : arc x 0 0 = 0) {d : Day} (g : SG x l d) {m : Mv} (hm : yv d m = true) : (zL x (mkZ d m) = 0 ∨ zL x (mkZ d m) = 14) ↔ (qH x d (zz d m).1 ∧ qH x d (zz d m).2) := by
 rw [ZaH h h0 g hm]
 have hp : (mkZ d m).flatten.Perm l := (Ql hm).trans g.perm
 have hnd : ((mkZ d m).flatten.map (·.c)).Nodup := (hp.map _).nodup_iff.2 h.nd
 have hne : ∀ t, zp x t ≠ 14 := by
  intro t
  unfold zp
  (repeat' split) <;> decide
 generalize mkZ d m = e at *
 unfold zL
 cases hf : e.find? (fun t => zp x t != 0) with
 | some t =>
  have h1 := List.find?_some hf
  have h2 := List.mem_of_find?_eq_some hf
  simp only
  constructor
  ·rintro (q | q)
   ·rw [q] at h1; simp at h1
   ·exact absurd q (hne t)
  ·intro q
   rw [q t h2] at h1; simp at h1
 | none =>
  simp only
  rw [if_neg (by simpa using hnd)]
  refine ⟨fun _ t ht => ?_, fun _ => ?_⟩
  ·have := List.find?_eq_none.1 hf t ht
   simpa using this
  ·split
   ·exact .inr rfl
   ·exact .inl rfl
set_option maxRecDepth 20000 in
set_option maxHeartbeats 3200000 in
theorem Zh3 {x : Inst} {l : List Stop} (h : SOk x l) (h0 : arc x 0 0 = 0) (hl6 : l.length ≤ 6) {d : Day} (g : SG x l d) : Pure Tryz.prog 138 [.agg (zm x), .agg [L d]] (.tup [.agg (mvL (mbZ x d).1), I (mbZ x d).2, B (decide ((mbZ x d).2 < 0))]) := by
 have hv := g.mv h
 have hf6 : d.flatten.length ≤ 6 := by rw [g.perm.length_eq]; exact hl6
 have hd6 : d.length ≤ 6 := by
  have := uF d fun t ht => (Qm (g.may t ht)).2
  omega
 have ht6 : ∀ t ∈ d, t.length ≤ 6 := fun t ht => by have := (qC ht).length_le; omega
 have hall := ZhS d hd6 ht6
 have hcost := vf x d (g.ok h)
 have cb := uH h.arc d
 rw [uI h.arc (by omega) (by omega)] at hcost
 have hfacts : ∀ m ∈ jG d, ∃ (ex : Int), Pure Tryz.prog 139 [.agg [L d], .agg (mvL m)] (.agg [L (mkZ d m)]) ∧ Pure Tryz.prog 74 [.agg (zm x), .agg [L (mkZ d m)]] (I ex) ∧ IntKind.i64.wrap (ex - zA x d) = byM x d m ∧
   Pure Tryz.prog 58 [.agg (zm x), .agg [L (mkZ d m)]] (I (zL x (mkZ d m))) ∧ ((zL x (mkZ d m) = 0 ∨ zL x (mkZ d m) = 14) ↔ (qH x d (zz d m).1 ∧ qH x d (zz d m).2)) := by
  intro m hm
  have hmm := (ZK hm).1
  have hp := Ql hmm
  have hfl := hp.length_eq
  have hne : ∀ t ∈ mkZ d m, t ≠ [] := fun t ht => (ZaC ht).1
  have hml := ZaD d m
  have ok : DayOk (mkZ d m) := by
   refine ⟨by omega, fun t ht => ?_, fun t ht s hs => ?_⟩
   ·have := (qC ht).length_le; omega
   ·obtain ⟨u, hu, hsu⟩ := List.mem_flatten.1 (hp.subset ((qC ht).subset hs))
    exact (hv.s u hu s hsu).1
  have cb2 := uH h.arc (mkZ d m)
  refine ⟨_, Zba d m hv.n hv.t hmm, vf x _ ok, ?_, YN x _ h.cust ok.n ok.t (by omega), Zh2 h h0 g hmm⟩
  rw [uI h.arc (by omega) (by omega), Xd hmm h0]
  have := Xd (x := x) hmm h0
  rw [wr _ (by omega) (by omega)]
  omega
 generalize zA x d = cz at *
 unfold mbZ
 have hml : (jG d).length ≤ 7056 := (Za4 d hd6 ht6).2.2.2 4
 generalize jG d = ms at *
 refine pwe Tryz.func138 Tryz.ntmps138 Tryz.results138 fun S nx hd => ?_
 repeat apply za
 refine pwn ?_
 intro v0 v1 v2
 repeat apply za
 refine pwn ?_
 intro v3
 (repeat apply za); refine pwn ?_; intros
 repeat apply za
 refine pwn ?_
 refine pwc hall ?_
 intros
 repeat apply za
 refine pwn ?_
 refine pwc hcost ?_
 intros
 (repeat apply za); refine pwn ?_; intros
 repeat apply za
 refine ze (zq (fun s' : Nat × (Mv × Int) => s'.1 ≤ ms.length ∧ s'.2 = (ms.take s'.1).foldl (mbS x d) (mv0, 0)) (fun (i, (b, least)) => [(2, .ptr nx v0 0), (3, .ptr (nx + 1) v1 0), (4, .ptr (nx + 2) v2 0), (7, .ptr (nx + 3) v3 0), (8, I least), (9, L ms), (10, I cz), (11, I i)]) (fun (i, (b, least)) => [.cells v0 25 (zm x), .cells v1 66 [L d], .cells v2 160 [I 0, I 0, I 0, I 0, I 0], .cells v3 160 (mvL b)]) (fun s' => ms.length - s'.1) (0, (mv0, 0)) [] ⟨by simp, by simp⟩ (by simp) (by simp [mv0]) ?_)
 rintro ⟨i, b, least⟩ ⟨hi, hst⟩
 simp only at hi hst ⊢
 (repeat apply za); refine pwn ?_; intros
 repeat apply za
 refine zk rfl (fun hc => ?_) (fun hc => ?_)
 ·simp at hc
  obtain ⟨m, tl, c1, c2, c3, -, e0⟩ := el 5 rfl ms i hc
  have hsucc := Qb (f := mbS x d) (b := (mv0, 0)) c1
  rw [← hst] at hsucc
  obtain ⟨ex, f1, f2, f3, f4, f5⟩ := hfacts m (List.mem_of_getElem? c1)
  unfold mbS at hsucc
  simp only at hsucc
  have z5 : 5 ≤ ms.length * 5 - i * 5 := by omega
  generalize mkZ d m = e at *
  generalize byM x d m = by_ at *
  generalize zL x e = te at *
  have wi := wrN i (by omega)
  refine zb (za (ze ?_))
  repeat apply za
  refine pwY (some [nx + 1]) (Row.pures [0, 1, 2, 3, 4, 5] (.alt 6 (.alt 7 (.done) .stop) .stop)) mixed (jn3 e0 hc z5) ?_
  refine pwP (f1) (jn3 e0 hc z5) ?_
  intro v4
  intros
  repeat apply za
  refine pwN [] f3 ?_
  refine pwC [] f2 f3 ?_
  intros
  repeat apply za
  refine pwn ?_
  refine pwc f4 ?_
  intros
  by_cases hlt : by_ < least
  ·by_cases t0 : te = 0
   ·rw [if_pos ⟨hlt, f5.1 (.inl t0)⟩] at hsucc
    repeat apply za
    refine pwN [(3, 43), (6, 46)] (jn3 hlt t0 zr) ?_
    intros
    repeat apply za
    refine zj rfl ?_
    repeat apply za
    refine pwN [] (jn3 e0 hc z5) ?_
    intros
    (repeat apply za); refine pwn ?_; intros
    (repeat apply za); refine pwn ?_; intros
    exact zh (i + 1, (m, by_)) [_] ⟨by simp; omega, hsucc.symm⟩ (by simp; omega) (by simp [wi]) rfl (by simp; rfl)
   ·by_cases t14 : te = 14
    ·rw [if_pos ⟨hlt, f5.1 (.inr t14)⟩] at hsucc
     subst t14
     repeat apply za
     refine pwN [(3, 43), (6, 46)] (jn2 hlt zr) ?_
     intros
     repeat apply za
     refine zj rfl ?_
     repeat apply za
     refine pwN [] (jn3 e0 hc z5) ?_
     intros
     (repeat apply za); refine pwn ?_; intros
     (repeat apply za); refine pwn ?_; intros
     exact zh (i + 1, (m, by_)) [_] ⟨by simp; omega, hsucc.symm⟩ (by simp; omega) (by simp [wi]) rfl (by simp; rfl)
    ·rw [if_neg fun q => by rcases f5.2 q.2 with q | q; exact t0 q; exact t14 q] at hsucc
     repeat apply za
     refine pwN [(3, 43), (6, 46)] (jn4 hlt t0 t14 zr) ?_
     intros
     repeat apply za
     refine zi rfl ?_
     refine zb ?_
     (repeat apply za); refine pwn ?_; intros
     exact zh (i + 1, (b, least)) [_] ⟨by simp; omega, hsucc.symm⟩ (by simp; omega) (by simp [wi]) rfl (by simp; rfl)
  ·rw [if_neg fun q => hlt q.1] at hsucc
   repeat apply za
   refine pwN [(3, 43), (6, 46)] (jn2 hlt zr) ?_
   intros
   repeat apply za
   refine zi rfl ?_
   refine zb ?_
   (repeat apply za); refine pwn ?_; intros
   exact zh (i + 1, (b, least)) [_] ⟨by simp; omega, hsucc.symm⟩ (by simp; omega) (by simp [wi]) rfl (by simp; rfl)
 ·simp at hc
  obtain rfl : i = ms.length := by omega
  rw [List.take_length] at hst
  refine zo ?_
  rw [← hst]
  (repeat apply za); refine pwn ?_; intros
  repeat apply za
  exact zd (zg hd (by simp; rfl) (by simp [zl]))
theorem Zh4 {x : Inst} {l : List Stop} (h : SOk x l) (h0 : arc x 0 0 = 0) (hl6 : l.length ≤ 6) : Zad x (qO x) (SG x l) := by
 intro d g
 have hv := g.mv h
 have hd1 : (qO x d).isSome = decide ((mbZ x d).2 < 0) := by
  unfold qO
  split
  ·rename_i q; simp [q]
  ·rename_i q; simp [q]
 refine ⟨_, _, _, _, _, _, by rw [hd1]; exact Zh3 h h0 hl6 g, fun e he => ⟨?_, (Xh h h0 g he).1⟩⟩
 unfold qO at he
 split at he
 ·rename_i hb
  cases he
  obtain ⟨h1, -, -⟩ := Xg hb
  exact Zba d _ hv.n hv.t (ZK h1).1
 ·cases he
open Go Go.Proofs Hp
theorem Zh5 {x : Inst} {l : List Stop} (h : SOk x l) (h0 : arc x 0 0 = 0) (hl6 : l.length ≤ 6) (hf : yk x l = 0) {b : Int} (hb : b ≤ 9223372036854775807) : Zaq x b (ZM x b) (jX x l) := by
 intro d hd
 have g := Qo h hf d hd
 obtain ⟨g2, -, -⟩ := Qn h h0 b.toNat d g
 refine ⟨ZgF x d b (qO x) (SG x l) hb (fun _ => g) (Zh4 h h0 hl6), g2.ok h, ?_⟩
 have := (g2.len h).1
 show (yH (qO x) b.toNat d).flatten.length ≤ 1048576
 omega
theorem Zh6 {x : Inst} {l : List Stop} (h : SOk x l) (h0 : arc x 0 0 = 0) (hl6 : l.length ≤ 6) {b : Int} (hb : b ≤ 9223372036854775807) : Pure Tryz.prog 65 [.agg (zm x), L l, I b] (.tup [.agg [L (yI x b l).1], I (yI x b l).2]) :=
 Zg7 x l b _ h fun hf => Zh5 h h0 hl6 hf hb
open Go Go.Proofs Hp
abbrev plL (x : Inst) (v : PV) (b : Int) (p f pr : PV) : List PV := [I x.days, I x.veh, I x.cap, I x.len, L x.cust, L x.dist, v, I b, p, f, pr]
set_option maxRecDepth 20000 in
theorem Zh7 {S : Store} {id ver idF vF : Nat} (x : Inst) (v p pr : PV) (b : Int) (fs : List Int) (hS : S id = .cells ver 87 (plL x v b p (.sl idF vF 1 0 fs.length) pr)) (hF : S idF = .cells vF 30 (fs.flatMap Enc.enc)) (hl : fs.length ≤ 1000) :
  Spec Tryz.prog 90 [.ptr id ver 0] S (fun q S' => q = I (jH fs) ∧ S' = S) := by
 refine jm Tryz.func90 Tryz.ntmps90 Tryz.results90 fun nx hd => ?_
 have hlt : id < nx := yO hd hS (by simp)
 have hltF : idF < nx := yO hd hF (by simp)
 have xw := fun obs => zx (S := S) (obs := obs) hlt
 have xf := fun obs => zx (S := S) (obs := obs) hltF
 (repeat apply za); refine pwn ?_; intros
 repeat apply za
 refine pwN [] (jn2 xw hS) ?_
 intros
 repeat apply za
 refine ze (zq (fun k : Nat => k ≤ fs.length ∧ ∀ e ∈ fs.take k, e = 0) (fun k => [(8, .sl idF vF 1 0 fs.length), (9, I fs.length), (10, I k)]) (fun _ => []) (fun k => fs.length - k) 0 [] (by simp) (by simp) (by simp) ?_)
 rintro k ⟨hk, h0⟩
 (repeat apply za); refine pwn ?_; intros
 repeat apply za
 refine zk rfl (fun hc => ?_) (fun hc => ?_)
 ·simp at hc
  obtain ⟨e, tl, a1, a2, a3, e0⟩ := el1 rfl fs k hc
  refine zb (za (ze ?_))
  repeat apply za
  refine pwN [] (jn4 xf hF e0 hc) ?_
  intros
  (repeat apply za); refine pwn ?_; intros
  by_cases he : e = 0
  ·repeat apply za
   refine zi (by simp [he]) ?_
   refine zb ?_
   (repeat apply za); refine pwn ?_; intros
   exact zh (k + 1) [] ⟨hc, fun y hy => by rw [a3] at hy; rcases List.mem_append.1 hy with h | h; exact h0 y h; rw [List.mem_singleton.1 h]; exact he⟩ (by omega) (by simp [wrN k (by omega)]) rfl (by simp)
  ·repeat apply za
   refine zj (by simp [he]) ?_
   (repeat apply za); refine pwn ?_; intros
   repeat apply za
   exact zd ⟨_, S, rfl, ⟨by simp [zl, ZaR h0 a1 he], rfl⟩, yg hd⟩
 ·simp at hc
  obtain rfl : k = fs.length := by omega
  rw [List.take_length] at h0
  refine zo ?_
  (repeat apply za); refine pwn ?_; intros
  repeat apply za
  exact zd ⟨_, S, rfl, ⟨by simp [zl, ZaQ h0], rfl⟩, yg hd⟩
set_option maxRecDepth 20000 in
theorem Zh8 {S : Store} {id ver idD vD idF vF : Nat} {x : Inst} {v : List (List Visit)} {b : Int} {pr : PV} {ds : jP} {fs : List Int} {n : Nat} (k : Nat) (hS : S id = .cells ver 87 (plL x (L v) b (.sl idD vD 1 0 ds.length) (.sl idF vF 1 0 fs.length) pr))
  (hD : S idD = .cells vD 66 (ds.flatMap Enc.enc)) (hF : S idF = .cells vF 30 (fs.flatMap Enc.enc)) (d1 : id ≠ idD) (d2 : id ≠ idF) (d3 : idD ≠ idF) (hx : InstH x) (hv : VsOk x.cust.length n v) (hb : b ≤ 9223372036854775807) (hdl : ds.length ≤ 1000) (hfl : fs.length ≤ 1000) :
  Spec Tryz.prog 89 [.ptr id ver 0, I k] S (fun _ S' => S' = ((S.set id (.cells ver 87 (plL x (L v) b (.sl idD (vD + 1) 1 0 (ds.length + 1)) (.sl idF (vF + 1) 1 0 (fs.length + 1)) pr))).set idD (.cells (vD + 1) 66 ((ds ++ [(yI x b (yp v k x.cust.length)).1]).flatMap Enc.enc))).set idF
   (.cells (vF + 1) 30 ((fs ++ [(yI x b (yp v k x.cust.length)).2]).flatMap Enc.enc))) := by
 have hst := ZaX x v k n hx.cust hv
 have hso := Zhx (Qq hx hv k) hx.diag hb
 generalize yp v k x.cust.length = st at hst hso ⊢
 generalize yI x b st = r at hso ⊢
 obtain ⟨d, e⟩ := r
 simp only at hso ⊢
 refine jm Tryz.func89 Tryz.ntmps89 Tryz.results89 fun nx hd => ?_
 have hlt : id < nx := yO hd hS (by simp)
 have hltD : idD < nx := yO hd hD (by simp)
 have hltF : idF < nx := yO hd hF (by simp)
 have xw := fun obs => (zx (S := S) (obs := obs) hlt).trans hS
 have xd := fun obs => (zx (S := S) (obs := obs) hltD).trans hD
 have xf := fun obs => (zx (S := S) (obs := obs) hltF).trans hF
 have g1 : ¬ nx ≤ id := by omega
 have g2 : ¬ nx ≤ idD := by omega
 have g3 : ¬ nx ≤ idF := by omega
 have yw := fun (o : Ob) obs => (zx (S := S.set idD o) (obs := obs) hlt).trans ((Store.set_other _ _ _ _ d1).trans hS)
 have zw := fun (o o' : Ob) obs => (zx (S := (S.set idD o).set id o') (obs := obs) hlt).trans (Store.set_same _ _ _)
 have zf := fun (o o' : Ob) obs => (zx (S := (S.set idD o).set id o') (obs := obs) hltF).trans ((Store.set_other _ _ _ _ d2.symm).trans ((Store.set_other _ _ _ _ d3.symm).trans hF))
 have uw := fun (o o' o'' : Ob) obs => (zx (S := ((S.set idD o).set id o').set idF o'') (obs := obs) hlt).trans ((Store.set_other _ _ _ _ d2).trans (Store.set_same _ _ _))
 repeat apply za
 refine pwY (some [id]) (Row.pures [0, 1, 2, 3, 4, 5, 6, 7, 8, 9, 10, 11, 12, 13, 14, 15, 16, 17, 18, 19, 20, 21] (.alt 22 (.alt 23 (Row.pures [24] .done) .stop) .stop)) mixed xw ?_
 refine pwP (hst) xw ?_
 refine pwP (hso) xw ?_
 intro v2
 intros
 repeat apply za
 refine pwY (some [nx]) (Row.pures [0, 1, 2, 3, 4, 6, 7] (.alt 5 (.alt 8 (Row.pures [9, 10, 11] (.alt 12 (.done) .stop)) .stop) .stop)) mixed (jn5 xw xd yw g1 g2) ?_
 refine ⟨by omega, ?_⟩
 intros
 repeat apply za
 refine pwN [] (jn5 zw zf uw g1 g3) ?_
 refine ⟨by omega, ?_⟩
 intros
 have e1 : ∀ (a b c d : Ob), (((S.set idD a).set id b).set idF c).set id d = ((S.set id d).set idD a).set idF c := by
  intro a b c d
  funext i
  simp only [Store.set]
  by_cases h1 : i = id
  ·subst h1; simp [d1, d2]
  ·simp only [h1, if_false]
 have hdd : ∀ (a b c : Ob), zF nx (((S.set id a).set idD b).set idF c) := by
  intro a b c i hi
  rw [Store.set_other _ _ _ _ (by omega), Store.set_other _ _ _ _ (by omega), Store.set_other _ _ _ _ (by omega)]
  exact hd i hi
 rw [e1]
 exact ⟨_, _, rfl, by simp, yg (hdd _ _ _)⟩
set_option maxRecDepth 20000 in
theorem Zh9 {S : Store} {id ver : Nat} (x : Inst) (v p f pr : PV) (b : Int) (fn : FuncId) (fs : List PV) (n : Nat) (hn : x.days = n) (hn2 : n ≤ 1000) (hS : S id = .cells ver 87 (plL x v b p f pr)) (St : Nat → Store) (h0 : St 0 = S)
  (hSt : ∀ nx, zF nx S → ∀ k, k ≤ n → zF nx (St k)) (hstep : ∀ k, k < n → Spec Tryz.prog fn (fs ++ [I k]) (St k) (fun _ S' => S' = St (k + 1))) :
  Spec Tryz.prog 47 [.ptr id ver 0, .fn (.func fn) fs []] S (fun _ S' => S' = St n) := by
 refine jm Tryz.func47 Tryz.ntmps47 Tryz.results47 fun nx hd => ?_
 have hlt : id < nx := yO hd hS (by simp)
 have xw := fun obs => (zx (S := S) (obs := obs) hlt).trans hS
 have hSt := hSt nx hd
 repeat apply za
 refine pwN [] (jn2 xw hn) ?_
 intros
 repeat apply za
 refine ze (qS (σ := Nat) (fun k => k ≤ n) (fun k => [(1, .fn (.func fn) fs []), (9, I n), (10, I k)]) (fun k => St k) (fun _ => []) (fun k => n - k) (zu 0 [] (by simp) (by simp) h0 (by simp)) ?_)
 rintro k hk
 (repeat apply za); refine pwn ?_; intros
 repeat apply za
 refine zk rfl (fun hc => ?_) (fun hc => ?_)
 ·simp at hc
  refine zb (za (ze ?_))
  (repeat apply za); refine pwn ?_; intros
  repeat apply za
  refine zM [] (by rfl) (by rfl) fun K Gc Gh hK hGc hGh X hX0 hX => ?_
  simp -implicitDefEqProofs [hX0, hX]
  try clear hX0 hX X
  refine hGc _ _ _ _ _ _ _ fun hsuf => (Spec.mono (by rw [zY (hSt k hk)]; simpa using hstep k hc) ?_).v
  rintro _ _ rfl
  refine ⟨St (k + 1), [], (zY (hSt (k + 1) hc)).symm, ?_⟩
  clear hGc hGh
  clear Gc Gh
  refine zK hsuf (D := []) (by rfl) fun Gc Gh hGc hGh X hX0 hX => ?_
  simp -implicitDefEqProofs [hX0, hX]
  clear hX0 hX X
  intros
  refine hK _ _ _ ?_
  clear hK hGc hGh
  clear K Gc Gh
  (repeat apply za); refine pwn ?_; intros
  exact zh (k + 1) [] hc (by omega) (by simp [wrN k (by omega)]) rfl (by simp)
 ·simp at hc
  obtain rfl : k = n := by omega
  refine zo ?_
  exact ⟨_, _, rfl, rfl, yg (hSt k (Nat.le_refl _))⟩
set_option maxRecDepth 20000 in
theorem Zbb {S : Store} {nx id ver : Nat} (hd : zF nx S) {x : Inst} {v : List (List Visit)} {v0 p0 f0 pr : PV} {b : Int} {n : Nat} (hS : S id = .cells ver 87 (plL x v0 b p0 f0 pr)) (hx : InstH x) (hn : x.days = n) (hn2 : n ≤ 1000) (hv : VsOk x.cust.length n v) (hb : b ≤ 9223372036854775807) :
  Spec Tryz.prog 50 [.ptr id ver 0, L v] S (fun q S' => q = I (jH (z8 x v b n)) ∧ ∃ vD vF, S' = ext (S.set id (.cells ver 87 (plL x (L v) b (.sl nx vD 1 0 (qe x v b n).length) (.sl (nx + 1) vF 1 0 (z8 x v b n).length) pr))) nx
   [.cells vD 66 ((qe x v b n).flatMap Enc.enc), .cells vF 30 ((z8 x v b n).flatMap Enc.enc)]) := by
 have hpl := ZN x v b
 have hfl := ZaU x v b
 refine vM hd Tryz.func50 Tryz.ntmps50 Tryz.results50 ?_
 have hlt : id < nx := yO hd hS (by simp)
 have g1 : ¬ nx ≤ id := by omega
 have xw := fun obs => (zx (S := S) (obs := obs) hlt).trans hS
 have yw := fun (o : Ob) obs => (zx (S := S.set id o) (obs := obs) hlt).trans (Store.set_same _ _ _)
 (repeat apply za); refine pwn ?_; intros
 repeat apply za
 refine pwN [] (jn4 xw yw g1 Store.set_set) ?_
 intros
 refine Za2 (id := id) 8 66 1 hlt (Store.set_same _ _ _) rfl fun vD => ?_
 rw [Store.set_set]
 refine Za2 (id := id) 9 30 1 hlt (Store.set_same _ _ _) rfl fun vF => ?_
 rw [Store.set_set]
 simp only [List.set_cons_succ, List.set_cons_zero, List.length_cons, List.length_nil, List.cons_append, List.nil_append, Nat.add_zero, Nat.zero_add]
 generalize hSt : (fun k : Nat => ext (S.set id (.cells ver 87 (plL x (L v) b (.sl nx (vD + k) 1 0 (qe x v b k).length) (.sl (nx + 1) (vF + k) 1 0 (z8 x v b k).length) pr))) nx
   [.cells (vD + k) 66 ((qe x v b k).flatMap Enc.enc), .cells (vF + k) 30 ((z8 x v b k).flatMap Enc.enc)]) = St
 have hSk : ∀ k, St k = ext (S.set id (.cells ver 87 (plL x (L v) b (.sl nx (vD + k) 1 0 (qe x v b k).length) (.sl (nx + 1) (vF + k) 1 0 (z8 x v b k).length) pr))) nx
   [.cells (vD + k) 66 ((qe x v b k).flatMap Enc.enc), .cells (vF + k) 30 ((z8 x v b k).flatMap Enc.enc)] := fun k => by rw [← hSt]
 have h0 : St 0 = ext (S.set id (.cells ver 87 (plL x (L v) b (.sl nx vD 1 0 0) (.sl (nx + 1) vF 1 0 0) pr))) nx [.cells vD 66 [], .cells vF 30 []] := hSk 0
 have hid : ∀ k, St k id = .cells ver 87 (plL x (L v) b (.sl nx (vD + k) 1 0 (qe x v b k).length) (.sl (nx + 1) (vF + k) 1 0 (z8 x v b k).length) pr) := fun k => by rw [hSk k, zx hlt, Store.set_same]
 have hstep : ∀ k, k < n → Spec Tryz.prog 89 ([.ptr id ver 0] ++ [I k]) (St k) (fun _ S' => S' = St (k + 1)) := by
  intro k hk
  have h1 := hpl k
  have h2 := hfl k
  refine (Zh8 (idD := nx) (idF := nx + 1) (n := n) k (hid k) (by rw [hSk k]; simp) (by rw [hSk k]; simp) (by omega) (by omega) (by omega) hx hv hb (by omega) (by omega)).mono ?_
  rintro _ _ rfl
  rw [hSk k, hSk (k + 1), xF _ hlt, Store.set_set, qg _ (by omega) (by simp), qg _ (by omega) (by simp), ZaV, ZaW]
  simp [Nat.add_assoc]
 have hdead : ∀ m, zF m (St 0) → ∀ k, k ≤ n → zF m (St k) := by
  intro m hm k _ i hi
  have hge : nx + 1 < m := by
   rcases Nat.lt_or_ge (nx + 1) m with q | q
   ·exact q
   ·have := hm (nx + 1) q; rw [hSk 0] at this; simp at this
  rw [hSk k]
  simp only [ext]
  rw [if_neg (by omega), List.getD_eq_getElem?_getD, List.getElem?_eq_none (by simp; omega)]; rfl
 rw [← h0]
 have hn0 := hid 0
 have hnx2 : nx + 2 = nx + [Ob.cells (vD + 0) 66 ((qe x v b 0).flatMap Enc.enc), .cells (vF + 0) 30 ((z8 x v b 0).flatMap Enc.enc)].length := rfl
 have hb0 : ∀ k, St k = ext (St k) (nx + 2) [] := fun k => by
  refine (zY ?_).symm
  rw [hSk k]; exact qi (obs := [_, _])
 rw [hb0 0]
 repeat apply za
 refine zM [] (by rfl) (by rfl) fun K Gc Gh hK hGc hGh X hX0 hX => ?_
 simp -implicitDefEqProofs [hX0, hX]
 try clear hX0 hX X
 refine hGc _ _ _ _ _ _ _ fun hsuf => ((Zh9 x (L v) _ _ pr b _ _ n hn hn2 (by rw [← hb0 0]; exact hn0) St (hb0 0) (fun m hm k hk => hdead m (by rw [hb0 0]; exact hm) k hk) hstep).mono ?_).v
 rintro _ _ rfl
 refine ⟨_, _, hb0 n, ?_⟩
 clear hGc hGh
 clear Gc Gh
 refine zK hsuf (D := []) (by rfl) fun Gc Gh hGc hGh X hX0 hX => ?_
 simp -implicitDefEqProofs [hX0, hX]
 clear hX0 hX X
 intros
 refine hK _ _ _ ?_
 clear hK hGc hGh
 clear K Gc Gh
 repeat apply za
 refine zM [] (by rfl) (by rfl) fun K Gc Gh hK hGc hGh X hX0 hX => ?_
 simp -implicitDefEqProofs [hX0, hX]
 try clear hX0 hX X
 refine hGc _ _ _ _ _ _ _ fun hsuf => ((Zh7 (idF := nx + 1) x _ _ _ _ (z8 x v b n) (by rw [← hb0 n]; exact hid n) (by rw [← hb0 n, hSk n]; simp) (by rw [hfl]; exact hn2)).mono ?_).v
 rintro _ _ ⟨rfl, rfl⟩
 refine ⟨_, _, rfl, ?_⟩
 clear hGc hGh
 clear Gc Gh
 refine zK hsuf (D := []) (by rfl) fun Gc Gh hGc hGh X hX0 hX => ?_
 simp -implicitDefEqProofs [hX0, hX]
 clear hX0 hX X
 intros
 refine hK _ _ _ ?_
 clear hK hGc hGh
 clear K Gc Gh
 repeat apply za
 refine zd ⟨_, St n, rfl, ⟨by simp [zl], vD + n, vF + n, hSk n⟩, fun o => .inl ?_⟩
 rw [← hb0 n]
set_option maxRecDepth 20000 in
theorem Zia {x : Inst} {v : List (List Visit)} {b : Int} {n : Nat} (hx : InstH x) (hn : x.days = n) (hn2 : n ≤ 1000) (hv : VsOk x.cust.length n v) (hb : b ≤ 9223372036854775807) :
  Pure Tryz.prog 24 [.agg (zm x), L v, I b] (.tup [.agg [L (jI x v b n).1], I (jI x v b n).2]) := by
 have hpl := ZN x v b n
 unfold jI
 refine pwe Tryz.func24 Tryz.ntmps24 Tryz.results24 fun S nx hd => ?_
 repeat apply za
 refine pwn ?_
 intro v0 v1
 repeat apply za
 refine pwn ?_
 intro v2
 repeat apply za
 refine zM [] (by rfl) (by rfl) fun K Gc Gh hK hGc hGh X hX0 hX => ?_
 simp -implicitDefEqProofs [hX0, hX]
 try clear hX0 hX X
 refine hGc _ _ _ _ _ _ _ fun hsuf => ((Zbb qi (id := nx + 2) (n := n) (by rw [yM]; rfl) hx hn hn2 hv hb).mono ?_).v
 rintro _ _ ⟨rfl, vD, vF, rfl⟩
 refine ⟨_, _, (by rw [qg _ (by omega) (by simp), Zl _ _ (by simp)]), ?_⟩
 clear hGc hGh
 clear Gc Gh
 refine zK hsuf (D := []) (by rfl) fun Gc Gh hGc hGh X hX0 hX => ?_
 simp -implicitDefEqProofs [hX0, hX]
 clear hX0 hX X
 intros
 refine hK _ _ _ ?_
 clear hK hGc hGh
 clear K Gc Gh
 (repeat apply za); refine pwn ?_; intros
 by_cases he : jH (z8 x v b n) = 0
 ·rw [if_pos he]
  repeat apply za
  refine zi (by simp [he]) ?_
  refine zb ?_
  refine zC 3 rfl ?_
  (repeat apply za); refine pwn ?_; intros
  repeat apply za
  exact zd (zg hd (by simp; rfl) rfl)
 ·rw [if_neg he]
  repeat apply za
  refine zj (by simp [he]) ?_
  (repeat apply za); refine pwn ?_; intros
  refine xI 1 0 rfl rfl ?_
  repeat apply za
  exact zd (zg hd (by simp; rfl) rfl)
set_option maxRecDepth 20000 in
theorem Zib {x : Inst} {v : List (List Visit)} {b : Int} {n : Nat} (hx : InstH x) (hx6 : x.cust.length ≤ 6) (hn : x.days = n) (hn2 : n ≤ 1000) (hv : VsOk x.cust.length n v) (hb : b ≤ 9223372036854775807) :
  Pure Tryz.prog 25 [.agg (zm x), L v, I b] (.tup [.agg [L (jI x v b n).1], I (jI x v b n).2]) := by
 have hst := fun k : Nat => ZaY v k x.cust.length n hx.cust hv
 have hso := fun k : Nat => Zh6 (Qq hx hv k) hx.diag (by have := (uS hv k x.cust.length).1; omega) hb
 have hpl := ZN x v b
 have htk : ∀ k, k < n → (z8 x v b n).take k = z8 x v b k ∧ (z8 x v b n)[k]? = some (yI x b (yp v k x.cust.length)).2 := by
  intro k hk
  unfold z8 wB
  refine ⟨by rw [← List.map_take, ← List.map_take, List.take_range, Nat.min_eq_left (by omega)], by simp [hk]⟩
 refine pwe Tryz.func25 Tryz.ntmps25 Tryz.results25 fun S nx hd => ?_
 repeat apply za
 refine pwn ?_
 intro v0 v1
 repeat apply za
 refine pwn ?_
 intro v2
 refine yN 2 0 66 1 rfl rfl fun v3 => ?_
 simp only [List.set_cons_succ, List.set_cons_zero, List.length_cons, List.length_nil, List.cons_append, List.nil_append, Nat.zero_add]
 (repeat apply za); refine pwn ?_; intros
 repeat apply za
 refine ze (zq (fun s : Nat × Nat => s.1 ≤ n ∧ ∀ e ∈ z8 x v b s.1, e = 0) (fun (k, w) => [(1, L v), (2, I b), (3, .ptr nx v0 0), (6, .ptr (nx + 1) v1 0), (8, .ptr (nx + 2) v2 0), (9, I k)]) (fun (k, w) => [.cells v0 25 (zm x), .cells v1 29 [.sc (.slice none 0 0)], .cells v2 29 [.sl (nx + 3) w 1 0 (qe x v b k).length], .cells w 66 ((qe x v b k).flatMap Enc.enc)])
  (fun s => n - s.1) (0, v3) [] ⟨by simp, by simp [z8, wB]⟩ (by simp) (by simp [qe, wB]) ?_)
 rintro ⟨k, w⟩ ⟨hk, h0⟩
 simp only at hk h0 ⊢
 repeat apply za
 refine pwN [] hn ?_
 intros
 repeat apply za
 refine zk rfl (fun hc => ?_) (fun hc => ?_)
 ·simp at hc
  have hst := hst k
  have hso := hso k
  obtain ⟨t1, t2⟩ := htk k hc
  have hps := ZaV x v b k
  have hfs := ZaW x v b k
  have hpk := hpl k
  generalize yp v k x.cust.length = st at hst hso hps hfs t2
  generalize yI x b st = r at hso hps hfs t2
  obtain ⟨d, e⟩ := r
  simp only at hso hps hfs t2
  refine zb (za (ze ?_))
  repeat apply za
  refine pwY (some [nx]) (Row.pures [0, 1, 2, 3, 4, 5, 6, 7, 8] (.alt 9 (.alt 10 (Row.pures [11] .done) .stop) .stop)) mixed trivial ?_
  refine pwP (hst) trivial ?_
  refine pwP (hso) trivial ?_
  intro v4
  intros
  (repeat apply za); refine pwn ?_; intros
  by_cases he : e = 0
  ·repeat apply za
   refine zi (by simp [he]) ?_
   refine zb ?_
   repeat apply za
   refine pwn ?_
   refine ⟨by omega, ?_⟩
   intros
   (repeat apply za); refine pwn ?_; intros
   exact zh (k + 1, w + 1) [_] ⟨hc, fun y hy => by rw [hfs] at hy; rcases List.mem_append.1 hy with h | h; exact h0 y h; rw [List.mem_singleton.1 h]; exact he⟩ (by simp; omega) (by simp [wrN k (by omega)]) rfl (by simp [hps]; rfl)
  ·have hf : jH (z8 x v b n) = e := ZaR (by rw [t1]; exact h0) t2 he
   repeat apply za
   refine zj (by simp [he]) ?_
   (repeat apply za); refine pwn ?_; intros
   refine xI 1 0 rfl rfl ?_
   repeat apply za
   exact zd (zg hd (by simp; rfl) (by simp [jI, hf, he, zl]))
 ·simp at hc
  obtain rfl : k = n := by omega
  refine zo ?_
  refine zC 3 rfl ?_
  (repeat apply za); refine pwn ?_; intros
  repeat apply za
  exact zd (zg hd (by simp; rfl) (by simp [jI, ZaQ h0, zl]))
open Go Go.Proofs Hp
theorem Zbc (n : Nat) : qf n (.slice none 0 0) = List.replicate n (.sc (.slice none 0 0)) := by
 induction n with
 | zero => simp
 | succ n ih => rw [wZ, ih]; rfl
structure VisitOk (w : Visit) : Prop where
 d : I64 w.d
 q : I64 w.q
structure RowsV (m n i : Nat) (v : List (List Visit)) : Prop where
 len : v.length = m
 ok : ∀ l ∈ v, ∀ w ∈ l, (0 ≤ w.d ∧ w.d < n) ∧ 1 ≤ w.q ∧ w.q ≤ 12
 nd : ∀ l ∈ v, (l.map (·.d)).Nodup
 few : ∀ l ∈ v, l.length ≤ i
theorem RowsV.vs {m n i : Nat} {v : List (List Visit)} (h : RowsV m n i v) (hi : i ≤ 12) : VsOk m n v :=
 ⟨h.len, fun l hl w hw => by have := h.ok l hl w hw; omega, h.nd, fun l hl => by have := h.few l hl; omega⟩
theorem RowsV.more {m n i : Nat} {v : List (List Visit)} (h : RowsV m n i v) : RowsV m n (i + 1) v := ⟨h.len, h.ok, h.nd, fun l hl => Nat.le_succ_of_le (h.few l hl)⟩
theorem RowsV.put {m n i : Nat} {v : List (List Visit)} (h : RowsV m n i v) {c : Nat} {l : List Visit} (hc : v[c]? = some l) (w : Visit) (hw : (0 ≤ w.d ∧ w.d < n) ∧ 1 ≤ w.q ∧ w.q ≤ 12) (hno : w.d ∉ l.map (·.d)) : RowsV m n (i + 1) (v.set c (l ++ [w])) := by
 have hlm := List.mem_of_getElem? hc
 refine ⟨by simp [h.len], fun k hk u hu => ?_, fun k hk => ?_, fun k hk => ?_⟩
 ·rcases List.mem_or_eq_of_mem_set hk with hk | rfl
  ·exact h.ok k hk u hu
  ·rcases List.mem_append.1 hu with hu | hu
   ·exact h.ok l hlm u hu
   ·rw [List.mem_singleton.1 hu]; exact hw
 ·rcases List.mem_or_eq_of_mem_set hk with hk | rfl
  ·exact h.nd k hk
  ·rw [List.map_append]; exact uA _ _ (h.nd l hlm) hno
 ·rcases List.mem_or_eq_of_mem_set hk with hk | rfl
  ·exact Nat.le_succ_of_le (h.few k hk)
  ·have := h.few l hlm; simp; omega
set_option maxHeartbeats 1600000 in
theorem Zic (x : Inst) (l : List Visit) (n : Nat) (hm : x.cust.length ≤ 1000) (hn : x.days = n) (h0 : 0 < n) (hn2 : n ≤ 1000) (hll : l.length ≤ 9223372036854775807) (hl : ∀ w ∈ l, VisitOk w) :
  RSpec Tryz.prog 21 [.agg (zm x), L l] (fun p => ∃ v, p = L v ∧ VsOk x.cust.length n v) := by
 refine Zcu Tryz.func21 Tryz.ntmps21 Tryz.results21 fun S nx hd => ?_
 repeat apply za
 refine pwn ?_
 intro v0
 repeat apply za
 refine pwn ?_
 refine ⟨by omega, fun v1 => ?_⟩
 intros
 rw [Zbc]
 (repeat apply za); refine pwn ?_; intros
 refine Za0 (α := Visit) (nx + 1) v1 42 (nx + 2) 103 2 x.cust.length (by simp) (qi (obs := [_, _])) fun T ws hR hT hdT => ?_
 have hT0 : T nx = .cells v0 25 (zm x) := by rw [hT nx (by omega) (by omega)]; simp
 have hTS : ∀ o, o < nx → T o = S o := fun o ho => by rw [hT o (by omega) (by omega), zx ho]
 clear hT
 obtain ⟨m, hm'⟩ : ∃ m, m = x.cust.length := ⟨_, rfl⟩
 rw [← hm'] at hR hdT hm ⊢
 obtain ⟨nz, hnz⟩ : ∃ nz, nz = nx + 2 + m := ⟨_, rfl⟩
 rw [← hnz] at hdT
 rw [← zY hdT]
 repeat apply za
 refine ze (qS (σ := Nat × Store × (Nat → Nat) × List (List Visit)) (fun s => s.1 ≤ l.length ∧ s.1 ≤ 12 ∧ RowsAt s.2.1 (nx + 1) v1 42 (nx + 2) 103 2 s.2.2.1 s.2.2.2 ∧ RowsV m n s.1 s.2.2.2 ∧ s.2.1 nx = .cells v0 25 (zm x) ∧ (∀ o, o < nx → s.2.1 o = S o) ∧ zF nz s.2.1)
  (fun s => [(1, L l), (2, .ptr nx v0 0), (5, .sl (nx + 1) v1 1 0 m), (6, I s.1)]) (fun s => s.2.1) (fun _ => []) (fun s => 12 - s.1) (zu (0, T, ws, List.replicate m []) [] ⟨by simp, by simp, hR, ⟨by simp, fun k hk u hu => ?_, fun k hk => ?_, fun k hk => ?_⟩, hT0, hTS, hdT⟩ (by simp) rfl (by simp)) ?_)
 ·rw [(List.mem_replicate.1 hk).2] at hu; cases hu
 ·rw [(List.mem_replicate.1 hk).2]; simp
 ·rw [(List.mem_replicate.1 hk).2]; simp
 clear hR hT0 hTS hdT
 rintro ⟨i, T, ws, v⟩ ⟨hi, hi12, hR, hV, hT0, hTS, hdT⟩
 simp only at hi hi12 hR hV hT0 hTS hdT ⊢
 have hvl := hV.len
 have x0 := fun obs => (zx (S := T) (nx := nz) (obs := obs) (i := nx) (by omega)).trans hT0
 repeat apply za
 refine yc (nx := nz) (σ := Bool) (fun t => t = true → i < l.length ∧ i < 12 ∧ 0 < m) (fun t => [(1, L l), (2, .ptr nx v0 0), (5, .sl (nx + 1) v1 1 0 m), (6, I i), (28, B t)]) (fun _ => T) (fun _ => []) ?_ ?_
 ·by_cases h1 : i < l.length
  ·by_cases h2 : i < 12
   ·have h2' : (i : Int) < 12 := by omega
    by_cases h3 : 0 < m
    ·repeat apply za
     refine pwN [(4, 20), (8, 24)] (jn4 h1 h2' h3 zr) ?_
     intros
     exact zu true [] (fun _ => ⟨h1, h2, h3⟩) (by simp) rfl (by simp)
    ·repeat apply za
     refine pwN [(4, 20), (8, 24)] (jn4 h1 h2' h3 zr) ?_
     intros
     exact zu false [] (fun e => by cases e) (by simp) rfl (by simp)
   ·have h2' : ¬ (i : Int) < 12 := by omega
    repeat apply za
    refine pwN [(4, 20), (8, 24)] (jn3 h1 h2' zr) ?_
    intros
    exact zu false [] (fun e => by cases e) (by simp) rfl (by simp)
  ·repeat apply za
   refine pwN [(4, 20), (8, 24)] (jn2 h1 zr) ?_
   intros
   exact zu false [] (fun e => by cases e) (by simp) rfl (by simp)
 intro t ht
 cases t with
 | false =>
  repeat apply za
  refine zi rfl ?_
  refine zo ?_
  rw [zY hdT]
  refine ZhN hR rfl fun T1 q1 q2 q3 => ?_
  refine ZhO q1 ?_
  have hkill : ∀ o, S o = (T1.set (nx + 1) .dead) o ∨ S o = .dead := by
   intro o
   by_cases ho : o < nx
   ·rw [Store.set_other _ _ _ _ (by omega), q2 o (by omega) (.inl (by omega)), hTS o ho]; exact .inl rfl
   ·exact .inr (hd o (by omega))
  have hdd : zF nz (T1.set (nx + 1) .dead) := by
   intro o ho
   rw [Store.set_other _ _ _ _ (by omega), q2 o (by omega) (.inr (by omega))]
   exact hdT o ho
  rw [← hvl, ← zY hdd]
  (repeat apply za); refine pwn ?_; intros
  repeat apply za
  refine zd ⟨_, S, (by simp; rfl), ⟨⟨v, by simp [zl], by rw [hvl]; exact hV.vs hi12⟩, rfl⟩, ?_⟩
  rw [zY hdd]; exact hkill
 | true =>
 obtain ⟨h1, h2, h3⟩ := ht rfl
 clear ht
 repeat apply za
 refine zj rfl ?_
 obtain ⟨s, tl, a1, -, -, e1, e0⟩ := el 2 rfl l i h1
 have e11 := e1 1 (by omega)
 have hs := hl s (List.mem_of_getElem? a1)
 have hsd := hs.d
 have hsq := hs.q
 unfold I64 at hsd hsq
 obtain ⟨c, hc⟩ : ∃ c, c = i % m := ⟨_, rfl⟩
 have hcm : c < m := hc ▸ Nat.mod_lt _ h3
 have wc : (i : Int).tmod (m : Int) = (c : Int) := by rw [hc, Int.tmod_eq_emod_of_nonneg (by omega)]; omega
 have hm0 : ¬ m = 0 := by omega
 obtain ⟨row, hrow⟩ : ∃ row, v[c]? = some row := ⟨_, List.getElem?_eq_getElem (by omega)⟩
 have hgr : v.getD c [] = row := by rw [List.getD_eq_getElem?_getD, hrow]; rfl
 have hrm := List.mem_of_getElem? hrow
 have hrl := hV.few row hrm
 have hRr := hR.row c (by omega)
 rw [hgr] at hRr
 have xr := fun obs => (zx (S := T) (nx := nz) (obs := obs) (i := nx + 2 + c) (by omega)).trans hRr
 have xa := fun obs => (zx (S := T) (nx := nz) (obs := obs) (i := nx + 1) (by omega)).trans hR.arr
 obtain ⟨tl2, hdr⟩ := Qr (nx + 2) 2 ws v c (by omega)
 rw [hgr] at hdr
 have hcl : (rwC (nx + 2) 2 ws v).length = m := by rw [wR, hvl]
 have hn0 : ¬ n = 0 := by omega
 refine zb (za (ze ?_))
 repeat apply za
 refine pwN [] (jn2 wc hm0) ?_
 intros
 repeat apply za
 refine pwN [] (jn2 e0 h1) ?_
 intros
 repeat apply za
 refine pwN [] (jn2 e11 h1) ?_
 intros
 (repeat apply za); refine pwn ?_; intros
 repeat apply za
 refine yc (nx := nz) (σ := Int) (fun z => 0 ≤ z ∧ z ≤ 9223372036854775807) (fun z => [(1, L l), (2, .ptr nx v0 0), (5, .sl (nx + 1) v1 1 0 m), (6, I i), (7, I c), (8, I z), (9, I s.q)]) (fun _ => T) (fun _ => []) ?_ ?_
 ·by_cases q : s.d < 0
  ·have q1 : IntKind.i64.wrap (s.d + 1) = s.d + 1 := wr _ (by omega) (by omega)
   have q2 : IntKind.i64.wrap (-(s.d + 1)) = -(s.d + 1) := wr _ (by omega) (by omega)
   repeat apply za
   refine zj (by simp [q]) ?_
   repeat apply za
   refine pwN [] (jn2 q1 q2) ?_
   intros
   exact zu (-(s.d + 1)) [] (by omega) (by simp) rfl (by simp)
  ·repeat apply za
   refine zi (by simp; omega) ?_
   refine zb ?_
   exact zu s.d [] (by omega) (by simp) rfl (by simp)
 intro z hz
 (repeat apply za); refine pwn ?_; intros
 repeat apply za
 refine yc (nx := nz) (σ := Int) (fun y => 0 ≤ y ∧ y ≤ 9223372036854775807) (fun y => [(1, L l), (2, .ptr nx v0 0), (5, .sl (nx + 1) v1 1 0 m), (6, I i), (7, I c), (8, I z), (9, I y)]) (fun _ => T) (fun _ => []) ?_ ?_
 ·by_cases q : s.q < 0
  ·have q1 : IntKind.i64.wrap (s.q + 1) = s.q + 1 := wr _ (by omega) (by omega)
   have q2 : IntKind.i64.wrap (-(s.q + 1)) = -(s.q + 1) := wr _ (by omega) (by omega)
   repeat apply za
   refine zj (by simp [q]) ?_
   repeat apply za
   refine pwN [] (jn2 q1 q2) ?_
   intros
   exact zu (-(s.q + 1)) [] (by omega) (by simp) rfl (by simp)
  ·repeat apply za
   refine zi (by simp; omega) ?_
   refine zb ?_
   exact zu s.q [] (by omega) (by simp) rfl (by simp)
 intro y hy
 obtain ⟨d, hd'⟩ : ∃ d : Nat, z.tmod (n : Int) = d := ⟨(z.tmod n).toNat, by have := Int.tmod_nonneg (b := (n : Int)) (a := z) hz.1; omega⟩
 have hdn : d < n := by have := Int.tmod_lt_of_pos (a := z) (b := (n : Int)) (by omega); omega
 have wq : y.tmod 12 = y % 12 := Int.tmod_eq_emod_of_nonneg (by omega)
 have wq2 : IntKind.i64.wrap (1 + y % 12) = 1 + y % 12 := wr _ (by omega) (by omega)
 repeat apply za
 refine pwN [] (jn4 x0 hn hd' hn0) ?_
 intros
 (repeat apply za); refine pwn ?_; intros
 (repeat apply za); refine pwn ?_; intros
 repeat apply za
 refine yc (nx := nz) (σ := Bool) (fun t => t = decide ((d : Int) ∈ row.map (·.d))) (fun t => [(1, L l), (2, .ptr nx v0 0), (5, .sl (nx + 1) v1 1 0 m), (6, I i), (7, I c), (8, I d), (9, I y), (10, B t)]) (fun _ => T) (fun _ => []) ?_ ?_
 ·refine ze (zq (fun s : Nat × Bool => s.1 ≤ row.length ∧ s.2 = decide ((d : Int) ∈ (row.take s.1).map (·.d))) (fun (k, t) => [(1, L l), (2, .ptr nx v0 0), (5, .sl (nx + 1) v1 1 0 m), (6, I i), (7, I c), (8, I d), (9, I y), (10, B t), (11, I k)]) (fun _ => []) (fun s => row.length - s.1) (0, false) [] (by simp) (by simp) (by simp) ?_)
  rintro ⟨k, t⟩ ⟨hk, ht⟩
  simp only at hk ht ⊢
  repeat apply za
  refine pwN [] (jn3 xa hdr hcm) ?_
  intros
  repeat apply za
  refine zk rfl (fun hc2 => ?_) (fun hc2 => ?_)
  ·simp at hc2
   obtain ⟨u, tl3, b1, -, b3, -, f0⟩ := el 2 rfl row k hc2
   refine zb (za (ze ?_))
   have hstep : decide ((d : Int) ∈ (row.take (k + 1)).map (·.d)) = (t || decide (u.d = d)) := by
    rw [b3, ht, List.map_append]
    simp [eq_comm]
   cases t with
   | true =>
    repeat apply za
    refine pwN [(1, 69)] zr ?_
    intros
    (repeat apply za); refine pwn ?_; intros
    exact zh (k + 1, true) [] ⟨hc2, by rw [hstep]; rfl⟩ (by simp; omega) (by simp [wrN k (by omega)]) rfl (by simp)
   | false =>
    repeat apply za
    refine pwN [(1, 69)] (jn6 xa hdr hcm xr f0 hc2) ?_
    intros
    (repeat apply za); refine pwn ?_; intros
    exact zh (k + 1, decide (u.d = d)) [] ⟨hc2, by rw [hstep]; rfl⟩ (by simp; omega) (by simp [wrN k (by omega)]) rfl (by simp)
  ·simp at hc2
   obtain rfl : k = row.length := by omega
   rw [List.take_length] at ht
   exact zo (zu t [] ht (by simp) rfl (by simp))
 rintro t ht
 by_cases hin : (d : Int) ∈ row.map (·.d)
 ·rw [decide_eq_true hin] at ht
  subst ht
  (repeat apply za); refine pwn ?_; intros
  repeat apply za
  refine zi (by simp) ?_
  refine zb ?_
  (repeat apply za); refine pwn ?_; intros
  exact zh (i + 1, T, ws, v) [] ⟨h1, h2, hR, hV.more, hT0, hTS, hdT⟩ (by simp; omega) (by simp [wrN i (by omega)]) rfl (by simp)
 ·rw [decide_eq_false hin] at ht
  subst ht
  have g1 : ¬ nz ≤ nx + 2 + c := by omega
  have g2 : ¬ nz ≤ nx + 1 := by omega
  have ya := fun (o : Ob) obs => (zx (S := T.set (nx + 2 + c) o) (nx := nz) (obs := obs) (i := nx + 1) (by omega)).trans ((Store.set_other _ _ _ _ (by omega)).trans hR.arr)
  have hsp := YW (rwC (nx + 2) 2 ws v) c (.sl (nx + 2 + c) (ws c + 1) 2 0 (row.length + 1)) (by omega)
  (repeat apply za); refine pwn ?_; intros
  repeat apply za
  refine zj (by simp) ?_
  repeat apply za
  refine pwN [] (jn6 xa hdr hcm xr wq (jn6 wq2 g1 g2 ya hsp hcl)) ?_
  refine ⟨by omega, by omega, ?_⟩
  intros
  obtain ⟨T', hT'⟩ : ∃ T', T' = (T.set (nx + 2 + c) (.cells (ws c + 1) 103 ((row ++ [(⟨(d : Int), 1 + y % 12⟩ : Visit)]).flatMap Enc.enc))).set (nx + 1) (.cells v1 42 ((rwC (nx + 2) 2 ws v).set c (.sl (nx + 2 + c) (ws c + 1) 2 0 (row ++ [(⟨(d : Int), 1 + y % 12⟩ : Visit)]).length))) := ⟨_, rfl⟩
  have hnew := hR.turn (i := c) (by omega) (T' := T') (ws c + 1) (row ++ [(⟨(d : Int), 1 + y % 12⟩ : Visit)]) (by rw [hT']; exact Store.set_same _ _ _) (by rw [hT', Store.set_other _ _ _ _ (by omega), Store.set_same]) (fun o o1 o2 => by rw [hT', Store.set_other _ _ _ _ o1, Store.set_other _ _ _ _ o2])
  (repeat apply za); refine pwn ?_; intros
  refine zh (i + 1, T', _, v.set c (row ++ [(⟨(d : Int), 1 + y % 12⟩ : Visit)])) [] ⟨h1, h2, hnew, hV.put hrow _ ⟨by dsimp only; omega, by dsimp only; omega⟩ hin, ?_, fun o ho => ?_, fun o ho => ?_⟩ (by simp; omega) (by simp [wrN i (by omega)]) (by rw [hT']; simp) (by simp)
  ·dsimp only; rw [hT', Store.set_other _ _ _ _ (by omega), Store.set_other _ _ _ _ (by omega)]; exact hT0
  ·dsimp only; rw [hT', Store.set_other _ _ _ _ (by omega), Store.set_other _ _ _ _ (by omega)]; exact hTS o ho
  ·dsimp only; rw [hT', Store.set_other _ _ _ _ (by omega), Store.set_other _ _ _ _ (by omega)]; exact hdT o ho
open Go
set_option maxRecDepth 100000
theorem Zid (w : World) : xy Tryz.prog w 103 Visit VisitOk := by
 intro H enc fuel cs x h
 obtain ⟨hl, n, hf⟩ := Q8 Tryz.underlying103 h
 simp only [ZcO] at hl
 match cs, hl with
 | [a, b], _ =>
  obtain ⟨y0, h0⟩ := hf 0 _ rfl
  obtain ⟨y1, h1⟩ := hf 1 _ rfl
  simp at h0 h1
  obtain ⟨z0, k0, r0⟩ := jn Tryz.underlying3 H enc n _ _ h0
  obtain ⟨z1, k1, r1⟩ := jn Tryz.underlying3 H enc n _ _ h1
  exact ⟨⟨z0, z1⟩, ⟨k0, k1⟩, j7 (vs := [a]) (us := [b]) r0 r1⟩
theorem Zie (w : World) : xy Tryz.prog w 42 (List Visit) (fun l => l.length ≤ 9223372036854775807 ∧ ∀ s ∈ l, VisitOk s) :=
 Zo Tryz.underlying42 (by simp; rfl) (by decide) (Zid w)
open Go
def ZQ (c : Cust) (p : Nat) : List Visit := (qc p 0 64).map fun d => ⟨d, c.demand⟩
open Go
theorem Zbd {α : Type} (l : List α) : l = [] ∨ ∃ m x, l = m ++ [x] := by
 rcases List.eq_nil_or_concat l with h | ⟨m, x, h⟩
 ·exact .inl h
 ·exact .inr ⟨m, x, by rw [h, List.concat_eq_append]⟩
def uV (x : Inst) (d : Day) (s : Stop) (join : Bool) : Day :=
 match d.reverse with
 | t :: r => if join = true ∧ zp x (t ++ [s]) = 0 then r.reverse ++ [t ++ [s]] else d ++ [[s]]
 | [] => [[s]]
theorem Zbe (x : Inst) (s : Stop) (j : Bool) : uV x [] s j = [[s]] := rfl
theorem Zbf (x : Inst) (d : Day) (t : zn) (s : Stop) (j : Bool) : uV x (d ++ [t]) s j = if j = true ∧ zp x (t ++ [s]) = 0 then d ++ [t ++ [s]] else (d ++ [t]) ++ [[s]] := by simp [uV]
theorem Zbg (x : Inst) (d : Day) (s : Stop) (j : Bool) : (uV x d s j).flatten = d.flatten ++ [s] := by
 rcases Zbd d with rfl | ⟨d', t, rfl⟩
 ·simp [Zbe]
 ·rw [Zbf]; split <;> simp
theorem Zif (x : Inst) (d : Day) (s : Stop) (j : Bool) (h : ∀ t ∈ d, t ≠ []) : ∀ t ∈ uV x d s j, t ≠ [] := by
 rcases Zbd d with rfl | ⟨d', t, rfl⟩
 ·simp [Zbe]
 ·rw [Zbf]
  split
  ·intro u hu
   rcases List.mem_append.1 hu with hu | hu
   ·exact h u (by simp [hu])
   ·rw [List.mem_singleton.1 hu]; simp
  ·intro u hu
   rcases List.mem_append.1 hu with hu | hu
   ·exact h u hu
   ·rw [List.mem_singleton.1 hu]; simp
theorem Zig {α : Type} [Enc α] (h1 : Enc.sz α = 1) (l : List α) (k : Nat) (v : α) (h : k < l.length) : zH (l.flatMap Enc.enc) k (Enc.enc v) = (l.set k v).flatMap Enc.enc := by
 have e1 : (l.flatMap Enc.enc).take k = (l.take k).flatMap Enc.enc := by
  have := jM (α := α) Enc.enc (Enc.sz α) Enc.len l k; rwa [h1, Nat.mul_one] at this
 have e2 : (l.flatMap Enc.enc).drop (k + 1) = (l.drop (k + 1)).flatMap Enc.enc := by
  have := j6 (α := α) Enc.enc (Enc.sz α) Enc.len l (k + 1); rwa [h1, Nat.mul_one] at this
 rw [zH, Enc.len, h1, e1, e2, List.set_eq_take_append_cons_drop, if_pos h]
 simp
open Go Go.Proofs Hp
def RowOf (S : Store) (pl : PV) (l : List Int) : Prop := pl = L l ∨ ∃ id ver, pl = .sl id ver 1 0 l.length ∧ S id = .cells ver 3 (l.flatMap Enc.enc)
theorem RowOf.ext {S : Store} {pl : PV} {l : List Int} (h : RowOf S pl l) {nx : Nat} (hd : zF nx S) (obs : List Ob) : RowOf (ext S nx obs) pl l := by
 rcases h with h | ⟨id, ver, h1, h2⟩
 ·exact .inl h
 ·exact .inr ⟨id, ver, h1, (zx (yO hd h2 (by simp))).trans h2⟩
set_option maxRecDepth 20000 in
theorem Zbh {S : Store} {nx id ver : Nat} (hd : zF nx S) (x : Inst) (v p f pr : PV) (b : Int) (fn : FuncId) (fs : List PV) (n : Nat) (hn : x.days = n) (hn2 : n ≤ 1000) (hS : S id = .cells ver 87 (plL x v b p f pr)) (Pk : Nat → Store → Prop) (h0 : Pk 0 S)
  (hPd : ∀ k T, Pk k T → zF nx T) (hstep : ∀ k, k < n → ∀ T, Pk k T → Spec Tryz.prog fn (fs ++ [I k]) T (fun _ S' => Pk (k + 1) S')) :
  Spec Tryz.prog 47 [.ptr id ver 0, .fn (.func fn) fs []] S (fun _ S' => Pk n S') := by
 refine vM hd Tryz.func47 Tryz.ntmps47 Tryz.results47 ?_
 have hlt : id < nx := yO hd hS (by simp)
 have xw := fun obs => (zx (S := S) (obs := obs) hlt).trans hS
 repeat apply za
 refine pwN [] (jn2 xw hn) ?_
 intros
 repeat apply za
 refine ze (qS (σ := Nat × Store) (fun s => s.1 ≤ n ∧ Pk s.1 s.2) (fun s => [(1, .fn (.func fn) fs []), (9, I n), (10, I s.1)]) (fun s => s.2) (fun _ => []) (fun s => n - s.1) (zu (0, S) [] ⟨by simp, h0⟩ (by simp) rfl (by simp)) ?_)
 rintro ⟨k, T⟩ ⟨hk, hP⟩
 simp only at hk hP ⊢
 (repeat apply za); refine pwn ?_; intros
 repeat apply za
 refine zk rfl (fun hc => ?_) (fun hc => ?_)
 ·simp at hc
  refine zb (za (ze ?_))
  (repeat apply za); refine pwn ?_; intros
  repeat apply za
  refine zM [] (by rfl) (by rfl) fun K Gc Gh hK hGc hGh X hX0 hX => ?_
  simp -implicitDefEqProofs [hX0, hX]
  try clear hX0 hX X
  refine hGc _ _ _ _ _ _ _ fun hsuf => (Spec.mono (by rw [zY (hPd k T hP)]; simpa using hstep k hc T hP) ?_).v
  rintro _ T' hP'
  refine ⟨T', [], (zY (hPd _ _ hP')).symm, ?_⟩
  clear hGc hGh
  clear Gc Gh
  refine zK hsuf (D := []) (by rfl) fun Gc Gh hGc hGh X hX0 hX => ?_
  simp -implicitDefEqProofs [hX0, hX]
  clear hX0 hX X
  intros
  refine hK _ _ _ ?_
  clear hK hGc hGh
  clear K Gc Gh
  (repeat apply za); refine pwn ?_; intros
  exact zh (k + 1, T') [] ⟨hc, hP'⟩ (by simp; omega) (by simp [wrN k (by omega)]) rfl (by simp)
 ·simp at hc
  obtain rfl : k = n := by omega
  refine zo ?_
  exact ⟨_, T, rfl, hP, yg (hPd _ _ hP)⟩
def xS (x : Inst) (j : Nat) : Int := W (zB x [(j : Int)])
def y9 (x : Inst) (k i : Nat) : List (List Int) := (List.range x.cust.length).map fun j => List.replicate (if j < i then k + 1 else k) (xS x j)
theorem wE (x : Inst) (k i : Nat) : (y9 x k i).length = x.cust.length := by simp [y9]
theorem Zbi (x : Inst) (k i j : Nat) (h : j < x.cust.length) : (y9 x k i).getD j [] = List.replicate (if j < i then k + 1 else k) (xS x j) := by
 rw [List.getD_eq_getElem?_getD]; simp [y9, h]
theorem Zih (x : Inst) (k : Nat) : y9 x k x.cust.length = y9 x (k + 1) 0 := by
 unfold y9
 refine List.map_congr_left fun j hj => ?_
 rw [if_pos (List.mem_range.1 hj), if_neg (by omega)]
theorem Zii (x : Inst) (k i : Nat) (h : i < x.cust.length) : (y9 x k i).set i (List.replicate (k + 1) (xS x i)) = y9 x k (i + 1) := by
 apply List.ext_getElem?
 intro j
 rw [List.getElem?_set, wE]
 by_cases hij : i = j
 ·subst hij; rw [if_pos rfl, if_pos h]; simp [y9, h]
 ·rw [if_neg hij]
  by_cases hj : j < x.cust.length
  ·simp only [y9, List.getElem?_map, List.getElem?_range hj, Option.map_some]
   congr 2
   by_cases h1 : j < i
   ·rw [if_pos h1, if_pos (by omega)]
   ·rw [if_neg h1, if_neg (by omega)]
  ·rw [List.getElem?_eq_none (by rw [wE]; omega), List.getElem?_eq_none (by rw [wE]; omega)]
set_option maxRecDepth 20000 in
theorem Zij {S : Store} {id ver A va base : Nat} {ws : Nat → Nat} {x : Inst} {v p f : PV} {b : Int} (k : Nat) (hx : x.cust.length ≤ 1000) (hk : k ≤ 1000) (hid : id < base) (hidA : id ≠ A) (hS : S id = .cells ver 87 (plL x v b p f (.sl A va 1 0 x.cust.length)))
  (hR : RowsAt S A va 54 base 3 1 ws (y9 x k 0)) :
  Spec Tryz.prog 48 [.ptr id ver 0, I k] S (fun _ S' => (∃ ws', RowsAt S' A va 54 base 3 1 ws' (y9 x (k + 1) 0)) ∧ ∀ o, o ≠ A → (o < base ∨ base + x.cust.length ≤ o) → S' o = S o) := by
 refine jm Tryz.func48 Tryz.ntmps48 Tryz.results48 fun nx hd => ?_
 have hlt : id < nx := yO hd hS (by simp)
 have hltA : A < nx := yO hd hR.arr (by simp)
 have hltR : ∀ i, i < x.cust.length → base + i < nx := fun i hi => yO hd (hR.row i (by rw [wE]; exact hi)) (by simp)
 have xw := fun obs => (zx (S := S) (obs := obs) hlt).trans hS
 repeat apply za
 refine pwN [] xw ?_
 intros
 repeat apply za
 refine ze (qS (σ := Nat × Store × (Nat → Nat)) (fun s => s.1 ≤ x.cust.length ∧ RowsAt s.2.1 A va 54 base 3 1 s.2.2 (y9 x k s.1) ∧ ∀ o, o ≠ A → (o < base ∨ base + x.cust.length ≤ o) → s.2.1 o = S o)
  (fun s => [(0, .ptr id ver 0), (10, I x.cust.length), (11, I s.1)]) (fun s => s.2.1) (fun _ => []) (fun s => x.cust.length - s.1) (zu (0, S, ws) [] ⟨by simp, hR, fun _ _ _ => rfl⟩ (by simp) rfl (by simp)) ?_)
 clear hR
 rintro ⟨i, T, ws⟩ ⟨hi, hR, hT⟩
 simp only at hi hR hT ⊢
 (repeat apply za); refine pwn ?_; intros
 repeat apply za
 refine zk rfl (fun hc => ?_) (fun hc => ?_)
 ·simp at hc
  have hTw : T id = .cells ver 87 (plL x v b p f (.sl A va 1 0 x.cust.length)) := (hT id hidA (.inl hid)).trans hS
  have hAb := hR.out
  have hri := hR.row i (by rw [wE]; exact hc)
  rw [Zbi x k i i hc, if_neg (Nat.lt_irrefl i)] at hri
  have hlti := hltR i hc
  have xw := fun obs => (zx (S := T) (obs := obs) hlt).trans hTw
  have xa := fun obs => (zx (S := T) (obs := obs) hltA).trans hR.arr
  have xr := fun obs => (zx (S := T) (obs := obs) hlti).trans hri
  have ya := fun (o : Ob) obs => (zx (S := T.set (base + i) o) (obs := obs) hltA).trans ((Store.set_other _ _ _ _ (by omega)).trans hR.arr)
  have yw := fun (o : Ob) obs => (zx (S := T.set (base + i) o) (obs := obs) hlt).trans ((Store.set_other _ _ _ _ (by omega)).trans hTw)
  have zw := fun (o o' : Ob) obs => (zx (S := (T.set (base + i) o).set A o') (obs := obs) hlt).trans ((Store.set_other _ _ _ _ hidA).trans ((Store.set_other _ _ _ _ (by omega)).trans hTw))
  have g1 : ¬ nx ≤ base + i := by omega
  have g2 : ¬ nx ≤ A := by omega
  obtain ⟨tl, hdr⟩ := Qr base 1 ws (y9 x k i) i (by rw [wE]; exact hc)
  rw [Zbi x k i i hc, if_neg (Nat.lt_irrefl i), List.length_replicate] at hdr
  have hcl : (rwC base 1 ws (y9 x k i)).length = x.cust.length := by rw [wR, wE]
  have hsp := YW (rwC base 1 ws (y9 x k i)) i (.sl (base + i) (ws i + 1) 1 0 (k + 1)) (by omega)
  have hway := WB x [(i : Int)] (by simp) (fun c hc => by rw [List.mem_singleton.1 hc]; unfold small; omega)
  have hfe : ∀ m : Nat, ((List.replicate m (xS x i)).flatMap Enc.enc).length = m := fun m => by rw [qX]; simp [Enc.sz]
  refine zb (za (ze ?_))
  (repeat apply za); refine pwn ?_; intros
  repeat apply za
  refine pwY (some [id]) (Row.pures [0, 1, 2, 3, 4, 5, 6, 7, 8, 9, 10, 12, 13, 14, 15, 16, 17, 18, 19] (.alt 11 (.alt 20 (Row.pures [21] (.alt 22 (.done) .stop)) .stop) .stop)) mixed (jn6 xw xa xr ya yw (jn2 (jn6 zw hdr g1 g2 hsp hcl) hc)) ?_
  refine pwP (hway) (jn6 xw xa xr ya yw (jn2 (jn6 zw hdr g1 g2 hsp hcl) hc)) ?_
  refine ⟨by omega, by omega, ?_⟩
  intros
  obtain ⟨T', hT'⟩ : ∃ T', T' = (T.set (base + i) (.cells (ws i + 1) 3 ((List.replicate (k + 1) (xS x i)).flatMap Enc.enc))).set A (.cells va 54 ((rwC base 1 ws (y9 x k i)).set i (.sl (base + i) (ws i + 1) 1 0 (List.replicate (k + 1) (xS x i)).length))) := ⟨_, rfl⟩
  have hnew := hR.turn (i := i) (by rw [wE]; exact hc) (T' := T') (ws i + 1) (List.replicate (k + 1) (xS x i)) (by rw [hT']; exact Store.set_same _ _ _) (by rw [hT', Store.set_other _ _ _ _ (by omega), Store.set_same]) (fun o o1 o2 => by rw [hT', Store.set_other _ _ _ _ o1, Store.set_other _ _ _ _ o2])
  rw [Zii x k i hc] at hnew
  (repeat apply za); refine pwn ?_; intros
  refine zh (i + 1, T', _) [] ⟨hc, hnew, fun o ho hob => ?_⟩ (by simp; omega) (by simp [wrN i (by omega)]) ?_ (by simp)
  ·dsimp only; rw [hT', Store.set_other _ _ _ _ ho, Store.set_other _ _ _ _ (by omega)]; exact hT o ho hob
  ·dsimp only; rw [hT']
   have htk : ((List.replicate k (xS x i)).flatMap Enc.enc).take k = (List.replicate k (xS x i)).flatMap Enc.enc := List.take_of_length_le (by rw [hfe]; exact Nat.le_refl _)
   simp only [List.length_replicate, List.replicate_succ', List.flatMap_append]
   unfold xS at htk
   simp [xS, htk]
 ·simp at hc
  obtain rfl : i = x.cust.length := by omega
  rw [Zih] at hR
  refine zo ?_
  have hdT : zF nx T := fun o ho => by
   have h1 : o ≠ A := by omega
   by_cases h2 : o < base ∨ base + x.cust.length ≤ o
   ·rw [hT o h1 h2]; exact hd o ho
   ·have := hltR (o - base) (by omega); omega
  exact ⟨_, T, rfl, ⟨⟨ws, hR⟩, hT⟩, yg hdT⟩
def wF (k : Nat) (l : List Int) : List Int := l.set k (W (W (2 * l.getD k 0) + 1))
def jJ (pr : List (List Int)) (k i : Nat) : List (List Int) := (List.range pr.length).map fun j => if j < i then wF k (pr.getD j []) else pr.getD j []
def uW (fs : List Int) (pr : List (List Int)) (k : Nat) : List (List Int) := if fs.getD k 0 = 14 then pr.map (wF k) else pr
def uX (fs : List Int) (pr : List (List Int)) : Nat → List (List Int)
 | 0 => pr
 | k + 1 => uW fs (uX fs pr k) k
theorem Zbj (k : Nat) (l : List Int) : (wF k l).length = l.length := by simp [wF]
theorem vu (pr : List (List Int)) (k i : Nat) : (jJ pr k i).length = pr.length := by simp [jJ]
theorem Xn (pr : List (List Int)) (k i j : Nat) (h : j < pr.length) : (jJ pr k i).getD j [] = if j < i then wF k (pr.getD j []) else pr.getD j [] := by
 rw [List.getD_eq_getElem?_getD, jJ]; simp [h]
theorem Zik (pr : List (List Int)) (k : Nat) : jJ pr k 0 = pr := by
 apply List.ext_getElem?
 intro j
 simp only [jJ, Nat.not_lt_zero, if_false, List.getElem?_map]
 by_cases h : j < pr.length
 ·rw [List.getElem?_range h]; simp [h]
 ·rw [List.getElem?_eq_none (by simp; omega), List.getElem?_eq_none (by omega)]; rfl
theorem Zil (pr : List (List Int)) (k : Nat) : jJ pr k pr.length = pr.map (wF k) := by
 apply List.ext_getElem?
 intro j
 simp only [jJ, List.getElem?_map]
 by_cases h : j < pr.length
 ·rw [List.getElem?_range h]; simp [h]
 ·rw [List.getElem?_eq_none (by simp; omega), List.getElem?_eq_none (by omega)]; rfl
theorem Zim (pr : List (List Int)) (k i : Nat) (h : i < pr.length) : (jJ pr k i).set i (wF k (pr.getD i [])) = jJ pr k (i + 1) := by
 apply List.ext_getElem?
 intro j
 rw [List.getElem?_set, vu]
 by_cases hij : i = j
 ·subst hij; rw [if_pos rfl, if_pos h]; simp [jJ, h]
 ·rw [if_neg hij]
  by_cases hj : j < pr.length
  ·simp only [jJ, List.getElem?_map, List.getElem?_range hj, Option.map_some]
   congr 1
   by_cases h1 : j < i
   ·rw [if_pos h1, if_pos (by omega)]
   ·rw [if_neg h1, if_neg (by omega)]
  ·rw [List.getElem?_eq_none (by rw [vu]; omega), List.getElem?_eq_none (by rw [vu]; omega)]
def wS (m n : Nat) (pr : List (List Int)) : Prop := pr.length = m ∧ ∀ l ∈ pr, l.length = n ∧ ∀ z ∈ l, I64 z
theorem Zbk (x : Int) : I64 (W x) := by
 have key : ∀ m : Int, 0 ≤ m → m < 2 ^ 64 → I64 (if (true && decide (m ≥ 2 ^ (64 - 1))) = true then m - 2 ^ 64 else m) := by
  intro m h1 h2
  unfold I64
  by_cases h : m ≥ 2 ^ (64 - 1)
  ·simp [h]; omega
  ·simp [h]; omega
 exact key _ (Int.emod_nonneg x (by decide)) (Int.emod_lt_of_pos x (by decide))
theorem Zin {m n : Nat} {pr : List (List Int)} (fs : List Int) (k : Nat) (h : wS m n pr) : wS m n (uW fs pr k) := by
 unfold uW
 split
 ·refine ⟨by simp [h.1], fun l hl => ?_⟩
  obtain ⟨l', hl', rfl⟩ := List.mem_map.1 hl
  rw [Zbj]
  refine ⟨(h.2 l' hl').1, fun z hz => ?_⟩
  rcases List.mem_or_eq_of_mem_set hz with hz | rfl
  ·exact (h.2 l' hl').2 z hz
  ·exact Zbk _
 ·exact h
theorem Qu {m n : Nat} {pr : List (List Int)} (fs : List Int) (h : wS m n pr) : ∀ k, wS m n (uX fs pr k)
 | 0 => h
 | k + 1 => Zin fs k (Qu fs h k)
theorem Zio (x : Inst) (n : Nat) : wS x.cust.length n (y9 x n 0) := by
 refine ⟨wE x n 0, fun l hl => ?_⟩
 obtain ⟨j, _, rfl⟩ := List.mem_map.1 hl
 refine ⟨by simp, fun z hz => ?_⟩
 rw [(List.mem_replicate.1 hz).2]; exact Zbk _
set_option maxRecDepth 20000 in
theorem Zip {S : Store} {id ver A va base idF vF : Nat} {ws : Nat → Nat} {x : Inst} {v p : PV} {b : Int} {m n : Nat} {pr : List (List Int)} {fs : List Int} (k : Nat) (hm : m ≤ 1000) (hn : n ≤ 1000) (hkn : k < n) (hid : id < base) (hidA : id ≠ A) (hF : S idF = .cells vF 30 (fs.flatMap Enc.enc)) (hfl : fs.length = n)
  (hS : S id = .cells ver 87 (plL x v b p (.sl idF vF 1 0 fs.length) (.sl A va 1 0 m))) (hP : wS m n pr) (hR : RowsAt S A va 54 base 3 1 ws pr) :
  Spec Tryz.prog 53 [.ptr id ver 0, I k] S (fun _ S' => RowsAt S' A va 54 base 3 1 ws (uW fs pr k) ∧ ∀ o, (o < base ∨ base + m ≤ o) → S' o = S o) := by
 obtain ⟨hPl, hPr⟩ := hP
 refine jm Tryz.func53 Tryz.ntmps53 Tryz.results53 fun nx hd => ?_
 have hlt : id < nx := yO hd hS (by simp)
 have hltF : idF < nx := yO hd hF (by simp)
 have hltA : A < nx := yO hd hR.arr (by simp)
 have hltR : ∀ i, i < m → base + i < nx := fun i hi => yO hd (hR.row i (by omega)) (by simp)
 have xw := fun obs => (zx (S := S) (obs := obs) hlt).trans hS
 have xf := fun obs => (zx (S := S) (obs := obs) hltF).trans hF
 obtain ⟨e, tl0, e1, -, -, e0⟩ := el1 rfl fs k (by omega)
 have hkf : k < fs.length := by omega
 have hge : fs.getD k 0 = e := by rw [List.getD_eq_getElem?_getD, e1]; rfl
 repeat apply za
 refine pwN [] (jn4 xw xf e0 hkf) ?_
 intros
 by_cases he : e = 14
 case neg =>
  repeat apply za
  refine zj (by simp [he]) ?_
  repeat apply za
  exact zd ⟨_, S, rfl, ⟨by unfold uW; rw [hge, if_neg he]; exact hR, fun _ _ => rfl⟩, yg hd⟩
 repeat apply za
 refine zi (by simp [he]) ?_
 refine zb ?_
 repeat apply za
 refine pwN [] xw ?_
 intros
 have hkill : ∀ T : Store, (∀ o, (o < base ∨ base + m ≤ o) → T o = S o) → zF nx T := fun T hT o ho => by
  by_cases h2 : o < base ∨ base + m ≤ o
  ·rw [hT o h2]; exact hd o ho
  ·have := hltR (o - base) (by omega); omega
 repeat apply za
 refine ze (qS (σ := Nat × Store) (fun s => s.1 ≤ m ∧ RowsAt s.2 A va 54 base 3 1 ws (jJ pr k s.1) ∧ ∀ o, (o < base ∨ base + m ≤ o) → s.2 o = S o)
  (fun s => [(0, .ptr id ver 0), (1, I k), (17, I m), (18, I s.1)]) (fun s => s.2) (fun _ => []) (fun s => m - s.1) (zu (0, S) [] ⟨by simp, by simpa only [Zik] using hR, fun _ _ => rfl⟩ (by simp) rfl (by simp)) ?_)
 have hAb0 := hR.out
 clear hR
 rintro ⟨i, T⟩ ⟨hi, hR, hT⟩
 simp only at hi hR hT ⊢
 (repeat apply za); refine pwn ?_; intros
 repeat apply za
 refine zk rfl (fun hc => ?_) (fun hc => ?_)
 ·simp at hc
  have hil : i < pr.length := by omega
  have hTw : T id = .cells ver 87 (plL x v b p (.sl idF vF 1 0 fs.length) (.sl A va 1 0 m)) := (hT id (.inl hid)).trans hS
  have hri := hR.row i (by rw [vu]; exact hil)
  rw [Xn pr k i i hil, if_neg (Nat.lt_irrefl i)] at hri
  obtain ⟨tl, hdr⟩ := Qr base 1 ws (jJ pr k i) i (by rw [vu]; exact hil)
  rw [Xn pr k i i hil, if_neg (Nat.lt_irrefl i)] at hdr
  have hcl : (rwC base 1 ws (jJ pr k i)).length = m := by rw [wR, vu, hPl]
  have hgl : (pr.getD i []).length = n := by
   rw [List.getD_eq_getElem?_getD, List.getElem?_eq_getElem hil]; exact (hPr _ (List.getElem_mem hil)).1
  generalize hrow : pr.getD i [] = row at hri hdr hgl
  obtain ⟨z, tl2, z1, -, -, z0⟩ := el1 rfl row k (by omega)
  have hgz : row.getD k 0 = z := by rw [List.getD_eq_getElem?_getD, z1]; rfl
  have hkr : k < row.length := by omega
  have hlti := hltR i hc
  have xw := fun obs => (zx (S := T) (obs := obs) hlt).trans hTw
  have xa := fun obs => (zx (S := T) (obs := obs) hltA).trans hR.arr
  have xr := fun obs => (zx (S := T) (obs := obs) hlti).trans hri
  have yw := fun (o : Ob) obs => (zx (S := T.set (base + i) o) (obs := obs) hlt).trans ((Store.set_other _ _ _ _ (by omega)).trans hTw)
  have ya := fun (o : Ob) obs => (zx (S := T.set (base + i) o) (obs := obs) hltA).trans ((Store.set_other _ _ _ _ (by omega)).trans hR.arr)
  have g1 : ¬ nx ≤ base + i := by omega
  have hsp := Zig (α := Int) rfl row k (W (W (2 * z) + 1)) hkr
  have hsp' : zH (row.flatMap Enc.enc) k [I (W (W (2 * z) + 1))] = (row.set k (W (W (2 * z) + 1))).flatMap Enc.enc := by simpa using hsp
  have hrl : (row.flatMap Enc.enc).length = n := by rw [qX, hgl]; simp [Enc.sz]
  refine zb (za (ze ?_))
  (repeat apply za); refine pwn ?_; intros
  repeat apply za
  refine pwY (some [id, A]) (Row.pures [0, 1, 2, 3, 4, 5, 6, 7, 8, 9, 10, 11, 12, 13, 15] (.alt 14 (Row.pures [16] (.alt 17 (Row.pures [18, 19, 20] (.alt 21 (.done) .stop)) .stop)) .stop)) mixed (jn6 xw xa xr yw ya (jn2 (jn6 hdr g1 hcl hc z0 hkr) (jn4 hsp' hrl hgl hkn))) ?_
  refine ⟨by omega, ?_⟩
  intros
  obtain ⟨T', hT'⟩ : ∃ T', T' = T.set (base + i) (.cells (ws i) 3 ((wF k row).flatMap Enc.enc)) := ⟨_, rfl⟩
  have hnew := hR.turn (i := i) (by rw [vu]; exact hil) (T' := T') (ws i) (wF k row) (by
   rw [hT', Store.set_other _ _ _ _ (by omega), hR.arr]
   congr 1
   refine (List.ext_getElem? fun j => ?_).symm
   rw [List.getElem?_set]
   split
   ·rename_i hij
    subst hij
    rw [if_pos (by omega), uT _ _ _ _ _ (by rw [vu]; exact hil), Xn pr k i i hil, if_neg (Nat.lt_irrefl i), hrow, Zbj]
   ·rfl) (by rw [hT']; exact Store.set_same _ _ _) (fun o o1 o2 => by rw [hT']; exact Store.set_other _ _ _ _ o2)
  have hws : (fun k => if k = i then ws i else ws k) = ws := by funext j; split <;> simp_all
  rw [hws, ← hrow, Zim pr k i hil] at hnew
  (repeat apply za); refine pwn ?_; intros
  refine zh (i + 1, T') [] ⟨hc, hnew, fun o hob => ?_⟩ (by simp; omega) (by simp [wrN i (by omega)]) ?_ (by simp)
  ·dsimp only; rw [hT', Store.set_other _ _ _ _ (by omega)]; exact hT o hob
  ·dsimp only; rw [hT']
   simp only [wF, hgz]
 ·simp at hc
  obtain rfl : i = m := by omega
  rw [← hPl, Zil] at hR
  refine zo ?_
  exact ⟨_, T, rfl, ⟨by unfold uW; rw [hge, if_pos he]; exact hR, hT⟩, yg (hkill T hT)⟩
def wT (e : Int) : Bool := decide (e ≠ 0) && decide (e ≠ 14)
set_option maxRecDepth 20000 in
theorem Ziq (e : Int) : Pure Tryz.prog 52 [I e] (B (wT e)) := by
 unfold wT
 refine pwe Tryz.func52 Tryz.ntmps52 Tryz.results52 fun S nx hd => ?_
 (repeat apply za); refine pwn ?_; intros
 by_cases h1 : e = 0
 ·repeat apply za
  refine pwN [(2, 5)] (jn2 h1 zr) ?_
  intros
  repeat apply za
  exact zd (zg hd rfl (by simp [zl, h1]))
 ·by_cases h2 : e = 14
  ·repeat apply za
   refine pwN [(2, 5)] (jn3 h1 h2 zr) ?_
   intros
   repeat apply za
   exact zd (zg hd rfl (by simp [zl, h2]))
  ·repeat apply za
   refine pwN [(2, 5)] (jn3 h1 h2 zr) ?_
   intros
   repeat apply za
   exact zd (zg hd rfl (by simp [zl, h1, h2]))
set_option maxRecDepth 20000 in
theorem Zir {S : Store} {idF vF : Nat} (fs : List Int) (hF : S idF = .cells vF 30 (fs.flatMap Enc.enc)) (hl : fs.length ≤ 1000) :
  Spec Tryz.prog 91 [.sl idF vF 1 0 fs.length, .fn (.func 52) [] []] S (fun q S' => (∃ z : Int, q = I z ∧ (fs.any wT = decide (0 ≤ z))) ∧ S' = S) := by
 refine jm Tryz.func91 Tryz.ntmps91 Tryz.results91 fun nx hd => ?_
 have hltF : idF < nx := yO hd hF (by simp)
 have xf := fun obs => (zx (S := S) (obs := obs) hltF).trans hF
 (repeat apply za); refine pwn ?_; intros
 (repeat apply za); refine pwn ?_; intros
 repeat apply za
 refine ze (zq (fun k : Nat => k ≤ fs.length ∧ ∀ e ∈ fs.take k, wT e = false) (fun k => [(0, .sl idF vF 1 0 fs.length), (1, .fn (.func 52) [] []), (7, I fs.length), (8, I k)]) (fun _ => []) (fun k => fs.length - k) 0 [] (by simp) (by simp) (by simp) ?_)
 rintro k ⟨hk, h0⟩
 (repeat apply za); refine pwn ?_; intros
 repeat apply za
 refine zk rfl (fun hc => ?_) (fun hc => ?_)
 ·simp at hc
  obtain ⟨e, tl, a1, a2, a3, e0⟩ := el1 rfl fs k hc
  refine zb (za (ze ?_))
  (repeat apply za); refine pwn ?_; intros
  repeat apply za
  refine pwN [] (jn3 xf e0 hc) ?_
  refine pwc (Ziq e) ?_
  intros
  cases hb : wT e with
  | true =>
   repeat apply za
   refine zj rfl ?_
   (repeat apply za); refine pwn ?_; intros
   repeat apply za
   exact zd ⟨_, S, rfl, ⟨⟨k, by simp [zl], by rw [List.any_eq_true.2 ⟨e, List.mem_of_getElem? a1, hb⟩]; simp⟩, rfl⟩, yg hd⟩
  | false =>
   repeat apply za
   refine zi rfl ?_
   refine zb ?_
   (repeat apply za); refine pwn ?_; intros
   exact zh (k + 1) [] ⟨hc, fun y hy => by rw [a3] at hy; rcases List.mem_append.1 hy with h | h; exact h0 y h; rw [List.mem_singleton.1 h]; exact hb⟩ (by omega) (by simp [wrN k (by omega)]) rfl (by simp)
 ·simp at hc
  obtain rfl : k = fs.length := by omega
  rw [List.take_length] at h0
  refine zo ?_
  (repeat apply za); refine pwn ?_; intros
  repeat apply za
  exact zd ⟨_, S, rfl, ⟨⟨-1, by simp [zl], by rw [List.any_eq_false.2 fun e he => by rw [h0 e he]; simp]; rfl⟩, rfl⟩, yg hd⟩
set_option maxRecDepth 20000 in
theorem Zis {S : Store} {idF vF : Nat} (fs : List Int) (hF : S idF = .cells vF 30 (fs.flatMap Enc.enc)) (hl : fs.length ≤ 1000) :
  Spec Tryz.prog 51 [.sl idF vF 1 0 fs.length, .fn (.func 52) [] []] S (fun q S' => q = B (fs.any wT) ∧ S' = S) := by
 refine jm Tryz.func51 Tryz.ntmps51 Tryz.results51 fun nx hd => ?_
 have hltF : idF < nx := yO hd hF (by simp)
 (repeat apply za); refine pwn ?_; intros
 repeat apply za
 refine zM [] (by rfl) (by rfl) fun K Gc Gh hK hGc hGh X hX0 hX => ?_
 simp -implicitDefEqProofs [hX0, hX]
 try clear hX0 hX X
 refine hGc _ _ _ _ _ _ _ fun hsuf => ((Zir fs ((zx hltF).trans hF) hl).mono ?_).v
 rintro _ _ ⟨⟨z, rfl, hz⟩, rfl⟩
 refine ⟨_, _, rfl, ?_⟩
 clear hGc hGh
 clear Gc Gh
 refine zK hsuf (D := []) (by rfl) fun Gc Gh hGc hGh X hX0 hX => ?_
 simp -implicitDefEqProofs [hX0, hX]
 clear hX0 hX X
 intros
 refine hK _ _ _ ?_
 clear hK hGc hGh
 clear K Gc Gh
 repeat apply za
 exact zd ⟨_, S, rfl, ⟨by simp [zl, hz], rfl⟩, yg hd⟩
def xT (x : Inst) (sol : Cust → List Int → List Visit × Bool) (pr : List (List Int)) (k : Nat) : List (List Visit × Bool) := (List.range k).map fun i => sol (x.cust.getD i default) (pr.getD i [])
def qy (x : Inst) (sol : Cust → List Int → List Visit × Bool) (pr : List (List Int)) : List (List Visit) × Int := if (xT x sol pr x.cust.length).all (·.2) = true then ((xT x sol pr x.cust.length).map (·.1), 0) else ([], 15)
theorem Zit (x : Inst) (sol : Cust → List Int → List Visit × Bool) (pr : List (List Int)) (k : Nat) : xT x sol pr (k + 1) = xT x sol pr k ++ [sol (x.cust.getD k default) (pr.getD k [])] := by simp [xT, List.range_succ]
theorem Ziu (x : Inst) (sol : Cust → List Int → List Visit × Bool) (pr : List (List Int)) {k m : Nat} (h : k < m) : sol (x.cust.getD k default) (pr.getD k []) ∈ xT x sol pr m := List.mem_map.2 ⟨k, List.mem_range.2 h, rfl⟩
def Xo (x : Inst) (n : Nat) (sol : Cust → List Int → List Visit × Bool) : Prop :=
 ∀ c ∈ x.cust, ∀ (l : List Int), l.length = n → (∀ z ∈ l, I64 z) → ∀ (S : Store) (pl : PV), RowOf S pl l → Spec Tryz.prog 88 [.agg (jO c), I x.days, I x.cap, pl] S (fun q S' => q = .tup [L (sol c l).1, B (sol c l).2] ∧ S' = S)
set_option maxRecDepth 20000 in
theorem Ziv {S : Store} {A va base : Nat} {ws : Nat → Nat} {x : Inst} {n : Nat} {pr : List (List Int)} {sol : Cust → List Int → List Visit × Bool} (hx : x.cust.length ≤ 1000) (hP : wS x.cust.length n pr) (hR : RowsAt S A va 54 base 3 1 ws pr) (hs : Xo x n sol) :
  Spec Tryz.prog 49 [.agg (zm x), .sl A va 1 0 x.cust.length] S (fun q S' => q = .tup [L (qy x sol pr).1, I (qy x sol pr).2] ∧ S' = S) := by
 obtain ⟨hPl, hPr⟩ := hP
 refine jm Tryz.func49 Tryz.ntmps49 Tryz.results49 fun nx hd => ?_
 have hltA : A < nx := yO hd hR.arr (by simp)
 have xa := fun obs => (zx (S := S) (obs := obs) hltA).trans hR.arr
 repeat apply za
 refine pwn ?_
 intro v0
 (repeat apply za); refine pwn ?_; intros
 refine za (qm 6 42 1 rfl fun v1 => ?_)
 (repeat apply za); refine pwn ?_; intros
 repeat apply za
 refine ze (zq (fun s : Nat × List (List Visit) × Nat => s.1 ≤ x.cust.length ∧ s.2.1 = (xT x sol pr s.1).map (·.1) ∧ (xT x sol pr s.1).all (·.2) = true) (fun (i, out, w) => [(1, .sl A va 1 0 x.cust.length), (2, .ptr nx v0 0), (4, .sc (.slice none 0 0)), (6, .sl (nx + 1) w 1 0 out.length), (13, L x.cust), (14, I x.cust.length), (15, I i)]) (fun (i, out, w) => [.cells v0 25 (zm x), .cells w 42 (out.flatMap Enc.enc)]) (fun s => x.cust.length - s.1) (0, [], v1) [] (by simp [xT]) (by simp) (by simp) ?_)
 rintro ⟨i, out, w⟩ ⟨hi, ho, hall⟩
 simp only at hi ho hall ⊢
 have hol : out.length = i := by rw [ho]; simp [xT]
 (repeat apply za); refine pwn ?_; intros
 repeat apply za
 refine zk rfl (fun hc => ?_) (fun hc => ?_)
 ·simp at hc
  obtain ⟨c, tl, a1, a2, a3, e1, e0⟩ := el 8 rfl x.cust i hc
  have hcm := List.mem_of_getElem? a1
  have hgc : x.cust.getD i default = c := by rw [List.getD_eq_getElem?_getD, a1]; rfl
  have hil : i < pr.length := by omega
  obtain ⟨tl2, hdr⟩ := Qr base 1 ws pr i hil
  obtain ⟨hgl, hgi⟩ : (pr.getD i []).length = n ∧ ∀ z ∈ pr.getD i [], I64 z := by
   rw [List.getD_eq_getElem?_getD, List.getElem?_eq_getElem hil]; exact hPr _ (List.getElem_mem hil)
  have hrow : RowOf S (.sl (base + i) (ws i) 1 0 (pr.getD i []).length) (pr.getD i []) := .inr ⟨_, _, rfl, hR.row i hil⟩
  have hsol := hs c hcm (pr.getD i []) hgl hgi
  have hch := Zit x sol pr i
  have hcm2 := Ziu x sol pr (k := i) hc
  rw [hgc] at hch hcm2
  generalize pr.getD i [] = row at hdr hgl hgi hrow hsol hch hcm2
  generalize hr : sol c row = r at hsol hch hcm2
  obtain ⟨vv, ok⟩ := r
  simp only at hsol hch
  refine zb (za (ze ?_))
  repeat apply za
  refine pwN [] (jn2 e0 hc) ?_
  intro v2
  (repeat apply za); refine pwn ?_; intros
  (repeat apply za); refine pwn ?_; intros
  repeat apply za
  refine zj (by simp [hc]) ?_
  repeat apply za
  refine pwN [] (jn3 xa hdr hc) ?_
  intros
  repeat apply za
  refine zM [] (by rfl) (by rfl) fun K Gc Gh hK hGc hGh X hX0 hX => ?_
  simp -implicitDefEqProofs [hX0, hX]
  try clear hX0 hX X
  refine hGc _ _ _ _ _ _ _ fun hsuf => ((hsol _ _ (hrow.ext hd _)).mono ?_).v
  rintro _ _ ⟨rfl, rfl⟩
  refine ⟨_, _, rfl, ?_⟩
  clear hGc hGh
  clear Gc Gh
  refine zK hsuf (D := []) (by rfl) fun Gc Gh hGc hGh X hX0 hX => ?_
  simp -implicitDefEqProofs [hX0, hX]
  clear hX0 hX X
  intros
  refine hK _ _ _ ?_
  clear hK hGc hGh
  clear K Gc Gh
  (repeat apply za); refine pwn ?_; intros
  cases ok with
  | false =>
   have hno : qy x sol pr = ([], 15) := by
    unfold qy
    rw [if_neg]
    intro q
    have := List.all_eq_true.1 q _ hcm2
    cases this
   rw [hno]
   repeat apply za
   refine zj rfl ?_
   (repeat apply za); refine pwn ?_; intros
   refine Yu 4 rfl ?_
   repeat apply za
   exact zd ⟨_, S, rfl, ⟨by simp [zl], rfl⟩, yg hd⟩
  | true =>
   repeat apply za
   refine zi rfl ?_
   refine zb ?_
   repeat apply za
   refine pwn ?_
   refine ⟨by omega, ?_⟩
   intros
   (repeat apply za); refine pwn ?_; intros
   exact zh (i + 1, out ++ [vv], w + 1) [_] ⟨hc, by rw [hch, List.map_append, ho]; rfl, by rw [hch, List.all_append, hall]; rfl⟩ (by simp; omega) (by simp [wrN i (by omega)]) rfl (by simp; rfl)
 ·simp at hc
  obtain rfl : i = x.cust.length := by omega
  have hyes : qy x sol pr = (out, 0) := by unfold qy; rw [if_pos hall, ← ho]
  rw [hyes]
  refine zo ?_
  refine zC 1 rfl ?_
  (repeat apply za); refine pwn ?_; intros
  repeat apply za
  exact zd ⟨_, S, (by simp; rfl), ⟨by simp [zl], rfl⟩, yg hd⟩
open Go Go.Proofs Hp
section
variable {P : Program} {r : Rd} {n N : Nat} {Q : Exit → (Nat → PV) → Store → Prop} {F : Nat → PV} {c : Code}
theorem Ziw {S : Store} {nx : Nat} {obs : List Ob} (j : Nat) {ver e : Nat} {cs : List PV} (hj : obs[j]? = some (.cells ver e cs)) {id v e2 : Nat} {ds : List PV} (hlt : id < nx) (hs : S id = .cells v e2 ds)
  (h : PW P r n N c Q F (ext (S.set id (.cells v e2 (ds.map (zI (nx + j) ver cs)))) nx (obs.set j .dead))) : PW P r n N c Q F (ext S nx obs) := by
 have hjl : j < obs.length := (List.getElem?_eq_some_iff.1 hj).1
 refine Xl (id := nx + j) (ver := ver) (e := e) (cs := cs) (G := F) (by rw [yM, List.getD_eq_getElem?_getD, hj]; rfl) (by rw [yM, List.getD_eq_getElem?_getD, List.getElem?_set_self hjl]; rfl) (fun o => ?_) (fun _ => .inl rfl) h
 by_cases ho : o < nx
 ·rw [zx ho, zx ho]
  by_cases hoi : o = id
  ·subst hoi; rw [Store.set_same, hs]; exact .inr (.inr rfl)
  ·rw [Store.set_other _ _ _ _ hoi]; exact .inr (.inl rfl)
 ·simp only [ext]
  rw [if_neg ho, if_neg ho, List.getD_eq_getElem?_getD, List.getD_eq_getElem?_getD, List.getElem?_set]
  split
  ·simp [hjl]
  ·exact .inr (.inl rfl)
theorem Qv {S T : Store} {nx nz : Nat} {obs : List Ob} (hd : zF nx S) (hle : nx ≤ nz) (h : ∀ o, o < nx → T o = S o) (o : Nat) : S o = ext T nz obs o ∨ S o = .dead := by
 by_cases ho : o < nx
 ·rw [zx (by omega), h o ho]; exact .inl rfl
 ·exact .inr (hd o (by omega))
end
def vw (x : Inst) (sol : Cust → List Int → List Visit × Bool) (b : Int) (n : Nat) : Nat → List (List Int) → jP × Int
 | 0, _ => ([], 15)
 | k + 1, pr =>
  if (qy x sol pr).2 ≠ 0 then ([], 15)
  else if jH (z8 x (qy x sol pr).1 b n) = 0 then (qe x (qy x sol pr).1 b n, 0)
  else if (z8 x (qy x sol pr).1 b n).any wT = true then ([], 15)
  else vw x sol b n k (uX (z8 x (qy x sol pr).1 b n) pr n)
def ZR (x : Inst) (sol : Cust → List Int → List Visit × Bool) (b : Int) (n : Nat) : jP × Int := vw x sol b n 8 (y9 x n 0)
def Zbl (x : Inst) (n : Nat) (sol : Cust → List Int → List Visit × Bool) : Prop := ∀ pr, wS x.cust.length n pr → (qy x sol pr).2 = 0 → VsOk x.cust.length n (qy x sol pr).1
set_option maxHeartbeats 3200000 in
theorem Zix {x : Inst} {sol : Cust → List Int → List Visit × Bool} {b : Int} {n : Nat} (hx : InstH x) (hn : x.days = n) (hn2 : n ≤ 1000) (hs : Xo x n sol) (hv : Zbl x n sol) (hb : b ≤ 9223372036854775807) :
  Pure Tryz.prog 13 [.agg (zm x), I b] (.tup [.agg [L (ZR x sol b n).1], I (ZR x sol b n).2]) := by
 have hm := hx.cust
 unfold ZR
 have hPo := Zio x n
 refine pwe Tryz.func13 Tryz.ntmps13 Tryz.results13 fun S nx hd => ?_
 repeat apply za
 refine pwn ?_
 intro v0 v1
 repeat apply za
 refine pwY (some [nx]) (Row.pures [0, 1, 2, 3, 4] (.alt 5 (Row.pures [6] (.alt 7 (Row.pures [8] .done) .stop)) .stop)) mixed trivial ?_
 refine ⟨by omega, ?_⟩
 intro v2 v3
 intros
 rw [Zbc]
 refine Za0 (α := Int) (nx + 2) v2 54 (nx + 4) 3 1 x.cust.length (by simp) (qi (obs := [_, _, _, _])) fun T ws hR hT hdT => ?_
 have hT0 : T nx = .cells v0 25 (zm x) := by rw [hT nx (by omega) (by omega)]; simp
 have hT1 : T (nx + 1) = .cells v1 29 [.sc (.slice none 0 0)] := by rw [hT (nx + 1) (by omega) (by omega)]; simp
 have hT3 : T (nx + 3) = .cells v3 87 (plL x (.sc (.slice none 0 0)) b (.sc (.slice none 0 0)) (.sc (.slice none 0 0)) (.sl (nx + 2) v2 1 0 x.cust.length)) := by rw [hT (nx + 3) (by omega) (by omega)]; simp
 have hTS : ∀ o, o < nx → T o = S o := fun o ho => by rw [hT o (by omega) (by omega), zx ho]
 clear hT
 obtain ⟨nz, hnz⟩ : ∃ nz, nz = nx + 4 + x.cust.length := ⟨_, rfl⟩
 rw [← hnz] at hdT
 rw [show List.replicate x.cust.length ([] : List Int) = y9 x 0 0 from (List.ext_getElem? fun j => by
  by_cases h : j < x.cust.length
  ·simp [y9, h]
  ·rw [List.getElem?_eq_none (by simp; omega), List.getElem?_eq_none (by rw [wE]; omega)])] at hR
 rw [← zY hdT]
 repeat apply za
 refine zM [] (by rfl) (by rfl) fun K Gc Gh hK hGc hGh X hX0 hX => ?_
 simp -implicitDefEqProofs [hX0, hX]
 try clear hX0 hX X
 refine hGc _ _ _ _ _ _ _ fun hsuf => (Spec.mono (Zbh (nx := nz) (by rw [zY hdT]; exact hdT) x _ _ _ _ _ _ _ n hn hn2 (by rw [zY hdT]; exact hT3)
  (fun k T' => (∃ ws', RowsAt T' (nx + 2) v2 54 (nx + 4) 3 1 ws' (y9 x k 0)) ∧ (∀ o, o ≠ nx + 2 → (o < nx + 4 ∨ nx + 4 + x.cust.length ≤ o) → T' o = T o)) ⟨⟨ws, by rw [zY hdT]; exact hR⟩, fun o _ _ => by rw [zY hdT]⟩
  (fun k T' h o ho => by rw [h.2 o (by omega) (.inr (by omega))]; exact hdT o ho) (fun k hk T' h => ?_)) ?_).v
 ·obtain ⟨⟨ws', h1⟩, h2⟩ := h
  refine (Zij k hm (by omega) (by omega) (by omega) ((h2 (nx + 3) (by omega) (.inl (by omega))).trans hT3) h1).mono ?_
  rintro _ T2 ⟨g1, g2⟩
  exact ⟨g1, fun o o1 o2 => (g2 o o1 o2).trans (h2 o o1 o2)⟩
 rintro _ T' ⟨⟨ws', hR'⟩, hT'⟩
 have hdT' : zF nz T' := fun o ho => by rw [hT' o (by omega) (.inr (by omega))]; exact hdT o ho
 refine ⟨T', [], (zY hdT').symm, ?_⟩
 clear hGc hGh
 clear Gc Gh
 refine zK hsuf (D := []) (by rfl) fun Gc Gh hGc hGh X hX0 hX => ?_
 simp -implicitDefEqProofs [hX0, hX]
 clear hX0 hX X
 intros
 refine hK _ _ _ ?_
 clear hK hGc hGh
 clear K Gc Gh
 replace hT0 := (hT' nx (by omega) (.inl (by omega))).trans hT0
 replace hT1 := (hT' (nx + 1) (by omega) (.inl (by omega))).trans hT1
 replace hT3 := (hT' (nx + 3) (by omega) (.inl (by omega))).trans hT3
 replace hTS : ∀ o, o < nx → T' o = S o := fun o ho => (hT' o (by omega) (.inl (by omega))).trans (hTS o ho)
 clear hT' hR hdT
 generalize y9 x n 0 = pr0 at *
 (repeat apply za); refine pwn ?_; intros
 repeat apply za
 refine ze (qS (σ := Nat × Store × List (List Int)) (fun s => s.1 ≤ 8 ∧ wS x.cust.length n s.2.2 ∧ vw x sol b n 8 pr0 = vw x sol b n (8 - s.1) s.2.2 ∧ (∃ ws', RowsAt s.2.1 (nx + 2) v2 54 (nx + 4) 3 1 ws' s.2.2) ∧ s.2.1 nx = .cells v0 25 (zm x) ∧ s.2.1 (nx + 1) = .cells v1 29 [.sc (.slice none 0 0)] ∧
  (∃ vP pP fP, s.2.1 (nx + 3) = .cells v3 87 (plL x vP b pP fP (.sl (nx + 2) v2 1 0 x.cust.length))) ∧ (∀ o, o < nx → s.2.1 o = S o) ∧ zF nz s.2.1)
  (fun s => [(2, .ptr nx v0 0), (4, .ptr (nx + 1) v1 0), (6, .ptr (nx + 3) v3 0), (21, I s.1)]) (fun s => s.2.1) (fun _ => []) (fun s => 8 - s.1) (zu (0, T', pr0) [] ⟨by simp, hPo, rfl, ⟨ws', hR'⟩, hT0, hT1, ⟨_, _, _, hT3⟩, hTS, hdT'⟩ (by simp) rfl (by simp)) ?_)
 clear hR' hT0 hT1 hT3 hTS hdT' hPo T'
 rintro ⟨k, T, pr⟩ ⟨hk, hP, hst, ⟨ws, hR⟩, hT0, hT1, ⟨vP, pP, fP, hT3⟩, hTS, hdT⟩
 simp only at hk hP hst hR hT0 hT1 hT3 hTS hdT ⊢
 have x0 := fun obs => (zx (S := T) (nx := nz) (obs := obs) (i := nx) (by omega)).trans hT0
 have x3 := fun obs => (zx (S := T) (nx := nz) (obs := obs) (i := nx + 3) (by omega)).trans hT3
 have g1 : ¬ nz ≤ nx + 1 := by omega
 have x1 := fun obs => (zx (S := T) (nx := nz) (obs := obs) (i := nx + 1) (by omega)).trans hT1
 (repeat apply za); refine pwn ?_; intros
 repeat apply za
 refine zk rfl (fun hc => ?_) (fun hc => ?_)
 ·simp at hc
  rw [show 8 - k = (7 - k) + 1 from by omega] at hst
  have hvs := hv pr hP
  have hch := Ziv (S := T) hm hP hR hs
  rw [show vw x sol b n (7 - k + 1) pr = (if (qy x sol pr).2 ≠ 0 then ([], 15) else if jH (z8 x (qy x sol pr).1 b n) = 0 then (qe x (qy x sol pr).1 b n, 0) else if (z8 x (qy x sol pr).1 b n).any wT = true then ([], 15) else vw x sol b n (7 - k) (uX (z8 x (qy x sol pr).1 b n) pr n)) from rfl] at hst
  generalize qy x sol pr = cz at hst hvs hch
  obtain ⟨v, e⟩ := cz
  simp only at hst hvs hch
  refine zb (za (ze ?_))
  repeat apply za
  refine xH none (Row.pures [0, 1, 2, 3, 4] (.alt 5 (Row.pures [6, 7, 8, 9, 10] .done) .stop)) mixed (by rfl) (by rfl) (by rfl) fun K Gp Gc Gh hK hGp hGc hGh X hX0 hX1 hX2 hX => ?_
  simp -implicitDefEqProofs [hX0, hX1, hX2, hX, x0, x3]
  try clear hX0 hX1 hX2 hX X
  refine hGc _ _ _ _ _ _ _ (Spec.mono (by rw [zY hdT]; exact hch) ?_).v
  rintro _ S2 ⟨rfl, hS2⟩
  have hS3 : S2 = ext T nz [] := hS2.trans (zY hdT).symm
  subst hS3
  clear hS2
  refine ⟨by simp [zV], ?_⟩
  clear hGp hGc hGh
  clear Gp Gc Gh
  refine qQ fun Gp Gc Gh hGp hGc hGh X hX0 hX1 hX2 hX => ?_
  simp -implicitDefEqProofs [hX0, hX1, hX2, hX]
  try clear hX0 hX1 hX2 hX X
  refine hK _ _ _ ?_
  clear hK hGp hGc hGh
  clear K Gp Gc Gh
  (repeat apply za); refine pwn ?_; intros
  by_cases he : e = 0
  case neg =>
   rw [if_pos he] at hst
   rw [hst]
   repeat apply za
   refine zj (by simp [he]) ?_
   repeat apply za
   refine pwN [] (jn3 x0 x1 g1) ?_
   intros
   show PW _ _ _ _ _ _ _ (ext _ _ _)
   refine YV (o := nx + 1) 0 (by rw [zx (by omega)]; first | exact Store.set_same _ _ _ | exact hT1) rfl ?_
   rw [xF _ (by omega)]
   try rw [Store.set_set]
   repeat apply za
   refine zd ⟨_, S, (by simp [zx (show nx + 1 < nz from by omega), Store.set_same]; rfl), ⟨by simp [zl], rfl⟩, ?_⟩
   exact Qv hd (by omega) fun o ho => by rw [Store.set_other _ _ _ _ (by omega)]; exact hTS o ho
  rw [if_neg (by simpa using he)] at hst
  have hvs := hvs he
  repeat apply za
  refine zi (by simp [he]) ?_
  refine zb ?_
  repeat apply za
  refine zM [] (by rfl) (by rfl) fun K Gc Gh hK hGc hGh X hX0 hX => ?_
  simp -implicitDefEqProofs [hX0, hX]
  try clear hX0 hX X
  refine hGc _ _ _ _ _ _ _ fun hsuf => (Spec.mono (Zbb (nx := nz) (n := n) (by rw [zY hdT]; exact hdT) (by rw [zY hdT]; exact hT3) hx hn hn2 hvs hb) ?_).v
  rintro _ _ ⟨rfl, vD, vF, rfl⟩
  rw [zY hdT]
  refine ⟨_, _, rfl, ?_⟩
  clear hGc hGh
  clear Gc Gh
  refine zK hsuf (D := []) (by rfl) fun Gc Gh hGc hGh X hX0 hX => ?_
  simp -implicitDefEqProofs [hX0, hX]
  clear hX0 hX X
  intros
  refine hK _ _ _ ?_
  clear hK hGc hGh
  clear K Gc Gh
  have hfl := ZaU x v b n
  have hpl := ZN x v b n
  generalize z8 x v b n = fs at *
  generalize qe x v b n = pl at *
  by_cases hf : jH fs = 0
  ·rw [if_pos hf] at hst
   rw [hst]
   repeat apply za
   refine zj (by simp [hf]) ?_
   show PW _ _ _ _ _ _ _ (ext _ _ _)
   refine Ziw 0 (id := nx + 3) rfl (by omega) (Store.set_same _ _ _) ?_
   rw [Store.set_set]
   have hfz : ([I x.days, I x.veh, I x.cap, I x.len, L x.cust, L x.dist, L v, I b, .sl nz vD 1 0 pl.length, .sl (nz + 1) vF 1 0 fs.length, .sl (nx + 2) v2 1 0 x.cust.length] : List PV).map (zI (nz + 0) vD (pl.flatMap Enc.enc)) = plL x (L v) b (L pl) (.sl (nz + 1) vF 1 0 fs.length) (.sl (nx + 2) v2 1 0 x.cust.length) := by
    simp [zI]
    omega
   rw [hfz]
   have y3 := fun (o : Ob) obs => (zx (S := T.set (nx + 3) o) (nx := nz) (obs := obs) (i := nx + 3) (by omega)).trans (Store.set_same _ _ _)
   have y1 := fun (o : Ob) obs => (zx (S := T.set (nx + 3) o) (nx := nz) (obs := obs) (i := nx + 1) (by omega)).trans ((Store.set_other _ _ _ _ (by omega)).trans hT1)
   repeat apply za
   refine pwN [] (jn3 y3 y1 g1) ?_
   intros
   repeat apply za
   refine zd ⟨_, S, (by simp [zx (show nx + 1 < nz from by omega), Store.set_same]; rfl), ⟨by simp [zl], rfl⟩, ?_⟩
   exact Qv hd (by omega) fun o ho => by rw [Store.set_other _ _ _ _ (by omega), Store.set_other _ _ _ _ (by omega)]; exact hTS o ho
  rw [if_neg hf] at hst
  repeat apply za
  refine zi (by simp [hf]) ?_
  refine zb ?_
  have y3 := fun (o : Ob) obs => (zx (S := T.set (nx + 3) o) (nx := nz) (obs := obs) (i := nx + 3) (by omega)).trans (Store.set_same _ _ _)
  have y1 := fun (o : Ob) obs => (zx (S := T.set (nx + 3) o) (nx := nz) (obs := obs) (i := nx + 1) (by omega)).trans ((Store.set_other _ _ _ _ (by omega)).trans hT1)
  repeat apply za
  refine zM [] (by rfl) (by rfl) fun K Gc Gh hK hGc hGh X hX0 hX => ?_
  simp -implicitDefEqProofs [hX0, hX, y3]
  try clear hX0 hX X
  refine hGc _ _ _ _ _ _ _ fun hsuf => ((Zis (idF := nz + 1) (vF := vF) fs (by rw [yM]; rfl) (by omega)).mono ?_).v
  rintro _ _ ⟨rfl, rfl⟩
  refine ⟨_, _, rfl, ?_⟩
  clear hGc hGh
  clear Gc Gh
  refine zK hsuf (D := []) (by rfl) fun Gc Gh hGc hGh X hX0 hX => ?_
  simp -implicitDefEqProofs [hX0, hX]
  clear hX0 hX X
  intros
  refine hK _ _ _ ?_
  clear hK hGc hGh
  clear K Gc Gh
  cases hbad : fs.any wT with
  | true =>
   rw [if_pos hbad] at hst
   rw [hst]
   repeat apply za
   refine zj rfl ?_
   repeat apply za
   refine pwN [] (jn2 y1 g1) ?_
   intros
   show PW _ _ _ _ _ _ _ (ext _ _ _)
   refine YV (o := nx + 1) 0 (by rw [zx (by omega)]; first | exact Store.set_same _ _ _ | exact (Store.set_other _ _ _ _ (by omega)).trans hT1) rfl ?_
   rw [xF _ (by omega)]
   try rw [Store.set_set]
   repeat apply za
   refine zd ⟨_, S, (by simp [zx (show nx + 1 < nz from by omega), Store.set_same]; rfl), ⟨by simp [zl], rfl⟩, ?_⟩
   exact Qv hd (by omega) fun o ho => by rw [Store.set_other _ _ _ _ (by omega), Store.set_other _ _ _ _ (by omega)]; exact hTS o ho
  | false =>
   rw [if_neg (by rw [hbad]; decide)] at hst
   repeat apply za
   refine zi rfl ?_
   refine zb ?_
   generalize hT2 : ext (T.set (nx + 3) (.cells v3 87 (plL x (L v) b (.sl nz vD 1 0 pl.length) (.sl (nz + 1) vF 1 0 fs.length) (.sl (nx + 2) v2 1 0 x.cust.length)))) nz [.cells vD 66 (pl.flatMap Enc.enc), .cells vF 30 (fs.flatMap Enc.enc)] = T2
   have q3 : T2 (nx + 3) = .cells v3 87 (plL x (L v) b (.sl nz vD 1 0 pl.length) (.sl (nz + 1) vF 1 0 fs.length) (.sl (nx + 2) v2 1 0 x.cust.length)) := by rw [← hT2, zx (by omega), Store.set_same]
   have qF : T2 (nz + 1) = .cells vF 30 (fs.flatMap Enc.enc) := by rw [← hT2, yM]; rfl
   have qo : ∀ o, o < nz → o ≠ nx + 3 → T2 o = T o := fun o h1 h2 => by rw [← hT2, zx h1, Store.set_other _ _ _ _ h2]
   have qd : zF (nz + 2) T2 := by rw [← hT2]; exact qi (obs := [_, _])
   have qR : RowsAt T2 (nx + 2) v2 54 (nx + 4) 3 1 ws pr := hR.other fun o ho => by
    rw [hP.1] at ho
    exact qo o (by omega) (by omega)
   clear hT2
   rw [← zY qd]
   repeat apply za
   refine zM [] (by rfl) (by rfl) fun K Gc Gh hK hGc hGh X hX0 hX => ?_
   simp -implicitDefEqProofs [hX0, hX]
   try clear hX0 hX X
   refine hGc _ _ _ _ _ _ _ fun hsuf => (Spec.mono (Zbh (nx := nz + 2) (by rw [zY qd]; exact qd) x _ _ _ _ _ _ _ n hn hn2 (by rw [zY qd]; exact q3)
    (fun k T' => RowsAt T' (nx + 2) v2 54 (nx + 4) 3 1 ws (uX fs pr k) ∧ (∀ o, (o < nx + 4 ∨ nx + 4 + x.cust.length ≤ o) → T' o = T2 o)) ⟨by rw [zY qd]; exact qR, fun o _ => by rw [zY qd]⟩
    (fun k T' h o ho => by rw [h.2 o (.inr (by omega))]; exact qd o ho) (fun j hj T' h => ?_)) ?_).v
   ·obtain ⟨h1, h2⟩ := h
    refine (Zip (n := n) j hm hn2 hj (by omega) (by omega) ((h2 (nz + 1) (.inr (by omega))).trans qF) hfl ((h2 (nx + 3) (.inl (by omega))).trans q3) (Qu fs hP j) h1).mono ?_
    rintro _ T3 ⟨r1, r2⟩
    exact ⟨r1, fun o o1 => (r2 o o1).trans (h2 o o1)⟩
   rintro _ T3 ⟨hR3, hT3'⟩
   have hd3 : zF (nz + 2) T3 := fun o ho => by rw [hT3' o (.inr (by omega))]; exact qd o ho
   refine ⟨T3, [], (zY hd3).symm, ?_⟩
   clear hGc hGh
   clear Gc Gh
   refine zK hsuf (D := []) (by rfl) fun Gc Gh hGc hGh X hX0 hX => ?_
   simp -implicitDefEqProofs [hX0, hX]
   clear hX0 hX X
   intros
   refine hK _ _ _ ?_
   clear hK hGc hGh
   clear K Gc Gh
   rw [zY hd3]
   refine QY (T' := fun o => if o < nz then T3 o else .dead) (fun o => by by_cases ho : o < nz <;> simp [ho]) ?_
   generalize hT4 : (fun o => if o < nz then T3 o else Ob.dead) = T4
   have q4 : ∀ o, o < nz → T4 o = T3 o := fun o ho => by rw [← hT4]; simp [ho]
   have qd4 : zF nz T4 := fun o ho => by rw [← hT4]; simp; omega
   clear hT4
   rw [← zY qd4]
   (repeat apply za); refine pwn ?_; intros
   refine zh (k + 1, T4, uX fs pr n) [] ⟨by dsimp only; omega, Qu fs hP n, by rw [hst, show 8 - (k + 1) = 7 - k from by omega], ⟨ws, hR3.other fun o ho => q4 o (by rw [(Qu fs hP n).1] at ho; omega)⟩, ?_, ?_, ⟨L v, .sl nz vD 1 0 pl.length, .sl (nz + 1) vF 1 0 fs.length, ?_⟩, fun o ho => ?_, qd4⟩ (by simp; omega) (by simp [wrN k (by omega)]) rfl (by simp)
   ·dsimp only; rw [q4 _ (by omega), hT3' _ (.inl (by omega)), qo _ (by omega) (by omega)]; exact hT0
   ·dsimp only; rw [q4 _ (by omega), hT3' _ (.inl (by omega)), qo _ (by omega) (by omega)]; exact hT1
   ·dsimp only; rw [q4 _ (by omega), hT3' _ (.inl (by omega))]; exact q3
   ·dsimp only; rw [q4 _ (by omega), hT3' _ (.inl (by omega)), qo _ (by omega) (by omega)]; exact hTS o ho
 ·simp at hc
  obtain rfl : k = 8 := by omega
  rw [hst]
  refine zo ?_
  repeat apply za
  refine pwN [] (jn2 x1 g1) ?_
  intros
  show PW _ _ _ _ _ _ _ (ext _ _ _)
  refine YV (o := nx + 1) 0 (by rw [zx (by omega)]; first | exact Store.set_same _ _ _ | exact hT1) rfl ?_
  rw [xF _ (by omega)]
  try rw [Store.set_set]
  repeat apply za
  refine zd ⟨_, S, (by simp [zx (show nx + 1 < nz from by omega), Store.set_same]; rfl), ⟨by simp [zl, vw], rfl⟩, ?_⟩
  exact Qv hd (by omega) fun o ho => by rw [Store.set_other _ _ _ _ (by omega)]; exact hTS o ho
open Go
structure MadeP (m : Nat) (n : Nat) (p : jP) : Prop where
 len : p.length = n
 ne : ∀ d ∈ p, ∀ t ∈ d, t ≠ []
 ok : ∀ d ∈ p, ∀ s ∈ d.flatten, (0 ≤ s.c ∧ s.c < m) ∧ 1 ≤ s.q ∧ s.q ≤ 2147483648
 nd : ∀ d ∈ p, (d.flatten.map (·.c)).Nodup
theorem MadeP.set {m n : Nat} {p : jP} (h : MadeP m n p) {k : Nat} {d : Day} (hd : p[k]? = some d) (x : Inst) (s : Stop) (j : Bool) (hs : (0 ≤ s.c ∧ s.c < m) ∧ 1 ≤ s.q ∧ s.q ≤ 2147483648) (hno : ∀ u ∈ d.flatten, u.c ≠ s.c) : MadeP m n (p.set k (uV x d s j)) := by
 have hdm := List.mem_of_getElem? hd
 refine ⟨by simp [h.len], fun e he t ht => ?_, fun e he u hu => ?_, fun e he => ?_⟩
 ·rcases List.mem_or_eq_of_mem_set he with he | rfl
  ·exact h.ne e he t ht
  ·exact Zif x d s j (h.ne d hdm) t ht
 ·rcases List.mem_or_eq_of_mem_set he with he | rfl
  ·exact h.ok e he u hu
  ·rw [Zbg] at hu
   rcases List.mem_append.1 hu with hu | hu
   ·exact h.ok d hdm u hu
   ·rw [List.mem_singleton.1 hu]; exact hs
 ·rcases List.mem_or_eq_of_mem_set he with he | rfl
  ·exact h.nd e he
  ·rw [Zbg, List.map_append]
   exact uA _ _ (h.nd d hdm) (fun hm => by obtain ⟨u, hu, e⟩ := List.mem_map.1 hm; exact hno u hu e)
open Go
def lx : Inst := ⟨1, 1, 9, 9, [], [[0]]⟩
def ly : Inst := ⟨1, 1, 9, 9, [⟨1, 1, [1], 0, 0, 0, 0, 0⟩], [[0, 3], [4, 0]]⟩
def lp : jP := [[]]
open Go
theorem Ziy {p a k : Nat} {d : Int} (h : d ∈ qc p a k) : ∃ i : Nat, d = i ∧ i < k ∧ qA p i = 1 := by
 simp only [qc, List.mem_map, List.mem_filter, List.mem_range, Bool.and_eq_true, decide_eq_true_eq] at h
 obtain ⟨i, ⟨h1, _, h3⟩, rfl⟩ := h
 exact ⟨i, rfl, h1, h3⟩
theorem Ziz (x : Inst) : 1 ≤ (qK x).days ∧ (qK x).days ≤ 7 := uv x.days 1 7 (by omega)
end Go.Proofs.YtaiplainginmaaaGreat.Pv
