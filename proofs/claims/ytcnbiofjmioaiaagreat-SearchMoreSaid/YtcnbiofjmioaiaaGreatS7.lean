/- Part of a proof, packed. -/
import Derived.Test.YtcnbiofjmioaiaaGreatS6
set_option maxRecDepth 100000
set_option maxHeartbeats 3200000
namespace Go.Proofs.YtcnbiofjmioaiaaGreat.Pv
open Go Go.Proofs Hp
def vY : Cust := ⟨1, 1, [1], 0, 0, 0, 0, 0⟩
def yv : Inst := ⟨1, 1, 9, 9, [vY], [[0, 3], [4, 0]]⟩
theorem Zak : InstH yv := by
 refine ⟨by decide, by decide, ZcZ fun row hr d hd => ?_, by decide⟩
 simp only [yv, List.mem_cons, List.not_mem_nil, or_false] at hr
 rcases hr with rfl | rfl <;> simp only [List.mem_cons, List.not_mem_nil, or_false] at hd <;> rcases hd with rfl | rfl <;> decide
theorem Ze0 (l : List Int) : we vY 9 l = ([⟨0, 1⟩], true) := by
 have h1 : jL vY 9 = [1] := by decide
 have h2 : jK vY 1 = [⟨0, 1⟩] := by decide
 unfold we
 rw [h1]
 have h3 : (qJ l [1] 1).1 = 0 := by
  unfold qJ
  rw [if_pos (.inl (by simp [qJ]))]; rfl
 simp only [List.length_cons, List.length_nil, Nat.zero_add, h3]
 rw [if_neg (by decide)]
 show (jK vY 1, true) = _
 rw [h2]
theorem Znx : VsOk 1 1 [[⟨0, 1⟩]] := by
 refine ⟨rfl, fun l hl w hw => ?_, fun l hl => ?_, fun l hl => ?_⟩
 ·simp at hl; subst hl; simp at hw; subst hw; decide
 ·simp at hl; subst hl; simp
 ·simp at hl; subst hl; simp
theorem Ze1 {d : zi} {s : Stop} (h : d.flatten.Perm [s]) (hn : ∀ t ∈ d, t ≠ []) : d = [[s]] := by
 have h1 : d.flatten = [s] := List.perm_singleton.1 h
 match d, h1, hn with
 | [], h1, _ => simp at h1
 | [t], h1, _ => simpa using h1
 | t :: u :: r, h1, hn =>
  exfalso
  have a := hn t (by simp)
  have b := hn u (by simp)
  have := congrArg List.length h1
  simp only [List.flatten_cons, List.length_append, List.length_cons, List.length_nil] at this
  have := List.length_pos_iff.2 a
  have := List.length_pos_iff.2 b
  omega
theorem Zny {x : Inst} {s : Stop} (h : SOk x [s]) (h0 : arc x 0 0 = 0) (hf : jD x [s] = 0) (hv : 1 ≤ x.veh) (b : Int) : qP x b [s] = ([[s]], 0) := by
 have he : (qP x b [s]).2 = 0 := by
  apply Classical.byContradiction
  intro hne
  rcases (Zli h b hne).2 with q | q
  ·exact q hf
  ·simp at q; omega
 obtain ⟨-, h2, h3, -⟩ := Xv h h0 b he
 have := Ze1 h3 (Xn h2)
 exact Prod.ext this he
open Go Go.Proofs Hp
theorem Znz {x : Inst} (hx : InstH x) {v : List (List Visit)} {n : Nat} (hv : VsOk x.cust.length n v) (b : Int) : ∀ d ∈ jf x v b n, DayOk d ∧ d.length ≤ 1000 ∧ d.flatten.length ≤ 1000 := by
 intro d hd
 obtain ⟨r, hr, rfl⟩ := List.mem_map.1 hd
 obtain ⟨k, -, rfl⟩ := List.mem_map.1 hr
 exact Zlh (Y7 hx hv k) hx.diag b
open Go Go.Proofs Hp
structure SuitsP (c : Cust) (n : Nat) (cap : Int) (v : List Visit) : Prop where
 cap : ∀ w ∈ v, w.q ≤ cap
 per : c.kind = 1 → ∃ p ∈ c.pats, v = jK c p
 tank : c.kind ≠ 1 → v = yn 0 (zT v n) ∧ x5 c (zT v n) = 0
open Go Go.Proofs Hp
theorem Ze2 {x : Inst} {sol : Cust → List Int → List Visit × Bool} {b : Int} {n : Nat} : ∀ (k : Nat) (pr : List (List Int)), vp x.cust.length n pr → (vr x sol b n k pr).2 = 0 → ∃ pr', vp x.cust.length n pr' ∧ (qa x sol pr').2 = 0 ∧ jU (qC x (qa x sol pr').1 b n) = 0 ∧ (vr x sol b n k pr).1 = jf x (qa x sol pr').1 b n
 | 0, _, _, h => by simp [vr] at h
 | k + 1, pr, hp, h => by
  unfold vr at h ⊢
  by_cases h1 : (qa x sol pr).2 ≠ 0
  ·rw [if_pos h1] at h; cases h
  rw [if_neg h1] at h ⊢
  by_cases h2 : jU (qC x (qa x sol pr).1 b n) = 0
  ·rw [if_pos h2] at h ⊢
   exact ⟨pr, hp, by simpa using h1, h2, rfl⟩
  rw [if_neg h2] at h ⊢
  by_cases h3 : (qC x (qa x sol pr).1 b n).any uB = true
  ·rw [if_pos h3] at h; cases h
  rw [if_neg h3] at h ⊢
  exact Ze2 k _ (Ja _ hp n) h
def xc (v : List Visit) : Prop := (v.map (·.d)).Pairwise (· < ·)
theorem Ze3 : ∀ (v : List Visit), xc v → ∀ k : Nat, (v.filter fun w => decide (w.d < ((k + 1 : Nat) : Int))) = (v.filter fun w => decide (w.d < (k : Int))) ++ (v.filter fun w => decide (w.d = (k : Int)))
 | [], _, _ => rfl
 | w :: v, h, k => by
  have h' : xc v := by unfold xc at h ⊢; rw [List.map_cons, List.pairwise_cons] at h; exact h.2
  have h1 : ∀ u ∈ v, w.d < u.d := by
   unfold xc at h; rw [List.map_cons, List.pairwise_cons] at h
   exact fun u hu => h.1 _ (List.mem_map_of_mem hu)
  have ih := Ze3 v h' k
  by_cases c1 : w.d < (k : Int)
  ·have c2 : w.d < ((k + 1 : Nat) : Int) := by omega
   have c3 : ¬ w.d = (k : Int) := by omega
   rw [List.filter_cons_of_pos (by simpa using c2), List.filter_cons_of_pos (by simpa using c1), List.filter_cons_of_neg (by simpa using c3), ih]
   rfl
  ·have e0 : (v.filter fun w => decide (w.d < (k : Int))) = [] := by
    rw [List.filter_eq_nil_iff]; intro u hu; have := h1 u hu; simp; omega
   rw [e0] at ih
   by_cases c3 : w.d = (k : Int)
   ·have c2 : w.d < ((k + 1 : Nat) : Int) := by omega
    rw [List.filter_cons_of_pos (by simpa using c2), List.filter_cons_of_neg (by simpa using c1), List.filter_cons_of_pos (by simpa using c3), ih, e0]
    rfl
   ·have c2 : ¬ w.d < ((k + 1 : Nat) : Int) := by omega
    rw [List.filter_cons_of_neg (by simpa using c2), List.filter_cons_of_neg (by simpa using c1), List.filter_cons_of_neg (by simpa using c3), ih, e0]
theorem Ze4 {v : List Visit} (h : xc v) (h0 : ∀ w ∈ v, 0 ≤ w.d) : ∀ k : Nat, (List.range k).flatMap (fun d : Nat => v.filter fun w => decide (w.d = (d : Int))) = v.filter fun w => decide (w.d < (k : Int))
 | 0 => by
  symm
  rw [List.range_zero, List.flatMap_nil, List.filter_eq_nil_iff]; intro u hu; have := h0 u hu; simp; omega
 | k + 1 => by rw [List.range_succ, List.flatMap_append, Ze4 h h0 k, Ze3 v h k]; simp
theorem Ze5 {v : List Visit} {n : Nat} (h : xc v) (h0 : ∀ w ∈ v, 0 ≤ w.d ∧ w.d < n) : (List.range n).flatMap (fun d : Nat => v.filter fun w => decide (w.d = (d : Int))) = v := by
 rw [Ze4 h fun w hw => (h0 w hw).1]
 rw [List.filter_eq_self]; intro w hw; simpa using (h0 w hw).2
theorem Ze6 {v : List Visit} (h : xc v) (d : Int) : (v.filter fun w => decide (w.d = d)) = [] ∨ ∃ w, w.d = d ∧ (v.filter fun w => decide (w.d = d)) = [w] := by
 have h1 := Zd0 (l := v) (h.imp fun h => Int.ne_of_lt h) d
 generalize he : (v.filter fun w => decide (w.d = d)) = m at *
 match m, h1, he with
 | [], _, _ => exact .inl rfl
 | [w], _, he =>
  refine .inr ⟨w, ?_, rfl⟩
  have : w ∈ v.filter fun w => decide (w.d = d) := by rw [he]; simp
  simpa using (List.mem_filter.1 this).2
 | _ :: _ :: _, h1, _ => simp at h1
theorem Ze7 (f : Nat → Int) : ∀ (k i : Nat), yn i ((List.range' i k).map f) = (List.range' i k).flatMap fun d => if 0 < f d then [⟨(d : Int), f d⟩] else []
 | 0, i => by simp [yn]
 | k + 1, i => by
  rw [List.range'_succ, List.map_cons, List.flatMap_cons, ← Ze7 f k (i + 1)]
  simp only [yn]
  split <;> rfl
theorem ZnA (f : Nat → Int) (k : Nat) : yn 0 ((List.range k).map f) = (List.range k).flatMap fun d => if 0 < f d then [⟨(d : Int), f d⟩] else [] := by
 rw [List.range_eq_range']; exact Ze7 f k 0
theorem ZnB {v : List Visit} {n : Nat} (hg : GoodV n v) (hn : n ≤ 60) (h : xc v) : yn 0 (zT v n) = v := by
 unfold zT
 have e : (min (max (n : Int) 0) 64).toNat = n := by omega
 rw [e, ZnA]
 conv => rhs; rw [← Ze5 h fun w hw => (hg.ok w hw).1]
 have key : ∀ d : Nat, (if 0 < ((v.filter fun s => decide (s.d = (d : Int))).map (·.q)).sum then [(⟨(d : Int), ((v.filter fun s => decide (s.d = (d : Int))).map (·.q)).sum⟩ : Visit)] else []) = v.filter fun w => decide (w.d = (d : Int)) := by
  intro d
  rcases Ze6 h d with q | ⟨w, q1, q2⟩
  ·rw [q]; rfl
  ·have hw : w ∈ v := by
    have : w ∈ v.filter fun w => decide (w.d = (d : Int)) := by rw [q2]; simp
    exact (List.mem_filter.1 this).1
   have := (hg.ok w hw).2
   rw [q2]
   simp only [List.map_cons, List.map_nil, List.sum_cons, List.sum_nil, Int.add_zero]
   rw [if_pos (by omega), ← q1]
 have ef : (fun d : Nat => if 0 < ((v.filter fun s => decide (s.d = (d : Int))).map (·.q)).sum then [(⟨(d : Int), ((v.filter fun s => decide (s.d = (d : Int))).map (·.q)).sum⟩ : Visit)] else []) = fun d : Nat => v.filter fun w => decide (w.d = (d : Int)) := funext key
 rw [ef]
theorem Zal : ∀ (l : List Int) (i : Nat), xc (yn i l)
 | [], _ => .nil
 | z :: l, i => by
  have ih := Zal l (i + 1)
  simp only [yn]
  split
  ·unfold xc at ih ⊢
   rw [List.map_cons, List.pairwise_cons]
   refine ⟨fun d hd => ?_, ih⟩
   obtain ⟨s, hs, rfl⟩ := List.mem_map.1 hd
   have := XI l (i + 1) s hs
   show (i : Int) < s.d
   omega
  ·exact ih
theorem Ze8 : ∀ (l : List Int) (i d : Nat), Qs l → (((yn i l).filter fun s => decide (s.d = ((i + d : Nat) : Int))).map (·.q)).sum = l.getD d 0
 | [], i, d, _ => by simp [yn]
 | z :: l, i, d, h => by
  have hz := h z (by simp)
  have hge := XI l (i + 1)
  have ih := fun d => Ze8 l (i + 1) d fun x hx => h x (by simp [hx])
  cases d with
  | zero =>
   have e : ((yn (i + 1) l).filter fun s => decide (s.d = ((i + 0 : Nat) : Int))) = [] := by
    rw [List.filter_eq_nil_iff]; intro s hs; have := hge s hs; simp; omega
   simp only [yn]
   split
   ·rw [List.filter_cons_of_pos (by simp), e]; simp
   ·rw [e]; simp; omega
  | succ d =>
   have ih := ih d
   rw [show i + 1 + d = i + (d + 1) by omega] at ih
   simp only [yn]
   split
   ·rw [List.filter_cons_of_neg (by simp; omega), ih]; simp
   ·rw [ih]; simp
theorem ZnC {l : List Int} {n : Nat} (hl : l.length = n) (hn : n ≤ 60) (h : Qs l) : zT (yn 0 l) n = l := by
 apply List.ext_getElem?
 intro d
 have e : (min (max (n : Int) 0) 64).toNat = n := by omega
 by_cases hd : d < n
 ·have := Ze8 l 0 d h
  rw [Nat.zero_add] at this
  unfold zT
  rw [List.getElem?_map, e, List.getElem?_range hd, Option.map_some, this, List.getD_eq_getElem?_getD, List.getElem?_eq_getElem (by omega)]; rfl
 ·rw [List.getElem?_eq_none (by rw [Q3]; omega), List.getElem?_eq_none (by omega)]
theorem Ze9 : ∀ (p : zu) (i : Nat) (d : zi), told i (p ++ [d]) = told i p ++ d.flatten.map (·, i + p.length)
 | [], i, d => by simp [told]
 | e :: p, i, d => by
  rw [List.cons_append, told, Ze9 p (i + 1) d, told, List.append_assoc, List.length_cons, show i + 1 + p.length = i + (p.length + 1) by omega]
theorem Zfa {m n : Nat} {v : List (List Visit)} (h : VsOk m n v) (day : Int) (i : Nat) : ∀ k : Nat, (qr v day k).filter (fun s => decide (s.c = (i : Int))) = if i < k then wE v day i else []
 | 0 => by simp [qr]
 | k + 1 => by
  rw [VT, List.filter_append, Zfa h day i k]
  have hm : ∀ s ∈ wE v day k, s.c = k := fun s hs => (Zd2 h hs).1
  by_cases hik : i = k
  ·subst hik
   rw [if_neg (by omega), if_pos (by omega), List.nil_append, List.filter_eq_self]
   intro s hs; simpa using hm s hs
  ·have : (wE v day k).filter (fun s => decide (s.c = (i : Int))) = [] := by
    rw [List.filter_eq_nil_iff]; intro s hs; have := hm s hs; simp; omega
   rw [this, List.append_nil]
   by_cases h1 : i < k
   ·rw [if_pos h1, if_pos (by omega)]
   ·rw [if_neg h1, if_neg (by omega)]
theorem ZnD {α : Type} {a b : List α} (h : a.Perm b) (hb : b.length ≤ 1) : a = b := by
 match b, hb, h with
 | [], _, h => exact List.perm_nil.1 h
 | [s], _, h => exact List.perm_singleton.1 h
 | _ :: _ :: _, hb, _ => simp at hb
theorem ZnE {m n : Nat} {v : List (List Visit)} (h : VsOk m n v) {d : zi} {k i : Nat} (hd : d.flatten.Perm (qr v k m)) (hi : i < m) : yd i (d.flatten.map (·, k)) = (v.getD i []).filter fun w => decide (w.d = (k : Int)) := by
 have h1 : (d.flatten.filter fun s => decide (s.c = (i : Int))) = wE v k i := by
  have := hd.filter fun s => decide (s.c = (i : Int))
  rw [Zfa h k i m, if_pos hi] at this
  exact ZnD this (Zd1 h k i)
 unfold yd
 rw [List.filter_map, List.map_map]
 have e2 : ((fun x : Stop × Nat => decide (x.1.c = (i : Int))) ∘ fun x : Stop => (x, k)) = fun s : Stop => decide (s.c = (i : Int)) := rfl
 rw [e2, h1]
 unfold wE
 rw [List.map_map]
 conv => rhs; rw [← List.map_id (List.filter _ _)]
 apply List.map_congr_left
 intro w hw
 have := (List.mem_filter.1 hw).2
 simp only [decide_eq_true_eq] at this
 show (⟨(k : Int), w.q⟩ : Visit) = w
 rw [← this]
theorem Zfb {x : Inst} (hx : InstH x) {v : List (List Visit)} {b : Int} {n : Nat} (h : VsOk x.cust.length n v) {i : Nat} (hi : i < x.cust.length) : ∀ k : Nat, (∀ d < k, (qP x b (qr v (d : Nat) x.cust.length)).2 = 0) → yd i (told 0 (jf x v b k)) = (List.range k).flatMap fun d : Nat => (v.getD i []).filter fun w => decide (w.d = (d : Int))
 | 0, _ => rfl
 | k + 1, h0 => by
  have hk := h0 k (by omega)
  obtain ⟨-, -, hp, -⟩ := Xv (Y7 hx h k) hx.diag b hk
  rw [Zd4, Ze9, uY, Zfb hx h hi k fun d hd => h0 d (by omega), Nat.zero_add, Q8, ZnE h hp hi, List.range_succ, List.flatMap_append]
  simp
open Go Go.Proofs Hp
theorem u5 (r : Int) (k : Nat) : r * ((k + 1 : Nat) : Int) = r * (k : Int) + r := by rw [Int.natCast_add, Int.mul_add]; simp
theorem Zam (size rate : Int) : ∀ (a b : List Int) (there : Int), yl size rate there (a ++ b) = (yl size rate there a).bind fun l => (yl size rate (there + a.sum - rate * a.length) b).map (l ++ ·)
 | [], b, there => by
  have e : there + ([] : List Int).sum - rate * (([] : List Int).length : Int) = there := by simp
  show yl size rate there b = (yl size rate (there + ([] : List Int).sum - rate * (([] : List Int).length : Int)) b).map ([] ++ ·)
  rw [e]
  cases yl size rate there b <;> rfl
 | q :: a, b, there => by
  rw [List.cons_append, yl, yl]
  split
  ·rfl
  ·rw [Zam size rate a b]
   have e : there + q - rate + a.sum - rate * (a.length : Int) = there + (q :: a).sum - rate * ((q :: a).length : Int) := by
    rw [List.sum_cons, List.length_cons, u5]; omega
   rw [e]
   cases yl size rate (there + q - rate) a with
   | none => rfl
   | some l =>
    simp only [Option.bind_some, Option.map_some]
    cases yl size rate (there + (q :: a).sum - rate * ((q :: a).length : Int)) b <;> simp
theorem Zan {size rate : Int} (hr : 0 ≤ rate) : ∀ (k : Nat) (t : Int), t ≤ size → 0 ≤ t - rate * k → ∃ l, yl size rate t (List.replicate k 0) = some l
 | 0, t, _, _ => ⟨[], rfl⟩
 | k + 1, t, h1, h2 => by
  rw [u5] at h2
  have hk : 0 ≤ rate * (k : Int) := Int.mul_nonneg hr (by omega)
  obtain ⟨l, hl⟩ := Zan (size := size) hr k (t + 0 - rate) (by omega) (by omega)
  rw [List.replicate_succ, yl, if_neg (by omega), hl]
  exact ⟨_, rfl⟩
theorem Zfc : ∀ k : Nat, (List.replicate k (0 : Int)).sum = 0
 | 0 => rfl
 | k + 1 => by rw [List.replicate_succ, List.sum_cons, Zfc k]; rfl
theorem Zfd (rate size : Int) : ∀ (a b : List Int) (n m : List Int), a.length = n.length → j9 rate size (a ++ b) (n ++ m) = (j9 rate size a n || j9 rate size b m)
 | [], b, [], m, _ => by simp [j9]
 | z :: a, b, x :: n, m, h => by
  rw [List.cons_append, List.cons_append, j9, j9, Zfd rate size a b n m (by simpa using h), Bool.or_assoc]
 | [], b, _ :: _, m, h => by simp at h
 | _ :: _, b, [], m, h => by simp at h
theorem Zao (rate size : Int) : ∀ (k : Nat) (l : List Int), j9 rate size (List.replicate k 0) l = false
 | 0, l => rfl
 | k + 1, [] => by simp [List.replicate_succ, j9]
 | k + 1, x :: l => by simp [List.replicate_succ, j9, Zao rate size k l]
theorem Zfe {size rate : Int} : ∀ (q : List Int) (there : Int) (l : List Int), yl size rate there q = some l → l.length = q.length
 | [], _, l, h => by simp only [yl, Option.some.injEq] at h; subst h; rfl
 | q :: qs, there, l, h => by
  rw [yl] at h
  split at h
  ·cases h
  ·obtain ⟨m, hm, rfl⟩ := Option.map_eq_some_iff.1 h
   rw [List.length_cons, List.length_cons, Zfe qs _ m hm]
theorem ZE (v : List Visit) {n : Nat} (hn : n ≤ 60) : (zT v n).length = n := by rw [Q3]; omega
theorem ZnF (v : List Visit) {w : Visit} {d m : Nat} (hw : w.d = d) (hv : ∀ u ∈ v, u.d < d) (hdm : d < m) (hm : m ≤ 60) : zT (v ++ [w]) m = zT v d ++ w.q :: List.replicate (m - d - 1) 0 := by
 apply List.ext_getElem?
 intro i
 have em : (min (max (m : Int) 0) 64).toNat = m := by omega
 have ed : (min (max (d : Int) 0) 64).toNat = d := by omega
 by_cases hi : i < m
 ·have hL : (zT (v ++ [w]) m)[i]? = some ((((v ++ [w]).filter fun s => decide (s.d = (i : Int))).map (·.q)).sum) := by
   unfold zT; rw [List.getElem?_map, em, List.getElem?_range hi]; rfl
  rw [hL, List.filter_append]
  rcases Nat.lt_trichotomy i d with h | h | h
  ·rw [List.getElem?_append_left (by rw [ZE v (by omega)]; exact h)]
   have : (zT v d)[i]? = some ((((v.filter fun s => decide (s.d = (i : Int))).map (·.q)).sum)) := by
    unfold zT; rw [List.getElem?_map, ed, List.getElem?_range h]; rfl
   rw [this, List.filter_cons_of_neg (by simp; omega)]; simp
  ·subst h
   have e0 : (v.filter fun s => decide (s.d = (i : Int))) = [] := by
    rw [List.filter_eq_nil_iff]; intro u hu; have := hv u hu; simp; omega
   rw [e0, List.getElem?_append_right (by rw [ZE v (by omega)]; exact Nat.le_refl _), ZE v (by omega), Nat.sub_self, List.filter_cons_of_pos (by simpa using hw)]
   simp
  ·have e0 : (v.filter fun s => decide (s.d = (i : Int))) = [] := by
    rw [List.filter_eq_nil_iff]; intro u hu; have := hv u hu; simp; omega
   rw [e0, List.getElem?_append_right (by rw [ZE v (by omega)]; omega), ZE v (by omega), List.filter_cons_of_neg (by simp; omega)]
   obtain ⟨j, hj⟩ : ∃ j, i - d = j + 1 := ⟨i - d - 1, by omega⟩
   rw [hj, List.getElem?_cons_succ, List.getElem?_replicate, if_pos (by omega)]; simp
 ·rw [List.getElem?_eq_none (by rw [ZE _ hm]; omega), List.getElem?_eq_none (by simp [ZE v (show d ≤ 60 by omega)]; omega)]
theorem Qh (c : Cust) (last d : Int) : (yE c last d).1 = (if last < 0 then c.start else c.size) - c.rate * ((if last < 0 then d else d - last).toNat : Int) := rfl
theorem ZnG {c : Cust} (hc : CustFits c) (hst : c.start ≤ c.size) {cap : Int} {n : Nat} (hn : n ≤ 60) {ds : List Int} (h : FilS c cap n ds) : ∀ m : Nat, jg ds < m → m ≤ n → 0 ≤ (yE c (jg ds) m).1 → ∃ l, yl c.size c.rate c.start (zT (yJ c ds).1 m) = some l ∧ j9 c.rate c.size (zT (yJ c ds).1 m) l = false ∧ c.start + (zT (yJ c ds).1 m).sum - c.rate * (m : Int) = (yE c (jg ds) m).1 := by
 have hr := hc.rate.1
 induction h with
 | nil =>
  intro m _ hm h0
  have e : zT (yJ c []).1 m = List.replicate m 0 := by
   show zT [] m = _
   rw [ZdL, show (min (max (m : Int) 0) 64).toNat = m by omega]
  have e9 : (yE c (jg []) m).1 = c.start - c.rate * (m : Int) := by rw [Qh]; simp [jg]
  rw [e9] at h0 ⊢
  obtain ⟨l, hl⟩ := Zan (size := c.size) hr m c.start hst (by omega)
  refine ⟨l, by rw [e, hl], by rw [e]; exact Zao _ _ _ _, by rw [e]; simp⟩
 | @snoc ds d h h1 h2 h3 ih =>
  intro m hm hmn h0
  rw [Yf] at hm h0 ⊢
  have hlo := h.lo
  obtain ⟨k, rfl⟩ := Int.eq_ofNat_of_zero_le (show 0 ≤ d by omega)
  obtain ⟨l, e1, e2, e3⟩ := ih k h1 (by omega) h3.1
  obtain ⟨q1, q2, q3, q4⟩ := Zaa hc h3
  have hb : zT (yJ c (ds ++ [(k : Int)])).1 m = zT (yJ c ds).1 k ++ (c.size - (yE c (jg ds) k).1) :: List.replicate (m - k - 1) 0 := by
   have hf : (yJ c (ds ++ [(k : Int)])).1 = (yJ c ds).1 ++ [⟨k, c.size - (yE c (jg ds) k).1⟩] := by
    rw [Qg]; simp only [vX]; rw [V8, q1]
   rw [hf]
   refine ZnF _ rfl (fun u hu => ?_) (by omega) (by omega)
   have : u.d ∈ (yJ c ds).1.map (·.d) := List.mem_map_of_mem hu
   rw [V9] at this
   have := hlo.2 _ this
   show u.d < (k : Int)
   omega
  have hbl := ZE (yJ c ds).1 (n := k) (by omega)
  rw [Qh c k m] at h0 ⊢
  rw [if_neg (by omega), if_neg (by omega)] at h0 ⊢
  have ek : ((m : Int) - (k : Int)).toNat = (m - k - 1) + 1 := by omega
  rw [ek, u5] at h0 ⊢
  obtain ⟨l2, hl2⟩ := Zan (size := c.size) hr (m - k - 1) (c.size - c.rate) (by omega) (by omega)
  have hthere : c.start + (zT (yJ c ds).1 k).sum - c.rate * ((zT (yJ c ds).1 k).length : Int) + (c.size - (yE c (jg ds) k).1) = c.size := by rw [hbl, e3]; omega
  have hk0 : 0 ≤ c.rate * ((m - k - 1 : Nat) : Int) := Int.mul_nonneg hr (by omega)
  have hrun : yl c.size c.rate c.start (zT (yJ c (ds ++ [(k : Int)])).1 m) = some (l ++ (c.size - c.rate) :: l2) := by
   rw [hb, Zam, e1, Option.bind_some, yl, hthere, if_neg (by omega), hl2]; rfl
  refine ⟨_, hrun, ?_, ?_⟩
  ·rw [hb, Zfd _ _ _ _ _ _ (Zfe _ _ _ e1).symm, e2, j9, Zao]
   simp
  ·rw [hb, List.sum_append, List.sum_cons]
   have : (m : Int) = (k : Int) + ((m - k - 1 + 1 : Nat) : Int) := by omega
   have e4 : c.rate * (m : Int) = c.rate * (k : Int) + (c.rate * ((m - k - 1 : Nat) : Int) + c.rate) := by rw [this, Int.mul_add, u5]
   rw [e4, Zfc]
   omega
open Go Go.Proofs Hp
theorem ZnH {c : Cust} {cap : Int} {n : Nat} {ds : List Int} (h : FilS c cap n ds) : jg ds < n := by
 cases h with
 | nil => show (-1 : Int) < n; omega
 | snoc h h1 h2 h3 => rw [Yf]; exact h2
theorem ZnI (c : Cust) (p : Nat) : xc (jK c p) := by
 have e : (jK c p).map (·.d) = yy p 0 64 := by simp [jK, Function.comp_def]
 unfold xc; rw [e]; exact ZeE p 0 64
theorem Zap {c : Cust} {cap : Int} {n : Nat} {ds : List Int} (h : FilS c cap n ds) : xc (yJ c ds).1 := by
 unfold xc; rw [V9]; exact h.inc
theorem ZnJ {c : Cust} (hc : CustFits c) (hr : c.rule = 1) {cap : Int} {n : Nat} {ds : List Int} (h : FilS c cap n ds) : ∀ w ∈ (yJ c ds).1, w.q ≤ cap := by
 induction h with
 | nil => intro w hw; cases hw
 | @snoc ds d h h1 h2 h3 ih =>
  intro w hw
  obtain ⟨q1, -, -, q4⟩ := Zaa hc h3
  rw [Qg] at hw
  simp only [vX] at hw
  rcases List.mem_append.1 hw with hw | hw
  ·exact ih w hw
  ·rw [List.mem_singleton.1 hw, V8]
   dsimp only
   rw [q1]; exact q4 hr
theorem ZnK {v : List Visit} {n : Nat} (hg : GoodV n v) (h : xc v) : Qs (zT v n) := by
 intro z hz
 unfold zT at hz
 obtain ⟨d, -, rfl⟩ := List.mem_map.1 hz
 rcases Ze6 h d with q | ⟨w, -, q2⟩
 ·rw [q]; simp
 ·have hw : w ∈ v := by
   have : w ∈ v.filter fun w => decide (w.d = (d : Int)) := by rw [q2]; simp
   exact (List.mem_filter.1 this).1
  have := (hg.ok w hw).2
  rw [q2]; simp; omega
theorem ZnL {c : Cust} {q l : List Int} (hq : Qs q) (h : yl c.size c.rate c.start q = some l) : yD c q = (l, 0) := by
 have : q.any jI = false := by
  rw [List.any_eq_false]; intro z hz; have := hq z hz; simp [jI]; omega
 unfold yD
 rw [this, h]; rfl
theorem ZnM {c : Cust} {n : Nat} {cap : Int} {price : List Int} (hk : c.kind = 1) (h : (we c cap price).2 = true) : SuitsP c n cap (we c cap price).1 ∧ xc (we c cap price).1 := by
 obtain ⟨p, hp, hc, e⟩ := ZeH h
 rw [e]
 refine ⟨⟨fun w hw => ?_, fun _ => ⟨p, hp, rfl⟩, fun h => absurd hk h⟩, ZnI c p⟩
 simp only [jK, List.mem_map] at hw
 obtain ⟨d, hd, rfl⟩ := hw
 rcases hc with rfl | hc
 ·simp [yy, yR] at hd
 ·exact hc
theorem ZnN {c : Cust} {n : Nat} {cap : Int} (hc : CustFits c) (hst : c.start ≤ c.size) (hn : n ≤ 60) (hk : c.kind ≠ 1) (hr : c.rule = 1) {ds : List Int} (h : FilS c cap n ds) (h0 : 0 ≤ (yE c (jg ds) n).1) : SuitsP c n cap (yJ c ds).1 := by
 have hg := ZeB hc hn h
 refine ⟨ZnJ hc hr h, fun h => absurd h hk, fun _ => ⟨(ZnB hg hn (Zap h)).symm, ?_⟩⟩
 obtain ⟨l, e1, e2, -⟩ := ZnG hc hst hn h n (ZnH h) (Nat.le_refl n) h0
 unfold x5
 rw [ZnL (ZnK hg (Zap h)) e1]
 simp [e2]
theorem Zff : ∀ (l : List Int) (i : Nat), ∀ w ∈ yn i l, 0 < w.q ∧ w.q ∈ l
 | [], _ => by intro w hw; cases hw
 | z :: l, i => by
  have ih := Zff l (i + 1)
  intro w hw
  simp only [yn] at hw
  split at hw
  ·rcases List.mem_cons.1 hw with rfl | hw
   ·exact ⟨by assumption, by simp⟩
   ·have := ih w hw; exact ⟨this.1, by simp [this.2]⟩
  ·have := ih w hw; exact ⟨this.1, by simp [this.2]⟩
theorem Zfg (c : Cust) (f : Int → Int) : ∀ k : Nat, ∀ z ∈ (yT c f k).1, ∃ t, z = f t
 | 0 => by intro z hz; cases hz
 | k + 1 => by
  intro z hz
  simp only [yT] at hz
  rcases List.mem_append.1 hz with hz | hz
  ·exact Zfg c f k z hz
  ·exact ⟨_, List.mem_singleton.1 hz⟩
theorem Zfh (c : Cust) (t cap : Int) : jV c t cap ≤ cap ∨ jV c t cap = 0 := by
 unfold jV
 split
 ·exact .inr rfl
 ·split
  ·left; assumption
  ·split
   ·exact .inr rfl
   ·left; omega
theorem Zfi {c : Cust} {n : Nat} {cap : Int} {f : Int → Int} (hc : CustFits c) (hn : n ≤ 60) (hk : c.kind ≠ 1) (hb : ∀ t, 0 ≤ f t ∧ f t ≤ 2147483648) (hf : ∀ t, f t ≤ cap ∨ f t = 0) (h : x5 c (yT c f n).1 = 0) : SuitsP c n cap (yn 0 (yT c f n).1) := by
 have hq := (Ya hc hb n).2
 have hl := Z9 c f n
 refine ⟨fun w hw => ?_, fun h => absurd h hk, fun _ => ?_⟩
 ·obtain ⟨h1, h2⟩ := Zff _ _ w hw
  obtain ⟨t, ht⟩ := Zfg c f n _ h2
  rcases hf t with q | q <;> omega
 ·rw [ZnC hl hn hq]; exact ⟨rfl, h⟩
theorem ZnO {c : Cust} {n : Nat} (hm : CustMade c n) (hst : c.start ≤ c.size) (hn : n ≤ 60) (cap : Int) (price : List Int) (h : (qb n cap c price).2 = true) : SuitsP c n cap (qb n cap c price).1 ∧ xc (qb n cap c price).1 := by
 unfold qb at h ⊢
 by_cases hk : c.kind = 1
 ·rw [if_pos hk] at h ⊢
  exact ZnM hk h
 rw [if_neg hk] at h ⊢
 by_cases hr : c.rule = 1
 ·rw [if_pos hr] at h ⊢
  obtain ⟨ds, h1, h0, e⟩ := ZeF hn h
  rw [e]; exact ⟨ZnN hm.fits hst hn hk hr h1 h0, Zap h1⟩
 ·rw [if_neg hr] at h ⊢
  have hD := fun h => Zfi (cap := cap) (n := n) hm.fits hn hk (XK hm.fits cap) (fun t => Zfh c _ cap) h
  have hL := fun h => Zfi (cap := cap) (n := n) hm.fits hn hk (XL hm.fits cap) (fun t => by unfold uC; split; exact .inr rfl; exact Zfh c _ cap) h
  unfold Yc at h ⊢
  split
  ·rename_i h1
   have := h1.1
   unfold vW at this
   exact ⟨hL (of_decide_eq_true this), Zal _ 0⟩
  ·rename_i h1
   rw [if_neg h1] at h
   split
   ·rename_i h2
    unfold vq at h2
    exact ⟨hD (of_decide_eq_true h2), Zal _ 0⟩
   ·rename_i h2; rw [if_neg h2] at h; cases h
theorem ZnP (x : Inst) : ∀ c ∈ (zO x).cust, c.start ≤ c.size := by
 intro c hc
 obtain ⟨c0, rfl⟩ := Qd x hc
 unfold qz
 split
 ·have b := qG c0.size 1 30 (by omega)
  exact (qG c0.start 0 (yo c0.size 1 30) (by omega)).2
 ·exact Int.le_refl _
theorem Zfj : ∀ p : zu, (∀ d ∈ p, d.flatten.length ≤ 1000) → uZ p ≤ 1000 * p.length
 | [], _ => by simp [uZ]
 | d :: p, h => by
  have := Zfj p fun e he => h e (by simp [he])
  have := h d (by simp)
  simp only [uZ, List.map_cons, List.sum_cons, List.length_cons] at *
  omega
theorem Zaq {x : Inst} {n : Nat} (h : InstA x n) {b : Int} (h0 : (yp x b).2 = 0) : ∃ v pr, VsOk x.cust.length n v ∧ vp x.cust.length n pr ∧ (yp x b).1 = jf x v b n ∧ (∀ d : Nat, d < n → (qP x b (qr v d x.cust.length)).2 = 0) ∧ ∀ i c, x.cust[i]? = some c → v[i]? = some (qb n x.cap c (pr.getD i [])).1 ∧ (qb n x.cap c (pr.getD i [])).2 = true := by
 have hd : x.days.toNat = n := by rw [h.days]; rfl
 unfold yp Ye at h0 ⊢
 rw [hd] at h0 ⊢
 obtain ⟨pr, hp, e1, e2, e3⟩ := Ze2 8 _ (Zeg x n) h0
 have hv := ZeJ h pr hp e1
 obtain ⟨c1, c2⟩ := ZeI e1
 refine ⟨_, pr, hv, hp, e3, fun d hdn => ?_, c2⟩
 refine (VS _).1 e2 _ (List.mem_map.2 ⟨_, List.mem_map.2 ⟨d, List.mem_range.2 hdn, rfl⟩, rfl⟩)
theorem ZnQ {x : Inst} {n : Nat} (h : InstA x n) {v : List (List Visit)} {b : Int} {i : Nat} {l : List Visit} (hv : VsOk x.cust.length n v) (hl : v[i]? = some l) (hr : xc l) (h0 : ∀ d : Nat, d < n → (qP x b (qr v d x.cust.length)).2 = 0) : yd i (told 0 (jf x v b n)) = l := by
 have hi : i < x.cust.length := by rw [← hv.len]; exact (List.getElem?_eq_some_iff.1 hl).1
 rw [Zfb h.h hv hi n h0]
 have e : v.getD i [] = l := by rw [List.getD_eq_getElem?_getD, hl]; rfl
 rw [e]
 exact Ze5 hr fun w hw => (hv.ok l (List.mem_of_getElem? hl) w hw).1
theorem ZnR (x : Inst) (b : Int) (h0 : (yp (zO x) b).2 = 0) : (yp (zO x) b).1.length = (zO x).days ∧ PlanSz (yp (zO x) b).1 ∧ ∀ (i : Nat) (c : Cust), (zO x).cust[i]? = some c → SuitsP c (zO x).days.toNat (zO x).cap (yd i (told 0 (yp (zO x) b).1)) ∧ VisOk (yd i (told 0 (yp (zO x) b).1)) := by
 have hA := XU x
 have hgs := ZnP x
 have hgd := Z8 x
 obtain ⟨n, hn⟩ : ∃ n : Nat, (zO x).days = n := ⟨(zO x).days.toNat, by omega⟩
 have hnt : (zO x).days.toNat = n := by omega
 rw [hnt] at hA ⊢
 generalize zO x = y at *
 obtain ⟨v, pr, hv, hp, e, hd, hc⟩ := Zaq hA h0
 rw [e]
 have hsz := Znz hA.h hv b
 have hpl := Q8 y v b n
 have hcn := Zfj _ fun d hd => (hsz d hd).2.2
 refine ⟨by rw [hpl, hn], ⟨⟨by omega, fun d hd => by have := (hsz d hd).2.1; omega, fun d hd => (hsz d hd).1.t, by rw [V3]; omega⟩, fun d hd => by have := (hsz d hd).2.2; omega⟩, fun i c hic => ?_⟩
 obtain ⟨q1, q2⟩ := hc i c hic
 have hcm := List.mem_of_getElem? hic
 obtain ⟨s1, s2⟩ := ZnO (hA.made c hcm) (hgs c hcm) hA.n60 y.cap _ q2
 have hg := XT (hA.made c hcm) hA.n60 _ _ q2
 rw [ZnQ hA hv q1 s2 hd]
 exact ⟨s1, ⟨by have := hg.len; omega, fun s hs => by have := hg.ok s hs; omega, fun s hs => by have := hg.ok s hs; have := hA.n60; unfold zU; omega⟩⟩
open Go Go.Proofs Hp
theorem ZnS (c : Cust) (d : Int) (h1 : 1 ≤ d) (h7 : d ≤ 7) : XB (qz c d) d = true := by
 have hm := Zek c d h1 h7
 by_cases hk : c.kind.tmod 2 = 0
 ·have e : qz c d = ⟨2, 0, [], yo c.rate 0 9, yo c.size 1 30, yo c.start 0 (yo c.size 1 30), yo c.rule 1 2, yo c.hold 0 4⟩ := by unfold qz; rw [if_pos hk]
  have a := qG c.rate 0 9 (by omega)
  have b := qG c.size 1 30 (by omega)
  have s := qG c.start 0 (yo c.size 1 30) (by omega)
  have r := qG c.rule 1 2 (by omega)
  have h := qG c.hold 0 4 (by omega)
  rw [e]
  simp [XB, x7, ZdR, ZdS]
  omega
 ·have e : qz c d = ⟨1, yo c.demand 1 15, vH c.pats d, 0, 0, 0, 0, 0⟩ := by unfold qz; rw [if_neg hk]
  have a := qG c.demand 1 15 (by omega)
  rw [e] at hm ⊢
  obtain ⟨hp, -⟩ := hm.per rfl
  have hl : 1 ≤ (vH c.pats d).length ∧ (vH c.pats d).length ≤ 64 := by
   unfold vH
   split
   ·simp
   ·rename_i hn
    have : 0 < c.pats.length := List.length_pos_iff.2 hn
    simp only [List.length_map, List.length_take]; omega
  simp only [XB, if_true, Bool.and_eq_true, x7, decide_eq_true_eq, ZdQ, ZdP, List.all_eq_true]
  refine ⟨⟨by omega, fun p hpm => ?_, by omega⟩, by simp⟩
  unfold ZdO
  have : yy p d.toNat 64 = [] := by
   rw [ZlQ, List.filter_eq_nil_iff]
   intro z hz
   have := hp p hpm z hz
   simp; omega
  rw [this]; decide
theorem Zfk (n : Nat) (row : Nat → List Int) (h : ∀ a, a < n → (row a).length = n ∧ (row a).getD a 0 = 0 ∧ ∀ z ∈ row a, 0 ≤ z ∧ z ≤ 2147483648) : ∀ k a : Nat, a + k ≤ n → XC n a ((List.range' a k).map row) = true
 | 0, _, _ => rfl
 | k + 1, a, ha => by
  obtain ⟨h1, h2, h3⟩ := h a (by omega)
  rw [List.range'_succ, List.map_cons]
  simp only [XC, Zfk n row h k (a + 1) (by omega), Bool.and_true, h1, h2, decide_true, Bool.true_and, List.all_eq_true, x7, decide_eq_true_eq]
  exact h3
theorem ZnT (x : Inst) : Q6 (zO x) = true := by
 have h1 := Z8 x
 have h2 := Zmw x
 have h3 := Zmx x
 have h4 := Zmy x
 have h5 := Zmz x
 unfold Q6
 simp only [Bool.and_eq_true, List.all_eq_true, decide_eq_true_eq, x7]
 refine ⟨⟨⟨⟨⟨⟨by omega, by omega⟩, by omega⟩, by omega⟩, by omega⟩, fun c hc => ?_⟩, ?_⟩
 ·obtain ⟨c0, rfl⟩ := Qd x hc
  exact ZnS c0 _ h1.1 h1.2
 ·have e : (zO x).cust.length = (x.cust.take 6).length := by simp [zO]
  rw [e]
  unfold ZdT
  have e2 : (zO x).dist = (List.range' 0 ((x.cust.take 6).length + 1)).map fun a => xi x (x.cust.take 6).length a := by rw [← List.range_eq_range']; rfl
  rw [e2, Zfk _ _ (fun a ha => ?_) _ _ (by omega)]
  ·simp
  ·refine ⟨by simp [xi], ?_, fun z hz => ?_⟩
   ·unfold xi
    rw [List.getD_eq_getElem?_getD, List.getElem?_map, List.getElem?_range ha]
    simp
   ·unfold xi at hz
    obtain ⟨b, -, rfl⟩ := List.mem_map.1 hz
    split
    ·have := qG (arc x a b) 0 60 (by omega); omega
    ·omega
def ZnU (c : Cust) (n : Nat) (cap : Int) : Prop := ∃ ds, FilS c cap n ds ∧ 0 ≤ (yE c (jg ds) n).1
inductive FR (c : Cust) (cap : Int) : List Int → Int → Prop where
 | nil : FR c cap [] c.start
 | zero {q : List Int} {t : Int} (h : FR c cap q t) : FR c cap (q ++ [0]) (t - c.rate)
 | fill {q : List Int} {t : Int} (h : FR c cap q t) (h1 : 1 ≤ c.size - t) (h2 : c.size - t ≤ cap) : FR c cap (q ++ [c.size - t]) (c.size - c.rate)
theorem FR.sum {c : Cust} {cap : Int} {q : List Int} {t : Int} (h : FR c cap q t) : t = c.start + q.sum - c.rate * q.length := by
 induction h with
 | nil => simp
 | zero h ih => rw [List.sum_append, List.length_append, List.length_singleton, u5]; simp; omega
 | fill h h1 h2 ih => rw [List.sum_append, List.length_append, List.length_singleton, u5]; simp; omega
theorem Zfl {size rate there z : Int} {q l : List Int} (h : yl size rate there (q ++ [z]) = some l) : (∃ l', yl size rate there q = some l') ∧ 0 ≤ there + q.sum - rate * q.length + z - rate := by
 rw [Zam] at h
 cases e : yl size rate there q with
 | none => rw [e] at h; cases h
 | some l' =>
  rw [e, Option.bind_some] at h
  refine ⟨⟨_, rfl⟩, ?_⟩
  rw [yl] at h
  split at h
  ·cases h
  ·omega
theorem ZnV (c : Cust) {last : Int} {m : Nat} (h : last < m) (h1 : -1 ≤ last) : (yE c last ((m + 1 : Nat) : Int)).1 = (yE c last m).1 - c.rate := by
 rw [Qh, Qh]
 by_cases h0 : last < 0
 ·rw [if_pos h0, if_pos h0, if_pos h0, Int.toNat_natCast, Int.toNat_natCast, u5]; omega
 ·rw [if_neg h0, if_neg h0, if_neg h0]
  have e : (((m + 1 : Nat) : Int) - last).toNat = ((m : Int) - last).toNat + 1 := by omega
  rw [e, u5]; omega
theorem FR.fil {c : Cust} {cap : Int} {n : Nat} {q : List Int} {t : Int} (h : FR c cap q t) (h0 : 0 ≤ c.start) : ∀ l, yl c.size c.rate c.start q = some l → q.length ≤ n → ∃ ds, FilS c cap n ds ∧ jg ds < q.length ∧ t = (yE c (jg ds) q.length).1 ∧ 0 ≤ t := by
 induction h with
 | nil =>
  intro l _ _
  refine ⟨[], .nil, by simp [jg], ?_, h0⟩
  rw [Qh]; simp [jg]
 | @zero q t h ih =>
  intro l hl hn
  obtain ⟨⟨l', hl'⟩, hz⟩ := Zfl hl
  rw [← h.sum] at hz
  rw [List.length_append, List.length_singleton] at hn ⊢
  obtain ⟨ds, d1, d2, d3, d4⟩ := ih l' hl' (by omega)
  refine ⟨ds, d1, by omega, ?_, by omega⟩
  rw [ZnV c d2 d1.lo.1, ← d3]
 | @fill q t h h1 h2 ih =>
  intro l hl hn
  obtain ⟨⟨l', hl'⟩, hz⟩ := Zfl hl
  rw [← h.sum] at hz
  rw [List.length_append, List.length_singleton] at hn ⊢
  obtain ⟨ds, d1, d2, d3, d4⟩ := ih l' hl' (by omega)
  refine ⟨ds ++ [(q.length : Int)], .snoc d1 d2 (by omega) ⟨by rw [← d3]; exact d4, ?_⟩, by rw [Yf]; omega, ?_, by omega⟩
  ·rw [← d3]
   unfold jV
   rw [if_neg (by omega), if_pos h2]; omega
  ·rw [Yf, Qh, if_neg (by omega), if_neg (by omega)]
   have e : (((q.length + 1 : Nat) : Int) - (q.length : Int)).toNat = 0 + 1 := by omega
   rw [e, u5]; simp
theorem ZnW {c : Cust} {q : List Int} (h : x5 c q = 0) : ∃ l, yl c.size c.rate c.start q = some l := by
 have : (yD c q).2 = 0 := by
  unfold x5 at h
  split at h
  ·rename_i h1; exact absurd h h1
  ·rename_i h1; simpa using h1
 unfold yD at this
 split at this
 ·cases this
 ·cases e : yl c.size c.rate c.start q with
  | none => rw [e] at this; cases this
  | some l => exact ⟨l, rfl⟩
theorem FR.ok {c : Cust} {cap : Int} {n : Nat} {q : List Int} {t : Int} (h : FR c cap q t) (h0 : 0 ≤ c.start) (hq : q.length = n) (hh : x5 c q = 0) : ZnU c n cap := by
 obtain ⟨l, hl⟩ := ZnW hh
 obtain ⟨ds, d1, -, d3, d4⟩ := h.fil (n := n) h0 l hl (Nat.le_of_eq hq)
 exact ⟨ds, d1, by rw [← hq, ← d3]; exact d4⟩
open Go Go.Proofs Hp
theorem ZnX (s : Nat) (d : Int) (i : Nat) (h : 0 ≤ d ∧ d < 64) : (jT s d).testBit i = (s.testBit i || decide (d = (i : Int))) := by
 obtain ⟨k, rfl⟩ := Int.eq_ofNat_of_zero_le h.1
 unfold jT
 rw [if_pos (by omega), Int.toNat_natCast, Nat.testBit_or, Nat.testBit_two_pow]
 congr 1
 rw [decide_eq_decide]; omega
theorem Zfm (i : Nat) : ∀ (l : List Int) (s : Nat), (∀ d ∈ l, 0 ≤ d ∧ d < 64) → (l.foldl jT s).testBit i = (s.testBit i || decide ((i : Int) ∈ l))
 | [], s, _ => by simp
 | d :: l, s, h => by
  rw [List.foldl_cons, Zfm i l _ fun z hz => h z (by simp [hz]), ZnX s d i (h d (by simp)), Bool.or_assoc]
  congr 1
  by_cases h1 : d = (i : Int)
  ·subst h1; simp
  ·have : ¬ (i : Int) = d := fun e => h1 e.symm
   simp [h1, this]
theorem ZnY (p : Nat) (hp : p < 2 ^ 64) : VJ (yy p 0 64) = p := by
 apply Nat.eq_of_testBit_eq
 intro i
 unfold VJ
 rw [Zfm i _ _ fun d hd => by obtain ⟨k, rfl, hk, -⟩ := Z7 hd; omega, Nat.zero_testBit, Bool.false_or]
 by_cases hi : i < 64
 ·rw [Y6, decide_eq_decide]
  constructor
  ·intro h
   obtain ⟨k, e, -, hk⟩ := Z7 h
   obtain rfl : i = k := by omega
   exact hk
  ·intro h
   simp only [yy, List.mem_map, List.mem_filter, List.mem_range, Bool.and_eq_true, decide_eq_true_eq]
   exact ⟨i, ⟨hi, by omega, h⟩, rfl⟩
 ·rw [Nat.testBit_lt_two_pow (Nat.lt_of_lt_of_le hp (Nat.pow_le_pow_right (by decide) (by omega)))]
  rw [decide_eq_false_iff_not]
  intro h
  obtain ⟨k, e, hk, -⟩ := Z7 h
  omega
theorem ZnZ {c : Cust} {p : Nat} (hp : p ∈ c.pats) (h : p < 2 ^ 64) : VR c (jK c p) = 0 := by
 unfold VR
 have e1 : (jK c p).any (fun s => decide (s.q ≠ c.demand)) = false := by
  rw [List.any_eq_false]; intro s hs
  simp only [jK, List.mem_map] at hs
  obtain ⟨d, -, rfl⟩ := hs
  simp
 have e2 : (jK c p).map (·.d) = yy p 0 64 := by simp [jK, Function.comp_def]
 rw [e1, if_neg (by simp), e2, ZnY p h, if_pos hp]
def Zn0 (c : Cust) : Prop := (c.kind = 1 ∧ c.rule = 0) ∨ (c.kind = 2 ∧ (c.rule = 1 ∨ c.rule = 2))
theorem Zn1 (x : Inst) : ∀ c ∈ (zO x).cust, Zn0 c := by
 intro c hc
 obtain ⟨c0, rfl⟩ := Qd x hc
 unfold qz
 split
 ·have := qG c0.rule 1 2 (by omega)
  refine .inr ⟨rfl, ?_⟩
  show yo c0.rule 1 2 = 1 ∨ yo c0.rule 1 2 = 2
  omega
 ·exact .inl ⟨rfl, rfl⟩
theorem Zn2 (x : Inst) (b : Int) (h0 : (yp (zO x) b).2 = 0) : Q7 (zO x) (yp (zO x) b).1 = 0 ∧ PlanSz (yp (zO x) b).1 := by
 obtain ⟨s1, s2, s3⟩ := ZnR x b h0
 have hmay := ZnT x
 have hA := XU x
 have hgd := Z8 x
 have hkd := Zn1 x
 obtain ⟨n, hn⟩ : ∃ n : Nat, (zO x).days = n := ⟨(zO x).days.toNat, by omega⟩
 have hnt : (zO x).days.toNat = n := by omega
 rw [hnt] at hA s3
 generalize zO x = y at *
 refine ⟨Zm9 hmay s1 ?_ ?_, s2⟩
 ·obtain ⟨v, pr, hv, hp, e, hd, hc⟩ := Zaq hA h0
  rw [e]
  intro d hd'
  obtain ⟨r, hr, rfl⟩ := List.mem_map.1 hd'
  obtain ⟨k, hk, rfl⟩ := List.mem_map.1 hr
  exact (Xv (Y7 hA.h hv k) hA.h.diag b (hd k (List.mem_range.1 hk))).2.1
 ·intro i hi
  have hic := List.getElem?_eq_getElem hi
  obtain ⟨g1, -⟩ := s3 i _ hic
  have hcm := List.mem_of_getElem? hic
  unfold XE
  rw [hic]
  simp only
  rcases hkd _ hcm with ⟨k1, k2⟩ | ⟨k1, k2⟩
  ·rw [if_neg (by omega)]
   obtain ⟨p, hp, e⟩ := g1.per k1
   rw [e]
   exact ZnZ hp ((hA.made _ hcm).pats p hp)
  ·rw [if_pos k1, hn]
   exact (g1.tank (by omega)).2
open Go Go.Proofs Hp
def yX (x : Inst) (n : Nat) (b : Int) (p : zu) (s : Int) : Nat → zu × Int
 | 0 => (p, s)
 | k + 1 => (wq x n (yX x n b p s k).1 (yX x n b p s k).2 b, Yj x (yX x n b p s k).2)
def wu (x : Inst) (n : Nat) (b : Int) (p : zu) (s : Int) (k : Nat) : List zu := (List.range (k + 1)).map fun i => (yX x n b p s i).1
theorem Zn3 (x : Inst) (n : Nat) (b : Int) (p : zu) (s : Int) : wu x n b p s 0 = [p] := rfl
theorem Zfn (x : Inst) (n : Nat) (b : Int) (p : zu) (s : Int) (k : Nat) : wu x n b p s (k + 1) = wu x n b p s k ++ [(yX x n b p s (k + 1)).1] := by
 unfold wu; rw [List.range_succ, List.map_append]; rfl
theorem Zn4 (x : Inst) (n : Nat) (b : Int) (p : zu) (s : Int) (k : Nat) : (wu x n b p s k).length = k + 1 := by simp [wu]
theorem XW {x : Inst} {n : Nat} {p : zu} (h : PlanG x n p) (b s : Int) : ∀ k, PlanG x n (yX x n b p s k).1
 | 0 => h
 | k + 1 => Znv (XW h b s k) _ _
abbrev vZ (seed r b cl : Int) : List PV := [I seed, I r, I b, I cl]
theorem Zfo {x : Inst} {n : Nat} (hA : InstA x n) (hn0 : 0 < n) (hmay : ∀ b, (yp x b).2 = 0 → PlanG x n (yp x b).1) (seed : Int) (r : Nat) (hr : r ≤ 1000) (b : Int) (hb : b ≤ 9223372036854775807) (cl : Int) (fn : FuncId) (cs : List PV) {S : Store} (St : List zu → Store) (hS0 : St [] = S)
  (hdead : ∀ nx, zW nx S → ∀ h, zW nx (St h))
  (hshow : ∀ nx, zW nx S → ∀ (h : List zu) (p : zu) (obs : List Ob), h.length ≤ 1001 → PlanG x n p → Spec Tryz.prog fn ([.agg [L p]] ++ cs) (ext (St h) nx obs) (fun _ S' => S' = ext (St (h ++ [p])) nx obs)) :
  Spec Tryz.prog 81 [.agg (zA x), .agg (vZ seed r b cl), .fn (.func fn) [] cs] S (fun q S' => q = I (yp x b).2 ∧ S' = St (if (yp x b).2 = 0 then wu x n b (yp x b).1 (IntKind.u64.wrap seed) r else [])) := by
 subst hS0
 have hSt := ZeK hA hb
 have hmay := hmay b
 generalize yp x b = st at *
 obtain ⟨p0, e⟩ := st
 simp only at hSt hmay ⊢
 refine yU Tryz.func81 Tryz.ntmps81 Tryz.results81 fun nx hd => ?_
 have hshow := hshow nx hd
 have hdead := hdead nx hd
 refine za (zb ?_)
 intro v0 v1
 refine za (zb ?_)
 refine zz hSt ?_
 intro v2
 by_cases he : e = 0
 case neg =>
  rw [if_neg he]
  repeat apply za
  refine zb ?_
  refine zo (by simp [he]) ?_
  refine za (zb ?_)
  exact zg ⟨_, _, rfl, ⟨by simp [zq], rfl⟩, yb hd⟩
 subst he
 rw [if_pos rfl]
 have hG := hmay rfl
 have hit := XW hG b (IntKind.u64.wrap seed)
 repeat apply za
 refine zb ?_
 refine zn (by simp) ?_
 refine zh (za (zV [] (by rfl) (by rfl) fun K Gc Gh hK hGc hGh X hX0 hX => ?_))
 simp -implicitDefEqProofs [hX0, hX]
 try clear hX0 hX X
 refine hGc _ _ _ _ _ _ _ fun hsuf => ((hshow [] p0 _ (by simp) hG).mono ?_).v
 rintro _ _ rfl
 refine ⟨_, _, rfl, ?_⟩
 clear hGc hGh
 clear Gc Gh
 refine zR hsuf (D := []) (by rfl) fun Gc Gh hGc hGh X hX0 hX => ?_
 simp -implicitDefEqProofs [hX0, hX]
 clear hX0 hX X
 refine hK _ _ _ ?_
 clear hK hGc hGh
 clear K Gc Gh
 refine za (zV [] (by rfl) (by rfl) fun K Gc Gh hK hGc hGh X hX0 hX => ?_)
 simp -implicitDefEqProofs [hX0, hX]
 try clear hX0 hX X
 refine hGc _ _ _ _ _ _ _ fun hsuf => ((Znq seed jO).mono ?_).v
 rintro _ _ ⟨v3, rfl, rfl⟩
 refine ⟨_, _, jk _, ?_⟩
 clear hGc hGh
 clear Gc Gh
 refine zR hsuf (D := []) (by rfl) fun Gc Gh hGc hGh X hX0 hX => ?_
 simp -implicitDefEqProofs [hX0, hX]
 clear hX0 hX X
 refine hK _ _ _ ?_
 clear hK hGc hGh
 clear K Gc Gh
 repeat apply za
 refine zb ?_
 have hz : wu x n b p0 (IntKind.u64.wrap seed) 0 = [] ++ [p0] := rfl
 generalize IntKind.u64.wrap seed = s0 at *
 refine zj (jo (σ := Nat) (fun k => k ≤ r) (fun k => [(2, .fn (.func fn) [] cs), (3, .ptr nx v0 0), (4, .ptr (nx + 1) v1 0), (7, .ptr (nx + 2) v2 0), (9, .ptr (nx + 3) v3 0), (27, I r), (28, I k)]) (fun k => St (wu x n b p0 s0 k)) (fun k => [.cells v0 25 (zA x), .cells v1 74 (vZ seed r b cl), .cells v2 38 [L (yX x n b p0 s0 k).1], .cells v3 209 (jA (yX x n b p0 s0 k).2)]) (fun k => r - k) (zP 0 [] (by simp) (by simp) (by rw [Zn3]) (by simp [yX])) ?_)
 rintro k hk
 have hgk := hit k
 have hgn := hit (k + 1)
 have hrd := fun (S : Store) (id v : Nat) hS => Znw hgk hn0 (yX x n b p0 s0 k).2 b hb (S := S) (id := id) (v := v) hS
 have hnx : wq x n (yX x n b p0 s0 k).1 (yX x n b p0 s0 k).2 b = (yX x n b p0 s0 (k + 1)).1 := rfl
 have hnx2 : Yj x (yX x n b p0 s0 k).2 = (yX x n b p0 s0 (k + 1)).2 := rfl
 have hhs := Zfn x n b p0 s0 k
 have hhl := Zn4 x n b p0 s0 k
 rw [hnx, hnx2] at hrd
 refine za (zb ?_)
 refine za (zr rfl (fun hc => ?_) (fun hc => ?_))
 ·simp at hc
  refine zh (za (zj (za (zV [] (by rfl) (by rfl) fun K Gc Gh hK hGc hGh X hX0 hX => ?_))))
  simp -implicitDefEqProofs [hX0, hX]
  try clear hX0 hX X
  refine hGc _ _ _ _ _ _ _ fun hsuf => ((hrd _ (nx + 3) v3 (by rw [yQ]; rfl)).mono ?_).v
  rintro _ _ ⟨rfl, rfl⟩
  refine ⟨_, _, y9 _ (by omega) (by simp), ?_⟩
  clear hGc hGh
  clear Gc Gh
  refine zR hsuf (D := []) (by rfl) fun Gc Gh hGc hGh X hX0 hX => ?_
  simp -implicitDefEqProofs [hX0, hX]
  clear hX0 hX X
  try simp only [Nat.add_sub_cancel_left, List.set_cons_succ, List.set_cons_zero]
  refine hK _ _ _ ?_
  clear hK hGc hGh
  clear K Gc Gh
  refine zV [] (by rfl) (by rfl) fun K Gc Gh hK hGc hGh X hX0 hX => ?_
  simp -implicitDefEqProofs [hX0, hX]
  try clear hX0 hX X
  refine hGc _ _ _ _ _ _ _ fun hsuf => ((hshow _ _ _ (by omega) hgn).mono ?_).v
  rintro _ _ rfl
  refine ⟨_, _, rfl, ?_⟩
  clear hGc hGh
  clear Gc Gh
  refine zR hsuf (D := []) (by rfl) fun Gc Gh hGc hGh X hX0 hX => ?_
  simp -implicitDefEqProofs [hX0, hX]
  clear hX0 hX X
  refine hK _ _ _ ?_
  clear hK hGc hGh
  clear K Gc Gh
  refine zb ?_
  exact zp (k + 1) [] hc (by omega) (by simp [zt k (by omega)]) (by rw [hhs]) (by simp)
 ·simp at hc
  obtain rfl : k = r := by omega
  refine zy (za (zb ?_))
  exact zg ⟨_, _, rfl, ⟨by simp [zq], rfl⟩, yb (hdead _)⟩
open Go Go.Proofs Hp
theorem Zn5 (p : zu) {S : Store} {id v : Nat} {old : PV} (hS : S id = .cells v 38 [old]) : Spec Tryz.prog 82 [.agg [L p], .ptr id v 0] S (fun _ S' => S' = S.set id (.cells v 38 [L p])) := by
 refine yU Tryz.func82 Tryz.ntmps82 Tryz.results82 fun nx hd => ?_
 have hlt : id < nx := yA hd hS (by simp)
 have xw := fun obs => (zH (S := S) (obs := obs) hlt).trans hS
 have g1 : ¬ nx ≤ id := by omega
 refine za (zb ?_)
 intro v0
 refine ze [] (zm xw g1) ?_
 exact ⟨_, _, rfl, by simp, yb (wJ hd hlt _)⟩
def Jf (h : List zu) : PV := match h.getLast? with
 | none => yG
 | some p => L p
theorem Zfp (h : List zu) (p : zu) : Jf (h ++ [p]) = L p := by unfold Jf; rw [List.getLast?_append]; rfl
theorem Zn6 (x : Inst) (n : Nat) (b : Int) (p : zu) (s : Int) (k : Nat) : Jf (wu x n b p s k) = L (yX x n b p s k).1 := by
 cases k with
 | zero => rfl
 | succ k => rw [Zfn, Zfp]
def Yk (x : Inst) (n : Nat) (seed : Int) (r : Nat) (b : Int) : zu × Int :=
 if (yp x b).2 = 0 then ((yX x n b (yp x b).1 (IntKind.u64.wrap seed) r).1, 0) else ([], (yp x b).2)
theorem Zar {x : Inst} {n : Nat} (hA : InstA x n) (hn0 : 0 < n) (hmay : ∀ b, (yp x b).2 = 0 → PlanG x n (yp x b).1) (seed : Int) (r : Nat) (hr : r ≤ 1000) (b : Int) (hb : b ≤ 9223372036854775807) (cl : Int) :
  Pure Tryz.prog 42 [.agg (zA x), .agg (vZ seed r b cl)] (.tup [.agg [L (Yk x n seed r b).1], I (Yk x n seed r b).2]) := by
 have hw := fun (S : Store) fn cs St h1 h2 h3 => Zfo hA hn0 hmay seed r hr b hb cl fn cs (S := S) St h1 h2 h3
 have hrz : Yk x n seed r b = if (yp x b).2 = 0 then ((yX x n b (yp x b).1 (IntKind.u64.wrap seed) r).1, 0) else ([], (yp x b).2) := rfl
 have hl := fun p s => Zn6 x n b p s r
 generalize yp x b = st at *
 obtain ⟨p0, e⟩ := st
 simp only at hw hrz
 generalize IntKind.u64.wrap seed = s0 at *
 refine zx Tryz.func42 Tryz.ntmps42 Tryz.results42 fun S nx hd => ?_
 refine za (zb ?_)
 intro v0 v1 v2
 refine za (zb ?_)
 intro v3
 obtain ⟨S1, hS1⟩ : ∃ S1, S1 = ext S nx [.cells v0 25 (zA x), .cells v1 74 (vZ seed r b cl), .cells v2 38 [yG], .cells v3 38 [yG]] := ⟨_, rfl⟩
 have h1 : S1 (nx + 3) = .cells v3 38 [yG] := by rw [hS1, yQ]; rfl
 have hwk := hw S1 82 [.ptr (nx + 3) v3 0] (fun h => S1.set (nx + 3) (.cells v3 38 [Jf h])) (by
   funext i
   by_cases hi : i = nx + 3
   ·subst hi; rw [Store.set_same]; exact h1.symm
   ·exact Store.set_other _ _ _ _ hi) (fun nx' hd' h => wJ hd' (yA hd' h1 (by simp)) _) (fun nx' hd' h p obs _ _ => by
   have hlt : nx + 3 < nx' := yA hd' h1 (by simp)
   refine (Zn5 p (id := nx + 3) (v := v3) (old := Jf h) (by rw [zH hlt]; exact Store.set_same _ _ _)).mono ?_
   rintro _ _ rfl
   rw [jZ _ hlt, Store.set_set, Zfp])
 rw [hS1] at hwk
 refine za (zV [] (by rfl) (by rfl) fun K Gc Gh hK hGc hGh X hX0 hX => ?_)
 simp -implicitDefEqProofs [hX0, hX]
 try clear hX0 hX X
 refine hGc _ _ _ _ _ _ _ fun hsuf => (hwk.mono ?_).v
 rintro _ _ ⟨rfl, rfl⟩
 refine ⟨_, _, y9 _ (by omega) (by simp), ?_⟩
 clear hGc hGh
 clear Gc Gh
 refine zR hsuf (D := []) (by rfl) fun Gc Gh hGc hGh X hX0 hX => ?_
 simp -implicitDefEqProofs [hX0, hX]
 clear hX0 hX X
 try simp only [Nat.add_sub_cancel_left, List.set_cons_succ, List.set_cons_zero]
 refine hK _ _ _ ?_
 clear hK hGc hGh
 clear K Gc Gh
 by_cases he : e = 0
 ·rw [if_pos he] at hrz
  rw [hrz]
  simp only [if_pos he, hl]
  subst he
  refine za (zb ?_)
  exact zg (zk hd (by simp; rfl) rfl)
 ·rw [if_neg he] at hrz
  rw [hrz]
  simp only [if_neg he]
  show PW _ _ _ _ _ _ _ (ext _ _ _)
  refine za (zb ?_)
  refine uP 2 0 rfl rfl ?_
  exact zg (zk hd (by simp; rfl) rfl)
theorem Zn7 {x : Inst} {n : Nat} {p : zu} (hG : PlanG x n p) (l : List Int) (hl : l.length ≤ 2000) {S : Store} {id v ib w ix vx : Nat} (hS : S id = .cells v 45 [.sl ib w 1 0 l.length]) (hB : S ib = .cells w 3 (l.flatMap Enc.enc)) (hX : S ix = .cells vx 25 (zA x)) (d1 : id ≠ ib) (d2 : ix ≠ id) (d3 : ix ≠ ib) :
  Spec Tryz.prog 83 [.agg [L p], .ptr id v 0, .ptr ix vx 0] S (fun _ S' => S' = (S.set ib (.cells (w + 1) 3 ((l ++ [yI x p]).flatMap Enc.enc))).set id (.cells v 45 [.sl ib (w + 1) 1 0 (l.length + 1)])) := by
 have hc := hG.cost
 generalize yI x p = z at *
 refine yU Tryz.func83 Tryz.ntmps83 Tryz.results83 fun nx hd => ?_
 have hlt : id < nx := yA hd hS (by simp)
 have hltB : ib < nx := yA hd hB (by simp)
 have hltX : ix < nx := yA hd hX (by simp)
 have xw := fun obs => (zH (S := S) (obs := obs) hlt).trans hS
 have xb := fun obs => (zH (S := S) (obs := obs) hltB).trans hB
 have xx := fun obs => (zH (S := S) (obs := obs) hltX).trans hX
 have yw := fun (o : Ob) obs => (zH (S := S.set ib o) (obs := obs) hlt).trans ((Store.set_other _ _ _ _ d1).trans hS)
 have g1 : ¬ nx ≤ id := by omega
 have g2 : ¬ nx ≤ ib := by omega
 have g3 : ¬ nx ≤ ix := by omega
 refine za (zb ?_)
 intro v0
 refine zC (some [nx, ix]) (Row.pures [1, 2, 3, 4] (.alt 0 (.alt 5 (.alt 6 (.done) .stop) .stop) .stop)) mixed (yh xw xb xx yw g1 (zm g2 g3)) ?_
 refine zI (hc) (yh xw xb xx yw g1 (zm g2 g3)) ?_
 refine ⟨by omega, ?_⟩
 refine ⟨by rw [zH hltX, Store.set_other _ _ _ _ d3]; exact hX, by rw [zH hltX, Store.set_other _ _ _ _ d2, Store.set_other _ _ _ _ d3]; exact hX, ?_⟩
 exact ⟨_, _, rfl, by simp, yb (wJ (wJ hd hltB _) hlt _)⟩
def Yl (x : Inst) (n : Nat) (seed : Int) (r : Nat) (b : Int) : List Int :=
 if (yp x b).2 = 0 then (wu x n b (yp x b).1 (IntKind.u64.wrap seed) r).map (yI x) else []
theorem Zn8 {x : Inst} {n : Nat} (hA : InstA x n) (hn0 : 0 < n) (hmay : ∀ b, (yp x b).2 = 0 → PlanG x n (yp x b).1) (seed : Int) (r : Nat) (hr : r ≤ 1000) (b : Int) (hb : b ≤ 9223372036854775807) (cl : Int) :
  Pure Tryz.prog 43 [.agg (zA x), .agg (vZ seed r b cl)] (L (Yl x n seed r b)) := by
 have hw := fun (S : Store) fn cs St h1 h2 h3 => Zfo hA hn0 hmay seed r hr b hb cl fn cs (S := S) St h1 h2 h3
 have hcz : (if (yp x b).2 = 0 then wu x n b (yp x b).1 (IntKind.u64.wrap seed) r else []).map (yI x) = Yl x n seed r b := by unfold Yl; split <;> rfl
 have hcl : (if (yp x b).2 = 0 then wu x n b (yp x b).1 (IntKind.u64.wrap seed) r else []).length = (Yl x n seed r b).length := by rw [← hcz, List.length_map]
 generalize (if (yp x b).2 = 0 then wu x n b (yp x b).1 (IntKind.u64.wrap seed) r else []) = H at *
 generalize Yl x n seed r b = cz at *
 generalize (yp x b).2 = e at *
 refine zx Tryz.func43 Tryz.ntmps43 Tryz.results43 fun S nx hd => ?_
 refine za (zb ?_)
 intro v0 v1
 refine za (zb ?_)
 intro v2
 refine qQ 2 0 3 1 rfl rfl fun v3 => ?_
 obtain ⟨S1, hS1⟩ : ∃ S1, S1 = ext S nx [.cells v0 25 (zA x), .cells v1 74 (vZ seed r b cl), .cells v2 45 [.sl (nx + 3) v3 1 0 0], .cells v3 3 []] := ⟨_, rfl⟩
 have h0 : S1 nx = .cells v0 25 (zA x) := by
  have : S1 (nx + 0) = .cells v0 25 (zA x) := by rw [hS1, yQ]; rfl
  exact this
 have h2 : S1 (nx + 2) = .cells v2 45 [.sl (nx + 3) v3 1 0 0] := by rw [hS1, yQ]; rfl
 have h3 : S1 (nx + 3) = .cells v3 3 [] := by rw [hS1, yQ]; rfl
 have hwk := hw S1 83 [.ptr (nx + 2) v2 0, .ptr nx v0 0] (fun h => (S1.set (nx + 3) (.cells (v3 + h.length) 3 ((h.map (yI x)).flatMap Enc.enc))).set (nx + 2) (.cells v2 45 [.sl (nx + 3) (v3 + h.length) 1 0 h.length])) (by
   funext i
   by_cases hi : i = nx + 2
   ·subst hi; rw [Store.set_same]; exact h2.symm
   ·rw [Store.set_other _ _ _ _ hi]
    by_cases hi3 : i = nx + 3
    ·subst hi3; rw [Store.set_same]; exact h3.symm
    ·exact Store.set_other _ _ _ _ hi3) (fun nx' hd' h => wJ (wJ hd' (yA hd' h3 (by simp)) _) (yA hd' h2 (by simp)) _) (fun nx' hd' h p obs hhl hG => by
   have hlt2 : nx + 2 < nx' := yA hd' h2 (by simp)
   have hlt3 : nx + 3 < nx' := yA hd' h3 (by simp)
   refine (Zn7 hG (h.map (yI x)) (by rw [List.length_map]; omega) (id := nx + 2) (v := v2) (ib := nx + 3) (w := v3 + h.length) (ix := nx) (vx := v0) (by rw [zH hlt2, Store.set_same, List.length_map]) (by rw [zH hlt3, Store.set_other _ _ _ _ (by omega), Store.set_same]) (by rw [zH (by omega), Store.set_other _ _ _ _ (by omega), Store.set_other _ _ _ _ (by omega)]; exact h0) (by omega) (by omega) (by omega)).mono ?_
   rintro _ _ rfl
   rw [jZ _ hlt3, jZ _ hlt2]
   congr 1
   funext i
   simp only [Store.set, List.length_map, List.length_append, List.length_singleton, List.map_append, List.map_cons, List.map_nil, Nat.add_assoc]
   by_cases hi : i = nx + 2
   ·simp [hi]
   ·by_cases hi3 : i = nx + 3
    ·simp [hi3]
    ·simp [hi, hi3])
 rw [hS1] at hwk
 refine za (zV [] (by rfl) (by rfl) fun K Gc Gh hK hGc hGh X hX0 hX => ?_)
 simp -implicitDefEqProofs [hX0, hX]
 try clear hX0 hX X
 refine hGc _ _ _ _ _ _ _ fun hsuf => (hwk.mono ?_).v
 rintro _ _ ⟨rfl, rfl⟩
 refine ⟨S, _, by rw [y9 _ (by omega) (by simp), y9 _ (by omega) (by simp)], ?_⟩
 clear hGc hGh
 clear Gc Gh
 refine zR hsuf (D := []) (by rfl) fun Gc Gh hGc hGh X hX0 hX => ?_
 simp -implicitDefEqProofs [hX0, hX]
 clear hX0 hX X
 try simp only [Nat.add_sub_cancel_left, List.set_cons_succ, List.set_cons_zero]
 refine hK _ _ _ ?_
 clear hK hGc hGh
 clear K Gc Gh
 rw [hcz, hcl]
 refine yc 3 rfl ?_
 refine za (zb ?_)
 exact zg (zk hd (by simp; rfl) (by simp [zq]))
open Go Go.Proofs Hp
def yB (l : List Int) (i : Nat) : Int := if 1000 < l.getD i 0 then 1000 else if l.getD i 0 < 0 then 0 else l.getD i 0
theorem XX (l : List Int) (i : Nat) : 0 ≤ yB l i ∧ yB l i ≤ 1000 := by unfold yB; split; omega; split <;> omega
theorem Zas (l : List Int) (i : Nat) (hi : i ≤ 100) : Pure Tryz.prog 80 [L l, I i] (I (yB l i)) := by
 refine zx Tryz.func80 Tryz.ntmps80 Tryz.results80 fun S nx hd => ?_
 refine za (zb ?_)
 by_cases h1 : i < l.length
 ·obtain ⟨z, tl, a1, a2, a3, e0⟩ := zE rfl l i h1
  have hz : l.getD i 0 = z := by rw [List.getD_eq_getElem?_getD, a1]; rfl
  have hz1 : 1 ≤ l.length - i := by omega
  have h1' : ¬ l.length ≤ i := by omega
  unfold yB
  rw [hz]
  by_cases h2 : z < 0
  ·rw [if_neg (by omega), if_pos h2]
   repeat apply za
   refine ze [(4, 9)] (qm e0 h1 h1' hz1 h2) ?_
   refine zo rfl (za (zb ?_))
   exact zg (zk hd rfl rfl)
  ·by_cases h3 : 1000 < z
   ·rw [if_pos h3]
    repeat apply za
    refine ze [(4, 9)] (qm e0 h1 h1' hz1 h2) ?_
    refine zn rfl (zh ?_)
    repeat apply za
    refine ze [] (zF e0 h1 hz1) ?_
    refine zo (by simp [h3]) ?_
    refine za (zb ?_)
    exact zg (zk hd rfl rfl)
   ·rw [if_neg h3, if_neg h2]
    repeat apply za
    refine ze [(4, 9)] (qm e0 h1 h1' hz1 h2) ?_
    refine zn rfl (zh ?_)
    repeat apply za
    refine ze [] (zF e0 h1 hz1) ?_
    refine zn (by simp; omega) ?_
    refine zh (za (ze [] (zF e0 h1 hz1) ?_))
    exact zg (zk hd rfl rfl)
 ·have hz : l.getD i 0 = 0 := by rw [List.getD_eq_getElem?_getD, List.getElem?_eq_none (by omega)]; rfl
  unfold yB
  rw [hz, if_neg (by decide), if_neg (by decide)]
  have h1' : l.length ≤ i := by omega
  repeat apply za
  refine ze [(4, 9)] (zm h1' zL) ?_
  refine zo rfl (za (zb ?_))
  exact zg (zk hd rfl rfl)
def vt (l : List Int) : Int := l.getD 0 0
theorem Zn9 (l : List Int) : Pure Tryz.prog 39 [L l] (.agg (vZ (vt l) (yB l 1) (yB l 2) (yB l 3))) := by
 have t1 := Zas l 1 (by omega)
 have t2 := Zas l 2 (by omega)
 have t3 := Zas l 3 (by omega)
 generalize yB l 1 = r at *
 generalize yB l 2 = b at *
 generalize yB l 3 = c at *
 refine zx Tryz.func39 Tryz.ntmps39 Tryz.results39 fun S nx hd => ?_
 refine za (zb ?_)
 intro v0
 refine za (zb ?_)
 refine zz t1 ?_
 refine zz t2 ?_
 refine zz t3 ?_
 intro v1
 by_cases h : 0 < l.length
 ·obtain ⟨z, tl, a1, a2, a3, e0⟩ := zE rfl l 0 h
  have hz : vt l = z := by unfold vt; rw [List.getD_eq_getElem?_getD, a1]; rfl
  have hz1 : 1 ≤ l.length := h
  rw [List.drop_zero] at e0
  rw [hz]
  repeat apply za
  refine zb ?_
  refine zo (by simp [h]) ?_
  refine ze [] (zF e0 h hz1) ?_
  refine za (zb ?_)
  exact zg (zk hd (by simp; rfl) rfl)
 ·have hz : vt l = 0 := by unfold vt; rw [List.getD_eq_getElem?_getD, List.getElem?_eq_none (by omega)]; rfl
  rw [hz]
  have hl : l = [] := List.length_eq_zero_iff.1 (by omega)
  subst hl
  repeat apply za
  refine zb ?_
  refine zn (by simp) ?_
  refine zh (za (zb ?_))
  exact zg (zk hd (by simp; rfl) rfl)
theorem Zoa (l : List Int) : Pure Tryz.prog 41 [L l] (.agg (vZ (vt l) (yB l 1 % 9) (yB l 2 % 21) (yB l 3 % 13))) := by
 have hr := Zn9 l
 have b1 := XX l 1
 have b2 := XX l 2
 have b3 := XX l 3
 have w1 : (yB l 1).tmod 9 = yB l 1 % 9 := Int.tmod_eq_emod_of_nonneg (by omega)
 have w2 : (yB l 2).tmod 21 = yB l 2 % 21 := Int.tmod_eq_emod_of_nonneg (by omega)
 have w3 : (yB l 3).tmod 13 = yB l 3 % 13 := Int.tmod_eq_emod_of_nonneg (by omega)
 generalize yB l 1 = r at *
 generalize yB l 2 = b at *
 generalize yB l 3 = c at *
 generalize vt l = s at *
 refine zx Tryz.func41 Tryz.ntmps41 Tryz.results41 fun S nx hd => ?_
 refine za (zb ?_)
 intro v0
 refine za (zb ?_)
 refine zz hr ?_
 intro v1
 refine za (ze [] w1 ?_)
 refine za (ze [] w2 ?_)
 refine za (ze [] w3 ?_)
 refine za (zb ?_)
 exact zg (zk hd (by simp; rfl) rfl)
open Go Go.Proofs Hp
theorem Zob {l m : List Stop} (h : l.Perm m) (hn : (l.map (·.c)).Nodup) (c : Int) : l.filter (fun s => decide (s.c = c)) = m.filter (fun s => decide (s.c = c)) := by
 have hp := h.filter (fun s => decide (s.c = c))
 have h1 : ∀ s ∈ l.filter (fun s => decide (s.c = c)), s.c = c := fun s hs => by simpa using (List.mem_filter.1 hs).2
 have h2 := hn.sublist ((List.filter_sublist (p := fun s : Stop => decide (s.c = c)) (l := l)).map (·.c))
 generalize l.filter (fun s => decide (s.c = c)) = a at hp h1 h2
 generalize m.filter (fun s => decide (s.c = c)) = b at hp
 match a, hp, h1, h2 with
 | [], hp, _, _ => exact (List.nil_perm.1 hp).symm
 | [s], hp, _, _ => exact List.singleton_perm.1 hp
 | s :: t :: r, _, h1, h2 =>
  exfalso
  have ea := h1 s (by simp)
  have eb := h1 t (by simp)
  simp only [List.map_cons, List.nodup_cons, List.mem_cons] at h2
  exact h2.1 (.inl (by rw [ea, eb]))
theorem Zoc (c : Int) (i : Nat) (l : List Stop) : yd c (l.map (·, i)) = (l.filter (fun s => decide (s.c = c))).map fun s => ⟨i, s.q⟩ := by
 unfold yd
 rw [List.filter_map, List.map_map]
 rfl
theorem Zfq {d e : zi} (hp : e.flatten.Perm d.flatten) (hn : (d.flatten.map (·.c)).Nodup) (c : Int) : ∀ (p : zu) (k i : Nat), p[k]? = some d → yd c (told i (p.set k e)) = yd c (told i p)
 | [], k, i, h => by cases h
 | a :: p, 0, i, h => by
  simp only [List.getElem?_cons_zero, Option.some.injEq] at h
  subst h
  simp only [List.set_cons_zero, told, uY, Zoc]
  rw [Zob hp ((hp.map _).nodup_iff.2 hn) c]
 | a :: p, k + 1, i, h => by
  simp only [List.set_cons_succ, told, uY]
  rw [Zfq hp hn c p k (i + 1) (by simpa using h)]
theorem Zfr (x : Inst) (e : zi) : ∀ (p : zu) (k : Nat) (d : zi), p[k]? = some d → ((p.set k e).map (zM x)).sum = (p.map (zM x)).sum - zM x d + zM x e
 | [], k, d, h => by cases h
 | a :: p, 0, d, h => by
  simp only [List.getElem?_cons_zero, Option.some.injEq] at h
  subst h
  simp only [List.set_cons_zero, List.map_cons, List.sum_cons]; omega
 | a :: p, k + 1, d, h => by
  have := Zfr x e p k d (by simpa using h)
  simp only [List.set_cons_succ, List.map_cons, List.sum_cons, this]; omega
theorem Zod {x : Inst} {p q : zu} (h : ∀ c : Int, yd c (told 0 q) = yd c (told 0 p)) (k : Nat) : qx x q k = qx x p k := by
 unfold qx wF
 simp only [h]
theorem Zoe {x : Inst} {p : zu} (h : PlanM x p) (hs : ∀ c ∈ x.cust, CustSm c) {day b : Int} (hl : (qV x p day b).2 = true) :
  ∃ (k : Nat) (d e : zi), day = k ∧ p[k]? = some d ∧ (qV x p day b).1 = p.set k e ∧ yq x e = 0 ∧ (∀ d' ∈ p.set k e, yq x d' = 0) ∧ (∀ c : Int, yd c (told 0 (p.set k e)) = yd c (told 0 p)) ∧ yI x (p.set k e) < yI x p := by
 unfold qV at hl ⊢
 by_cases h0 : day < 0 ∨ (p.length : Int) ≤ day
 ·rw [if_pos h0] at hl; cases hl
 rw [if_neg h0] at hl ⊢
 obtain ⟨k, rfl⟩ := Int.eq_ofNat_of_zero_le (show 0 ≤ day by omega)
 have hk : k < p.length := by omega
 obtain ⟨d, hd⟩ : ∃ d, p[k]? = some d := ⟨_, List.getElem?_eq_getElem hk⟩
 have hgd : p.getD (k : Int).toNat [] = d := by rw [Int.toNat_natCast, List.getD_eq_getElem?_getD, hd]; rfl
 rw [hgd] at hl ⊢
 have hdm := List.mem_of_getElem? hd
 obtain ⟨i1, i2, i3⟩ := Zae h.cust h.inst (h.may d hdm) b
 generalize jS x b d = e at *
 split at hl
 ·cases hl
 rename_i hle
 rw [if_neg hle, Int.toNat_natCast]
 have hmay : ∀ d' ∈ p.set k e, yq x d' = 0 := fun d' hd' => by
  rcases List.mem_or_eq_of_mem_set hd' with q | rfl
  ·exact h.may d' q
  ·exact i1
 have hvis : ∀ c : Int, yd c (told 0 (p.set k e)) = yd c (told 0 p) := fun c => Zfq i2 ((xo x d).1 (h.may d hdm)).2.1 c p k 0 hd
 refine ⟨k, d, e, rfl, hd, rfl, i1, hmay, hvis, ?_⟩
 have hcu := h.cust
 obtain ⟨s1, s2, s3⟩ := Yh hcu (h.may d hdm)
 obtain ⟨t1, t2, t3⟩ := Yh hcu i1
 rw [ZcD h.inst.arc (by omega) (by omega), ZcD h.inst.arc (by omega) (by omega)] at hle
 rw [ZeR h.inst.arc hs hcu (by simpa using h.len) hmay, ZeR h.inst.arc hs hcu h.len h.may, Zod hvis, Zfr x e p k d hd]
 omega
open Go Go.Proofs Hp
theorem Zof {x : Inst} {n : Nat} {p : zu} (h : PlanG x n p) (hs : ∀ c ∈ x.cust, CustSm c) (s b : Int) : yI x (wq x n p s b) ≤ yI x p := by
 unfold wq
 split
 ·exact Int.le_refl _
 ·rename_i h0
  have ha := uE s (n := x.cust.length) (by omega)
  have ho := uE (yW s) (n := x.cust.length) (by omega)
  obtain ⟨g1, k1⟩ := XV h [jh s x.cust.length] (by simp) (by simpa using ha)
  obtain ⟨g2, k2⟩ := Zai g1 _ _ ha ho
  have key : ∀ (q : zu), PlanG x n q → ∀ d : Int, yI x (qV x q d b).1 ≤ yI x q := by
   intro q hq d
   cases hp : (qV x q d b).2 with
   | true =>
    obtain ⟨k, d', e, -, -, h3, -, -, -, h4⟩ := Zoe hq.m hs hp
    rw [h3]; omega
   | false =>
    have : (qV x q d b).1 = q := by
     unfold qV at hp ⊢
     split
     ·rfl
     ·rename_i h1
      rw [if_neg h1] at hp
      split
      ·rfl
      ·rename_i h2; rw [if_neg h2] at hp; cases hp
    rw [this]; exact Int.le_refl _
  have := key _ g2 (jh (yW (yW s)) n)
  omega
theorem Zfs {x : Inst} {n : Nat} {p : zu} (h : PlanG x n p) (hs : ∀ c ∈ x.cust, CustSm c) (b s : Int) (k : Nat) : ∀ m : Nat, yI x (yX x n b p s (k + m)).1 ≤ yI x (yX x n b p s k).1
 | 0 => Int.le_refl _
 | m + 1 => by
  have h1 := Zfs h hs b s k m
  have h2 := Zof (XW h b s (k + m)) hs (yX x n b p s (k + m)).2 b
  have e : (yX x n b p s (k + (m + 1))).1 = wq x n (yX x n b p s (k + m)).1 (yX x n b p s (k + m)).2 b := rfl
  rw [e]; omega
theorem Zog (x : Inst) {n : Nat} (hn : (zO x).days.toNat = n) (b : Int) (h0 : (yp (zO x) b).2 = 0) : PlanG (zO x) n (yp (zO x) b).1 := by
 have hA := XU x
 obtain ⟨h1, h2⟩ := Zn2 x b h0
 obtain ⟨q1, q2, q3, -⟩ := Zm8 h1
 have := Z8 x
 rw [hn] at hA
 exact ⟨hA, Va x, by omega, q3⟩
theorem PlanG.refCost {x : Inst} {n : Nat} {p : zu} (h : PlanG x n p) : Pure Tryz.prog 30 [.agg (zA x), .agg [L p]] (I (yI x p)) :=
 Zmu x p h.serves (by have := h.six; omega) (fun c hc => (h.a.made c hc).fits) fun d hd => (h.s.ok d hd).1
theorem PlanG.same {x : Inst} {n : Nat} {p : zu} (h : PlanG x n p) : Pure Tryz.prog 19 [.agg [L p], .agg [L p]] (B true) := by
 obtain ⟨h1, h2, h3⟩ := h.s.sizes (by have := h.a.n60; omega) (by omega)
 have := ZlZ p p (by omega) (fun d hd => by have := h2 d hd; omega) (fun d hd t ht => by have := h3 d hd t ht; omega)
 simpa using this
open Go Go.Proofs Hp
theorem Zft : InstA yv 1 := by
 refine ⟨Zak, rfl, by decide, fun c hc => ?_, fun c hc => ?_⟩
 ·have : c = vY := by simpa [yv] using hc
  subst this
  exact ⟨⟨by decide, by decide, by decide⟩, by decide, by decide, fun _ => ⟨by decide, by decide, by decide⟩⟩
 ·have : c = vY := by simpa [yv] using hc
  subst this; decide
theorem Zoh {x : Inst} {n : Nat} (h : InstA x n) (h6 : x.cust.length ≤ 6) (b : Int) (h0 : (yp x b).2 = 0) : PlanG x n (yp x b).1 := by
 obtain ⟨v, pr, hv, hp, e, hd, hc⟩ := Zaq h h0
 rw [e]
 refine ⟨h, h6, Q8 x v b n, fun d hd' => ?_⟩
 obtain ⟨r, hr, rfl⟩ := List.mem_map.1 hd'
 obtain ⟨k, hk, rfl⟩ := List.mem_map.1 hr
 exact (Xv (Y7 h.h hv k) h.h.diag b (hd k (List.mem_range.1 hk))).2.1
theorem Zoi (pr : List (List Int)) : qa yv (qb 1 9) pr = ([[⟨0, 1⟩]], 0) := by
 have h : wX yv (qb 1 9) pr yv.cust.length = [([⟨0, 1⟩], true)] := by
  show [qb 1 9 vY (pr.getD 0 [])] = _
  unfold qb
  rw [if_pos (show vY.kind = 1 from rfl), Ze0]
 unfold qa
 rw [h]; rfl
theorem Zoj : yp yv 0 = ([[[⟨0, 1⟩]]], 0) := by
 have hs : qr [[⟨0, 1⟩]] (0 : Nat) 1 = [⟨0, 1⟩] := by decide
 have hk := Y7 Zak Znx 0
 have hb : Z6 yv [[⟨0, 1⟩]] 0 1 = [([[⟨0, 1⟩]], 0)] := by
  show [qP yv 0 (qr [[⟨0, 1⟩]] (0 : Nat) 1)] = _
  rw [hs]
  rw [show qr [[(⟨0, 1⟩ : Visit)]] 0 yv.cust.length = [⟨0, 1⟩] from hs] at hk
  rw [Zny hk Zak.diag (by decide) (by decide) 0]
 have h1 : qC yv [[⟨0, 1⟩]] 0 1 = [0] := by unfold qC; rw [hb]; rfl
 have h2 : jf yv [[⟨0, 1⟩]] 0 1 = [[[⟨0, 1⟩]]] := by unfold jf; rw [hb]; rfl
 show Ye yv (qb 1 9) 0 1 = _
 unfold Ye vr
 rw [Zoi]
 simp only [h1, h2]
 rfl
def xy : zu := [[[⟨0, 1⟩]]]
theorem Zok : yI yv xy = 7 := by decide
theorem Zol : jM yv 1 [[]] 0 = (xy, true) ∨ (jM yv 1 [[]] 0).2 = false := by
 unfold jM
 have e : qb 1 yv.cap (yv.cust.getD 0 default) (([[]] : zu).map (xv yv (xR yv 0))) = ([⟨0, 1⟩], true) := by
  show qb 1 9 vY _ = _
  unfold qb
  rw [if_pos (show vY.kind = 1 from rfl), Ze0]
 rw [e, if_pos rfl]
 show ([⟨0, 1⟩] : List Visit).foldl (wg yv 0) ([[]], true) = _ ∨ _
 have e2 : ([⟨0, 1⟩] : List Visit).foldl (wg yv 0) ([[]], true) = wg yv 0 ([[]], true) ⟨0, 1⟩ := rfl
 rw [e2]
 unfold wg
 rw [if_pos rfl]
 split
 ·rename_i hi
  left
  have hp := Xk hi
  have hm := (RgOk.step (x := yv) (d := []) (l := [⟨0, 0⟩]) (by decide) (Vo (by decide) (by decide)) (i := 0) (by decide) hi).may
  have : (yC yv [] ⟨0, 1⟩).1 = [[⟨0, 1⟩]] := Ze1 hp (Xn hm)
  show ([[]].set 0 (yC yv [] ⟨0, 1⟩).1, true) = _
  rw [this]; rfl
 ·exact .inr rfl
theorem Zom : (jX yv 1 xy [0]).1 = xy := by
 unfold jX
 have e : wI [0] xy = [[]] := by decide
 rw [e]
 have e2 : wh yv 1 [0] [[]] = jM yv 1 [[]] 0 := rfl
 rw [e2]
 rcases Zol with q | q
 ·rw [q, if_pos rfl]
  split
  ·rename_i h; exact absurd (Int.le_refl _) h.2
  ·rfl
 ·rw [if_neg (by rw [q]; decide)]
theorem Zon (s : Int) : wq yv 1 xy s 0 = xy := by
 unfold wq
 rw [if_neg (by decide)]
 have b0 : ∀ s, jh s yv.cust.length = 0 := fun s => by have := uE s (n := yv.cust.length) (by decide); have e : yv.cust.length = 1 := rfl; omega
 have b1 : ∀ s, jh s 1 = 0 := fun s => by have := uE s (n := 1) (by decide); omega
 rw [b0, b0, b1, Zom]
 unfold wY
 rw [if_pos rfl]
 show (qV yv xy 0 0).1 = xy
 have hi : ∀ d, jS yv 0 d = d := fun d => rfl
 unfold qV
 rw [if_neg (by decide), hi, if_pos (Int.le_refl _)]
theorem XY (s : Int) : ∀ k, (yX yv 1 0 xy s k).1 = xy
 | 0 => rfl
 | k + 1 => by
  show wq yv 1 (yX yv 1 0 xy s k).1 (yX yv 1 0 xy s k).2 0 = xy
  rw [XY s k, Zon]
theorem Zoo : Yl yv 1 0 2 0 = [7, 7, 7] := by
 unfold Yl
 rw [Zoj, if_pos rfl]
 unfold wu
 show [yI yv (yX yv 1 0 xy _ 0).1, yI yv (yX yv 1 0 xy _ 1).1, yI yv (yX yv 1 0 xy _ 2).1] = _
 rw [XY, XY, XY, Zok]
theorem Zop (hread : ∀ l : List Int, Pure Tryz.prog 38 [L l] (.agg (vZ (vt l) (yB l 1) (yB l 2) (yB l 3)))) : Pure Tryz.prog 40 [] (B true) := by
 have h1 := hread [7, -1, 2000]
 rw [show vt [7, -1, 2000] = 7 from by decide, show yB [7, -1, 2000] 1 = 0 from by decide, show yB [7, -1, 2000] 2 = 1000 from by decide, show yB [7, -1, 2000] 3 = 0 from by decide] at h1
 have h2 := Zn8 Zft (by decide) (Zoh Zft (by decide)) 0 2 (by decide) 0 (by decide) 0
 rw [Zoo] at h2
 refine zx Tryz.func40 Tryz.ntmps40 Tryz.results40 fun S nx hd => ?_
 refine za (zb ?_)
 refine za (zb ?_)
 intro v0
 refine za (zb ?_)
 refine zz h1 ?_
 intro v1
 refine za (zb ?_)
 refine zz h2 ?_
 refine za (ze [(3, 19), (8, 24), (14, 30)] trivial ?_)
 exact zg (zk hd (by simp; rfl) rfl)
open Go Go.Proofs Hp
theorem Zoq (hlv : Pure Tryz.prog 40 [] (B true)) (x : Inst) (l : List Int) (more : Int) (hx : InstOk x) (hm : zU more) : Pure Tryz.prog 10 [.agg (zA x), L l, I more] (B true) := by
 have hgd := Z8 x
 have hG := Zhk x hx
 obtain ⟨n, hn⟩ : ∃ n : Nat, (zO x).days.toNat = n := ⟨_, rfl⟩
 have hA := XU x
 rw [hn] at hA
 have hmay := Zog x hn
 have hcs := Znc x
 have hSm := Zoa l
 obtain ⟨r, hr⟩ : ∃ r : Nat, yB l 1 % 9 = r := ⟨(yB l 1 % 9).toNat, by have := XX l 1; omega⟩
 have hr9 : r < 9 := by omega
 have hb : yB l 2 % 21 ≤ 9223372036854775807 := by omega
 rw [hr] at hSm
 generalize yB l 2 % 21 = b at *
 generalize yB l 3 % 13 = c at *
 generalize vt l = s at *
 obtain ⟨mo, hmo⟩ : ∃ mo : Int, mo = if more < 0 then -(more + 1) else more := ⟨_, rfl⟩
 have hmo0 : 0 ≤ mo ∧ mo ≤ 9223372036854775807 := by unfold zU at hm; rw [hmo]; split <;> omega
 obtain ⟨d, hdm⟩ : ∃ d : Nat, mo.tmod 6 = d := ⟨(mo % 6).toNat, by rw [Int.tmod_eq_emod_of_nonneg hmo0.1]; omega⟩
 have hd6 : d < 6 := by have := Int.tmod_eq_emod_of_nonneg (b := 6) hmo0.1; omega
 have hR := Zar hA (by omega) hmay s r (by omega) b hb c
 have hR0 := Zar hA (by omega) hmay s 0 (by omega) b hb c
 have hR2 := Zar hA (by omega) hmay s (r + d) (by omega) b hb c
 have hSt := ZeK hA hb
 have hrun : ∀ k, (yp (zO x) b).2 = 0 → Yk (zO x) n s k b = ((yX (zO x) n b (yp (zO x) b).1 (IntKind.u64.wrap s) k).1, 0) := fun k h0 => by unfold Yk; rw [if_pos h0]
 have hrn : (yp (zO x) b).2 ≠ 0 → Yk (zO x) n s r b = ([], (yp (zO x) b).2) := fun h0 => by unfold Yk; rw [if_neg h0]
 have hit := fun (h0 : (yp (zO x) b).2 = 0) => XW (hmay b h0) b (IntKind.u64.wrap s)
 have hle := fun (h0 : (yp (zO x) b).2 = 0) => Zfs (hmay b h0) hcs b (IntKind.u64.wrap s)
 generalize yp (zO x) b = st at *
 obtain ⟨p0, e⟩ := st
 simp only at hSt hrun hrn hit hle
 generalize zO x = y at *
 refine zx Tryz.func10 Tryz.ntmps10 Tryz.results10 fun S nx hd => ?_
 refine za (zb ?_)
 intro v0
 refine za (zb ?_)
 refine zz hG ?_
 intro v1
 refine za (zb ?_)
 refine zz hSm ?_
 intro v2
 by_cases he : e = 0
 case neg =>
  rw [hrn he] at hR
  refine za (zb ?_)
  refine zz hR ?_
  intro v3
  repeat apply za
  refine zb ?_
  refine zo (by simp [he]) ?_
  refine za (zb ?_)
  refine zz hlv ?_
  exact zg (zk hd (by simp; rfl) rfl)
 have g1 := hit he r
 have g2 := hit he (r + d)
 have g0 := hit he 0
 have l1 := hle he r d
 have l2 := hle he 0 r
 rw [Nat.zero_add] at l2
 have hsame := g0.same
 rw [hrun r he] at hR
 rw [hrun 0 he] at hR0
 rw [hrun (r + d) he] at hR2
 have c1 := g1.refCost
 have c2 := g2.refCost
 have c0 := g0.refCost
 have e0 : (yX y n b p0 (IntKind.u64.wrap s) 0).1 = p0 := rfl
 rw [e0] at hR0 hsame c0 l2
 generalize (yX y n b p0 (IntKind.u64.wrap s) r).1 = p1 at *
 generalize (yX y n b p0 (IntKind.u64.wrap s) (r + d)).1 = p2 at *
 generalize yI y p0 = z0 at *
 generalize yI y p1 = z1 at *
 generalize yI y p2 = z2 at *
 subst he
 clear hit hle hrun hrn g0 g1 g2 hmay
 refine za (zb ?_)
 refine zz hR ?_
 intro v3
 repeat apply za
 refine zb ?_
 refine zn (by simp) ?_
 refine zh (za (qh (nx := nx) (σ := Unit) (fun _ => True) (fun _ => [(2, I mo), (3, .ptr nx v0 0), (7, .ptr (nx + 1) v1 0), (8, .ptr (nx + 2) v2 0), (9, .ptr (nx + 3) v3 0)]) (fun _ => S) (fun _ => [.cells v0 25 (zA x), .cells v1 25 (zA y), .cells v2 74 (vZ s r b c), .cells v3 38 [L p1]]) ?_ ?_))
 ·by_cases h0 : more < 0
  ·rw [if_pos h0] at hmo
   have w1 : IntKind.i64.wrap (more + 1) = more + 1 := wr _ (by unfold zU at hm; omega) (by omega)
   have w2 : IntKind.i64.wrap (-(more + 1)) = mo := by rw [wr _ (by omega) (by unfold zU at hm; omega), hmo]
   refine za (zb ?_)
   refine zo (by simp [h0]) ?_
   refine ze [] (zm w1 w2) ?_
   exact zP () [] trivial (by simp) rfl (by simp)
  ·rw [if_neg h0] at hmo
   subst hmo
   refine za (zb ?_)
   refine zn (by simp; omega) ?_
   exact zh (zP () [] trivial (by simp) rfl (by simp))
 intro _ _
 have w3 : IntKind.i64.wrap ((r : Int) + mo.tmod 6) = ((r + d : Nat) : Int) := by rw [hdm, wr _ (by omega) (by omega)]; omega
 refine za (zb ?_)
 intro v4
 refine za (zb ?_)
 refine za (zb ?_)
 refine zz hR0 ?_
 intro v5
 refine za (zb ?_)
 refine zz hSt ?_
 intro v6
 refine za (ze [] w3 ?_)
 refine za (zb ?_)
 refine zz hR2 ?_
 intro v7
 refine za (zb ?_)
 refine zz c1 ?_
 refine za (ze [(2, 69), (6, 73), (10, 77), (15, 82), (22, 89), (29, 96)] (zm l1 l2) ?_)
 refine jB [(2, 69), (6, 73), (10, 77), (15, 82), (22, 89), (29, 96)] hsame (zm l1 l2) ?_
 refine jB [(2, 69), (6, 73), (10, 77), (15, 82), (22, 89), (29, 96)] c2 (zm l1 l2) ?_
 refine jB [(2, 69), (6, 73), (10, 77), (15, 82), (22, 89), (29, 96)] c0 (zm l1 l2) ?_
 refine jB [(2, 69), (6, 73), (10, 77), (15, 82), (22, 89), (29, 96)] hlv (zm l1 l2) ?_
 exact zg (zk hd (by simp; rfl) rfl)
open Go Go.Proofs Hp
def XZ (id ver b : Nat) : Rd := ⟨none, fun C S w => Rel C S w (.ptr id ver 0) (.pointer (some ⟨b, 0, none⟩)), fun st h => Rel.mono st h⟩
theorem Zor {P : Program} {n N : Nat} {c : Code} {Q : Exit → (Nat → PV) → Store → Prop} {F : Nat → PV} {S : Store} {x id ver e : Nat} {cs : List PV} (hF : F x = .ptr id ver 0) (hs : S id = .cells ver e cs)
  (h : ∀ b, PW P (XZ id ver b) n N c Q F S) : PW P w9 n N c Q F S := by
 intro C w a st
 have e1 := st.fr x
 rw [hF] at e1
 generalize hv : a.tmps.getD x undef = v at e1
 cases e1 with
 | ptr h1 h2 h3 =>
  obtain ⟨b, k, hl, rfl⟩ := (h3 ver (by rw [hs]; rfl)).2 rfl
  have := h b C w a ⟨st.sim, st.size, st.fr, .ptr h1 h2 h3⟩
  exact wpIn_mono this fun e a' w' ⟨F', S', C', q1, q2, q3, q4⟩ => ⟨F', S', C', q1, ⟨q2.sim, q2.size, q2.fr, trivial⟩, q3, q4⟩
theorem Zos {P : Program} {n : Nat} {F : Nat → PV} {S : Store} {o : Oper} {t e m id ver b et : Nat} {x : Operand} {cs : List PV} {K : PV → Store → Prop} (ho : o.op = .slice t x none none none) (ht : P.underlying t = some (.array m e)) (hc : P.cellsOf e ≠ 0) (hx : ev F x = .ptr id ver 0) (hs : S id = .cells ver et cs)
  (hK : K (.sc (.slice (some ⟨b, 0, none⟩) m m)) S) : PO P (XZ id ver b) n o F S K := by
 intro G hG C w a N st next Q' hnext
 have e1 := st.ev x
 rw [(hG x (by simp [ho, Op.operands])).trans hx] at e1
 have e2 : Rel C S w (.ptr id ver 0) (.pointer (some ⟨b, 0, none⟩)) := st.v
 have hnd : ∀ c, o.op ≠ .defer c := by intro c hc; rw [ho] at hc; cases hc
 generalize hv : a.eval x = v at e1
 cases e1 with
 | ptr h1 h2 h3 =>
  obtain ⟨b1, k1, hl, rfl⟩ := (h3 ver (by rw [hs]; rfl)).2 rfl
  cases e2 with
  | ptr i1 i2 i3 =>
   obtain ⟨b2, k2, hl2, hb⟩ := (i3 ver (by rw [hs]; rfl)).2 rfl
   rw [hl] at hl2
   cases hl2
   cases hb
   have hrun : (execOp a.eval o).run P w = .ok (.value (.slice (some ⟨b, 0, none⟩) m m)) w := by
    unfold execOp
    simp [ho, hv, Instr.sliceAt, run_underlying ht, Instr.sureAddr, Instr.sliceBounds, xS hc]
    intro _; rfl
   exact qu hnd hrun (hnext _ _ _ _ _ hK (.sc _) st.sim (Step.refl _ _ _))
theorem Zfu {P : Program} {o : Oper} {s x : Operand} {t : TypeId} {a : Act} {w w' : World} {v : Value} (ho : o.op = .call { callee := .builtin .copy, args := #[s, x], argTypes := #[t, t] })
  (h : (Builtin.copy_ #[t, t] o.type #[a.eval s, a.eval x]).run P w = .ok v w') : (execOp a.eval o).run P w = .ok (.value v) w' := by
 unfold execOp
 simp only [ho, resolve, invoke, builtin, Sem.run_bind, Sem.run_pure, Result.andThen_ok, List.map_toArray, List.map_cons, List.map_nil, h]
theorem Zot {P : Program} {n : Nat} {F : Nat → PV} {S : Store} {o : Oper} {s x : Operand} {t e b m id ver et : Nat} {cs l : List PV} {K : PV → Store → Prop} (ho : o.op = .call { callee := .builtin .copy, args := #[s, x], argTypes := #[t, t] }) (ht : P.underlying t = some (.slice e)) (hz : (P.info? e).map (·.size) = some 1)
  (hs : ev F s = .sc (.slice (some ⟨b, 0, none⟩) m m)) (hx : ev F x = .lst l.length l) (hid : S id = .cells ver et cs) (hm : cs.length = m)
  (hK : K (I (min l.length m : Nat)) (S.set id (.cells ver et (l.take m ++ cs.drop (min l.length m))))) : PO P (XZ id ver b) n o F S K := by
 intro G hG C w a N st next Q' hnext
 have e1 := st.ev s
 rw [(hG s (by simp [ho, Op.operands, Call.operands])).trans hs] at e1
 have e2 := st.ev x
 rw [(hG x (by simp [ho, Op.operands, Call.operands])).trans hx] at e2
 have e3 : Rel C S w (.ptr id ver 0) (.pointer (some ⟨b, 0, none⟩)) := st.v
 have hnd : ∀ c, o.op ≠ .defer c := by intro c hc; rw [ho] at hc; cases hc
 generalize hv : a.eval s = v at e1
 cases e1
 generalize hu : a.eval x = u at e2
 cases e3 with
 | ptr i1 i2 i3 =>
  obtain ⟨b2, k, hl, hb⟩ := (i3 ver (by rw [hid]; rfl)).2 rfl
  cases hb
  rcases st.sim.cells id ver et cs hid with ⟨hn, _⟩ | ⟨b', k', c, g1, g2, g3, g4, g5, g6⟩
  ·rw [hn] at hl; cases hl
  rw [hl] at g1; cases g1
  have main : ∀ (vs : List Value) (a' : Addr) (cap : Nat), u = .slice (some a') l.length cap → vs.length = min l.length m → (∀ j v, vs[j]? = some v → w.cell? (a'.add j) = some v) → (∀ v ∈ vs, v.oneCell' = true) → (∀ (i : Nat) (p : PV) (v : Value), (l.take m)[i]? = some p → vs[i]? = some v → Rel C S w p v) → o.wpIn (Fe (XZ id ver b)) n P a w next Q' := by
   intro vs a' cap hu' hvl hcell hone hrel
   have hrun0 := run_copy_row P w t t o.type e b 0 m m a' l.length cap c et vs ht hz g2 (by rw [hvl]) hcell (by omega) hone
   have hrun := Zfu (P := P) (a := a) (w := w) ho (by rw [hv, hu, hu']; exact hrun0)
   simp only [List.take_zero, List.nil_append, Nat.zero_add] at hrun
   generalize hw' : w.setRow b (vs ++ c.toList.drop vs.length).toArray = w' at hrun
   have hheap : w'.heap[b]? = some (.cells (vs ++ c.toList.drop vs.length).toArray et (0, 0)) := by rw [← hw']; exact setRow_heap w b c _ et _ g2
   have hgr : w.grownBy w' (some b) ∧ w.drawn ≤ w'.drawn := by
    rw [← hw']
    exact ⟨⟨rfl, rfl, rfl, by simp [World.setRow], fun j hj hne => setRow_other w b j _ (fun e => hne (by rw [e]))⟩, Nat.le_refl _⟩
   have hsize : (vs ++ c.toList.drop vs.length).toArray.size = k := by simp; omega
   have htl : (l.take m).length = vs.length := by rw [List.length_take, hvl]; omega
   obtain ⟨t1, t2⟩ := st.sim.turn (l := C.loc id) (ver' := ver) (cs' := l.take m ++ cs.drop (min l.length m)) hid (Nat.le_refl _) (fun _ => rfl) (by rw [hl]; exact hgr)
    (.inr ⟨b, k, _, hl, .inr (by rw [hl]; rfl), hheap, hsize, by rw [List.length_append, List.length_drop, htl]; omega, fun i z hi hz => by
      rw [List.getElem?_toArray] at hz
      by_cases q1 : i < vs.length
      ·rw [List.getElem?_append_left q1] at hz
       exact hone z (List.mem_of_getElem? hz)
      ·rw [List.getElem?_append_right (by omega), List.getElem?_drop] at hz
       rw [List.length_append, List.length_drop, htl] at hi
       have e9 : vs.length + (i - vs.length) = i := by omega
       rw [e9] at hz
       exact g5 i z (by omega) (by rw [← Array.getElem?_toList]; exact hz),
     fun i p z hp hz => by
      rw [List.getElem?_toArray] at hz
      by_cases q1 : i < vs.length
      ·rw [List.getElem?_append_left q1] at hz
       rw [List.getElem?_append_left (by omega)] at hp
       exact hrel i p z hp hz
      ·rw [List.getElem?_append_right (by omega), List.getElem?_drop] at hz
       rw [List.getElem?_append_right (by omega), List.getElem?_drop, htl, ← hvl] at hp
       have e9 : vs.length + (i - vs.length) = i := by omega
       rw [e9] at hz hp
       exact g6 i p z hp (by rw [← Array.getElem?_toList]; exact hz)⟩)
   have hres : goInt vs.length = Value.int .i64 ((min l.length m : Nat) : Int) := by rw [hvl]; rfl
   exact qu hnd hrun (hnext _ _ _ _ _ hK (by rw [hres]; exact .sc _) t1 t2)
  generalize hk : l.length = kk at e2
  cases e2 with
  | lst0 =>
   rename_i cap a'
   have hrun0 : (Builtin.copy_ #[t, t] o.type #[a.eval s, a.eval x]).run P w = .ok (goInt 0) w := by
    rw [hv, hu]
    cases hq : P.info? e with
    | none => simp [hq] at hz
    | some i =>
     cases a' <;> simp [Builtin.copy_, run_underlying ht, Builtin.lenOf, Builtin.firstCells, sizeOf, typeInfo, hq, storeCells, loadCells, loadCellsFrom]
   have hrun := Zfu (P := P) (a := a) (w := w) ho hrun0
   have eS : S.set id (.cells ver et cs) = S := by
    funext i
    by_cases hi : i = id
    ·subst hi; rw [Store.set_same]; exact hid.symm
    ·exact Store.set_other _ _ _ _ hi
   simp only [List.length_nil, Nat.zero_min, List.take_nil, List.drop_zero, List.nil_append, eS] at hK
   exact qu hnd hrun (hnext _ _ _ _ _ hK (.sc _) st.sim (Step.refl _ _ _))
  | lst1 hn hmx hb hM hs1 h1 h2 =>
   rename_i cap b' o' c' e' fz
   subst hk
   have hadd : ∀ j, (⟨b', o', none⟩ : Addr).add j = ⟨b', o' + j, none⟩ := by intro j; unfold Addr.add; split <;> simp_all
   have hat : ∀ (j : Nat) (v : Value), ((c'.toList.drop o').take (min l.length m))[j]? = some v → j < min l.length m ∧ c'[o' + j]? = some v := fun j v hj => by
    rw [List.getElem?_take] at hj
    split at hj
    ·rename_i hlt
     rw [List.getElem?_drop, Array.getElem?_toList] at hj
     exact ⟨hlt, hj⟩
    ·cases hj
   refine main ((c'.toList.drop o').take (min l.length m)) ⟨b', o', none⟩ cap rfl ?_ ?_ ?_ ?_
   ·rw [List.length_take, List.length_drop]
    have e9 : c'.toList.length = c'.size := Array.length_toList
    by_cases hl0 : l = []
    ·subst hl0; simp
    ·have := hs1 hl0; omega
   ·intro j v hj
    obtain ⟨q1, q2⟩ := hat j v hj
    rw [hadd]
    simp [World.cell?, hb, q2]
   ·intro v hv'
    obtain ⟨j, hj⟩ := List.getElem?_of_mem hv'
    obtain ⟨q1, q2⟩ := hat j v hj
    exact h1 j v (by omega) q2
   ·intro i p v hp hvi
    obtain ⟨q1, q2⟩ := hat i v hvi
    rw [List.getElem?_take_of_lt (by omega)] at hp
    exact h2 i p v hp q2
open Go Go.Proofs Hp
theorem Zou (l : List Int) (i : Nat) : min (max (l.getD i 0) 0) 1000 = yB l i := by
 unfold yB; split
 ·omega
 ·split <;> omega
theorem Zov (l : List Int) : (l.flatMap Enc.enc : List PV).take 4 ++ [I 0, I 0, I 0, I 0].drop (min (l.flatMap Enc.enc : List PV).length 4) = [I (l.getD 0 0), I (l.getD 1 0), I (l.getD 2 0), I (l.getD 3 0)] := by
 match l with
 | [] => rfl
 | [a] => simp
 | [a, b] => simp
 | [a, b, c] => simp
 | a :: b :: c :: d :: r =>
  have : min (((a :: b :: c :: d :: r).flatMap Enc.enc : List PV).length) 4 = 4 := by rw [jQ]; simp [Enc.sz]
  rw [this]; simp
theorem Zow (l : List Int) : Pure Tryz.prog 38 [L l] (.agg (vZ (vt l) (yB l 1) (yB l 2) (yB l 3))) := by
 have c1 := Xw (l.getD 1 0) 0 1000
 have c2 := Xw (l.getD 2 0) 0 1000
 have c3 := Xw (l.getD 3 0) 0 1000
 rw [Zou] at c1 c2 c3
 have ha := Zov l
 have hL : L l = .lst (l.flatMap Enc.enc : List PV).length (l.flatMap Enc.enc) := by
  show PV.lst l.length _ = _
  congr 1
  rw [jQ]; simp [Enc.sz]
 have hsd : vt l = l.getD 0 0 := rfl
 rw [hsd, hL]
 generalize l.getD 0 0 = z0 at *
 generalize l.getD 1 0 = z1 at *
 generalize l.getD 2 0 = z2 at *
 generalize l.getD 3 0 = z3 at *
 generalize yB l 1 = t1 at *
 generalize yB l 2 = t2 at *
 generalize yB l 3 = t3 at *
 generalize (l.flatMap Enc.enc : List PV) = cs at *
 refine zx Tryz.func38 Tryz.ntmps38 Tryz.results38 fun S nx hd => ?_
 refine za (zb ?_)
 intro v0
 refine za (zb ?_)
 intro v1
 refine Zor (x := 3) (id := nx + 1) (ver := v1) rfl (by rw [yQ]; rfl) fun b => ?_
 refine za (zV [] (by rfl) (by rfl) fun K Gc Gh hK hGc hGh X hX0 hX => ?_)
 simp -implicitDefEqProofs [hX0, hX]
 try clear hX0 hX X
 refine hGh _ _ _ _ _ fun hsuf => Zos rfl Tryz.underlying120 (by simp) rfl (by rw [yQ]; rfl) ?_
 refine ⟨_, _, rfl, ?_⟩
 clear hGc hGh
 clear Gc Gh
 refine zR hsuf (D := []) (by rfl) fun Gc Gh hGc hGh X hX0 hX => ?_
 simp -implicitDefEqProofs [hX0, hX]
 clear hX0 hX X
 refine hGh _ _ _ _ _ fun hsuf => Zot (id := nx + 1) (ver := v1) rfl Tryz.underlying45 (by kernel_rfl) rfl rfl (by rw [yQ]; rfl) rfl ?_
 rw [ha]
 refine ⟨_, _, y9 _ (by omega) (by simp), ?_⟩
 clear hGc hGh
 clear Gc Gh
 refine zR hsuf (D := []) (by rfl) fun Gc Gh hGc hGh X hX0 hX => ?_
 simp -implicitDefEqProofs [hX0, hX]
 clear hX0 hX X
 try simp only [Nat.add_sub_cancel_left, List.set_cons_succ, List.set_cons_zero]
 refine hK _ _ _ ?_
 clear hK hGc hGh
 clear K Gc Gh
 repeat apply za
 refine zb ?_
 refine zj (zG (fun k : Nat => 1 ≤ k ∧ k ≤ 4) (fun k => [(2, .ptr nx v0 0), (3, .ptr (nx + 1) v1 0), (4, I k)]) (fun k => [.cells v0 74 [I 0, I 0, I 0, I 0], .cells v1 120 [I z0, I (if 1 < k then t1 else z1), I (if 2 < k then t2 else z2), I (if 3 < k then t3 else z3)]]) (fun k => 4 - k) 1 [] (by simp) (by simp) (by simp) ?_)
 rintro k ⟨hk1, hk⟩
 repeat apply za
 refine zb ?_
 refine zr rfl (fun hc => ?_) (fun hc => ?_)
 ·simp at hc
  refine zh (za (zj ?_))
  obtain rfl | rfl | rfl : k = 1 ∨ k = 2 ∨ k = 3 := by omega
  ·repeat apply za
   refine zb ?_
   refine zz c1 ?_
   refine zb ?_
   exact zp 2 [] (by omega) (by omega) (by simp; exact wr 2 (by omega) (by omega)) rfl (by simp)
  ·repeat apply za
   refine zb ?_
   refine zz c2 ?_
   refine zb ?_
   exact zp 3 [] (by omega) (by omega) (by simp; exact wr 3 (by omega) (by omega)) rfl (by simp)
  ·repeat apply za
   refine zb ?_
   refine zz c3 ?_
   refine zb ?_
   exact zp 4 [] (by omega) (by omega) (by simp; exact wr 4 (by omega) (by omega)) rfl (by simp)
 ·simp at hc
  obtain rfl : k = 4 := by omega
  refine zy (za (zb ?_))
  exact zg (zk hd (by simp; rfl) rfl)
open Go Go.Proofs Hp
theorem Zox (x : Inst) (l : List Int) (more : Int) (hx : InstOk x) (hm : zU more) : Pure Tryz.prog 10 [.agg (zA x), L l, I more] (B true) := Zoq (Zop Zow) x l more hx hm
end Go.Proofs.YtcnbiofjmioaiaaGreat.Pv
namespace Go.Proofs.YtcnbiofjmioaiaaGreat
open Go Go.ChangeShapes Go.WideShapes Go.ChangeAt Go.RowKit Pv
theorem Zoy (os : Os) (started : os.Started) (H : Type) (enc : TypeId × Value → H) :
  ReturnsInHanded {} Tryz.checked os 10 .any (Rows.searchMoreSpec.pre6 enc Tryz.prog Tryz.f10 Rows.searchMoreRow.domain false) (Rows.searchMoreSpec.post enc Tryz.prog Tryz.f10 false true false false) := by
 refine returnsInHanded_of_change (C := Tryz.checked) ZgJ started (by kernel_rfl) Tryz.func10
  (ChangeSpec.witness6 (enc := enc) (C := Tryz.checked) false ⟨#[], #[.agg #[.int .i64 0, .int .i64 0, .int .i64 0, .int .i64 0, .slice none 0 0, .slice none 0 0], .slice none 0 0, .int .i64 0], []⟩ 8 (by kernel_rfl) (by kernel_rfl) (by kernel_rfl) (by kernel_rfl)) ?_
 intro W base args ds gs before hval0 hW hcnd _
 have hval : ∀ (j : Nat) t v, Tryz.f10.params[j]? = some t → args[j]? = some v → Value.okWide Tryz.prog W .any base t v := hval0
 have hW' := hW
 obtain ⟨p, q, hA0, hV, rfl, hfz, hnd⟩ := hW
 have hA : DataW.TrodAll enc Tryz.prog W 0 (fun _ => true) true Tryz.f10.params.toList args.toList ds p := hA0
 rw [Tryz.params10] at hA hval
 obtain ⟨v0, v1, v2, d0, d1, d2, p0, p1, p2, rfl, rfl, rfl, h0, h1, h2⟩ := trodAll_three hA
 obtain ⟨rfl, rfl⟩ := trodVars_none hV
 obtain ⟨c0, rfl, _⟩ := okWide_struct Tryz.underlying25 (hval 0 _ v0 rfl rfl)
 obtain ⟨a0, k0, r0⟩ := ZgI (Zhm W) h0
 obtain ⟨b1, n1, m1, rfl⟩ := okWide_slice Tryz.underlying45 (hval 1 _ v1 rfl rfl)
 obtain ⟨a1, k1, r1⟩ := Zbn (Zhn W) rfl h1
 have r1 := r1 _ rfl
 obtain ⟨z2, rfl⟩ := okWide_int Tryz.underlying3 (hval 2 _ v2 rfl rfl)
 obtain ⟨a2, k2, r2⟩ := Zbn ((wv Tryz.underlying3 : uj Tryz.prog W 3 Int zU)) rfl h2
 have r2 := r2 _ rfl
 refine (ZgL ((Zox a0 a1 a2 k0 k2)) rfl (fun i c v hc hv => ?_)).mono fun e W' hq => ?_
 ·match i with
  | 0 => cases hc; cases hv; exact r0
  | 1 => cases hc; cases hv; exact r1
  | 2 => cases hc; cases hv; exact r2
  | i + 3 => cases hc
 exact ⟨_, hq.1, ZgM rfl rfl (of_decide_eq_true (by kernel_rfl)) hW' rfl rfl rfl hq.2⟩
theorem Zoz : Rows.searchMoreRow.wf (OpenSpec.ofChange Rows.searchMoreSpec) = true := by kernel_rfl
theorem ZoA : Tryz.f10.params.all (Tryz.pinned.checked.prog.readableRec ·) = true := by kernel_rfl
theorem ZoB : namedTie Tryz.pinned.checked.prog Rows.searchMoreRow.named Rows.searchMoreSpec.vars = true := by kernel_rfl
theorem ZoC : (Rows.searchMoreRow.inPlace == Tryz.pinned.checked.prog.inPlace 10) = true := by kernel_rfl
theorem ZoD : (Rows.searchMoreRow.unfollowed == Tryz.pinned.checked.prog.unfollowed 10) = true := by kernel_rfl
theorem ZoE : (Rows.searchMoreRow.recurses == Tryz.pinned.checked.prog.recurses 10) = true := by kernel_rfl
theorem ZoF : (Rows.searchMoreRow.named == Tryz.pinned.checked.prog.varsNamed 10) = true := by kernel_rfl
theorem ZoG : (Rows.searchMoreRow.maps == (Tryz.f10.params.toList ++ Rows.searchMoreSpec.plain.varTypes Tryz.pinned.checked.prog).any (Tryz.pinned.checked.prog.mapsRec ·)) = true := by kernel_rfl
theorem ZoH : (Rows.searchMoreRow.ifaces == (Tryz.f10.params.toList ++ Rows.searchMoreSpec.plain.varTypes Tryz.pinned.checked.prog).any (Tryz.pinned.checked.prog.ifacesRec ·)) = true := by kernel_rfl
theorem ZoI : (Rows.searchMoreRow.mapsOut == Tryz.pinned.checked.prog.mapsAmong Tryz.f10.resultTypes.toList) = true := by kernel_rfl
theorem ZoJ : (Rows.searchMoreRow.loops == (Tryz.f10.params.toList ++ Rows.searchMoreSpec.plain.varTypes Tryz.pinned.checked.prog).any (Tryz.pinned.checked.prog.loopsFrom ·)) = true := by kernel_rfl
theorem ZoK : (Rows.searchMoreRow.wideKeys == (Tryz.f10.params.toList ++ Rows.searchMoreSpec.plain.varTypes Tryz.pinned.checked.prog ++ Tryz.f10.resultTypes.toList).any (Tryz.pinned.checked.prog.wideKeysFrom ·)) = true := by kernel_rfl
theorem ZoL : Rows.searchMoreSpec.vars.all (Tryz.pinned.checked.prog.varReadable ·) = true := by kernel_rfl
theorem ZoM : Tryz.f10.resultTypes.all (fun t => Tryz.pinned.checked.prog.readableRec t && decide (t < Tryz.pinned.checked.prog.types.size)) = true := by kernel_rfl
theorem ZoN : (Rows.searchMoreRow.ifacesOut == Tryz.f10.resultTypes.toList.any (Tryz.pinned.checked.prog.ifacesRec ·)) = true := by kernel_rfl
theorem ZoO : (Rows.searchMoreRow.loopsOut == Tryz.f10.resultTypes.toList.any (Tryz.pinned.checked.prog.loopsFrom ·)) = true := by kernel_rfl
theorem ZoP : (Rows.searchMoreRow.plainKeys == Tryz.pinned.checked.prog.plainKeys) = true := by kernel_rfl
theorem ZoQ : (Rows.searchMoreRow.lifted == Tryz.pinned.checked.prog.liftsFinal) = true := by kernel_rfl
theorem ZoR : (Tryz.pinned.checked.prog.make == some Rows.searchMoreRow.make) = true := by kernel_rfl
theorem ZoS : (Rows.searchMoreRow.kinds == (if Rows.searchMoreRow.domain.isEmpty then [] else Tryz.f10.params.toList.map fun t => match Tryz.pinned.checked.prog.underlying t with | some (.int k) => some k | _ => none)) = true := by kernel_rfl
theorem ZoT : (Rows.searchMoreRow.veiled == (Tryz.f10.params.toList ++ Rows.searchMoreSpec.plain.varTypes Tryz.pinned.checked.prog ++ Tryz.f10.resultTypes.toList).any (Tryz.pinned.checked.prog.veiledRec ·)) = true := by kernel_rfl
theorem ZoU : Rows.searchMoreRow.veiledFits Tryz.pinned.checked.prog Tryz.f10.params.toList (Tryz.f10.params.toList ++ Rows.searchMoreSpec.plain.varTypes Tryz.pinned.checked.prog ++ Tryz.f10.resultTypes.toList) = true := by kernel_rfl
theorem ZoV : Tryz.pinned.checked.prog.funcNamed Rows.searchMoreRow.func = some 10 := by kernel_rfl
theorem ZoW : Tryz.f10.isInstance Tryz.pinned.checked.prog Rows.searchMoreRow.origin Rows.searchMoreRow.targs := of_decide_eq_true (by kernel_rfl)
theorem ZoX : Tryz.f10.isWrapper Tryz.pinned.checked.prog Rows.searchMoreRow.wrapper Rows.searchMoreRow.mainSum := by unfold Func.isWrapper; first | (rw [if_pos (by decide +kernel)]; kernel_rfl) | (rw [if_neg (by decide +kernel)]; exact ⟨rfl, rfl⟩)
theorem searchMore_holds : Rows.SearchMoreSaid :=
 OpenClaim.holds_of_wide 10 Tryz.f10 rfl rfl rfl rfl rfl rfl rfl ⟨rfl, rfl, rfl, rfl, rfl⟩ rfl rfl rfl rfl rfl ZoV Tryz.func10 (ZgN Zoz ZgO ZgP ZoA ZoB rfl ZgQ rfl ZgR ZoC ZoD ZoE ZoF ZoG ZoH ZoI ZoJ ZoK ZoL ZoM ZoN ZoO ZoP rfl ZgS ZgT ZoQ ZoR ZoS rfl ZoT ZoU)
  ZoW ZoX
  (fun os started H enc _ => Zoy os started H enc)
end Go.Proofs.YtcnbiofjmioaiaaGreat
