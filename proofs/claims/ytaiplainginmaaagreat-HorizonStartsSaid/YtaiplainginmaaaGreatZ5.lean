/- Part of a proof, packed. -/
import Derived.Test.YtaiplainginmaaaGreatZ4
namespace Go.Proofs.YtaiplainginmaaaGreat.Pv
open Go Go.Proofs
theorem Za9 (l : List Stop) (k : Nat) (s : Stop) (h : k < l.length) : zP (l.flatMap Enc.enc) (k * 2) [I s.c, I s.q] = (l.set k s).flatMap Enc.enc := by
 unfold zP
 rw [List.set_eq_take_append_cons_drop, if_pos h, List.flatMap_append, List.flatMap_cons, ← vB Enc.enc 2 (fun _ => rfl) l k, ← u6 Enc.enc 2 (fun _ => rfl) l (k + 1)]
 simp [show k * 2 + 2 = (k + 1) * 2 by omega]
def qi (l : List Stop) (k : Nat) : List Stop := (List.range l.length).map fun q => if q < k ∨ l.length - 1 - q < k then l.getD (l.length - 1 - q) default else l.getD q default
theorem xx (l : List Stop) (k : Nat) : (qi l k).length = l.length := by simp [qi]
theorem Zr {l : List Stop} {k q : Nat} (hq : q < l.length) : (qi l k)[q]? = some (if q < k ∨ l.length - 1 - q < k then l.getD (l.length - 1 - q) default else l.getD q default) := by
 unfold qi; rw [List.getElem?_map, List.getElem?_range hq]; rfl
theorem Zir (l : List Stop) : qi l 0 = l := by
 apply List.ext_getElem?
 intro q
 by_cases h : q < l.length
 ·rw [Zr h, if_neg (by omega), List.getD_eq_getElem?_getD, List.getElem?_eq_getElem h]; rfl
 ·rw [List.getElem?_eq_none (by rw [xx]; omega), List.getElem?_eq_none (by omega)]
theorem Zis {l : List Stop} {k : Nat} (hk : l.length - 1 ≤ k + k) : qi l k = l.reverse := by
 apply List.ext_getElem?
 intro q
 by_cases h : q < l.length
 ·rw [Zr h, List.getElem?_reverse h]
  by_cases h1 : q < k ∨ l.length - 1 - q < k
  ·rw [if_pos h1, List.getD_eq_getElem?_getD, List.getElem?_eq_getElem (by omega)]; rfl
  ·rw [if_neg h1, List.getD_eq_getElem?_getD]
   have : q = l.length - 1 - q := by omega
   rw [← this, List.getElem?_eq_getElem h]; rfl
 ·rw [List.getElem?_eq_none (by rw [xx]; omega), List.getElem?_eq_none (by simp; omega)]
theorem Zit {l : List Stop} {k : Nat} (h : k < l.length - 1 - k) {a b : Stop} (ha : (qi l k)[k]? = some a) (hb : (qi l k)[l.length - 1 - k]? = some b) : ((qi l k).set k b).set (l.length - 1 - k) a = qi l (k + 1) := by
 rw [Zr (by omega), if_neg (by omega)] at ha
 rw [Zr (by omega), if_neg (by omega)] at hb
 cases ha; cases hb
 apply List.ext_getElem?
 intro q
 by_cases hq : q < l.length
 ·rw [Zr hq, List.getElem?_set, List.getElem?_set]
  by_cases e1 : l.length - 1 - k = q
  ·rw [if_pos e1, if_pos (by rw [List.length_set, xx]; omega), if_pos (by omega)]
   congr 2; omega
  ·rw [if_neg e1]
   by_cases e2 : k = q
   ·subst e2
    rw [if_pos rfl, if_pos (by rw [xx]; exact hq), if_pos (by omega)]
   ·rw [if_neg e2, Zr hq]
    by_cases h1 : q < k ∨ l.length - 1 - q < k
    ·rw [if_pos h1, if_pos (by omega)]
    ·rw [if_neg h1, if_neg (by omega)]
 ·rw [List.getElem?_eq_none (by rw [List.length_set, List.length_set, xx]; omega), List.getElem?_eq_none (by rw [xx]; omega)]
theorem QF (S : Store) (i : Nat) (a b : Ob) : (S.set i a).set i b = S.set i b := by
 funext o
 by_cases h : o = i
 ·subst h; rw [Store.set_same, Store.set_same]
 ·rw [Store.set_other _ _ _ _ h, Store.set_other _ _ _ _ h, Store.set_other _ _ _ _ h]
set_option maxRecDepth 20000 in
set_option maxHeartbeats 1600000 in
theorem Ziu {S : Store} {id ver : Nat} (pre l : List Stop) (hn : (pre ++ l).length ≤ 1048576) (hid : S id = .cells ver 50 ((pre ++ l).flatMap Enc.enc)) :
  Spec Tryz.prog 201 [.sl id ver 2 (pre.length * 2) l.length] S (fun _ S' => S' = S.set id (.cells ver 50 ((pre ++ l.reverse).flatMap Enc.enc))) := by
 refine qp Tryz.func201 Tryz.ntmps201 Tryz.results201 fun nx hd => ?_
 have hlt : id < nx := yZ hd hid (by simp)
 simp only [List.length_append] at hn
 have w0 : IntKind.i64.wrap ((l.length : Int) - 1) = (l.length : Int) - 1 := wr _ (by omega) (by omega)
 repeat apply za
 refine pwN [] w0 ?_
 intros
 repeat apply za
 refine zh (jn (σ := Nat) (fun k => k ≤ l.length) (fun k => [(0, .sl id ver 2 (pre.length * 2) l.length), (2, I k), (3, I ((l.length : Int) - 1 - k))]) (fun k => S.set id (.cells ver 50 ((pre ++ qi l k).flatMap Enc.enc))) (fun _ => []) (fun k => l.length - k) (zy 0 [] (by simp) (by simp) (by rw [Zir]; exact Zh S id _ hid) (by simp)) ?_)
 rintro k hk
 show PW _ _ _ _ _ _ _ (ext (S.set id (.cells ver 50 ((pre ++ qi l k).flatMap Enc.enc))) nx [])
 obtain ⟨T, hT⟩ : ∃ T, T = S.set id (.cells ver 50 ((pre ++ qi l k).flatMap Enc.enc)) := ⟨_, rfl⟩
 rw [← hT]
 (repeat apply za); refine pwn ?_; intros
 repeat apply za
 refine zn rfl (fun hc => ?_) (fun hc => ?_)
 ·simp at hc
  have h1 : k < l.length - 1 - k := by omega
  have x1 := xx l k
  obtain ⟨a, ta, a1, -, -, -, a0⟩ := el 2 rfl (pre ++ qi l k) (pre.length + k) (by simp [xx]; omega)
  obtain ⟨b, tb, b1, -, -, -, b0⟩ := el 2 rfl (pre ++ qi l k) (pre.length + (l.length - 1 - k)) (by simp [xx]; omega)
  have hst := Zit h1 (a := a) (b := b) (by rw [← a1, List.getElem?_append_right (by omega), Nat.add_sub_cancel_left]) (by rw [← b1, List.getElem?_append_right (by omega), Nat.add_sub_cancel_left])
  have sp1 := Za9 (pre ++ qi l k) (pre.length + k) b (by simp [xx]; omega)
  have sp2 := Za9 ((pre ++ qi l k).set (pre.length + k) b) (pre.length + (l.length - 1 - k)) a (by simp [xx]; omega)
  have hs2 : ((pre ++ qi l k).set (pre.length + k) b).set (pre.length + (l.length - 1 - k)) a = pre ++ qi l (k + 1) := by
   rw [List.set_append_right _ _ (by omega), List.set_append_right _ _ (by omega), Nat.add_sub_cancel_left, Nat.add_sub_cancel_left, hst]
  rw [hs2] at sp2
  have hjj : (l.length : Int) - 1 - k = ((l.length - 1 - k : Nat) : Int) := by omega
  generalize l.length - 1 - k = j at *
  generalize hw0 : ((pre ++ qi l k).flatMap Enc.enc : List PV) = c0 at *
  generalize hw1 : (((pre ++ qi l k).set (pre.length + k) b).flatMap Enc.enc : List PV) = c1 at *
  have l0 : c0.length = (pre.length + l.length) * 2 := by rw [← hw0, uu]; simp [xx]
  have l1 : c1.length = (pre.length + l.length) * 2 := by rw [← hw1, uu]; simp [xx]
  have hTid : T id = .cells ver 50 c0 := by rw [hT]; exact Store.set_same _ _ _
  have xid := fun obs => zB (S := T) (obs := obs) hlt
  have xid1 := fun obs => zB (S := T.set id (.cells ver 50 c1)) (obs := obs) hlt
  have hs1 : (T.set id (.cells ver 50 c1)) id = .cells ver 50 c1 := Store.set_same _ _ _
  have hq1 : k + 1 ≤ l.length := by omega
  have q1 : pre.length * 2 + k * 2 = (pre.length + k) * 2 := by omega
  have q2 : pre.length * 2 + j * 2 = (pre.length + j) * 2 := by omega
  have q3 : j < l.length := by omega
  have q4 : k < l.length := by omega
  have q5 : ¬ nx ≤ id := by omega
  refine ze (za (zh ?_))
  rw [hjj]
  repeat apply za
  refine pwY (some []) (Row.pures [0, 1, 2, 3, 4, 5, 6, 8, 9, 10] (.alt 7 (.alt 11 (Row.pures [12] (.alt 13 (Row.pures [14] (.alt 15 (.done) .stop)) .stop)) .stop) (.alt 11 (.alt 7 (Row.pures [12] (.alt 13 (Row.pures [14] (.alt 15 (.done) .stop)) .stop)) .stop) .stop))) mixed (jn6 xid hTid q1 q2 a0 (jn2 (jn6 b0 q3 q4 q5 l0 sp1) (jn4 hs1 xid1 sp2 l1))) ?_
  have wj : IntKind.i64.wrap ((j : Int) - 1) = (l.length : Int) - 1 - ((k + 1 : Nat) : Int) := by rw [wr _ (by omega) (by omega)]; omega
  have wk := wrN k (by omega)
  have hfin : S.set id (.cells ver 50 ((pre ++ qi l (k + 1)).flatMap Enc.enc)) = (T.set id (.cells ver 50 c1)).set id (.cells ver 50 ((pre ++ qi l (k + 1)).flatMap Enc.enc)) := by rw [hT, QF, QF]
  have happ : ((pre ++ qi l (k + 1)).flatMap Enc.enc : List PV) = pre.flatMap Enc.enc ++ (qi l (k + 1)).flatMap Enc.enc := by rw [List.flatMap_append]
  rw [happ] at hfin
  refine ⟨?_, ?_⟩
  ·refine ⟨by omega, by omega, ?_⟩
   intros
   repeat apply za
   refine pwN [] (jn2 wk wj) ?_
   intros
   exact zm (k + 1) [] hq1 (by omega) (by simp) (by rw [happ, hT]; simp only [QF]) (by simp)
  ·refine ⟨by omega, by omega, ?_⟩
   intros
   repeat apply za
   refine pwN [] (jn2 wk wj) ?_
   intros
   exact zm (k + 1) [] hq1 (by omega) (by simp) (by rw [happ, hT]; simp only [QF]) (by simp)
 ·simp at hc
  refine zo ?_
  refine ⟨[], T, rfl, ?_, zE ?_⟩
  ·rw [hT, Zis (by omega)]
  ·rw [hT]
   intro i hi
   rw [Store.set_other _ _ _ _ (by omega)]; exact hd i hi
open Go Go.Proofs
def yv (d : Day) (p : Pc) : List Stop := if p.f < p.o then (bif p.b then (((d.getD p.t []).drop p.f).take (p.o - p.f)).reverse else ((d.getD p.t []).drop p.f).take (p.o - p.f)) else []
def zY (d : Day) (r : Rw5) : List Stop := r.l.flatMap (yv d)
def Zs (d : Day) (p : Pc) : Prop := p.f < p.o → p.t < d.length ∧ p.o ≤ tlen d p.t
def xy (d : Day) (r : Rw5) : Prop := ∀ p ∈ r.l, Zs d p
theorem Ziv (d : Day) : xy d rw0 := by
 intro p hp h
 simp [Rw5.l, rw0] at hp
 subst hp
 exact absurd h (by decide)
theorem QG (r : Rw5) {k : Nat} (h : k < 5) : ∃ p, r.l[k]? = some p ∧ ((rwL r).drop (k * 4)).take 4 = pcL p ∧ r.l.take (k + 1) = r.l.take k ++ [p] := by
 have h5 : k = 0 ∨ k = 1 ∨ k = 2 ∨ k = 3 ∨ k = 4 := by omega
 rcases h5 with rfl | rfl | rfl | rfl | rfl <;> exact ⟨_, rfl, rfl, rfl⟩
theorem Zba {d : Day} {p : Pc} {m : Nat} (h : ∀ t ∈ d, t.length ≤ m) : (yv d p).length ≤ m := by
 have hg : (d.getD p.t []).length ≤ m := by
  rw [List.getD_eq_getElem?_getD]
  cases hq : d[p.t]? with
  | none => simp
  | some l => exact h l (List.mem_of_getElem? hq)
 unfold yv
 generalize d.getD p.t [] = l at *
 split
 ·cases p.b <;> simp <;> omega
 ·simp
set_option maxRecDepth 20000 in
set_option maxHeartbeats 1600000 in
theorem Zbb (d : Day) (r : Rw5) (hdn : d.length ≤ 1048576) (hdt : ∀ t ∈ d, t.length ≤ 1000) (hr : xy d r) : Pure Tryz.prog 158 [.agg [L d], .agg (rwL r)] (L (zY d r)) := by
 have hat := fun k (h : k < 5) => QG r h
 have hz : zY d r = (r.l.take 5).flatMap (yv d) := by unfold zY; rw [List.take_of_length_le (by simp [Rw5.l])]
 rw [hz]
 clear hz
 have hcl : (rwL r).length = 20 := rfl
 have hct : (rwL r).take 20 = rwL r := rfl
 have hpl := fun p => Zba (d := d) (p := p) hdt
 have hgl : ∀ k, ((r.l.take k).flatMap (yv d)).length ≤ 1000 * k := by
  intro k
  induction k with
  | zero => simp
  | succ k ih =>
   by_cases hk : k < 5
   ·obtain ⟨p, -, -, e⟩ := hat k hk
    rw [e, List.flatMap_append, List.length_append]
    have := hpl p
    simp only [List.flatMap_cons, List.flatMap_nil, List.append_nil]; omega
   ·rw [List.take_of_length_le (by simp [Rw5.l]; omega)] at ih ⊢; omega
 have hrl : r.l.length = 5 := rfl
 generalize hrc : rwL r = rc at *
 refine pwe Tryz.func158 Tryz.ntmps158 Tryz.results158 fun S nx hd => ?_
 repeat apply za
 refine pwn ?_
 intro v0 v1
 (repeat apply za); refine pwn ?_; intros
 refine za (yK 5 50 2 rfl fun v2 => ?_)
 repeat apply za
 refine pwN [] (jn2 hcl hct) ?_
 intros
 repeat apply za
 refine zh (zr (fun s' : Nat × Nat => s'.1 ≤ 5) (fun (k, v2) => [(2, .ptr nx v0 0), (3, .ptr (nx + 1) v1 0), (5, .sl (nx + 2) v2 2 0 ((r.l.take k).flatMap (yv d)).length), (9, .agg rc), (10, I k)]) (fun (k, v2) => [.cells v0 66 [L d], .cells v1 202 rc, .cells v2 50 (((r.l.take k).flatMap (yv d)).flatMap Enc.enc)]) (fun s' => 5 - s'.1) (0, v2) [] (by simp) (by simp) (by simp) ?_)
 rintro ⟨k, v2⟩ hk
 simp only at hk ⊢
 by_cases hk5 : k < 5
 ·obtain ⟨p, hp1, hp2, hp3⟩ := hat k hk5
  have hk5' : (k : Int) < 5 := by omega
  have hk6 : 4 ≤ 20 - k * 4 := by omega
  have hok := hr p (List.mem_of_getElem? hp1)
  have hol := hgl k
  have hnx : (r.l.take (k + 1)).flatMap (yv d) = (r.l.take k).flatMap (yv d) ++ yv d p := by rw [hp3, List.flatMap_append]; simp
  have hol2 := hpl p
  generalize (r.l.take k).flatMap (yv d) = out at *
  have wk := wrN k (by omega)
  repeat apply za
  refine pwN [] hk5' ?_
  intros
  repeat apply za
  refine zi rfl ?_
  refine ze (za (zh ?_))
  repeat apply za
  refine pwN [] (jn5 hp2 hk5 hk5' hcl hk6) ?_
  intro v3
  by_cases hfo : p.f < p.o
  case neg =>
   have hpz : yv d p = [] := by unfold yv; rw [if_neg hfo]
   have hfo' : p.o ≤ p.f := by omega
   repeat apply za
   refine pwN [] hfo' ?_
   intros
   repeat apply za
   refine zi (by simp [hfo']) ?_
   refine zo ?_
   (repeat apply za); refine pwn ?_; intros
   exact zm (k + 1, v2) [_] (by simp; omega) (by simp; omega) (by simp [wk, hnx, hpz]) rfl (by simp [hnx, hpz]; rfl)
  obtain ⟨ht, ho⟩ := hok hfo
  obtain ⟨t, tt, t1, -, -, t0⟩ := el1 rfl d p.t ht
  have ht1 : 1 ≤ d.length - p.t := by omega
  have htg : d.getD p.t [] = t := by rw [List.getD_eq_getElem?_getD, t1]; rfl
  unfold tlen at ho
  rw [htg] at ho
  have hpz : yv d p = bif p.b then ((t.drop p.f).take (p.o - p.f)).reverse else (t.drop p.f).take (p.o - p.f) := by unfold yv; rw [if_pos hfo, htg]
  have hfo' : ¬ p.o ≤ p.f := by omega
  have hsl : ((t.flatMap Enc.enc : List PV).drop (p.f * 2)).take ((p.o - p.f) * 2) = ((t.drop p.f).take (p.o - p.f)).flatMap Enc.enc := by rw [u6 Enc.enc 2 (fun _ => rfl) t p.f, vB Enc.enc 2 (fun _ => rfl) (t.drop p.f) (p.o - p.f)]
  have hsl2 : ((t.drop p.f).take (p.o - p.f)).length = p.o - p.f := by simp; omega
  have hsl3 : (((t.drop p.f).take (p.o - p.f)).flatMap Enc.enc : List PV).length = (p.o - p.f) * 2 := by rw [uu, hsl2]
  generalize (t.drop p.f).take (p.o - p.f) = sg at *
  have hof : (out.flatMap Enc.enc : List PV).length = out.length * 2 := uu out
  have hot : (out.flatMap Enc.enc : List PV).take (out.length * 2) = out.flatMap Enc.enc := List.take_of_length_le (by omega)
  have q1 : p.f ≤ p.o := by omega
  have htl := hdt t (List.mem_of_getElem? t1)
  repeat apply za
  refine pwN [] hfo' ?_
  intros
  repeat apply za
  refine zk (by simp [hfo']) ?_
  refine ze ?_
  (repeat apply za); refine pwn ?_; intros
  repeat apply za
  refine pwY (some [nx, nx + 3]) (Row.pures [0, 1, 2, 3, 4, 5, 6, 7, 8, 9, 10, 11, 12] (.alt 13 (Row.pures [14] .done) .stop)) mixed (jn6 t0 ht ht1 hof hot (jn4 hsl hsl2 q1 ho)) ?_
  refine ⟨by omega, ?_⟩
  intros
  have hsgl : sg.length ≤ 1000 := by
   have h1 := hdt t (List.mem_of_getElem? t1)
   omega
  cases hpb : p.b with
  | false =>
   rw [hpb] at hpz
   simp only [cond_false] at hpz
   repeat apply za
   refine pwN [] hpb ?_
   intros
   repeat apply za
   refine zk rfl ?_
   refine ze ?_
   (repeat apply za); refine pwn ?_; intros
   exact zm (k + 1, v2 + 1) [_] (by simp; omega) (by simp; omega) (by simp [wk, hnx, hpz, hsl2]) rfl (by simp [hnx, hpz]; rfl)
  | true =>
   rw [hpb] at hpz
   simp only [cond_true] at hpz
   have hrev := fun (S : Store) (id ver : Nat) h => Ziu (S := S) (id := id) (ver := ver) out sg (by simp; omega) h
   rw [hsl2] at hrev
   repeat apply za
   refine pwN [] hpb ?_
   intros
   repeat apply za
   refine zi rfl ?_
   repeat apply za
   refine zQ [] (by rfl) (by rfl) fun K Gc Gh hK hGc hGh X hX0 hX => ?_
   simp -implicitDefEqProofs [hX0, hX]
   try clear hX0 hX X
   refine hGc _ _ _ _ _ _ _ fun hsuf => ((hrev _ _ _ (by rw [qe, List.flatMap_append]; rfl)).mono ?_).v
   rintro _ _ rfl
   refine ⟨_, _, qn _ (by omega) (by simp), ?_⟩
   clear hGc hGh
   clear Gc Gh
   refine zH hsuf (D := []) (by rfl) fun Gc Gh hGc hGh X hX0 hX => ?_
   simp -implicitDefEqProofs [hX0, hX, (show nx + 2 - nx = 2 by omega)]
   clear hX0 hX X
   intros
   refine hK _ _ _ ?_
   clear hK hGc hGh
   clear K Gc Gh
   (repeat apply za); refine pwn ?_; intros
   exact zm (k + 1, v2 + 1) [_] (by simp; omega) (by simp; omega) (by simp [wk, hnx, hpz, hsl2]) rfl (by simp [hnx, hpz]; rfl)
 ·obtain rfl : k = 5 := by omega
  generalize (r.l.take 5).flatMap (yv d) = out at *
  (repeat apply za); refine pwn ?_; intros
  repeat apply za
  refine zk rfl ?_
  refine zo ?_
  refine zL 2 rfl ?_
  (repeat apply za); refine pwn ?_; intros
  repeat apply za
  exact zb (zg hd (by simp; rfl) (by simp [zj]))
open Go Hp
theorem Zbc {α : Type} {d : List α} (hn : d.Nodup) {i j : Nat} {t : α} (hi : d[i]? = some t) (hj : d[j]? = some t) : i = j := by
 obtain ⟨g1, g2⟩ := List.getElem?_eq_some_iff.1 hi
 obtain ⟨g3, g4⟩ := List.getElem?_eq_some_iff.1 hj
 have hp := List.pairwise_iff_getElem.1 hn
 rcases Nat.lt_trichotomy i j with h | h | h
 ·exact absurd (g2.trans g4.symm) (hp i j g1 g3 h)
 ·exact h
 ·exact absurd (g4.trans g2.symm) (hp j i g3 g1 h)
def qM (f : zq → Bool) : Day → Int
 | [] => -1
 | t :: d => if 0 ≤ qM f d then qM f d + 1 else if f t then 0 else -1
theorem Zbd (f : zq → Bool) : ∀ d : Day, (qM f d = -1 ∧ ∀ t ∈ d, f t = false) ∨ ∃ (k : Nat) (t : zq), d[k]? = some t ∧ f t = true ∧ qM f d = k
 | [] => .inl ⟨rfl, fun t h => by cases h⟩
 | u :: d => by
  unfold qM
  rcases Zbd f d with ⟨h1, h2⟩ | ⟨k, t, h1, h2, h3⟩
  ·rw [h1, if_neg (by omega)]
   cases hu : f u with
   | true => exact .inr ⟨0, u, rfl, hu, by simp⟩
   | false =>
    refine .inl ⟨by simp, fun t ht => ?_⟩
    rcases List.mem_cons.1 ht with rfl | ht
    ·exact hu
    ·exact h2 t ht
  ·rw [h3, if_pos (by omega)]
   exact .inr ⟨k + 1, t, by simpa using h1, h2, by simp⟩
def Xv (d : Day) (a b : Nat) (t : zq) (k : Nat) : Day := (List.range k).flatMap fun j => if j = a then [t] else if j = b then [] else [d.getD j []]
def vi (c : Int) (t : zq) : Bool := decide (vf t = some c)
def vj (c : Int) (t : zq) : Bool := decide (vJ t = some c)
def vk (x : Inst) (d : Day) (p : Pr) : Day :=
 if qM (vi p.a) d < 0 ∨ qM (vj p.b) d < 0 ∨ qM (vi p.a) d = qM (vj p.b) d ∨ (p.s ≤ 0 ∧ (d.length : Int) ≤ x.veh) then d
 else if zu x (d.getD (qM (vi p.a) d).toNat [] ++ d.getD (qM (vj p.b) d).toNat []) = 0 then
  Xv d (qM (vi p.a) d).toNat (qM (vj p.b) d).toNat (d.getD (qM (vi p.a) d).toNat [] ++ d.getD (qM (vj p.b) d).toNat []) d.length
 else d
theorem Xw {α β γ : Type} {f : α → List γ} {g : β → List γ} : ∀ (A : List α) (B : List β), A.length = B.length → (∀ (j : Nat) a b, A[j]? = some a → B[j]? = some b → f a = g b) → A.flatMap f = B.flatMap g
 | [], [], _, _ => rfl
 | a :: A, b :: B, hl, h => by
  rw [List.flatMap_cons, List.flatMap_cons, h 0 a b rfl rfl, Xw A B (by simpa using hl) fun j a b ha hb => h (j + 1) a b (by simpa using ha) (by simpa using hb)]
 | [], _ :: _, hl, _ => by simp at hl
 | _ :: _, [], hl, _ => by simp at hl
theorem Xx {α : Type} (p : α → Bool) : ∀ l : List α, l.filter p = l.flatMap fun a => if p a then [a] else []
 | [] => rfl
 | a :: l => by
  rw [List.flatMap_cons, ← Xx p l, List.filter_cons]
  cases p a <;> simp
structure Apt (T : Day) : Prop where
 u : ∀ (i j : Nat) t s s', T[i]? = some t → s ∈ t → ∀ t', T[j]? = some t' → s' ∈ t' → s.c = s'.c → i = j
theorem JI.apt {ss : List Stop} {T : Day} {g : Int → Option Int} (h : JI ss T g) : Apt T := ⟨fun i j t s s' hi hs t' hj hs' e => by
 have e1 := h.g i t s hi hs
 have e2 := h.g j t' s' hj hs'
 rw [e, e2] at e1
 have := Option.some.inj e1
 omega⟩
abbrev ne (t : zq) : Bool := !t.isEmpty
theorem Yp {t : zq} (h : ne t = true) : ∃ s, s ∈ t := by
 cases t with
 | nil => cases h
 | cons s t => exact ⟨s, by simp⟩
theorem Yq {t : zq} {s : Stop} (h : s ∈ t) : ne t = true := by
 cases t with
 | nil => cases h
 | cons s t => rfl
def Zt (ta tb u : zq) : Day := if u = ta then [ta ++ tb] else if u = tb then [] else [u]
theorem Ziw {T : Day} (hA : Apt T) {i k : Nat} {ta tb : zq} (hi : T[i]? = some ta) (hk : T[k]? = some tb) (hik : i ≠ k) (ha : ne ta = true) (hb : ne tb = true) :
  ((T.set i (ta ++ tb)).set k []).filter ne = (T.filter ne).flatMap (Zt ta tb) := by
 rw [Xx ne T, List.flatMap_assoc, Xx]
 refine Xw _ _ (by simp) fun j u v hu hv => ?_
 obtain ⟨sa, hsa⟩ := Yp ha
 obtain ⟨sb, hsb⟩ := Yp hb
 have hjl := (List.getElem?_eq_some_iff.1 hv).1
 by_cases h1 : k = j
 ·subst h1
  rw [List.getElem?_set_self (by simpa using hjl)] at hu
  cases hu
  obtain rfl : tb = v := by rw [hk] at hv; exact Option.some.inj hv
  have hne : tb ≠ ta := by
   rintro rfl
   exact hik (hA.u i k tb sb sb hi hsb tb hk hsb rfl)
  rw [if_pos hb]
  simp [Zt, hne]
 ·rw [List.getElem?_set_ne h1] at hu
  by_cases h2 : i = j
  ·subst h2
   rw [List.getElem?_set_self hjl] at hu
   cases hu
   obtain rfl : ta = v := by rw [hi] at hv; exact Option.some.inj hv
   rw [if_pos ha, if_pos (Yq (s := sa) (by simp [hsa]))]
   simp [Zt]
  ·rw [List.getElem?_set_ne h2] at hu
   obtain rfl : u = v := by rw [hv] at hu; exact (Option.some.inj hu).symm
   cases hn : ne u with
   | false => simp
   | true =>
    obtain ⟨su, hsu⟩ := Yp hn
    have n1 : u ≠ ta := by rintro rfl; exact h2 (hA.u i j u su su hi hsu u hv hsu rfl)
    have n2 : u ≠ tb := by rintro rfl; exact h1 (hA.u k j u su su hk hsu u hv hsu rfl)
    simp [Zt, n1, n2]
theorem Zix {T : Day} (hA : Apt T) : (T.filter ne).Nodup := by
 rw [List.nodup_iff_pairwise_ne, List.pairwise_filter, List.pairwise_iff_getElem]
 intro i j hi hj hij h1 h2 e
 obtain ⟨s, hs⟩ := Yp h1
 have := hA.u i j T[i] s s (List.getElem?_eq_getElem hi) hs T[j] (List.getElem?_eq_getElem hj) (e ▸ hs) rfl
 omega
theorem Ziy {d : Day} (hn : d.Nodup) {a b : Nat} {ta tb : zq} (ha : d[a]? = some ta) (hb : d[b]? = some tb) : Xv d a b (ta ++ tb) d.length = d.flatMap (Zt ta tb) := by
 unfold Xv
 refine Xw _ _ (by simp) fun j n u hj hu => ?_
 rw [List.getElem?_range (List.getElem?_eq_some_iff.1 hu).1] at hj
 cases hj
 have same : ∀ {k : Nat} {t : zq}, d[k]? = some t → (j = k ↔ u = t) := by
  intro k t hk
  constructor
  ·rintro rfl; rw [hu] at hk; exact Option.some.inj hk
  ·rintro rfl; exact Zbc hn hu hk
 have e1 := same ha
 have e2 := same hb
 have hg : d.getD j [] = u := by rw [List.getD_eq_getElem?_getD, hu]; rfl
 unfold Zt
 by_cases h1 : j = a
 ·rw [if_pos h1, if_pos (e1.1 h1)]
 ·rw [if_neg h1, if_neg fun e => h1 (e1.2 e)]
  by_cases h2 : j = b
  ·rw [if_pos h2, if_pos (e2.1 h2)]
  ·rw [if_neg h2, if_neg fun e => h2 (e2.2 e), hg]
theorem Zbe {T : Day} (hA : Apt T) {i : Nat} {t : zq} {s : Stop} (hi : T[i]? = some t) (hs : s ∈ t) (f : zq → Bool) (hf : ∀ u, f u = true → ∃ s' ∈ u, s'.c = s.c) :
  (f t = false ∧ qM f (T.filter ne) = -1) ∨ (f t = true ∧ ∃ k : Nat, (T.filter ne)[k]? = some t ∧ qM f (T.filter ne) = k) := by
 have uniq : ∀ u ∈ T.filter ne, f u = true → u = t := by
  intro u hu hfu
  obtain ⟨s', hs', e⟩ := hf u hfu
  obtain ⟨j, hj⟩ := List.mem_iff_getElem?.1 (List.mem_filter.1 hu).1
  have := hA.u i j t s s' hi hs u hj hs' e.symm
  subst this
  rw [hi] at hj; exact (Option.some.inj hj).symm
 have ht : t ∈ T.filter ne := List.mem_filter.2 ⟨List.mem_of_getElem? hi, Yq hs⟩
 rcases Zbd f (T.filter ne) with ⟨h1, h2⟩ | ⟨k, u, h1, h2, h3⟩
 ·exact .inl ⟨h2 t ht, h1⟩
 ·have := uniq u (List.mem_of_getElem? h1) h2
  subst this
  exact .inr ⟨h2, k, h1, h3⟩
theorem Ziz {c : Int} {t : zq} (h : vi c t = true) : ∃ s ∈ t, s.c = c := by
 have h : vf t = some c := of_decide_eq_true h
 unfold vf at h
 obtain ⟨s, h1, h2⟩ := Option.map_eq_some_iff.1 h
 exact ⟨s, List.mem_of_getElem? h1, h2⟩
theorem ZiA {c : Int} {t : zq} (h : vj c t = true) : ∃ s ∈ t, s.c = c := by
 have h : vJ t = some c := of_decide_eq_true h
 unfold vJ at h
 obtain ⟨s, h1, h2⟩ := Option.map_eq_some_iff.1 h
 exact ⟨s, List.mem_of_getElem? h1, h2⟩
theorem Xy (p : zq → Bool) : ∀ T : Day, ((T.filter p).length : Int) = (T.map fun t => if p t then (1 : Int) else 0).sum
 | [] => rfl
 | t :: T => by
  rw [List.filter_cons, List.map_cons, List.sum_cons, ← Xy p T]
  cases p t <;> simp <;> omega
theorem ZiB {T : Day} {i k : Nat} {ta tb : zq} (hi : T[i]? = some ta) (hk : T[k]? = some tb) (hik : i ≠ k) (ha : ne ta = true) (hb : ne tb = true) :
  ((((T.set i (ta ++ tb)).set k []).filter ne).length : Int) = ((T.filter ne).length : Int) - 1 := by
 obtain ⟨sa, hsa⟩ := Yp ha
 rw [Xy, Xy, Yo _ _ k tb [] (by rw [List.getElem?_set_ne hik]; exact hk), Yo _ _ i ta (ta ++ tb) hi]
 have hn : ne (ta ++ tb) = true := Yq (s := sa) (by simp [hsa])
 simp only [ha, hb, hn, if_true]
 simp
theorem ZiC {x : Inst} {ss : List Stop} {st : Day × Int} {g : Int → Option Int} (h : JI ss st.1 g) (hnum : st.2 = ((st.1.filter ne).length : Int)) {p : Pr} (hpa : p.a ∈ ss.map (·.c)) (hpb : p.b ∈ ss.map (·.c)) :
  vk x (st.1.filter ne) p = (yO x st p).1.filter ne ∧ (yO x st p).2 = (((yO x st p).1.filter ne).length : Int) ∧ ∃ g', JI ss (yO x st p).1 g' := by
 obtain ⟨i, a, sa, hia, hsa, hsac, hga, hpi⟩ := h.there hpa
 obtain ⟨k, b, sb, hkb, hsb, hsbc, hgb, hpk⟩ := h.there hpb
 have hgi : st.1.getD i [] = a := by rw [List.getD_eq_getElem?_getD, hia]; rfl
 have hgk : st.1.getD k [] = b := by rw [List.getD_eq_getElem?_getD, hkb]; rfl
 have hdef : yO x st p = bif yq x st.2 p i k a b then ((st.1.set i (a ++ b)).set k [], st.2 - 1) else st := by
  unfold yO Zl
  simp only [hpi, hpk, hgi, hgk]
 have hA := h.apt
 have hna := Yq hsa
 have hnb := Yq hsb
 have hnd := Zix hA
 rw [hdef]
 have stay : yq x st.2 p i k a b = false → vk x (st.1.filter ne) p = st.1.filter ne → vk x (st.1.filter ne) p = (bif yq x st.2 p i k a b then ((st.1.set i (a ++ b)).set k [], st.2 - 1) else st).1.filter ne ∧ (bif yq x st.2 p i k a b then ((st.1.set i (a ++ b)).set k [], st.2 - 1) else st).2 = (((bif yq x st.2 p i k a b then ((st.1.set i (a ++ b)).set k [], st.2 - 1) else st).1.filter ne).length : Int) ∧ ∃ g', JI ss (bif yq x st.2 p i k a b then ((st.1.set i (a ++ b)).set k [], st.2 - 1) else st).1 g' := by
  intro e1 e2
  rw [e1]
  exact ⟨e2, hnum, g, h⟩
 rcases Zbe hA hia hsa (vi p.a) (fun u hu => by rw [hsac]; exact Ziz hu) with ⟨fa, la⟩ | ⟨fa, ka, ha1, la⟩
 ·have e1 : vf a ≠ some p.a := of_decide_eq_false fa
  refine stay (by simp [yq, e1]) ?_
  unfold vk; rw [if_pos (.inl (by omega))]
 rcases Zbe hA hkb hsb (vj p.b) (fun u hu => by rw [hsbc]; exact ZiA hu) with ⟨fb, lb⟩ | ⟨fb, kb, hb1, lb⟩
 ·have e1 : vJ b ≠ some p.b := of_decide_eq_false fb
  refine stay (by simp [yq, e1]) ?_
  unfold vk; rw [if_pos (.inr (.inl (by omega)))]
 have e1 : vf a = some p.a := of_decide_eq_true fa
 have e2 : vJ b = some p.b := of_decide_eq_true fb
 have hab : ka = kb ↔ i = k := by
  constructor
  ·rintro rfl
   obtain rfl : a = b := by rw [ha1] at hb1; exact Option.some.inj hb1
   exact hA.u i k a sa sa hia hsa a hkb hsa rfl
  ·rintro rfl
   obtain rfl : a = b := by rw [hia] at hkb; exact Option.some.inj hkb
   exact Zbc hnd ha1 hb1
 have ga : (st.1.filter ne).getD (ka : Int).toNat [] = a := by rw [Int.toNat_natCast, List.getD_eq_getElem?_getD, ha1]; rfl
 have gb : (st.1.filter ne).getD (kb : Int).toNat [] = b := by rw [Int.toNat_natCast, List.getD_eq_getElem?_getD, hb1]; rfl
 by_cases hik : i = k
 ·refine stay (by simp [yq, hik]) ?_
  unfold vk; rw [if_pos (.inr (.inr (.inl (by rw [la, lb, hab.2 hik]))))]
 by_cases hfew : p.s ≤ 0 ∧ st.2 ≤ x.veh
 ·refine stay (by simp [yq, hfew.1, hfew.2]) ?_
  unfold vk; rw [if_pos (.inr (.inr (.inr ⟨hfew.1, by omega⟩)))]
 have hcond : ¬ (qM (vi p.a) (st.1.filter ne) < 0 ∨ qM (vj p.b) (st.1.filter ne) < 0 ∨ qM (vi p.a) (st.1.filter ne) = qM (vj p.b) (st.1.filter ne) ∨ (p.s ≤ 0 ∧ ((st.1.filter ne).length : Int) ≤ x.veh)) := by
  rw [la, lb]
  rintro (q | q | q | q)
  ·omega
  ·omega
  ·exact hik (hab.1 (by omega))
  ·exact hfew ⟨q.1, by omega⟩
 by_cases hmay : zu x (a ++ b) = 0
 ·have hc : yq x st.2 p i k a b = true := by
   unfold yq
   simp only [hik, e1, e2, hmay, Bool.and_eq_true, decide_eq_true_eq, ne_eq, not_false_eq_true, Bool.not_eq_true', Bool.and_eq_false_iff, decide_eq_false_iff_not, and_true, true_and]
   by_cases q : p.s ≤ 0
   ·exact .inr fun e => hfew ⟨q, e⟩
   ·exact .inl q
  rw [hc]
  simp only [cond_true]
  refine ⟨?_, ?_, _, h.join hia hkb hik⟩
  ·unfold vk
   rw [if_neg hcond, la, lb, ga, gb, if_pos hmay, Ziw hA hia hkb hik hna hnb, ← Ziy hnd ha1 hb1]
   rfl
  ·rw [ZiB hia hkb hik hna hnb, hnum]
 ·refine stay (by simp [yq, hmay]) ?_
  unfold vk
  rw [if_neg hcond, la, lb, ga, gb, if_neg hmay]
theorem ZiD (ss : List Stop) : (ss.map fun s => [s]).filter ne = yC ss := by
 unfold yC; rw [List.filter_eq_self]; intro t ht; obtain ⟨s, _, rfl⟩ := List.mem_map.1 ht; rfl
open Go Hp
theorem Xz (l : List Stop) : (yC l).length = l.length := by simp [yC]
theorem ZiE {x : Inst} {ss : List Stop} {T : Day} {g : Int → Option Int} (h : JI ss T g) (hss : ss.length ≤ 1000) : (T.filter ne).length ≤ 1000 ∧ (T.filter ne).flatten.length ≤ 1000 ∧ ∀ t ∈ T.filter ne, t ≠ [] := by
 have hf : (T.filter ne).flatten = T.flatten := by
  induction T with
  | nil => rfl
  | cons t T ih =>
   clear h
   have key : ∀ T : Day, (T.filter ne).flatten = T.flatten := by
    intro T
    induction T with
    | nil => rfl
    | cons t T ih =>
     rw [List.filter_cons]
     cases t with
     | nil => simpa using ih
     | cons s t => simp [ih]
   exact key _
 have hne : ∀ t ∈ T.filter ne, t ≠ [] := fun t ht e => by
  have := (List.mem_filter.1 ht).2
  rw [e] at this; cases this
 have hl := h.perm.length_eq
 have h1 := Yk (T.filter ne) hne
 rw [hf] at h1
 exact ⟨by omega, by rw [hf]; omega, hne⟩
open Go Go.Proofs Hp
structure SOk (x : Inst) (l : List Stop) : Prop where
 cust : x.cust.length ≤ 1048576
 arc : qJ x
 veh : 0 ≤ x.veh
 len : l.length ≤ 1000
 sm : ∀ s ∈ l, small s.c
 nd : (l.map (·.c)).Nodup
def vn (x : Inst) (l : List Stop) : List Day := [jG x l, yC l] ++ (bif (y8 x l).2 then [(y8 x l).1] else [])
def x6 (x : Inst) (imp : Day → Day) (l : List Stop) : List Day := [yC l, imp (jG x l), imp (yC l)] ++ (bif (y8 x l).2 then [imp (y8 x l).1] else [])
theorem Zbf {x : Inst} (hx : x.cust.length ≤ 1048576) : ∀ (n : Nat) (d : Day) (l : List Stop), l.length = n → RgOk x d l → RgOk x (j8 x n d l).1 [] ∧ ((j8 x n d l).2 = true → (j8 x n d l).1.flatten.Perm (d.flatten ++ l))
 | 0, d, l, hl, h => by
  obtain rfl : l = [] := List.eq_nil_of_length_eq_zero hl
  exact ⟨h, fun _ => by simp [j8]⟩
 | n + 1, d, l, hl, h => by
  have hne : l ≠ [] := fun e => by rw [e] at hl; cases hl
  obtain ⟨k, hu, hk⟩ := Za5 (x := x) (d := d) hne
  have hg : l.getD k default = l[k] := by rw [List.getD_eq_getElem?_getD, List.getElem?_eq_getElem hk]; rfl
  unfold j8
  rw [hu, Int.toNat_natCast, hg]
  cases hi : (qL x d l[k]).2 with
  | false =>
   refine ⟨⟨h.ok, h.may, ?_⟩, fun e => by cases e⟩
   have := h.len
   simp only [cond_false, List.length_nil]; omega
  | true =>
   simp only [cond_true]
   obtain ⟨h1, h2⟩ := Zbf hx n (qL x d l[k]).1 (l.eraseIdx k) (by rw [List.length_eraseIdx_of_lt hk]; omega) (h.step hx hk hi)
   refine ⟨h1, fun e => (h2 e).trans ?_⟩
   have hp := ZaE hi
   refine (hp.append_right _).trans ?_
   have he : (l[k] :: l.eraseIdx k).Perm l := by
    rw [List.eraseIdx_eq_take_drop_succ]
    have := List.perm_middle (a := l[k]) (l₁ := l.take k) (l₂ := l.drop (k + 1))
    refine this.symm.trans ?_
    rw [← List.drop_eq_getElem_cons hk, List.take_append_drop]
   rw [List.cons_append]
   refine List.perm_middle.symm.trans ?_
   exact he.append_left _
section
variable {x : Inst} {l : List Stop} (h : SOk x l)
include h
theorem SOk.apart : DayOk (yC l) ∧ (yC l).flatten = l ∧ (yC l).length ≤ 1000 := by
 have hf : (yC l).flatten = l := by
  unfold yC
  clear h
  induction l with
  | nil => rfl
  | cons s l ih => simpa using ih
 refine ⟨⟨?_, fun t ht => ?_, fun t ht a ha => ?_⟩, hf, ?_⟩
 ·rw [Xz]; have := h.len; omega
 ·obtain ⟨s, _, rfl⟩ := List.mem_map.1 ht; simp
 ·obtain ⟨s, hs, rfl⟩ := List.mem_map.1 ht
  simp at ha; subst ha; exact h.sm _ hs
 ·rw [Xz]; exact h.len
theorem SOk.join : DayOk (jG x l) ∧ (jG x l).flatten.Perm l ∧ (jG x l).length ≤ 1000 ∧ ∀ t ∈ jG x l, t ≠ [] := by
 obtain ⟨g, hg⟩ := JI.begin l [] [] _ JI.nil (by simpa using h.nd)
 have key : ∀ (ps : List Pr) (st : Day × Int), (∃ g, JI l st.1 g) → st.2 = ((st.1.filter ne).length : Int) → (∀ p ∈ ps, p.a ∈ l.map (·.c) ∧ p.b ∈ l.map (·.c)) → ∃ g, JI l (ps.foldl (yO x) st).1 g := by
  intro ps
  induction ps with
  | nil => intro st hg _ _; exact hg
  | cons p ps ih =>
   rintro st ⟨g, hg⟩ hn hp
   obtain ⟨h1, h2⟩ := hp p (by simp)
   obtain ⟨e1, e2, e3⟩ := ZiC (x := x) hg hn h1 h2
   rw [List.foldl_cons]
   exact ih _ e3 e2 fun q hq => hp q (by simp [hq])
 obtain ⟨g', hg'⟩ := key (yS x (l.map (·.c))) (l.map fun s => [s], (l.length : Int)) ⟨g, by simpa using hg⟩ (by rw [ZiD]; simp [yC]) fun p hp => by
  have := Yi.1 ((uB x _).subset hp)
  exact ⟨this.1, this.2.1⟩
 have hjp : jG x l = ((yS x (l.map (·.c))).foldl (yO x) (l.map fun s => [s], (l.length : Int))).1.filter ne := rfl
 obtain ⟨w1, w2, w3⟩ := ZiE (x := x) hg' h.len
 have hfl : ∀ T : Day, (T.filter ne).flatten = T.flatten := by
  intro T
  induction T with
  | nil => rfl
  | cons t T ih =>
   rw [List.filter_cons]
   cases t with
   | nil => simpa using ih
   | cons s t => simp [ih]
 have hp : (jG x l).flatten.Perm l := by rw [hjp, hfl]; exact hg'.perm
 rw [← hjp] at w1 w2 w3
 refine ⟨⟨by omega, fun t ht => ?_, fun t ht a ha => ?_⟩, hp, w1, w3⟩
 ·have := (xZ ht).length_le; omega
 ·exact h.sm a (hp.subset ((xZ ht).subset ha))
theorem SOk.regret : RgOk x (y8 x l).1 [] ∧ ((y8 x l).2 = true → (y8 x l).1.flatten.Perm l) := by
 have := Zbf h.cust l.length [] l rfl (Za6 h.veh h.len)
 simpa [y8] using this
end
def Zbg (x : Inst) (b : Int) (imp : Day → Day) (ds : List Day) : Prop := ∀ d ∈ ds, (∃ n, Pure Tryz.prog 76 [.agg (zt x), .agg [L d], I b] (.tup [.agg [L (imp d)], I n])) ∧ DayOk (imp d) ∧ (imp d).flatten.length ≤ 1048576
theorem ZiF (x : Inst) (l : List Stop) (b : Int) (imp : Day → Day) (h : SOk x l) (hI : qH x l = 0 → Zbg x b imp (vn x l)) :
  Pure Tryz.prog 130 [.agg (zt x), L l, I b] (.tup [.agg [L (jg x (qH x l) (x6 x imp l)).1], I (jg x (qH x l) (x6 x imp l)).2]) := by
 have hF := Zfp x l h.cust (by have := h.len; omega)
 by_cases he : qH x l = 0
 case neg => exact Zap x (L l) b _ _ (uD l) h.cust hF (fun e => absurd e he) fun e => absurd e he
 have hI := hI he
 have hA := Zfo l (by have := h.len; omega)
 have hJ := Zg6 x l h.arc h.cust h.len h.sm h.nd
 have hR := Zih x l h.cust h.veh h.len
 obtain ⟨⟨n1, i1⟩, o1, f1⟩ := hI (jG x l) (by simp [vn])
 obtain ⟨⟨n2, i2⟩, o2, f2⟩ := hI (yC l) (by simp [vn])
 obtain ⟨a1, a2, a3⟩ := h.apart
 have h3 : (y8 x l).2 = true → (∃ n, Pure Tryz.prog 76 [.agg (zt x), .agg [L (y8 x l).1], I b] (.tup [.agg [L (imp (y8 x l).1)], I n])) ∧ DayOk (imp (y8 x l).1) ∧ (imp (y8 x l).1).flatten.length ≤ 1048576 := fun e => hI _ (by simp [vn, e])
 have hlen := h.len
 have hit := Zhb (fsL x (L l) b) [some (yC l), some (imp (jG x l)), some (imp (yC l)), bif (y8 x l).2 then some (imp (y8 x l).1) else none] rfl (by simp) (by
  intro k f hf
  match k with
  | 0 => cases hf; exact ⟨_, _, L (yC l), rfl, Zg8 (L l) (yC l) (uD l) hA, fun d hd => by cases hd; rfl⟩
  | 1 => cases hf; exact ⟨_, _, L (imp (jG x l)), rfl, Zg9 x (L l) b _ _ _ (uD l) hJ i1, fun d hd => by cases hd; rfl⟩
  | 2 => cases hf; exact ⟨_, _, L (imp (yC l)), rfl, Zha x (L l) b _ _ _ (uD l) hA i2, fun d hd => by cases hd; rfl⟩
  | 3 =>
   cases hf
   cases hall : (y8 x l).2 with
   | true =>
    obtain ⟨⟨n3, i3⟩, -⟩ := h3 hall
    rw [hall] at hR
    exact ⟨_, _, L (imp (y8 x l).1), rfl, Zao x (L l) b _ _ true n3 (uD l) hR (fun _ => i3), fun d hd => by cases hd; rfl⟩
   | false =>
    rw [hall] at hR
    exact ⟨_, _, yH, rfl, Zao x (L l) b _ [] false 0 (uD l) hR (fun e => by cases e), fun d hd => by cases hd⟩
  | k + 4 => cases hf)
 have hds : ([some (yC l), some (imp (jG x l)), some (imp (yC l)), bif (y8 x l).2 then some (imp (y8 x l).1) else none] : List (Option Day)).filterMap id = x6 x imp l := by
  unfold x6
  cases (y8 x l).2 <;> rfl
 rw [hds] at hit
 refine Zap x (L l) b (qH x l) (x6 x imp l) (uD l) h.cust hF (fun _ => hit) fun _ d hd => ?_
 unfold x6 at hd
 simp only [List.cons_append, List.nil_append, List.mem_cons] at hd
 rcases hd with rfl | rfl | rfl | hd
 ·exact ⟨a1, by rw [a2]; omega⟩
 ·exact ⟨o1, f1⟩
 ·exact ⟨o2, f2⟩
 ·cases hall : (y8 x l).2 with
  | true =>
   rw [hall] at hd
   simp at hd; subst hd
   exact (h3 hall).2
  | false => rw [hall] at hd; simp at hd
open Go Go.Proofs Hp
theorem ZiG {P : Program} {r : Rd} {n : Nat} {F : Nat → PV} {S : Store} {o : Oper} {t e : TypeId} {len : Nat} {parts : Array (Nat × Operand)} {cs : List PV} {K : PV → Store → Prop} (ho : o.op = .buildSlice t len parts) (ht : P.underlying t = some (.slice e)) (h0 : P.cellsOf e ≠ 0) (hlen : len ≤ 1048576)
  (hl : wU P e len (parts.toList.map fun x => (x.1, ev F x.2)) = some cs)
  (hK : ∀ C : Ctx, S C.next = .dead → ∃ id v, Fresh C S id v ∧ K (.sl id v (P.cellsOf e) 0 len) (S.set id (.cells v e cs))) : PO P r n o F S K := by
 intro G hG C w a N st next Q' hnext
 have hmap : parts.toList.map (fun x => (x.1, ev G x.2)) = parts.toList.map (fun x => (x.1, ev F x.2)) := List.map_congr_left fun x hx => by
  rw [hG x.2 (by simp only [ho, Op.operands, List.mem_toArray, List.mem_map]; first | exact ⟨x, hx, rfl⟩ | (simp; exact ⟨x.1, by simpa using hx⟩))]
 rw [← hmap] at hl
 obtain ⟨vs, hrun, hr, hsz⟩ := WJ (w := w) ht (ev G) a.eval st.ev hl
 obtain ⟨id, ver, hfr, hK⟩ := hK C st.sim.free
 obtain ⟨k1, k2⟩ := st.sim.object' hfr e vs cs (Nat.le_of_eq hr.1) (fun i v _ hv => hr.2.1 i v hv) hr.2.2
 refine qb (x := .value (.slice (some ⟨w.heap.size, 0, none⟩) len len)) (w' := w.alloc (.cells vs e)) (by intro c hc; rw [ho] at hc; cases hc) ?_
  (hnext _ _ _ _ _ hK (ZW C S w _ _ _ _ _ _ _ _ rfl (Nat.le_refl _) (by unfold qQ; omega) (by unfold maxLen; omega) hsz.symm) k1 k2)
 unfold execOp
 simp only [ho]
 have e1 : (parts.map fun x => (x.1, a.eval x.2)) = (parts.toList.map fun x => (x.1, a.eval x.2)).toArray := by
  apply Array.toList_inj.1; simp
 simp only [e1, hrun, Sem.run_bind, Sem.run_pure, Result.andThen_ok]
theorem ZiH {P : Program} {r : Rd} {n nx : Nat} {F : Nat → PV} {S : Store} {obs : List Ob} {o : Oper} {t e : TypeId} {len : Nat} {parts : Array (Nat × Operand)} {cs : List PV} {K : PV → Store → Prop} (ho : o.op = .buildSlice t len parts) (ht : P.underlying t = some (.slice e)) (h0 : P.cellsOf e ≠ 0) (hlen : len ≤ 1048576)
  (hl : wU P e len (parts.toList.map fun x => (x.1, ev F x.2)) = some cs) (hK : ∀ v, K (.sl (nx + obs.length) v (P.cellsOf e) 0 len) (ext S nx (obs ++ [.cells v e cs]))) : PO P r n o F (ext S nx obs) K :=
 ZiG ho ht h0 hlen hl (wh (X := fun id v => K (.sl id v (P.cellsOf e) 0 len) ((ext S nx obs).set id (.cells v e cs))) _ wv fun v => by rw [qE]; exact hK v)
open Go Go.Proofs
theorem ZiI {P : Program} {r : Rd} {n nx N : Nat} {Q : Exit → (Nat → PV) → Store → Prop} {F : Nat → PV} {S : Store} {obs : List Ob} {A : Prop} {R : Nat → KT → CT → HT → Prop} {id : Nat} {ops : Array Oper} {o : Oper} {os : List Oper} {t e : TypeId} {len : Nat} {parts : Array (Nat × Operand)}
  (D : List (Nat × Nat)) (cs : List PV) (ht : P.underlying t = some (.slice e)) (a : A) (h : ∀ v, R v (fun F' S' obs' => Q .normal F' (ext S' nx obs')) (CQ P r n nx ops fun F' S' obs' => Q .normal F' (ext S' nx obs')) (HQ P r n nx ops fun F' S' obs' => Q .normal F' (ext S' nx obs')))
  (hops : ops.toList = o :: os := by rfl) (hg : o.guard = none := by rfl) (ho : o.op = .buildSlice t len parts := by rfl) (h0 : P.cellsOf e ≠ 0 := by simp) (hlen : len ≤ 1048576 := by decide)
  (hl : wU P e len (parts.toList.map fun x => (x.1, ev F x.2)) = some cs := by simp [wU, wT]) (hN : jB N ops = true := by rfl) (hD : xR ops D = true := by rfl)
  (hR : A → ∀ v, XQ P nx D os (zC F o.dst (.sl (nx + obs.length) v (P.cellsOf e) 0 len)) S (obs ++ [.cells v e cs]) (R v) := by intro a v K Gc Gh X hX0 hX h; simp -implicitDefEqProofs [hX0, hX, a]; exact h) : PW P r n N (.region id ops false) Q F (ext S nx obs) := by
 refine JG hN ?_
 rw [hops]
 unfold XS
 have : gd ops F o = some true := by unfold gd; rw [hg]
 rw [this]
 exact ZiH ho ht h0 hlen hl fun v => ⟨_, _, rfl, Z5 (by rw [hops]; exact List.suffix_cons _ _) hD (hR a v) (h v)⟩
def fzZ (x : Inst) (t : zq) : Nat → Int
 | 0 => 0
 | i + 1 => fzZ x t i + arc x ((t.getD i default).c + 1) ((t.getD (i + 1) default).c + 1)
def bzZ (x : Inst) (t : zq) : Nat → Int
 | 0 => 0
 | i + 1 => bzZ x t i + arc x ((t.getD (i + 1) default).c + 1) ((t.getD i default).c + 1)
theorem Zu {x : Inst} (h : qJ x) (t : zq) : ∀ i : Nat, 0 ≤ fzZ x t i ∧ fzZ x t i ≤ 2147483648 * (i : Int)
 | 0 => by simp [fzZ]
 | i + 1 => by
  have h1 := Zu h t i
  have h2 := h ((t.getD i default).c + 1) ((t.getD (i + 1) default).c + 1)
  unfold fzZ; omega
theorem Zv {x : Inst} (h : qJ x) (t : zq) : ∀ i : Nat, 0 ≤ bzZ x t i ∧ bzZ x t i ≤ 2147483648 * (i : Int)
 | 0 => by simp [bzZ]
 | i + 1 => by
  have h1 := Zv h t i
  have h2 := h ((t.getD (i + 1) default).c + 1) ((t.getD i default).c + 1)
  unfold bzZ; omega
structure Sm where
 f : List Int
 b : List Int
 l : List Int
 n : Int
instance : Enc Sm := ⟨fun s => [L s.f, L s.b, L s.l, I s.n], 4, fun _ => rfl, fun _ => rfl⟩
@[simp] theorem ZnQ (s : Sm) : Enc.enc s = [L s.f, L s.b, L s.l, I s.n] := rfl
@[simp high] theorem Zbh (l : List Sm) : (l.flatMap Enc.enc).length = l.length * 4 := jp l
@[simp high] theorem ZnR (l : List Sm) : (l.flatMap Enc.enc).take (l.length * 4) = l.flatMap Enc.enc := w8 l
def smZ (x : Inst) (t : zq) : Sm := ⟨(List.range t.length).map (fzZ x t), (List.range t.length).map (bzZ x t), (List.range (t.length + 1)).map fun i => zx (t.take i), zF x (t.map (·.c))⟩
abbrev rdL (x : Inst) (d : Day) : List PV := [I x.days, I x.veh, I x.cap, I x.len, L x.cust, L x.dist, L d, L (d.map (smZ x))]
structure MvDay (d : Day) : Prop where
 n : d.length ≤ 1000
 t : ∀ t ∈ d, t.length ≤ 1000
 s : ∀ t ∈ d, ∀ s ∈ t, small s.c ∧ 0 ≤ s.q ∧ s.q ≤ 2147483648
theorem ZiJ {t : zq} {i : Nat} {s : Stop} (h : t.take (i + 1) = t.take i ++ [s]) : zx (t.take (i + 1)) = zx (t.take i) + s.q := by rw [h, Z8]
theorem XA {α : Type} (f : Nat → α) (k : Nat) : (List.range (k + 1)).map f = (List.range k).map f ++ [f k] := by rw [List.range_succ, List.map_append]; rfl
theorem ZiK (id v : Nat) (cs : List PV) (l : List Sm) : (l.flatMap Enc.enc).map (yL id v cs) = (l.flatMap Enc.enc : List PV) := by
 induction l with
 | nil => rfl
 | cons s l ih => rw [List.flatMap_cons, List.map_append, ih]; rfl
set_option maxRecDepth 20000 in
set_option maxHeartbeats 3200000 in
theorem ZiL (x : Inst) (d : Day) (hx : qJ x) (hd' : MvDay d) : Pure Tryz.prog 153 [.agg (zt x), .agg [L d]] (.ip (rdL x d)) := by
 have hdn := hd'.n
 refine pwe Tryz.func153 Tryz.ntmps153 Tryz.results153 fun S nx hd => ?_
 repeat apply za
 refine pwn ?_
 intro v0 v1
 repeat apply za
 refine pwn ?_
 intro v2
 refine qT 2 7 255 4 rfl rfl fun v3 => ?_
 (repeat apply za); refine pwn ?_; intros
 repeat apply za
 refine zh (zr (fun s' : Nat × Nat => s'.1 ≤ d.length) (fun (k, v3) => [(2, .ptr nx v0 0), (5, .ptr (nx + 2) v2 0), (20, L d), (21, I d.length), (22, I k)]) (fun (k, v3) => [.cells v0 25 (zt x), .cells v1 66 [L d], .cells v2 253 [I x.days, I x.veh, I x.cap, I x.len, L x.cust, L x.dist, L d, .sl (nx + 3) v3 4 0 k], .cells v3 255 (((d.map (smZ x)).take k).flatMap Enc.enc)]) (fun s' => d.length - s'.1) (0, v3) [] (by simp) (by simp) (by simp) ?_)
 rintro ⟨k, v3⟩ hk
 simp only at hk ⊢
 (repeat apply za); refine pwn ?_; intros
 repeat apply za
 refine zn rfl (fun hc => ?_) (fun hc => ?_)
 ·simp at hc
  obtain ⟨t, tl, a1, a2, a3, e0⟩ := el1 rfl d k hc
  have hk1 : 1 ≤ d.length - k := by omega
  have htm := List.mem_of_getElem? a1
  have htl := hd'.t t htm
  have hts := hd'.s t htm
  have hlw := Yb x t (by omega) (fun s hs => (hts s hs).1)
  have hwz := Zo hx (t.map (·.c))
  rw [List.length_map] at hwz
  rw [show W (zF x (t.map (·.c))) = zF x (t.map (·.c)) from wr _ (by omega) (by omega)] at hlw
  refine ze (za (zh ?_))
  repeat apply za
  refine pwN [] (jn3 e0 hc hk1) ?_
  intro v4
  repeat apply za
  refine ZiI [] [I 0] Tryz.underlying54 trivial ?_
  intro v5
  refine pwc hlw ?_
  intro v6
  (repeat apply za); refine pwn ?_; intros
  refine qT 6 0 3 1 rfl rfl fun v7 => ?_
  refine qT 6 1 3 1 rfl rfl fun v8 => ?_
  (repeat apply za); refine pwn ?_; intros
  generalize hpc : (((d.map (smZ x)).take k).flatMap Enc.enc : List PV) = pc at *
  generalize hwl : zF x (t.map (·.c)) = wl at *
  repeat apply za
  refine zh (zr (fun s' : Nat × Nat × Nat × Nat => s'.1 ≤ t.length) (fun (i, v5, v7, v8) => [(2, .ptr nx v0 0), (5, .ptr (nx + 2) v2 0), (7, .ptr (nx + 4) v4 0), (8, .ptr (nx + 6) v6 0), (9, I (fzZ x t (i - 1))), (10, I (bzZ x t (i - 1))), (20, L d), (21, I d.length), (22, I k), (32, L t), (33, I t.length), (34, I i)])
   (fun (i, v5, v7, v8) => [.cells v0 25 (zt x), .cells v1 66 [L d], .cells v2 253 [I x.days, I x.veh, I x.cap, I x.len, L x.cust, L x.dist, L d, .sl (nx + 3) v3 4 0 k], .cells v3 255 pc, .cells v4 72 [L t], .cells v5 3 (((List.range (i + 1)).map fun i => zx (t.take i)).flatMap Enc.enc),
    .cells v6 255 [.sl (nx + 7) v7 1 0 i, .sl (nx + 8) v8 1 0 i, .sl (nx + 5) v5 1 0 (i + 1), I wl], .cells v7 3 (((List.range i).map (fzZ x t)).flatMap Enc.enc), .cells v8 3 (((List.range i).map (bzZ x t)).flatMap Enc.enc)]) (fun s' => t.length - s'.1) (0, v5, v7, v8) [] (by simp) (by simp [fzZ, bzZ]) (by simp [zx]) ?_)
  rintro ⟨i, v5, v7, v8⟩ hi
  simp only at hi ⊢
  (repeat apply za); refine pwn ?_; intros
  repeat apply za
  refine zn rfl (fun hci => ?_) (fun hci => ?_)
  ·simp at hci
   obtain ⟨s, ts, s1, s2, s3, -, s0⟩ := el 2 rfl t i hci
   have hi2 : 2 ≤ t.length * 2 - i * 2 := by omega
   obtain ⟨hsm, hq0, hq1⟩ := hts s (List.mem_of_getElem? s1)
   have hgs : t.getD i default = s := by rw [List.getD_eq_getElem?_getD, s1]; rfl
   have wi := wrN i (by omega)
   have f1 := XA (fzZ x t) i
   have f2 := XA (bzZ x t) i
   have f3 := XA (fun i => zx (t.take i)) (i + 1)
   have hlz := ZiJ s3
   have hlb := Xk (t := t.take i) (fun a ha => (hts a (List.mem_of_mem_take ha)).2)
   have hlt : (t.take i).length ≤ 1000 := by rw [List.length_take]; omega
   have wl1 : IntKind.i64.wrap (zx (t.take i) + s.q) = zx (t.take (i + 1)) := by rw [hlz]; exact wr _ (by omega) (by omega)
   have g1 : (((List.range i).map (fzZ x t)).flatMap Enc.enc : List PV).length = i := by rw [qy]; simp
   have g2 : (((List.range i).map (bzZ x t)).flatMap Enc.enc : List PV).length = i := by rw [qy]; simp
   have g3 : (((List.range (i + 1)).map fun i => zx (t.take i)).flatMap Enc.enc : List PV).length = i + 1 := by rw [qy]; simp
   obtain ⟨lz, tlz, z1, -, -, z0⟩ := el1 rfl ((List.range (i + 1)).map fun i => zx (t.take i)) i (by simp)
   have hlzz : lz = zx (t.take i) := by simpa using z1.symm
   have c1 : (((List.range (i + 1)).map (fzZ x t)).flatMap Enc.enc : List PV) = ((List.range i).map (fzZ x t)).flatMap Enc.enc ++ [I (fzZ x t i)] := by rw [f1, List.flatMap_append]; rfl
   have c2 : (((List.range (i + 1)).map (bzZ x t)).flatMap Enc.enc : List PV) = ((List.range i).map (bzZ x t)).flatMap Enc.enc ++ [I (bzZ x t i)] := by rw [f2, List.flatMap_append]; rfl
   have c3 : (((List.range (i + 1 + 1)).map fun i => zx (t.take i)).flatMap Enc.enc : List PV) = ((List.range (i + 1)).map fun i => zx (t.take i)).flatMap Enc.enc ++ [I (zx (t.take (i + 1)))] := by rw [f3, List.flatMap_append]; rfl
   rw [hlzz] at z0
   clear f1 f2 f3 z1 hlzz hlz
   generalize (((List.range i).map (fzZ x t)).flatMap Enc.enc : List PV) = fc at *
   generalize (((List.range i).map (bzZ x t)).flatMap Enc.enc : List PV) = bc at *
   generalize (((List.range (i + 1)).map fun i => zx (t.take i)).flatMap Enc.enc : List PV) = lc at *
   have t1 : fc.take i = fc := List.take_of_length_le (by omega)
   have t2 : bc.take i = bc := List.take_of_length_le (by omega)
   have t3 : lc.take (i + 1) = lc := List.take_of_length_le (by omega)
   refine ze (za (zh ?_))
   repeat apply za
   refine pwN [] (jn3 s0 hci hi2) ?_
   intro v9
   refine za ?_
   refine zX (nx := nx) (fun _ : Unit => True) (fun _ => [(2, .ptr nx v0 0), (5, .ptr (nx + 2) v2 0), (7, .ptr (nx + 4) v4 0), (8, .ptr (nx + 6) v6 0), (9, I (fzZ x t i)), (10, I (bzZ x t i)), (11, I i), (12, .ptr (nx + 9) v9 0), (20, L d), (21, I d.length), (22, I k), (32, L t), (33, I t.length), (34, I i)]) (fun _ => S)
    (fun _ => [.cells v0 25 (zt x), .cells v1 66 [L d], .cells v2 253 [I x.days, I x.veh, I x.cap, I x.len, L x.cust, L x.dist, L d, .sl (nx + 3) v3 4 0 k], .cells v3 255 pc, .cells v4 72 [L t], .cells v5 3 lc,
    .cells v6 255 [.sl (nx + 7) v7 1 0 i, .sl (nx + 8) v8 1 0 i, .sl (nx + 5) v5 1 0 (i + 1), I wl], .cells v7 3 fc, .cells v8 3 bc, .cells v9 50 [I s.c, I s.q]]) ?_ ?_
   ·by_cases h0 : 0 < i
    ·obtain ⟨j, rfl⟩ : ∃ j, i = j + 1 := ⟨i - 1, by omega⟩
     obtain ⟨p, tp, p1, -, -, -, p0⟩ := el 2 rfl t j (by omega)
     obtain ⟨hpm, -, -⟩ := hts p (List.mem_of_getElem? p1)
     have hgp : t.getD j default = p := by rw [List.getD_eq_getElem?_getD, p1]; rfl
     have hj2 : 2 ≤ t.length * 2 - j * 2 := by omega
     have hjl : j < t.length := by omega
     have wj : IntKind.i64.wrap (j : Int) = (j : Int) := wr _ (by omega) (by omega)
     have wp := xV hpm
     have ws := xV hsm
     have ar1 := xl x (p.c + 1) (s.c + 1)
     have ar2 := xl x (s.c + 1) (p.c + 1)
     have hfz : fzZ x t (j + 1) = fzZ x t j + arc x (p.c + 1) (s.c + 1) := by conv => lhs; unfold fzZ; rw [hgs, hgp]
     have hbz : bzZ x t (j + 1) = bzZ x t j + arc x (s.c + 1) (p.c + 1) := by conv => lhs; unfold bzZ; rw [hgs, hgp]
     have b1 := Zu hx t (j + 1)
     have b2 := Zv hx t (j + 1)
     have wf : IntKind.i64.wrap (fzZ x t j + arc x (p.c + 1) (s.c + 1)) = fzZ x t (j + 1) := by rw [hfz] at b1 ⊢; exact wr _ (by omega) (by omega)
     have wb : IntKind.i64.wrap (bzZ x t j + arc x (s.c + 1) (p.c + 1)) = bzZ x t (j + 1) := by rw [hbz] at b2 ⊢; exact wr _ (by omega) (by omega)
     simp only [Nat.add_sub_cancel]
     have h0' : (0 : Int) < ((j + 1 : Nat) : Int) := by omega
     repeat apply za
     refine pwN [] (jn2 h0 h0') ?_
     intros
     repeat apply za
     refine zi (by simp) ?_
     repeat apply za
     refine pwY (some [nx + 4, nx + 9]) (Row.pures [0, 1, 2, 3, 4, 5, 6, 7, 8, 9, 10, 11, 12] .done) mixed (jn6 wj p0 hjl hj2 wp ws) ?_
     intros
     repeat apply za
     refine pwn ?_
     refine pwC [] ar1 wf ?_
     intros
     repeat apply za
     refine pwn ?_
     refine pwC [] ar2 wb ?_
     intros
     exact zy () [] trivial (by simp) rfl (by simp)
    ·obtain rfl : i = 0 := by omega
     (repeat apply za); refine pwn ?_; intros
     repeat apply za
     refine zk rfl ?_
     refine ze ?_
     exact zy () [] trivial (by simp) rfl (by simp)
   ·rintro ⟨⟩ -
    refine za ?_
    refine zX (nx := nx) (fun _ : Unit => True) (fun _ => [(2, .ptr nx v0 0), (5, .ptr (nx + 2) v2 0), (7, .ptr (nx + 4) v4 0), (8, .ptr (nx + 6) v6 0), (9, I (fzZ x t i)), (10, I (bzZ x t i)), (11, I i), (12, .ptr (nx + 9) v9 0), (20, L d), (21, I d.length), (22, I k), (32, L t), (33, I t.length), (34, I i)]) (fun _ => S)
     (fun _ => [.cells v0 25 (zt x), .cells v1 66 [L d], .cells v2 253 [I x.days, I x.veh, I x.cap, I x.len, L x.cust, L x.dist, L d, .sl (nx + 3) v3 4 0 k], .cells v3 255 pc, .cells v4 72 [L t], .cells v5 3 lc,
     .cells v6 255 [.sl (nx + 7) (v7 + 1) 1 0 (i + 1), .sl (nx + 8) (v8 + 1) 1 0 (i + 1), .sl (nx + 5) v5 1 0 (i + 1), I wl], .cells (v7 + 1) 3 (fc ++ [I (fzZ x t i)]), .cells (v8 + 1) 3 (bc ++ [I (bzZ x t i)]), .cells v9 50 [I s.c, I s.q]]) ?_ ?_
    ·repeat apply za
     refine pwY (some []) (Row.pures [0, 2, 3, 5, 7, 8] (.alt 1 (.alt 4 (.alt 6 (Row.pures [10] (.alt 9 (.alt 11 (Row.pures [12] (.alt 13 (.done) .stop)) .stop) .stop)) .stop) (.alt 6 (.alt 4 (Row.pures [10] (.alt 9 (.alt 11 (Row.pures [12] (.alt 13 (.done) .stop)) .stop) .stop)) .stop) .stop)) (.alt 6 (.alt 1 (.alt 4 (Row.pures [10] (.alt 9 (.alt 11 (Row.pures [12] (.alt 13 (.done) .stop)) .stop) .stop)) .stop) .stop) .stop))) mixed (jn4 g1 g2 t1 t2) ?_
     repeat' (first | refine And.intro (by omega) ?_ | apply And.intro)
     all_goals exact zy () [] trivial (by simp) rfl (by simp)
    ·rintro ⟨⟩ -
     have z1 : (i : Int) < (i : Int) + 1 := by omega
     have z2 : i < i + 1 := by omega
     have z3 : 1 ≤ i + 1 - i := by omega
     repeat apply za
     refine pwY (some [nx + 9]) (Row.pures [0, 2, 4, 7, 8] (.alt 1 (.alt 3 (Row.pures [5] (.alt 6 (Row.pures [9, 10] (.alt 11 (Row.pures [12] (.alt 13 (.done) .stop)) .stop)) .stop)) .stop) (.alt 3 (Row.pures [5] (.alt 1 (.alt 6 (Row.pures [9, 10] (.alt 11 (Row.pures [12] (.alt 13 (.done) .stop)) .stop)) .stop) (.alt 6 (Row.pures [9, 10] (.alt 1 (.alt 11 (Row.pures [12] (.alt 13 (.done) .stop)) .stop) .stop)) .stop))) .stop))) mixed (jn6 z0 z1 z2 z3 wl1 (jn2 g3 t3)) ?_
     repeat' (first | refine And.intro (by omega) ?_ | apply And.intro)
     all_goals
      intros
      repeat apply za
      refine pwN [] wi ?_
      intros
      exact zm (i + 1, v5 + 1, v7 + 1, v8 + 1) [_] hci (by simp; omega) (by simp [wi]) rfl (by simp [c1, c2, c3]; rfl)
  ·simp at hci
   obtain rfl : i = t.length := by omega
   refine zo ?_
   clear hi hci
   have hsm : smZ x t = ⟨(List.range t.length).map (fzZ x t), (List.range t.length).map (bzZ x t), (List.range (t.length + 1)).map fun i => zx (t.take i), wl⟩ := by unfold smZ; rw [hwl]
   have g1 : (((List.range t.length).map (fzZ x t)).flatMap Enc.enc : List PV).length = t.length := by rw [qy]; simp
   have g2 : (((List.range t.length).map (bzZ x t)).flatMap Enc.enc : List PV).length = t.length := by rw [qy]; simp
   have g3 : (((List.range (t.length + 1)).map fun i => zx (t.take i)).flatMap Enc.enc : List PV).length = t.length + 1 := by rw [qy]; simp
   have hfz : ∀ id v cs, pc.map (yL id v cs) = pc := fun id v cs => by rw [← hpc]; exact ZiK id v cs _
   have hpl : pc.length = k * 4 := by rw [← hpc, Zbh]; simp; omega
   have hpt : pc.take (k * 4) = pc := List.take_of_length_le (by omega)
   have hnew : (((d.map (smZ x)).take (k + 1)).flatMap Enc.enc : List PV) = pc ++ [L ((List.range t.length).map (fzZ x t)), L ((List.range t.length).map (bzZ x t)), L ((List.range (t.length + 1)).map fun i => zx (t.take i)), I wl] := by
    rw [← hpc, ← List.map_take, a3, List.map_append, List.flatMap_append, ← List.map_take, List.map_cons, hsm]; rfl
   have l1 : ((List.range t.length).map (fzZ x t)).length = t.length := by simp
   have l2 : ((List.range t.length).map (bzZ x t)).length = t.length := by simp
   have l3 : ((List.range (t.length + 1)).map fun i => zx (t.take i)).length = t.length + 1 := by simp
   generalize (List.range t.length).map (fzZ x t) = fl at *
   generalize (List.range t.length).map (bzZ x t) = bl at *
   generalize ((List.range (t.length + 1)).map fun i => zx (t.take i)) = ll at *
   clear g1 g2 g3
   refine zL 8 rfl ?_
   simp only [List.map_cons, List.map_nil, List.set_cons_succ, List.set_cons_zero, jo, hfz]
   refine zL 7 rfl ?_
   simp only [List.map_cons, List.map_nil, List.set_cons_succ, List.set_cons_zero, jo, hfz]
   refine zL 5 rfl ?_
   simp only [List.map_cons, List.map_nil, List.set_cons_succ, List.set_cons_zero, jo, hfz]
   repeat apply za
   refine pwY (some [nx + 6]) (Row.pures [0, 1, 2, 3, 5, 6] (.alt 4 (.alt 7 (Row.pures [8, 9] (.alt 10 (.done) .stop)) .stop) .stop)) mixed (jn5 l1 l2 l3 hpl hpt) ?_
   refine ⟨by omega, ?_⟩
   intros
   (repeat apply za); refine pwn ?_; intros
   exact zm (k + 1, v3 + 1) [_, _, _, _, _] hc (by simp; omega) (by simp [wrN k (by omega)]) rfl (by simp [hnew, l1, l2, l3]; exact ⟨rfl, rfl, rfl, rfl, rfl⟩)
 ·simp at hc
  obtain rfl : k = d.length := by omega
  rw [List.take_of_length_le (by simp)]
  refine zo ?_
  have hml : ((d.map (smZ x)).flatMap Enc.enc : List PV).length = d.length * 4 := by rw [Zbh]; simp
  refine zL 3 rfl ?_
  repeat apply za
  refine pwN [] hml ?_
  intros
  refine jq 2 rfl ?_
  repeat apply za
  exact zb (zg hd (by simp; rfl) (by simp [zj, hml]))
open Go Go.Proofs
def qN (x : Inst) : Int → List Int → Int
 | _, [] => 0
 | a, c :: l => arc x a (c + 1) + qN x (c + 1) l
theorem XB (x : Inst) : ∀ (l : List Int) (a : Int) (m : List Int), qN x a (l ++ m) = qN x a l + qN x (yg a l) m
 | [], a, m => by simp [qN, yg]
 | c :: l, a, m => by
  simp only [List.cons_append, qN, yg]
  rw [XB x l (c + 1) m]; omega
theorem XC : ∀ (l : List Int) (a : Int) (m : List Int), yg a (l ++ m) = yg (yg a l) m
 | [], a, m => rfl
 | c :: l, a, m => by simp only [List.cons_append, yg]; exact XC l (c + 1) m
theorem Zbi (x : Inst) : ∀ (l : List Int) (a : Int), yl x a l = qN x a l + arc x (yg a l) 0
 | [], a => by simp [yl, qN, yg]
 | c :: l, a => by
  simp only [yl, qN, yg]
  rw [Zbi x l (c + 1)]; omega
def jJ (t : zq) (f n : Nat) : zq := (t.drop f).take n
theorem Yr {t : zq} {f n : Nat} {s : Stop} (h : t[f + n]? = some s) : jJ t f (n + 1) = jJ t f n ++ [s] := by
 have h' : (t.drop f)[n]? = some s := by rw [List.getElem?_drop]; exact h
 obtain ⟨h1, h2⟩ := List.getElem?_eq_some_iff.1 h'
 unfold jJ
 rw [List.take_succ_eq_append_getElem h1, h2]
theorem getD_some {t : zq} {i : Nat} {s : Stop} (h : t[i]? = some s) : t.getD i default = s := by rw [List.getD_eq_getElem?_getD, h]; rfl
theorem Zbj (x : Inst) (t : zq) (f : Nat) (a : Int) : ∀ n, f + n < t.length → qN x a ((jJ t f (n + 1)).map (·.c)) = arc x a ((t.getD f default).c + 1) + (fzZ x t (f + n) - fzZ x t f) ∧ yg a ((jJ t f (n + 1)).map (·.c)) = (t.getD (f + n) default).c + 1
 | 0, h => by
  have h0 : t[f + 0]? = some t[f] := List.getElem?_eq_getElem (by omega)
  rw [Yr h0]
  have : jJ t f 0 = [] := by simp [jJ]
  rw [this, getD_some h0]
  simp only [Nat.add_zero] at *
  rw [getD_some h0]
  simp [qN, yg]
 | n + 1, h => by
  obtain ⟨i1, i2⟩ := Zbj x t f a n (by omega)
  have h0 : t[f + (n + 1)]? = some t[f + (n + 1)] := List.getElem?_eq_getElem (by omega)
  rw [Yr h0, List.map_append, XB, XC, i1, i2, getD_some h0]
  simp only [List.map_cons, List.map_nil, qN, yg]
  have e : fzZ x t (f + (n + 1)) = fzZ x t (f + n) + arc x ((t.getD (f + n) default).c + 1) ((t.getD (f + (n + 1)) default).c + 1) := rfl
  rw [e, getD_some h0]
  exact ⟨by omega, trivial⟩
theorem Zbk (x : Inst) (t : zq) (f : Nat) : ∀ (n : Nat) (a : Int), f + n < t.length → qN x a ((jJ t f (n + 1)).reverse.map (·.c)) = arc x a ((t.getD (f + n) default).c + 1) + (bzZ x t (f + n) - bzZ x t f) ∧ yg a ((jJ t f (n + 1)).reverse.map (·.c)) = (t.getD f default).c + 1
 | 0, a, h => by
  have h0 : t[f + 0]? = some t[f] := List.getElem?_eq_getElem (by omega)
  rw [Yr h0]
  have : jJ t f 0 = [] := by simp [jJ]
  rw [this, getD_some h0]
  simp only [Nat.add_zero] at *
  rw [getD_some h0]
  simp [qN, yg]
 | n + 1, a, h => by
  have h0 : t[f + (n + 1)]? = some t[f + (n + 1)] := List.getElem?_eq_getElem (by omega)
  obtain ⟨i1, i2⟩ := Zbk x t f n ((t.getD (f + (n + 1)) default).c + 1) (by omega)
  rw [Yr h0, List.reverse_append]
  simp only [List.reverse_cons, List.reverse_nil, List.nil_append, List.cons_append, List.map_cons, qN, yg]
  rw [getD_some h0] at i1 i2 ⊢
  rw [i1, i2]
  have e : bzZ x t (f + (n + 1)) = bzZ x t (f + n) + arc x ((t.getD (f + (n + 1)) default).c + 1) ((t.getD (f + n) default).c + 1) := rfl
  rw [e, getD_some h0]
  exact ⟨by omega, rfl⟩
theorem Zbl (t : zq) (f : Nat) : ∀ n, f + n ≤ t.length → zx (jJ t f n) = zx (t.take (f + n)) - zx (t.take f)
 | 0, _ => by simp [jJ, zx]
 | n + 1, h => by
  have h0 : t[f + n]? = some t[f + n] := List.getElem?_eq_getElem (by omega)
  have e : t.take (f + n + 1) = t.take (f + n) ++ [t[f + n]] := List.take_succ_eq_append_getElem (by omega)
  rw [Yr h0, Z8, Zbl t f n (by omega), ← Nat.add_assoc, e, Z8]; omega
def qj (x : Inst) (d : Day) (st : Int × Int) (p : Pc) : Int × Int :=
 if p.f < p.o then
  (bif p.b then (((d.getD p.t []).getD p.f default).c + 1, st.2 + (arc x st.1 (((d.getD p.t []).getD (p.o - 1) default).c + 1) + bzZ x (d.getD p.t []) (p.o - 1) - bzZ x (d.getD p.t []) p.f))
  else (((d.getD p.t []).getD (p.o - 1) default).c + 1, st.2 + (arc x st.1 (((d.getD p.t []).getD p.f default).c + 1) + fzZ x (d.getD p.t []) (p.o - 1) - fzZ x (d.getD p.t []) p.f)))
 else st
def ju (x : Inst) (d : Day) (r : Rw5) : Int := (r.l.foldl (qj x d) (0, 0)).2 + arc x (r.l.foldl (qj x d) (0, 0)).1 0
def ldS (d : Day) (st : Int) (p : Pc) : Int := if p.f < p.o then st + (zx ((d.getD p.t []).take p.o) - zx ((d.getD p.t []).take p.f)) else st
def ldR (d : Day) (r : Rw5) : Int := r.l.foldl (ldS d) 0
theorem ZiM {x : Inst} {d : Day} {p : Pc} (h : Zs d p) (g : List Stop) : qj x d (yg 0 (g.map (·.c)), qN x 0 (g.map (·.c))) p = (yg 0 ((g ++ yv d p).map (·.c)), qN x 0 ((g ++ yv d p).map (·.c))) := by
 unfold qj yv
 by_cases hfo : p.f < p.o
 ·obtain ⟨ht, ho⟩ := h hfo
  unfold tlen at ho
  rw [if_pos hfo, if_pos hfo]
  generalize d.getD p.t [] = t at *
  obtain ⟨n, hn⟩ : ∃ n, p.o = p.f + n + 1 := ⟨p.o - p.f - 1, by omega⟩
  have e1 : p.o - 1 = p.f + n := by omega
  have e2 : p.o - p.f = n + 1 := by omega
  rw [e1, e2, List.map_append, XB, XC]
  cases p.b with
  | true =>
   simp only [cond_true]
   obtain ⟨i1, i2⟩ := Zbk x t p.f n (yg 0 (g.map (·.c))) (by omega)
   unfold jJ at i1 i2
   rw [i1, i2]
   congr 1; omega
  | false =>
   simp only [cond_false]
   obtain ⟨i1, i2⟩ := Zbj x t p.f (yg 0 (g.map (·.c))) n (by omega)
   unfold jJ at i1 i2
   rw [i1, i2]
   congr 1; omega
 ·rw [if_neg hfo, if_neg hfo, List.append_nil]
theorem Zbm {x : Inst} {d : Day} : ∀ (l : List Pc) (g : List Stop), (∀ p ∈ l, Zs d p) → l.foldl (qj x d) (yg 0 (g.map (·.c)), qN x 0 (g.map (·.c))) = (yg 0 ((g ++ l.flatMap (yv d)).map (·.c)), qN x 0 ((g ++ l.flatMap (yv d)).map (·.c)))
 | [], g, _ => by simp
 | p :: l, g, h => by
  rw [List.foldl_cons, ZiM (h p (by simp)), Zbm l _ fun q hq => h q (by simp [hq]), List.flatMap_cons, List.append_assoc]
theorem XE {x : Inst} {d : Day} {r : Rw5} (h : xy d r) (h0 : arc x 0 0 = 0) : ju x d r = zF x ((zY d r).map (·.c)) := by
 have := Zbm (x := x) r.l [] h
 simp only [List.map_nil, yg, qN, List.nil_append] at this
 unfold ju
 rw [this]
 simp only
 unfold zY zF
 split
 ·rename_i e
  rw [e]; simp [qN, yg, h0]
 ·rw [Zbi]
theorem ZiN {d : Day} {p : Pc} (h : Zs d p) (g : List Stop) : ldS d (zx g) p = zx (g ++ yv d p) := by
 unfold ldS yv
 by_cases hfo : p.f < p.o
 ·obtain ⟨ht, ho⟩ := h hfo
  unfold tlen at ho
  rw [if_pos hfo, if_pos hfo, Zhq]
  generalize d.getD p.t [] = t at *
  have := Zbl t p.f (p.o - p.f) (by omega)
  rw [show p.f + (p.o - p.f) = p.o by omega] at this
  have hr : ∀ l : zq, zx l.reverse = zx l := fun l => by unfold zx; exact Zhp ((List.reverse_perm l).map _)
  unfold jJ at this
  cases p.b with
  | true => simp only [cond_true]; rw [hr, this]
  | false => simp only [cond_false]; rw [this]
 ·rw [if_neg hfo, if_neg hfo, List.append_nil]
theorem ZiO {d : Day} {r : Rw5} (h : xy d r) : ldR d r = zx (zY d r) := by
 have key : ∀ (l : List Pc) (g : List Stop), (∀ p ∈ l, Zs d p) → l.foldl (ldS d) (zx g) = zx (g ++ l.flatMap (yv d)) := by
  intro l
  induction l with
  | nil => intro g _; simp
  | cons p l ih =>
   intro g h
   rw [List.foldl_cons, ZiN (h p (by simp)), ih _ fun q hq => h q (by simp [hq]), List.flatMap_cons, List.append_assoc]
 have := key r.l [] h
 simpa [ldR, zY, zx] using this
open Go Go.Proofs
abbrev rdG (x : Inst) (d : Day) (sms : List Sm) : List PV := [I x.days, I x.veh, I x.cap, I x.len, L x.cust, L x.dist, L d, L sms]
theorem Zw {x : Inst} (h : qJ x) (a b : Int) : 0 ≤ arc x a b ∧ arc x a b ≤ 2147483648 := h a b
theorem QH {x : Inst} {d : Day} {sms : List Sm} (hs : sms = d.map (smZ x)) {k : Nat} (h : k < d.length) : ∃ (t : zq) (td tf : List PV), d[k]? = some t ∧ d.getD k [] = t ∧ (d.flatMap Enc.enc : List PV).drop k = L t :: td ∧
  (sms.flatMap Enc.enc : List PV).drop (k * 4) = [L (smZ x t).f, L (smZ x t).b, L (smZ x t).l, I (smZ x t).n] ++ tf := by
 obtain ⟨t, td, a1, -, -, e0⟩ := el1 rfl d k h
 rw [hs]
 obtain ⟨s, ts, b1, -, -, -, f0⟩ := el 4 rfl (d.map (smZ x)) k (by simpa using h)
 have : s = smZ x t := by rw [List.getElem?_map, a1] at b1; exact (Option.some.inj b1).symm
 subst this
 exact ⟨t, td, ts, a1, by rw [List.getD_eq_getElem?_getD, a1]; rfl, e0, f0⟩
theorem Zx {α : Type} [Enc α] (n : Nat) (hn : Enc.sz α = 1) (f : Nat → α) {i : Nat} (h : i < n) : ∃ tl, (((List.range n).map f).flatMap Enc.enc : List PV).drop i = Enc.enc (f i) ++ tl := by
 obtain ⟨s, ts, b1, -, -, f0⟩ := el1 hn ((List.range n).map f) i (by simpa using h)
 have : s = f i := by rw [List.getElem?_map, List.getElem?_range h] at b1; exact (Option.some.inj b1).symm
 subst this
 exact ⟨ts, f0⟩
set_option maxRecDepth 20000 in
set_option maxHeartbeats 3200000 in
theorem XF (x : Inst) (d : Day) (r : Rw5) (hx : qJ x) (hd' : MvDay d) (hr : xy d r) : Pure Tryz.prog 199 [.ip (rdL x d), .agg (rwL r)] (I (ju x d r)) := by
 obtain ⟨sms, hsms⟩ : ∃ sms, sms = d.map (smZ x) := ⟨_, rfl⟩
 have hml : sms.length = d.length := by rw [hsms]; simp
 rw [show rdL x d = rdG x d sms from by rw [hsms]]
 have hdn := hd'.n
 have hat := fun k (h : k < 5) => QG r h
 have hz : ju x d r = ((r.l.take 5).foldl (qj x d) (0, 0)).2 + arc x ((r.l.take 5).foldl (qj x d) (0, 0)).1 0 := by unfold ju; rw [List.take_of_length_le (by simp [Rw5.l])]
 rw [hz]
 clear hz
 have hcl : (rwL r).length = 20 := rfl
 have hct : (rwL r).take 20 = rwL r := rfl
 generalize hrc : rwL r = rc at *
 refine pwe Tryz.func199 Tryz.ntmps199 Tryz.results199 fun S nx hd => ?_
 repeat apply za
 refine pwn ?_
 intro v0
 (repeat apply za); refine pwn ?_; intros
 repeat apply za
 refine pwN [] (jn2 hcl hct) ?_
 intros
 repeat apply za
 refine zh (zr (fun k : Nat => k ≤ 5 ∧ -(8796093022208 * (k : Int)) ≤ ((r.l.take k).foldl (qj x d) (0, 0)).2 ∧ ((r.l.take k).foldl (qj x d) (0, 0)).2 ≤ 8796093022208 * k) (fun k => [(0, .ip (rdG x d sms)), (3, .ptr nx v0 0), (5, I ((r.l.take k).foldl (qj x d) (0, 0)).1), (6, I ((r.l.take k).foldl (qj x d) (0, 0)).2), (13, .agg rc), (14, I k)]) (fun _ => [.cells v0 202 rc]) (fun k => 5 - k) 0 [] (by simp) (by simp) (by simp) ?_)
 rintro k ⟨hk, hb1, hb2⟩
 by_cases hk5 : k < 5
 ·obtain ⟨p, hp1, hp2, hp3⟩ := hat k hk5
  have hk5' : (k : Int) < 5 := by omega
  have hk6 : 4 ≤ 20 - k * 4 := by omega
  have hok := hr p (List.mem_of_getElem? hp1)
  have hnx : (r.l.take (k + 1)).foldl (qj x d) (0, 0) = qj x d ((r.l.take k).foldl (qj x d) (0, 0)) p := by rw [hp3, List.foldl_append]; rfl
  generalize (r.l.take k).foldl (qj x d) (0, 0) = st at *
  obtain ⟨at_, all⟩ := st
  simp only at hb1 hb2 ⊢
  have wk := wrN k (by omega)
  repeat apply za
  refine pwN [] hk5' ?_
  intros
  repeat apply za
  refine zi rfl ?_
  refine ze (za (zh ?_))
  repeat apply za
  refine pwN [] (jn5 hp2 hk5 hk5' hcl hk6) ?_
  intro v3
  by_cases hfo : p.f < p.o
  case neg =>
   have hpz : qj x d (at_, all) p = (at_, all) := by unfold qj; rw [if_neg hfo]
   rw [hpz] at hnx
   have hfo' : p.o ≤ p.f := by omega
   repeat apply za
   refine pwN [] hfo' ?_
   intros
   repeat apply za
   refine zi (by simp [hfo']) ?_
   refine zo ?_
   (repeat apply za); refine pwn ?_; intros
   exact zm (k + 1) [_] ⟨by omega, by rw [hnx]; simp only; omega, by rw [hnx]; simp only; omega⟩ (by omega) (by simp [wk, hnx]) rfl (by simp; rfl)
  obtain ⟨ht, ho⟩ := hok hfo
  obtain ⟨t, td, tf, a1, hgt, e0, f0⟩ := QH hsms ht
  unfold tlen at ho
  rw [hgt] at ho
  have htm := List.mem_of_getElem? a1
  have htl := hd'.t t htm
  have hts := hd'.s t htm
  have ht1 : 1 ≤ d.length - p.t := by omega
  have ht4 : 4 ≤ d.length * 4 - p.t * 4 := by omega
  obtain ⟨n, hn⟩ : ∃ n, p.o = n + 1 := ⟨p.o - 1, by omega⟩
  have hfo' : ¬ p.o ≤ p.f := by omega
  have hst : qj x d (at_, all) p = bif p.b then ((t.getD p.f default).c + 1, all + (arc x at_ ((t.getD n default).c + 1) + bzZ x t n - bzZ x t p.f)) else ((t.getD n default).c + 1, all + (arc x at_ ((t.getD p.f default).c + 1) + fzZ x t n - fzZ x t p.f)) := by
   unfold qj; rw [if_pos hfo, hgt, show p.o - 1 = n by omega]
  rw [hst] at hnx
  clear hst
  obtain ⟨sf, tsf, s1, -, -, -, s0⟩ := el 2 rfl t p.f (by omega)
  obtain ⟨sl, tsl, l1, -, -, -, l0⟩ := el 2 rfl t n (by omega)
  have hgf : t.getD p.f default = sf := getD_some s1
  have hgl : t.getD n default = sl := getD_some l1
  rw [hgf, hgl] at hnx
  have q1 : p.f < t.length := by omega
  have q2 : n < t.length := by omega
  have q3 : 2 ≤ t.length * 2 - p.f * 2 := by omega
  have q4 : 2 ≤ t.length * 2 - n * 2 := by omega
  have wo : IntKind.i64.wrap ((p.o : Int) - 1) = (n : Int) := by rw [wr _ (by omega) (by omega)]; omega
  have wsf := xV (hts sf (List.mem_of_getElem? s1)).1
  have wsl := xV (hts sl (List.mem_of_getElem? l1)).1
  have bf1 := Zu hx t p.f
  have bf2 := Zu hx t n
  have bb1 := Zv hx t p.f
  have bb2 := Zv hx t n
  have hlen : ((List.range t.length).map (fzZ x t)).length = t.length ∧ ((List.range t.length).map (bzZ x t)).length = t.length := by simp
  obtain ⟨z1, hz1⟩ := Zx t.length rfl (fzZ x t) q1
  obtain ⟨z2, hz2⟩ := Zx t.length rfl (fzZ x t) q2
  obtain ⟨z3, hz3⟩ := Zx t.length rfl (bzZ x t) q1
  obtain ⟨z4, hz4⟩ := Zx t.length rfl (bzZ x t) q2
  have q5 : 1 ≤ t.length - p.f := by omega
  have q6 : 1 ≤ t.length - n := by omega
  simp only [smZ] at f0
  generalize hfl : (List.range t.length).map (fzZ x t) = fl at *
  generalize hbl : (List.range t.length).map (bzZ x t) = bl at *
  generalize ((List.range (t.length + 1)).map fun i => zx (t.take i)) = ll at *
  generalize zF x (t.map (·.c)) = wl at *
  obtain ⟨hl1, hl2⟩ := hlen
  have hfll : (fl.flatMap Enc.enc : List PV).length = t.length := by rw [qy, hl1]
  have hbll : (bl.flatMap Enc.enc : List PV).length = t.length := by rw [qy, hl2]
  repeat apply za
  refine pwN [] hfo' ?_
  intros
  repeat apply za
  refine zk (by simp [hfo']) ?_
  refine ze ?_
  repeat apply za
  refine pwY (some [nx + 1]) (Row.pures [0, 1, 2, 3, 4, 5, 6, 7, 8, 9, 10, 11, 12, 13, 14, 15, 16, 17, 18, 19, 20] .done) mixed (jn6 e0 f0 ht ht1 ht4 hml) ?_
  intros
  repeat apply za
  refine pwY (some [nx + 1]) (Row.pures [0, 1, 2, 3, 4, 5, 6] .done) mixed wo ?_
  intros
  refine za ?_
  cases hpb : p.b with
  | false =>
   rw [hpb] at hnx
   simp only [cond_false] at hnx
   have har := Zw hx at_ (sf.c + 1)
   have ar := xl x at_ (sf.c + 1)
   have w1 : IntKind.i64.wrap (arc x at_ (sf.c + 1) + fzZ x t n) = arc x at_ (sf.c + 1) + fzZ x t n := wr _ (by omega) (by omega)
   have w2 : IntKind.i64.wrap (arc x at_ (sf.c + 1) + fzZ x t n - fzZ x t p.f) = arc x at_ (sf.c + 1) + fzZ x t n - fzZ x t p.f := wr _ (by omega) (by omega)
   have w3 : IntKind.i64.wrap (all + (arc x at_ (sf.c + 1) + fzZ x t n - fzZ x t p.f)) = all + (arc x at_ (sf.c + 1) + fzZ x t n - fzZ x t p.f) := wr _ (by omega) (by omega)
   repeat apply za
   refine pwN [] hpb ?_
   intros
   repeat apply za
   refine zk rfl ?_
   refine ze ?_
   repeat apply za
   refine pwY (some [nx + 1]) (Row.pures [0, 1, 2, 3, 4, 5, 6, 7, 8, 9, 10, 11, 12, 13, 14, 15, 16, 17, 18, 19, 20, 21, 22, 23, 24, 25, 26, 27] .done) mixed (jn6 s0 q1 q3 wsf wo (jn2 (jn6 hz1 hz2 hfll hl1 q2 q5) (jn4 q6 w1 w2 w3))) ?_
   refine pwP (ar) (jn6 s0 q1 q3 wsf wo (jn2 (jn6 hz1 hz2 hfll hl1 q2 q5) (jn4 q6 w1 w2 w3))) ?_
   intros
   repeat apply za
   refine pwN [] (jn4 l0 q2 q4 wsl) ?_
   intros
   (repeat apply za); refine pwn ?_; intros
   exact zm (k + 1) [_] ⟨by omega, by rw [hnx]; simp only; omega, by rw [hnx]; simp only; omega⟩ (by omega) (by simp [wk, hnx]) rfl (by simp; rfl)
  | true =>
   rw [hpb] at hnx
   simp only [cond_true] at hnx
   have har := Zw hx at_ (sl.c + 1)
   have ar := xl x at_ (sl.c + 1)
   have w1 : IntKind.i64.wrap (arc x at_ (sl.c + 1) + bzZ x t n) = arc x at_ (sl.c + 1) + bzZ x t n := wr _ (by omega) (by omega)
   have w2 : IntKind.i64.wrap (arc x at_ (sl.c + 1) + bzZ x t n - bzZ x t p.f) = arc x at_ (sl.c + 1) + bzZ x t n - bzZ x t p.f := wr _ (by omega) (by omega)
   have w3 : IntKind.i64.wrap (all + (arc x at_ (sl.c + 1) + bzZ x t n - bzZ x t p.f)) = all + (arc x at_ (sl.c + 1) + bzZ x t n - bzZ x t p.f) := wr _ (by omega) (by omega)
   repeat apply za
   refine pwN [] hpb ?_
   intros
   repeat apply za
   refine zi rfl ?_
   repeat apply za
   refine pwY (some [nx + 1]) (Row.pures [0, 1, 2, 3, 4, 5, 6, 7, 8, 9, 10, 11, 12, 13] .done) mixed (jn4 f0 ht ht4 hml) ?_
   intros
   repeat apply za
   refine pwY (some [nx + 1]) (Row.pures [0, 1, 2, 3, 4, 5, 6, 7, 8, 9, 10, 11, 12, 13, 14, 15, 16, 17, 18, 19, 20, 21, 22, 23, 24, 25, 26, 27] .done) mixed (jn6 l0 q2 q4 wsl wo (jn2 (jn6 hz3 hz4 hbll hl2 q1 q5) (jn4 q6 w1 w2 w3))) ?_
   refine pwP (ar) (jn6 l0 q2 q4 wsl wo (jn2 (jn6 hz3 hz4 hbll hl2 q1 q5) (jn4 q6 w1 w2 w3))) ?_
   intros
   repeat apply za
   refine pwN [] (jn4 s0 q1 q3 wsf) ?_
   intros
   (repeat apply za); refine pwn ?_; intros
   exact zm (k + 1) [_] ⟨by omega, by rw [hnx]; simp only; omega, by rw [hnx]; simp only; omega⟩ (by omega) (by simp [wk, hnx]) rfl (by simp; rfl)
 ·obtain rfl : k = 5 := by omega
  generalize (r.l.take 5).foldl (qj x d) (0, 0) = st at *
  obtain ⟨at_, all⟩ := st
  simp only at hb1 hb2 ⊢
  have har := Zw hx at_ 0
  have ar := xl x at_ 0
  have w1 : IntKind.i64.wrap (all + arc x at_ 0) = all + arc x at_ 0 := wr _ (by omega) (by omega)
  (repeat apply za); refine pwn ?_; intros
  repeat apply za
  refine zk rfl ?_
  refine zo ?_
  repeat apply za
  refine pwn ?_
  refine pwC [] ar w1 ?_
  intros
  repeat apply za
  exact zb (zg hd rfl rfl)
open Go Go.Proofs
set_option maxRecDepth 20000 in
set_option maxHeartbeats 3200000 in
theorem ZiP (x : Inst) (d : Day) (r : Rw5) (hd' : MvDay d) (hr : xy d r) : Pure Tryz.prog 200 [.ip (rdL x d), .agg (rwL r)] (I (ldR d r)) := by
 obtain ⟨sms, hsms⟩ : ∃ sms, sms = d.map (smZ x) := ⟨_, rfl⟩
 have hml : sms.length = d.length := by rw [hsms]; simp
 rw [show rdL x d = rdG x d sms from by rw [hsms]]
 have hdn := hd'.n
 have hat := fun k (h : k < 5) => QG r h
 have hz : ldR d r = (r.l.take 5).foldl (ldS d) 0 := by unfold ldR; rw [List.take_of_length_le (by simp [Rw5.l])]
 rw [hz]
 clear hz
 have hcl : (rwL r).length = 20 := rfl
 have hct : (rwL r).take 20 = rwL r := rfl
 generalize hrc : rwL r = rc at *
 refine pwe Tryz.func200 Tryz.ntmps200 Tryz.results200 fun S nx hd => ?_
 repeat apply za
 refine pwn ?_
 intro v0
 (repeat apply za); refine pwn ?_; intros
 repeat apply za
 refine pwN [] (jn2 hcl hct) ?_
 intros
 repeat apply za
 refine zh (zr (fun k : Nat => k ≤ 5 ∧ -(8796093022208 * (k : Int)) ≤ (r.l.take k).foldl (ldS d) 0 ∧ (r.l.take k).foldl (ldS d) 0 ≤ 8796093022208 * k) (fun k => [(0, .ip (rdG x d sms)), (3, .ptr nx v0 0), (5, I ((r.l.take k).foldl (ldS d) 0)), (8, .agg rc), (9, I k)]) (fun _ => [.cells v0 202 rc]) (fun k => 5 - k) 0 [] (by simp) (by simp) (by simp) ?_)
 rintro k ⟨hk, hb1, hb2⟩
 by_cases hk5 : k < 5
 ·obtain ⟨p, hp1, hp2, hp3⟩ := hat k hk5
  have hk5' : (k : Int) < 5 := by omega
  have hk6 : 4 ≤ 20 - k * 4 := by omega
  have hok := hr p (List.mem_of_getElem? hp1)
  have hnx : (r.l.take (k + 1)).foldl (ldS d) 0 = ldS d ((r.l.take k).foldl (ldS d) 0) p := by rw [hp3, List.foldl_append]; rfl
  generalize (r.l.take k).foldl (ldS d) 0 = all at *
  have wk := wrN k (by omega)
  repeat apply za
  refine pwN [] hk5' ?_
  intros
  repeat apply za
  refine zi rfl ?_
  refine ze (za (zh ?_))
  repeat apply za
  refine pwN [] (jn5 hp2 hk5 hk5' hcl hk6) ?_
  intro v3
  by_cases hfo : p.f < p.o
  case neg =>
   have hpz : ldS d all p = all := by unfold ldS; rw [if_neg hfo]
   rw [hpz] at hnx
   repeat apply za
   refine pwN [] hfo ?_
   intros
   repeat apply za
   refine zk (by simp [hfo]) ?_
   refine ze ?_
   (repeat apply za); refine pwn ?_; intros
   exact zm (k + 1) [_] ⟨by omega, by rw [hnx]; omega, by rw [hnx]; omega⟩ (by omega) (by simp [wk, hnx]) rfl (by simp; rfl)
  obtain ⟨ht, ho⟩ := hok hfo
  obtain ⟨t, td, tf, a1, hgt, e0, f0⟩ := QH hsms ht
  unfold tlen at ho
  rw [hgt] at ho
  have htm := List.mem_of_getElem? a1
  have htl := hd'.t t htm
  have hts := hd'.s t htm
  have ht4 : 4 ≤ d.length * 4 - p.t * 4 := by omega
  have hst : ldS d all p = all + (zx (t.take p.o) - zx (t.take p.f)) := by unfold ldS; rw [if_pos hfo, hgt]
  rw [hst] at hnx
  have b1 := Xk (t := t.take p.o) (fun a ha => (hts a (List.mem_of_mem_take ha)).2)
  have b2 := Xk (t := t.take p.f) (fun a ha => (hts a (List.mem_of_mem_take ha)).2)
  have b3 : (t.take p.o).length ≤ 1000 := by rw [List.length_take]; omega
  have b4 : (t.take p.f).length ≤ 1000 := by rw [List.length_take]; omega
  have w1 : IntKind.i64.wrap (zx (t.take p.o) - zx (t.take p.f)) = zx (t.take p.o) - zx (t.take p.f) := wr _ (by omega) (by omega)
  have w2 : IntKind.i64.wrap (all + (zx (t.take p.o) - zx (t.take p.f))) = all + (zx (t.take p.o) - zx (t.take p.f)) := wr _ (by omega) (by omega)
  obtain ⟨z1, hz1⟩ := Zx (t.length + 1) rfl (fun i => zx (t.take i)) (show p.o < t.length + 1 by omega)
  obtain ⟨z2, hz2⟩ := Zx (t.length + 1) rfl (fun i => zx (t.take i)) (show p.f < t.length + 1 by omega)
  have hll : ((List.range (t.length + 1)).map fun i => zx (t.take i)).length = t.length + 1 := by simp
  simp only [smZ] at f0
  generalize (List.range t.length).map (fzZ x t) = fl at *
  generalize (List.range t.length).map (bzZ x t) = bl at *
  generalize ((List.range (t.length + 1)).map fun i => zx (t.take i)) = ll at *
  generalize zF x (t.map (·.c)) = wl at *
  generalize zx (t.take p.o) = lo at *
  generalize zx (t.take p.f) = lf at *
  have hlf : (ll.flatMap Enc.enc : List PV).length = t.length + 1 := by rw [qy, hll]
  have q1 : p.o < t.length + 1 := by omega
  have q2 : p.f < t.length + 1 := by omega
  have q3 : 1 ≤ t.length + 1 - p.o := by omega
  have q4 : 1 ≤ t.length + 1 - p.f := by omega
  have q5 : (p.o : Int) < (t.length : Int) + 1 := by omega
  have q6 : (p.f : Int) < (t.length : Int) + 1 := by omega
  repeat apply za
  refine pwN [] hfo ?_
  intros
  repeat apply za
  refine zi (by simp [hfo]) ?_
  repeat apply za
  refine pwY (some [nx + 1]) (Row.pures [0, 1, 2, 3, 4, 5, 6, 7, 8, 9, 10, 11, 12, 13, 14, 15, 16, 17, 18, 19, 20, 21, 22, 23, 24, 25, 26, 27, 28, 29] .done) mixed (jn6 f0 ht ht4 hml hz1 (jn2 (jn6 hz2 hll hlf q1 q2 q3) (jn5 q4 q5 q6 w1 w2))) ?_
  intros
  (repeat apply za); refine pwn ?_; intros
  exact zm (k + 1) [_] ⟨by omega, by rw [hnx]; omega, by rw [hnx]; omega⟩ (by omega) (by simp [wk, hnx]) rfl (by simp; rfl)
 ·obtain rfl : k = 5 := by omega
  (repeat apply za); refine pwn ?_; intros
  repeat apply za
  refine zk rfl ?_
  refine zo ?_
  (repeat apply za); refine pwn ?_; intros
  repeat apply za
  exact zb (zg hd rfl rfl)
def Ys (x : Inst) (d : Day) (m : Mv) (r1 r2 : Rw5) : Int := ju x d r1 - zF x ((d.getD m.a []).map (·.c)) + (if m.a = m.b then 0 else ju x d r2 - zF x ((d.getD m.b []).map (·.c)))
theorem Zbn {x : Inst} (hx : qJ x) {d : Day} (hd' : MvDay d) {r : Rw5} (hr : xy d r) : -52776558133248 ≤ ju x d r ∧ ju x d r ≤ 52776558133248 := by
 have key : ∀ k : Nat, k ≤ 5 → -(8796093022208 * (k : Int)) ≤ ((r.l.take k).foldl (qj x d) (0, 0)).2 ∧ ((r.l.take k).foldl (qj x d) (0, 0)).2 ≤ 8796093022208 * k := by
  intro k
  induction k with
  | zero => intro _; simp
  | succ k ih =>
   intro hk
   obtain ⟨h1, h2⟩ := ih (by omega)
   obtain ⟨p, hp1, -, hp3⟩ := QG r (show k < 5 by omega)
   have hok := hr p (List.mem_of_getElem? hp1)
   rw [hp3, List.foldl_append, List.foldl_cons, List.foldl_nil]
   generalize (r.l.take k).foldl (qj x d) (0, 0) = st at *
   unfold qj
   by_cases hfo : p.f < p.o
   ·obtain ⟨ht, ho⟩ := hok hfo
    have htm : d.getD p.t [] ∈ d := List.mem_of_getElem? (i := p.t) (by rw [List.getD_eq_getElem?_getD, List.getElem?_eq_getElem ht]; rfl)
    have htl := hd'.t _ htm
    unfold tlen at ho
    generalize d.getD p.t [] = t at *
    have b1 := Zu hx t p.f
    have b2 := Zu hx t (p.o - 1)
    have b3 := Zv hx t p.f
    have b4 := Zv hx t (p.o - 1)
    rw [if_pos hfo]
    cases p.b with
    | true =>
     have := Zw hx st.1 ((t.getD (p.o - 1) default).c + 1)
     simp only [cond_true]; omega
    | false =>
     have := Zw hx st.1 ((t.getD p.f default).c + 1)
     simp only [cond_false]; omega
   ·rw [if_neg hfo]; omega
 have h5 := key 5 (by omega)
 rw [List.take_of_length_le (by simp [Rw5.l])] at h5
 have := Zw hx (r.l.foldl (qj x d) (0, 0)).1 0
 unfold ju
 omega
set_option maxRecDepth 20000 in
set_option maxHeartbeats 3200000 in
theorem ZiQ (x : Inst) (d : Day) (m : Mv) (r1 r2 : Rw5) (hx : qJ x) (hd' : MvDay d) (hr1 : xy d r1) (hr2 : xy d r2) (ha : m.a < d.length) (hb : m.b < d.length) : Pure Tryz.prog 156 [.ip (rdL x d), .agg (mvL m), .agg (rwL r1), .agg (rwL r2)] (I (Ys x d m r1 r2)) := by
 have l1 := XF x d r1 hx hd' hr1
 have l2 := XF x d r2 hx hd' hr2
 have b1 := Zbn hx hd' hr1
 have b2 := Zbn hx hd' hr2
 obtain ⟨sms, hsms⟩ : ∃ sms, sms = d.map (smZ x) := ⟨_, rfl⟩
 have hml : sms.length = d.length := by rw [hsms]; simp
 rw [show rdL x d = rdG x d sms from by rw [hsms]] at l1 l2 ⊢
 have hdn := hd'.n
 obtain ⟨ta, tda, tfa, a1, hga, -, fa⟩ := QH hsms ha
 obtain ⟨tb, tdb, tfb, c1, hgb, -, fb⟩ := QH hsms hb
 have wa := Zo hx (ta.map (·.c))
 have wb := Zo hx (tb.map (·.c))
 rw [List.length_map] at wa wb
 have hta := hd'.t ta (List.mem_of_getElem? a1)
 have htb := hd'.t tb (List.mem_of_getElem? c1)
 have hdef : Ys x d m r1 r2 = ju x d r1 - zF x (ta.map (·.c)) + (if m.a = m.b then 0 else ju x d r2 - zF x (tb.map (·.c))) := by unfold Ys; rw [hga, hgb]
 rw [hdef]
 clear hdef
 simp only [smZ] at fa fb
 generalize ju x d r1 = k1 at *
 generalize ju x d r2 = k2 at *
 generalize zF x (ta.map (·.c)) = wl at *
 generalize zF x (tb.map (·.c)) = wm at *
 have ha4 : 4 ≤ d.length * 4 - m.a * 4 := by omega
 have hb4 : 4 ≤ d.length * 4 - m.b * 4 := by omega
 have w1 : IntKind.i64.wrap (k1 - wl) = k1 - wl := wr _ (by omega) (by omega)
 have w2 : IntKind.i64.wrap (k2 - wm) = k2 - wm := wr _ (by omega) (by omega)
 have w3 : IntKind.i64.wrap (k1 - wl + (k2 - wm)) = k1 - wl + (k2 - wm) := wr _ (by omega) (by omega)
 have hc1 : (rwL r1).length = 20 := rfl
 have ht1 : (rwL r1).take 20 = rwL r1 := rfl
 have hc2 : (rwL r2).length = 20 := rfl
 have ht2 : (rwL r2).take 20 = rwL r2 := rfl
 generalize hrc1 : rwL r1 = rc1 at *
 generalize hrc2 : rwL r2 = rc2 at *
 refine pwe Tryz.func156 Tryz.ntmps156 Tryz.results156 fun S nx hd => ?_
 repeat apply za
 refine pwn ?_
 intro v0 v1 v2
 repeat apply za
 refine pwY (some [nx, nx + 1]) (Row.pures [0, 1, 2, 3, 4, 5, 6, 7, 8, 9, 10, 11, 12, 13] .done) mixed (jn6 hc1 ht1 fa ha ha4 (jn2 hml w1)) ?_
 refine pwP (l1) (jn6 hc1 ht1 fa ha ha4 (jn2 hml w1)) ?_
 intros
 by_cases hab : m.a = m.b
 ·have hab' : (m.a : Int) = m.b := by omega
  rw [if_pos hab]
  repeat apply za
  refine pwN [] hab' ?_
  intros
  repeat apply za
  refine zk (by simp [hab']) ?_
  refine ze ?_
  (repeat apply za); refine pwn ?_; intros
  repeat apply za
  exact zb (zg hd rfl (by simp [zj]))
 ·have hab' : ¬ (m.a : Int) = m.b := by omega
  rw [if_neg hab]
  repeat apply za
  refine pwN [] hab' ?_
  intros
  repeat apply za
  refine zi (by simp [hab']) ?_
  repeat apply za
  refine pwY (some [nx, nx + 2]) (Row.pures [0, 1, 2, 3, 4, 5, 6, 7, 8, 9, 10, 11, 12, 13, 14, 15] .done) mixed (jn6 hc2 ht2 fb hb hb4 (jn3 hml w2 w3)) ?_
  refine pwP (l2) (jn6 hc2 ht2 fb hb hb4 (jn3 hml w2 w3)) ?_
  intros
  (repeat apply za); refine pwn ?_; intros
  repeat apply za
  exact zb (zg hd rfl (by simp [zj]))
set_option maxRecDepth 20000 in
theorem Zbo (x : Inst) (d : Day) (r : Rw5) (hx : qJ x) (hd' : MvDay d) (hr : xy d r) : Pure Tryz.prog 157 [.ip (rdL x d), .agg (rwL r)] (B (decide (ldR d r ≤ x.cap ∧ ju x d r ≤ x.len))) := by
 have l1 := XF x d r hx hd' hr
 have l2 := ZiP x d r hd' hr
 obtain ⟨sms, hsms⟩ : ∃ sms, sms = d.map (smZ x) := ⟨_, rfl⟩
 rw [show rdL x d = rdG x d sms from by rw [hsms]] at l1 l2 ⊢
 generalize ju x d r = k1 at *
 generalize ldR d r = k2 at *
 have hc1 : (rwL r).length = 20 := rfl
 have ht1 : (rwL r).take 20 = rwL r := rfl
 generalize hrc1 : rwL r = rc at *
 refine pwe Tryz.func157 Tryz.ntmps157 Tryz.results157 fun S nx hd => ?_
 repeat apply za
 refine pwn ?_
 intro v0
 by_cases h1 : k2 ≤ x.cap
 ·repeat apply za
  refine pwY (some [nx]) (Row.pures [0, 1, 2, 3, 4, 5, 6, 7, 8, 9, 10, 11, 12, 13, 14, 15, 16, 17, 18, 19, 20] .done) mixed (jn3 hc1 ht1 h1) ?_
  refine pwP (l2) (jn3 hc1 ht1 h1) ?_
  refine pwP (l1) (jn3 hc1 ht1 h1) ?_
  intros
  repeat apply za
  exact zb (zg hd rfl (by simp [zj, h1]))
 ·repeat apply za
  refine pwY (some [nx]) (Row.pures [0, 1, 2, 3, 4, 5, 6, 7, 8, 9, 10, 11, 12, 13, 14, 15, 16, 17, 18, 19, 20] .done) mixed (jn4 hc1 ht1 h1 zp) ?_
  refine pwP (l2) (jn4 hc1 ht1 h1 zp) ?_
  intros
  repeat apply za
  exact zb (zg hd rfl (by simp [zj, h1]))
open Go Go.Proofs
theorem QI {α : Type} {W : Nat → List α} {n k i : Nat} {x : α} (hk : k < n) (h : (W k)[i]? = some x) : ((List.range n).flatMap W)[((List.range k).flatMap W).length + i]? = some x := by
 obtain ⟨m, rfl⟩ : ∃ m, n = k + (m + 1) := ⟨n - k - 1, by omega⟩
 have hi := (List.getElem?_eq_some_iff.1 h).1
 rw [List.range_add, List.flatMap_append, List.getElem?_append_right (Nat.le_add_right _ _), Nat.add_sub_cancel_left, List.range_succ_eq_map]
 simp only [List.map_cons, List.flatMap_cons, Nat.add_zero]
 rw [List.getElem?_append_left hi]
 exact h
theorem QJ {α : Type} (W : Nat → List α) (k : Nat) : ((List.range (k + 1)).flatMap W).length = ((List.range k).flatMap W).length + (W k).length := by
 rw [List.range_succ, List.flatMap_append, List.length_append]; simp
def vp (d : Day) (k a b i j : Nat) : Option Mv := if ji d ⟨k, a, b, i, j⟩ = true then some ⟨k, a, b, i, j⟩ else none
def x7 (d : Day) (k a b i : Nat) : List Mv := (List.range (tlen d b + 1)).filterMap (vp d k a b i)
def wH (d : Day) (k a b : Nat) : List Mv := (List.range (tlen d a + 1)).flatMap (x7 d k a b)
def vR (d : Day) (k a : Nat) : List Mv := (List.range d.length).flatMap (wH d k a)
def wI (d : Day) (k : Nat) : List Mv := (List.range d.length).flatMap (vR d k)
def wJ (d : Day) : List Mv := (List.range 4).flatMap (wI d)
abbrev mvE (m : Mv) : List PV := [.agg (mvL m)]
set_option maxRecDepth 20000 in
set_option maxHeartbeats 3200000 in
theorem ZiR (d : Day) (k a b : Nat) (hdn : d.length ≤ 1048576) (hdt : ∀ t ∈ d, t.length ≤ 1000) (hk : k ≤ 3) (ha : a < d.length) (hb : b < d.length) :
  Qz Tryz.prog 198 (fun y => [.agg [L d], .agg [I k, I a, I b, I 0, I 0], yld y]) ((wH d k a b).map mvE) (B true) := by
 refine Zau Tryz.func198 (by rfl) rfl Tryz.ntmps198 (congrArg Array.toList Tryz.results198) (by simp) fun y V keep nx J hJd hY A0 hA0 => ?_
 obtain ⟨ta, xa, a1, -, -, a0⟩ := el1 rfl d a ha
 obtain ⟨tb, xb, b1, -, -, b0⟩ := el1 rfl d b hb
 have ha1 : 1 ≤ d.length - a := by omega
 have hb1 : 1 ≤ d.length - b := by omega
 have la : tlen d a = ta.length := by unfold tlen; rw [List.getD_eq_getElem?_getD, a1]; rfl
 have lb : tlen d b = tb.length := by unfold tlen; rw [List.getD_eq_getElem?_getD, b1]; rfl
 have hal := hdt ta (List.mem_of_getElem? a1)
 have hbl := hdt tb (List.mem_of_getElem? b1)
 have hall : ∀ t ∈ d, t.length ≤ 1048576 := fun t ht => Nat.le_trans (hdt t ht) (by decide)
 have hlook := fun i j (hi : i ≤ 1048576) (hj : j ≤ 1048576) => Xu d ⟨k, a, b, i, j⟩ hdn hall hk ha hb hi hj
 have hpl : wH d k a b = (List.range (ta.length + 1)).flatMap (x7 d k a b) := by unfold wH; rw [la]
 have hrow : ∀ i, x7 d k a b i = (List.range (tb.length + 1)).filterMap (vp d k a b i) := fun i => by unfold x7; rw [lb]
 rw [hpl] at hY ⊢
 clear hpl la lb
 repeat apply za
 refine pwn ?_
 intro v0 v1
 (repeat apply za); refine pwn ?_; intros
 repeat apply za
 refine zh (jn (σ := Nat × Int × Store) (fun s' => s'.1 ≤ ta.length + 1 ∧ J ((List.range s'.1).flatMap (x7 d k a b)).length s'.2.2) (fun s' => [(2, yld y), (3, .ptr nx v0 0), (4, .ptr (nx + 1) v1 0)]) (fun s' => s'.2.2)
  (fun (i, jv, _) => [.cells v0 66 [L d], .cells v1 160 [I k, I a, I b, I i, I jv]]) (fun s' => ta.length + 1 - s'.1) (zy (0, 0, A0) [] (by simpa using hA0) (by simp) rfl (by simp)) ?_)
 rintro ⟨i, jv, A⟩ ⟨hi, hJ⟩
 simp only at hi hJ ⊢
 repeat apply za
 refine pwY (some [nx, nx + 1]) (Row.pures [0, 1, 2, 3, 4, 5, 6, 7, 8, 9, 10] .done) mixed (jn3 a0 ha ha1) ?_
 intros
 repeat apply za
 refine zn rfl (fun hc => ?_) (fun hc => ?_)
 ·simp at hc
  have hrl := QJ (x7 d k a b) i
  refine ze (za (zh ?_))
  (repeat apply za); refine pwn ?_; intros
  repeat apply za
  refine zh (jn (σ := Nat × Store) (fun s' => s'.1 ≤ tb.length + 1 ∧ J (((List.range i).flatMap (x7 d k a b)).length + ((List.range s'.1).filterMap (vp d k a b i)).length) s'.2) (fun s' => [(2, yld y), (3, .ptr nx v0 0), (4, .ptr (nx + 1) v1 0)]) (fun s' => s'.2)
   (fun (j, _) => [.cells v0 66 [L d], .cells v1 160 [I k, I a, I b, I i, I j]]) (fun s' => tb.length + 1 - s'.1) (zy (0, A) [] (by simpa using hJ) (by simp) rfl (by simp)) ?_)
  clear hJ A jv
  rintro ⟨j, A⟩ ⟨hj, hJ⟩
  simp only at hj hJ ⊢
  repeat apply za
  refine pwY (some [nx, nx + 1]) (Row.pures [0, 1, 2, 3, 4, 5, 6, 7, 8, 9, 10] .done) mixed (jn3 b0 hb hb1) ?_
  intros
  repeat apply za
  refine zn rfl (fun hcj => ?_) (fun hcj => ?_)
  ·simp at hcj
   have hlk := hlook i j (by omega) (by omega)
   have wj := wrN j (by omega)
   refine ze (za (zh ?_))
   cases hm : ji d ⟨k, a, b, i, j⟩ with
   | true =>
    have hce : vp d k a b i j = some ⟨k, a, b, i, j⟩ := by unfold vp; rw [if_pos hm]
    have hlo : wG d ⟨k, a, b, i, j⟩ = ((zJ d ⟨k, a, b, i, j⟩).1, (zJ d ⟨k, a, b, i, j⟩).2, true) := by unfold wG; rw [if_pos hm]
    rw [hlo] at hlk
    have hat := Zaw (n := tb.length + 1) (by omega) hce
    rw [← hrow] at hat
    have hat2 := QI (W := x7 d k a b) (n := ta.length + 1) (by omega) hat
    have hy : (((List.range (ta.length + 1)).flatMap (x7 d k a b)).map mvE)[((List.range i).flatMap (x7 d k a b)).length + ((List.range j).filterMap (vp d k a b i)).length]? = some (mvE ⟨k, a, b, i, j⟩) := by
     rw [List.getElem?_map, hat2]; rfl
    have hnx := Zay hce
    generalize (zJ d ⟨k, a, b, i, j⟩).1 = r1 at *
    generalize (zJ d ⟨k, a, b, i, j⟩).2 = r2 at *
    repeat apply za
    refine pwn ?_
    refine pwc hlk ?_
    intro v2 v3
    intros
    repeat apply za
    refine zQ [(1, 50)] (by rfl) (by rfl) fun K Gc Gh hK hGc hGh X hX0 hX => ?_
    simp -implicitDefEqProofs [hX0, hX]
    try clear hX0 hX X
    refine hGh _ _ _ _ _ fun hsuf => Z2 rfl rfl rfl (hY _ _ _ _ hy hJ) ?_
    rintro _ ⟨A', hJ', rfl⟩
    refine ⟨_, _, rfl, ?_⟩
    clear hGc hGh
    clear Gc Gh
    refine zH hsuf (D := [(1, 50)]) (by rfl) fun Gc Gh hGc hGh X hX0 hX => ?_
    simp -implicitDefEqProofs [hX0, hX]
    try clear hX0 hX X
    intros
    refine hK _ _ _ ?_
    clear hK hGc hGh
    clear K Gc Gh
    repeat apply za
    refine zk rfl ?_
    refine ze ?_
    (repeat apply za); refine pwn ?_; intros
    exact zm (j + 1, A') [_, _] ⟨by simp; omega, by rw [hnx]; exact hJ'⟩ (by simp; omega) (by simp) rfl (by simp [wj]; exact ⟨rfl, rfl⟩)
   | false =>
    have hce : vp d k a b i j = none := by unfold vp; rw [if_neg (by simp [hm])]
    have hlo : wG d ⟨k, a, b, i, j⟩ = (rw0, rw0, false) := by unfold wG; rw [if_neg (by simp [hm])]
    rw [hlo] at hlk
    have hnx := Zax hce
    generalize rw0 = r0 at *
    repeat apply za
    refine pwn ?_
    refine pwc hlk ?_
    intro v2 v3
    intros
    repeat apply za
    refine pwN [(1, 50)] zp ?_
    intros
    repeat apply za
    refine zk rfl ?_
    refine ze ?_
    (repeat apply za); refine pwn ?_; intros
    exact zm (j + 1, A) [_, _] ⟨by simp; omega, by rw [hnx]; exact hJ⟩ (by simp; omega) (by simp) rfl (by simp [wj]; exact ⟨rfl, rfl⟩)
  ·simp at hcj
   obtain rfl : j = tb.length + 1 := by omega
   rw [← hrow, ← hrl] at hJ
   refine zo ?_
   have wi := wrN i (by omega)
   (repeat apply za); refine pwn ?_; intros
   exact zm (i + 1, ((tb.length + 1 : Nat) : Int), A) [] ⟨by simp; omega, hJ⟩ (by simp; omega) (by simp) rfl (by simp [wi])
 ·simp at hc
  obtain rfl : i = ta.length + 1 := by omega
  refine zo ?_
  (repeat apply za); refine pwn ?_; intros
  repeat apply za
  exact zb (QA (hJd _ _ hJ) (by simp; rfl) (by simp [zj]) (by simpa using hJ))
set_option maxRecDepth 20000 in
theorem ZiS (d : Day) : Pure Tryz.prog 154 [.agg [L d]] (.fn (.func 196) [] [.ip [L d]]) := by
 refine pwe Tryz.func154 Tryz.ntmps154 Tryz.results154 fun S nx hd => ?_
 repeat apply za
 refine pwn ?_
 intro v0
 (repeat apply za); refine pwn ?_; intros
 refine jq 0 rfl ?_
 repeat apply za
 exact zb (zg hd (by simp; rfl) rfl)
set_option maxRecDepth 20000 in
set_option maxHeartbeats 3200000 in
theorem ZiT (d : Day) (hdn : d.length ≤ 1000) (hdt : ∀ t ∈ d, t.length ≤ 1000) : uq Tryz.prog 196 [.ip [L d]] ((wJ d).map mvE) := by
 have hpl := fun k a b (hk : k ≤ 3) (ha : a < d.length) (hb : b < d.length) => ZiR d k a b (by omega) hdt hk ha hb
 have hkinds := Za8
 generalize QE = kl at hkinds
 refine Qf Tryz.func196 (by rfl) rfl Tryz.ntmps196 (congrArg Array.toList Tryz.results196) (by simp) fun l V keep nx J hJd hY A0 hA0 => ?_
 repeat apply za
 refine pwn ?_
 refine pwc hkinds ?_
 intros
 repeat apply za
 refine zh (jn (σ := Nat × Store) (fun s' => s'.1 ≤ 4 ∧ J ((List.range s'.1).flatMap (wI d)).length s'.2) (fun s' => [(0, yld l), (1, .ip [L d]), (7, I s'.1)]) (fun s' => s'.2) (fun _ => []) (fun s' => 4 - s'.1) (zy (0, A0) [] (by simpa using hA0) (by simp) rfl (by simp)) ?_)
 rintro ⟨k, A⟩ ⟨hk, hJ⟩
 simp only at hk hJ ⊢
 by_cases hk4 : k < 4
 ·have hk4' : (k : Int) < 4 := by omega
  have hlA := QJ (wI d) k
  repeat apply za
  refine pwN [] hk4' ?_
  intros
  repeat apply za
  refine zi rfl ?_
  refine ze (za (zh ?_))
  (repeat apply za); refine pwn ?_; intros
  (repeat apply za); refine pwn ?_; intros
  repeat apply za
  refine zh (jn (σ := Nat × Store) (fun s' => s'.1 ≤ d.length ∧ J (((List.range k).flatMap (wI d)).length + ((List.range s'.1).flatMap (vR d k)).length) s'.2) (fun s' => [(0, yld l), (1, .ip [L d]), (3, I k), (7, I k), (12, I d.length), (13, I s'.1)]) (fun s' => s'.2) (fun _ => []) (fun s' => d.length - s'.1) (zy (0, A) [] (by simpa using hJ) (by simp) rfl (by simp)) ?_)
  clear hJ A
  rintro ⟨a, A⟩ ⟨ha, hJ⟩
  simp only at ha hJ ⊢
  (repeat apply za); refine pwn ?_; intros
  repeat apply za
  refine zn rfl (fun hca => ?_) (fun hca => ?_)
  ·simp at hca
   have hlK := QJ (vR d k) a
   refine ze (za (zh ?_))
   (repeat apply za); refine pwn ?_; intros
   (repeat apply za); refine pwn ?_; intros
   repeat apply za
   refine zh (jn (σ := Nat × Store) (fun s' => s'.1 ≤ d.length ∧ J (((List.range k).flatMap (wI d)).length + ((List.range a).flatMap (vR d k)).length + ((List.range s'.1).flatMap (wH d k a)).length) s'.2) (fun s' => [(0, yld l), (1, .ip [L d]), (3, I k), (4, I a), (7, I k), (12, I d.length), (13, I a), (18, I d.length), (19, I s'.1)]) (fun s' => s'.2) (fun _ => []) (fun s' => d.length - s'.1) (zy (0, A) [] (by simpa using hJ) (by simp) rfl (by simp)) ?_)
   clear hJ A
   rintro ⟨b, A⟩ ⟨hb, hJ⟩
   simp only at hb hJ ⊢
   (repeat apply za); refine pwn ?_; intros
   repeat apply za
   refine zn rfl (fun hcb => ?_) (fun hcb => ?_)
   ·simp at hcb
    have hw := hpl k a b (by omega) hca hcb
    have hlP := QJ (wH d k a) b
    have hin : ∀ (i : Nat) (x : List PV), ((wH d k a b).map mvE)[i]? = some x → ((wJ d).map mvE)[((List.range k).flatMap (wI d)).length + ((List.range a).flatMap (vR d k)).length + ((List.range b).flatMap (wH d k a)).length + i]? = some x := by
     intro i x hx
     rw [List.getElem?_map] at hx ⊢
     obtain ⟨m, hm, rfl⟩ := Option.map_eq_some_iff.1 hx
     have e1 := QI (W := wH d k a) (n := d.length) hcb hm
     have e2 := QI (W := vR d k) (n := d.length) hca e1
     have e3 := QI (W := wI d) (n := 4) hk4 e2
     rw [Nat.add_assoc, Nat.add_assoc]
     unfold wJ
     rw [e3]; rfl
    refine ze (za (zh ?_))
    (repeat apply za); refine pwn ?_; intros
    repeat apply za
    refine zQ [] (by rfl) (by rfl) fun K Gc Gh hK hGc hGh X hX0 hX => ?_
    simp -implicitDefEqProofs [hX0, hX]
    try clear hX0 hX X
    refine hGc _ _ _ _ _ _ _ fun hsuf => ((Zav hw keep hY _ hin hJ _).mono ?_)
    rintro _ _ ⟨A', rfl, hJ', rfl⟩
    rw [List.length_map, Nat.add_assoc, ← hlP] at hJ'
    refine ⟨_, _, rfl, ?_⟩
    clear hGc hGh
    clear Gc Gh
    refine zH hsuf (D := []) (by rfl) fun Gc Gh hGc hGh X hX0 hX => ?_
    simp -implicitDefEqProofs [hX0, hX]
    clear hX0 hX X
    intros
    refine hK _ _ _ ?_
    clear hK hGc hGh
    clear K Gc Gh
    repeat apply za
    refine zk rfl ?_
    refine ze ?_
    (repeat apply za); refine pwn ?_; intros
    exact zm (b + 1, A') [] ⟨hcb, hJ'⟩ (by simp; omega) (by simp [wrN b (by omega)]) rfl (by simp)
   ·simp at hcb
    obtain rfl : b = d.length := by omega
    refine zo ?_
    have hJ2 : J (((List.range k).flatMap (wI d)).length + ((List.range (a + 1)).flatMap (vR d k)).length) A := by rw [hlK, ← Nat.add_assoc]; exact hJ
    (repeat apply za); refine pwn ?_; intros
    exact zm (a + 1, A) [] ⟨hca, hJ2⟩ (by simp; omega) (by simp [wrN a (by omega)]) rfl (by simp)
  ·simp at hca
   obtain rfl : a = d.length := by omega
   refine zo ?_
   have hJ2 : J ((List.range (k + 1)).flatMap (wI d)).length A := by rw [hlA]; exact hJ
   (repeat apply za); refine pwn ?_; intros
   exact zm (k + 1, A) [] ⟨hk4, hJ2⟩ (by simp; omega) (by simp [wrN k (by omega)]) rfl (by simp)
 ·obtain rfl : k = 4 := by omega
  (repeat apply za); refine pwn ?_; intros
  repeat apply za
  refine zk rfl ?_
  refine zo (xT (hJd _ _ hJ) rfl ?_)
  rw [List.length_map]; exact hJ
open Go Go.Proofs
theorem uJ {d : Day} {m : Mv} (h : ji d m = true) : m.k ≤ 3 ∧ m.a < d.length ∧ m.b < d.length ∧ xy d (zJ d m).1 ∧ xy d (zJ d m).2 := by
 unfold ji at h
 rw [Bool.and_eq_true] at h
 obtain ⟨h1, h2⟩ := h
 have h1 := of_decide_eq_true h1
 refine ⟨h1.1, h1.2.1, h1.2.2, ?_⟩
 unfold jS at h2
 unfold zJ qW
 have e0 := Ziv d
 have key : ∀ p : Pc, Zs d p ↔ (p.f < p.o → p.t < d.length ∧ p.o ≤ tlen d p.t) := fun _ => Iff.rfl
 by_cases k0 : m.k = 0
 ·rw [if_pos k0] at h2 ⊢
  have h2 := of_decide_eq_true h2
  refine ⟨?_, e0⟩
  intro p hp
  simp only [Rw5.l, List.mem_cons, List.not_mem_nil, or_false] at hp
  rcases hp with rfl | rfl | rfl | rfl | rfl <;> refine (key _).2 ?_ <;> simp only [pc0] <;> omega
 rw [if_neg k0] at h2 ⊢
 by_cases k1 : m.k = 1
 ·rw [if_pos k1] at h2 ⊢
  have h2 := of_decide_eq_true h2
  by_cases hab : m.a = m.b
  ·rw [if_pos hab, hab] at h2
   rw [if_neg (by simp [hab])]
   by_cases hij : m.i < m.j
   ·rw [if_pos hij]
    refine ⟨?_, e0⟩
    intro p hp
    simp only [Rw5.l, List.mem_cons, List.not_mem_nil, or_false] at hp
    rcases hp with rfl | rfl | rfl | rfl | rfl <;> refine (key _).2 ?_ <;> simp only [pc0] <;> (try rw [hab]) <;> omega
   ·rw [if_neg hij]
    refine ⟨?_, e0⟩
    intro p hp
    simp only [Rw5.l, List.mem_cons, List.not_mem_nil, or_false] at hp
    rcases hp with rfl | rfl | rfl | rfl | rfl <;> refine (key _).2 ?_ <;> simp only [pc0] <;> (try rw [hab]) <;> omega
  ·rw [if_neg hab] at h2
   rw [if_pos hab]
   constructor <;> intro p hp <;> simp only [Rw5.l, List.mem_cons, List.not_mem_nil, or_false] at hp <;> rcases hp with rfl | rfl | rfl | rfl | rfl <;> refine (key _).2 ?_ <;> simp only [pc0] <;> omega
 rw [if_neg k1] at h2 ⊢
 by_cases k2 : m.k = 2
 ·rw [if_pos k2] at h2 ⊢
  have h2 := of_decide_eq_true h2
  by_cases hab : m.a = m.b
  ·rw [if_pos hab]
   rw [hab] at h2
   refine ⟨?_, e0⟩
   intro p hp
   simp only [Rw5.l, List.mem_cons, List.not_mem_nil, or_false] at hp
   rcases hp with rfl | rfl | rfl | rfl | rfl <;> refine (key _).2 ?_ <;> simp only [pc0, hab] <;> omega
  ·rw [if_neg hab]
   constructor <;> intro p hp <;> simp only [Rw5.l, List.mem_cons, List.not_mem_nil, or_false] at hp <;> rcases hp with rfl | rfl | rfl | rfl | rfl <;> refine (key _).2 ?_ <;> simp only [pc0] <;> omega
 rw [if_neg k2] at h2 ⊢
 have h2 := of_decide_eq_true h2
 constructor <;> intro p hp <;> simp only [Rw5.l, List.mem_cons, List.not_mem_nil, or_false] at hp <;> rcases hp with rfl | rfl | rfl | rfl | rfl <;> refine (key _).2 ?_ <;> simp only [pc0] <;> omega
theorem XG {d : Day} {m : Mv} : m ∈ wJ d → ji d m = true ∧ m.i ≤ tlen d m.a ∧ m.j ≤ tlen d m.b := by
 unfold wJ wI vR wH x7 vp
 intro h
 simp only [List.mem_flatMap, List.mem_range, List.mem_filterMap] at h
 obtain ⟨k, hk, a, ha, b, hb, i, hi, j, hj, h⟩ := h
 split at h
 ·rename_i hm
  cases h
  exact ⟨hm, by simp only; omega, by simp only; omega⟩
 ·cases h
def mv0 : Mv := ⟨0, 0, 0, 0, 0⟩
def jK (x : Inst) (d : Day) (r : Rw5) : Prop := ldR d r ≤ x.cap ∧ ju x d r ≤ x.len
instance (x : Inst) (d : Day) (r : Rw5) : Decidable (jK x d r) := by unfold jK; infer_instance
def byM (x : Inst) (d : Day) (m : Mv) : Int := Ys x d m (zJ d m).1 (zJ d m).2
def mbS (x : Inst) (d : Day) (st : Mv × Int) (m : Mv) : Mv × Int := if byM x d m < st.2 ∧ jK x d (zJ d m).1 ∧ jK x d (zJ d m).2 then (m, byM x d m) else st
def mbZ (x : Inst) (d : Day) : Mv × Int := (wJ d).foldl (mbS x d) (mv0, 0)
set_option maxRecDepth 20000 in
set_option maxHeartbeats 3200000 in
theorem ZiU (x : Inst) (d : Day) (hx : qJ x) (hd' : MvDay d) : Pure Tryz.prog 115 [.agg (zt x), .agg [L d]] (.tup [.agg (mvL (mbZ x d).1), I (mbZ x d).2, B (decide ((mbZ x d).2 < 0))]) := by
 have hdn := hd'.n
 have hit := ZiT d hdn hd'.t
 have hread := ZiL x d hx hd'
 have hfacts : ∀ m ∈ wJ d, Pure Tryz.prog 155 [.agg [L d], .agg (mvL m)] (.tup [.agg (rwL (zJ d m).1), .agg (rwL (zJ d m).2), B true]) ∧ Pure Tryz.prog 156 [.ip (rdL x d), .agg (mvL m), .agg (rwL (zJ d m).1), .agg (rwL (zJ d m).2)] (I (byM x d m)) ∧
   Pure Tryz.prog 157 [.ip (rdL x d), .agg (rwL (zJ d m).1)] (B (decide (jK x d (zJ d m).1))) ∧ Pure Tryz.prog 157 [.ip (rdL x d), .agg (rwL (zJ d m).2)] (B (decide (jK x d (zJ d m).2))) := by
  intro m hm
  obtain ⟨h1, h2, h3⟩ := XG hm
  obtain ⟨hk, ha, hb, r1, r2⟩ := uJ h1
  have hl : ∀ a, tlen d a ≤ 1000 := by
   intro a
   unfold tlen
   rw [List.getD_eq_getElem?_getD]
   cases hq : d[a]? with
   | none => simp
   | some l => exact hd'.t l (List.mem_of_getElem? hq)
  have hla := hl m.a
  have hlb := hl m.b
  have hlk := Xu d m (by omega) (fun t ht => Nat.le_trans (hd'.t t ht) (by decide)) hk ha hb (by omega) (by omega)
  unfold wG at hlk
  rw [if_pos h1] at hlk
  exact ⟨hlk, ZiQ x d m _ _ hx hd' r1 r2 ha hb, Zbo x d _ hx hd' r1, Zbo x d _ hx hd' r2⟩
 unfold mbZ
 generalize wJ d = xs at *
 generalize rdL x d = rd at *
 have hea := ZiS d
 refine pwe Tryz.func115 Tryz.ntmps115 Tryz.results115 fun S nx hd => ?_
 repeat apply za
 refine pwn ?_
 intro v0 v1 v2
 repeat apply za
 refine pwn ?_
 refine pwc hread ?_
 intro v3
 intros
 repeat apply za
 refine pwn ?_
 intro v4 v5
 repeat apply za
 refine pwn ?_
 refine pwc hea ?_
 intros
 repeat apply za
 refine zh (Z4 (xs := xs.map mvE) (σ := Mv × Int) (fun i st => st = (xs.take i).foldl (mbS x d) (mv0, 0)) [(2, .ptr nx v0 0), (3, .ptr (nx + 1) v1 0), (4, .ptr (nx + 2) v2 0), (7, .ptr (nx + 3) v3 0), (8, .ptr (nx + 4) v4 0), (9, .ptr (nx + 5) v5 0)] (fun _ => S)
  (fun (b, least) => [.cells v0 25 (zt x), .cells v1 66 [L d], .cells v2 160 [I 0, I 0, I 0, I 0, I 0], .cells v3 194 [.ip rd], .cells v4 160 (mvL b), .cells v5 3 [I least]]) (mv0, 0)
  hit rfl (by intro x hx; obtain ⟨y, _, rfl⟩ := List.mem_map.1 hx; rfl) (by decide) (by simp) (by simp) rfl (by simp [mv0]) (by simp [mv0]) ?_ ?_)
 ·rintro l i ⟨b, least⟩ more y hst hy
  simp only at hst ⊢
  rw [List.getElem?_map] at hy
  obtain ⟨m, hm, rfl⟩ := Option.map_eq_some_iff.1 hy
  have hsucc := Xr (f := mbS x d) (b := (mv0, 0)) hm
  rw [← hst] at hsucc
  obtain ⟨f1, f2, f3, f4⟩ := hfacts m (List.mem_of_getElem? hm)
  unfold mbS at hsucc
  simp only at hsucc
  generalize (zJ d m).1 = r1 at *
  generalize (zJ d m).2 = r2 at *
  generalize byM x d m = by_ at *
  repeat apply za
  refine pwn ?_
  intro v6
  refine zh ?_
  repeat apply za
  refine pwn ?_
  refine pwc f1 ?_
  intro v7 v8
  intros
  repeat apply za
  refine pwn ?_
  refine pwc f2 ?_
  intros
  by_cases hlt : by_ < least
  ·repeat apply za
   refine pwN [(3, 37), (8, 42)] hlt ?_
   refine pwC [(3, 37), (8, 42)] f3 hlt ?_
   by_cases hf1 : jK x d r1
   ·rw [decide_eq_true hf1]
    intros
    refine pwC [(3, 37), (8, 42)] f4 hlt ?_
    intros
    by_cases hf2 : jK x d r2
    ·rw [if_pos ⟨hlt, hf1, hf2⟩] at hsucc
     repeat apply za
     refine zi (by simp [hf2]) ?_
     (repeat apply za); refine pwn ?_; intros
     simp only [qD]
     exact jY (m, by_) [_, _, _] hsucc.symm rfl (by simp; exact ⟨rfl, rfl, rfl⟩)
    ·rw [if_neg fun e => hf2 e.2.2] at hsucc
     repeat apply za
     refine zk (by simp [hf2]) ?_
     refine ze ?_
     simp only [qD]
     exact jY (b, least) [_, _, _] hsucc.symm rfl (by simp; exact ⟨rfl, rfl, rfl⟩)
   ·rw [decide_eq_false hf1]
    rw [if_neg fun e => hf1 e.2.1] at hsucc
    intros
    repeat apply za
    refine zk rfl ?_
    refine ze ?_
    simp only [qD]
    exact jY (b, least) [_, _, _] hsucc.symm rfl (by simp; exact ⟨rfl, rfl, rfl⟩)
  ·rw [if_neg fun e => hlt e.1] at hsucc
   repeat apply za
   refine pwN [(3, 37), (8, 42)] (jn2 hlt zp) ?_
   intros
   repeat apply za
   refine zk rfl ?_
   refine ze ?_
   simp only [qD]
   exact jY (b, least) [_, _, _] hsucc.symm rfl (by simp; exact ⟨rfl, rfl, rfl⟩)
 ·rintro ⟨b, least⟩ hst
  rw [List.take_of_length_le (by simp)] at hst
  simp only at hst ⊢
  rw [← hst]
  repeat apply za
  refine pwY (some [nx + 4, nx + 5]) (Row.pures [0, 1, 2, 3] (.alt 4 (Row.pures [5, 6] .done) .stop)) mixed trivial ?_
  intros
  repeat apply za
  exact zb (zg hd (by simp; rfl) (by simp [zj]))
open Go Go.Proofs
def mkT (d : Day) (m : Mv) (i : Nat) : zq := if i = m.a then zY d (zJ d m).1 else if i = m.b then zY d (zJ d m).2 else d.getD i []
def qu (d : Day) (m : Mv) (i : Nat) : Option zq := if (mkT d m i).length = 0 then none else some (mkT d m i)
def mkZ (d : Day) (m : Mv) : Day := (List.range d.length).filterMap (qu d m)
theorem Zbp {d : Day} {r : Rw5} {k : Nat} (h : ∀ t ∈ d, t.length ≤ k) : (zY d r).length ≤ 5 * k := by
 have h1 := fun p => Zba (d := d) (p := p) h
 have a1 := h1 r.a
 have a2 := h1 r.b
 have a3 := h1 r.c
 have a4 := h1 r.d
 have a5 := h1 r.e
 unfold zY Rw5.l
 simp only [List.flatMap_cons, List.flatMap_nil, List.length_append, List.append_nil]
 omega
set_option maxRecDepth 20000 in
set_option maxHeartbeats 3200000 in
theorem ZiV (x : Inst) (d : Day) (m : Mv) (hdn : d.length ≤ 1000) (hdt : ∀ t ∈ d, t.length ≤ 1000) (hm : ji d m = true) (hi : m.i ≤ 1048576) (hj : m.j ≤ 1048576) : Pure Tryz.prog 116 [.agg (zt x), .agg [L d], .agg (mvL m)] (.tup [.agg [L (mkZ d m)], I 0]) := by
 obtain ⟨hk, ha, hb, r1, r2⟩ := uJ hm
 have hlk := Xu d m (by omega) (fun t ht => Nat.le_trans (hdt t ht) (by decide)) hk ha hb hi hj
 unfold wG at hlk
 rw [if_pos hm] at hlk
 have g1 := Zbb d _ (by omega) hdt r1
 have g2 := Zbb d _ (by omega) hdt r2
 have n1 := Zbp (r := (zJ d m).1) hdt
 have n2 := Zbp (r := (zJ d m).2) hdt
 have hmk : ∀ i, mkT d m i = if i = m.a then zY d (zJ d m).1 else if i = m.b then zY d (zJ d m).2 else d.getD i [] := fun _ => rfl
 generalize zY d (zJ d m).1 = t1 at *
 generalize zY d (zJ d m).2 = t2 at *
 generalize (zJ d m).1 = c1 at *
 generalize (zJ d m).2 = c2 at *
 have hme : mkZ d m = (List.range d.length).filterMap (qu d m) := rfl
 rw [hme]
 clear hme
 refine pwe Tryz.func116 Tryz.ntmps116 Tryz.results116 fun S nx hd => ?_
 repeat apply za
 refine pwn ?_
 intro v0 v1 v2 v3
 repeat apply za
 refine pwn ?_
 refine pwc hlk ?_
 intro v4 v5
 intros
 (repeat apply za); refine pwn ?_; intros
 repeat apply za
 refine zk rfl ?_
 refine ze ?_
 repeat apply za
 refine pwn ?_
 intro v6
 refine qT 6 0 72 1 rfl rfl fun v7 => ?_
 (repeat apply za); refine pwn ?_; intros
 repeat apply za
 refine zh (zr (fun s' : Nat × Nat => s'.1 ≤ d.length) (fun (k, v7) => [(4, .ptr (nx + 1) v1 0), (5, .ptr (nx + 2) v2 0), (6, .ptr (nx + 3) v3 0), (8, .ptr (nx + 4) v4 0), (9, .ptr (nx + 5) v5 0), (11, .ptr (nx + 6) v6 0), (26, L d), (27, I d.length), (28, I k)])
  (fun (k, v7) => [.cells v0 25 (zt x), .cells v1 66 [L d], .cells v2 160 (mvL m), .cells v3 66 [yH], .cells v4 202 (rwL c1), .cells v5 202 (rwL c2), .cells v6 66 [.sl (nx + 7) v7 1 0 ((List.range k).filterMap (qu d m)).length], .cells v7 72 (((List.range k).filterMap (qu d m)).flatMap Enc.enc)]) (fun s' => d.length - s'.1) (0, v7) [] (by simp) (by simp) (by simp) ?_)
 rintro ⟨k, v7⟩ hk0
 simp only at hk0 ⊢
 (repeat apply za); refine pwn ?_; intros
 repeat apply za
 refine zn rfl (fun hc => ?_) (fun hc => ?_)
 ·simp at hc
  obtain ⟨t, tl, a1, a2, a3, e0⟩ := el1 rfl d k hc
  have hk1 : 1 ≤ d.length - k := by omega
  have htl := hdt t (List.mem_of_getElem? a1)
  have hcl := Qy t (by omega)
  have hgk : d.getD k [] = t := by rw [List.getD_eq_getElem?_getD, a1]; rfl
  have hmkk := hmk k
  have hlen : ((List.range k).filterMap (qu d m)).length ≤ k := by have := List.length_filterMap_le (qu d m) (List.range k); simpa using this
  have hnext : (List.range (k + 1)).filterMap (qu d m) = (List.range k).filterMap (qu d m) ++ (qu d m k).toList := by
   rw [List.range_succ, List.filterMap_append]
   simp only [List.filterMap_cons, List.filterMap_nil]
   cases qu d m k <;> rfl
  have hT1 : qu d m k = if (mkT d m k).length = 0 then none else some (mkT d m k) := rfl
  rw [hgk] at hmkk
  have hTl : (mkT d m k).length ≤ 5000 := by rw [hmkk]; (repeat' split) <;> omega
  have hof : (((List.range k).filterMap (qu d m)).flatMap Enc.enc : List PV).length = ((List.range k).filterMap (qu d m)).length := jE _
  generalize (List.range k).filterMap (qu d m) = out at *
  have hot : (out.flatMap Enc.enc : List PV).take out.length = out.flatMap Enc.enc := List.take_of_length_le (by omega)
  have wk := wrN k (by omega)
  refine ze (za (zh ?_))
  repeat apply za
  refine pwN [] (jn3 e0 hc hk1) ?_
  intro v8
  repeat apply za
  refine pwn ?_
  refine pwc hcl ?_
  intros
  (repeat apply za); refine pwn ?_; intros
  repeat apply za
  refine zX (nx := nx) (fun _ : Unit => True) (fun _ => [(4, .ptr (nx + 1) v1 0), (5, .ptr (nx + 2) v2 0), (6, .ptr (nx + 3) v3 0), (8, .ptr (nx + 4) v4 0), (9, .ptr (nx + 5) v5 0), (11, .ptr (nx + 6) v6 0), (14, L (mkT d m k)), (26, L d), (27, I d.length), (28, I k)]) (fun _ => S)
   (fun _ => [.cells v0 25 (zt x), .cells v1 66 [L d], .cells v2 160 (mvL m), .cells v3 66 [yH], .cells v4 202 (rwL c1), .cells v5 202 (rwL c2), .cells v6 66 [.sl (nx + 7) v7 1 0 out.length], .cells v7 72 (out.flatMap Enc.enc), .cells v8 72 [L t]]) ?_ ?_
  ·refine zh ?_
   by_cases h1 : k = m.a
   ·rw [if_pos h1] at hmkk
    have h1' : (k : Int) = m.a := by omega
    rw [hmkk]
    (repeat apply za); refine pwn ?_; intros
    repeat apply za
    refine zi (by simp; omega) ?_
    repeat apply za
    refine pwn ?_
    refine pwc g1 ?_
    intros
    simp only [qD]
    exact zy () [] trivial (by simp) rfl (by simp)
   ·rw [if_neg h1] at hmkk
    have h1' : ¬ (k : Int) = m.a := by omega
    (repeat apply za); refine pwn ?_; intros
    repeat apply za
    refine zk (by simp; omega) ?_
    by_cases h2 : k = m.b
    ·rw [if_pos h2] at hmkk
     have h2' : (k : Int) = m.b := by omega
     rw [hmkk]
     (repeat apply za); refine pwn ?_; intros
     repeat apply za
     refine zi (by simp; omega) ?_
     repeat apply za
     refine pwn ?_
     refine pwc g2 ?_
     intros
     simp only [qD]
     exact zy () [] trivial (by simp) rfl (by simp)
    ·rw [if_neg h2] at hmkk
     have h2' : ¬ (k : Int) = m.b := by omega
     rw [hmkk]
     (repeat apply za); refine pwn ?_; intros
     repeat apply za
     refine zk (by simp; omega) ?_
     refine ze ?_
     simp only [qD]
     exact zy () [] trivial (by simp) rfl (by simp)
  ·rintro ⟨⟩ -
   generalize mkT d m k = tt at *
   clear hmkk hcl e0
   by_cases h0 : tt.length = 0
   ·have e : (qu d m k).toList = [] := by rw [hT1, if_pos h0]; rfl
    have h0' : ¬ 0 < tt.length := by omega
    repeat apply za
    refine pwN [] h0' ?_
    intros
    repeat apply za
    refine zk (by simp [h0']) ?_
    refine ze ?_
    (repeat apply za); refine pwn ?_; intros
    exact zm (k + 1, v7) [_] (by simp; omega) (by simp; omega) (by simp [wk, hnext, e]) rfl (by simp [hnext, e]; rfl)
   ·have e : (qu d m k).toList = [tt] := by rw [hT1, if_neg h0]; rfl
    have h0' : 0 < tt.length := by omega
    repeat apply za
    refine pwN [] h0' ?_
    intros
    repeat apply za
    refine zi (by simp [h0']) ?_
    repeat apply za
    refine pwN [] (jn2 hof hot) ?_
    refine ⟨by omega, ?_⟩
    intros
    (repeat apply za); refine pwn ?_; intros
    exact zm (k + 1, v7 + 1) [_] (by simp; omega) (by simp; omega) (by simp [wk, hnext, e]) rfl (by simp [hnext, e]; rfl)
 ·simp at hc
  obtain rfl : k = d.length := by omega
  refine zo ?_
  refine zL 7 rfl ?_
  (repeat apply za); refine pwn ?_; intros
  repeat apply za
  exact zb (zg hd (by simp; rfl) (by simp [zj]))
open Go Go.Proofs
def kSt (d : Day) (s : Stop) (t k : Nat) : Nat := ((d.getD t []).take k).count s
theorem XH (d : Day) (s : Stop) (t : Nat) : kSt d s t 0 = 0 := by simp [kSt]
theorem Zbq (d : Day) (s : Stop) (t : Nat) : kSt d s t (tlen d t) = (d.getD t []).count s := by unfold kSt tlen; rw [List.take_length]
theorem ZiW (d : Day) (s : Stop) (p : Pc) : p.f ≤ p.o → (yv d p).count s + kSt d s p.t p.f = kSt d s p.t p.o := by
 intro h
 unfold yv kSt
 generalize d.getD p.t [] = u
 by_cases hf : p.f < p.o
 ·rw [if_pos hf, show p.o = p.f + (p.o - p.f) by omega, List.take_add, List.count_append, show p.f + (p.o - p.f) - p.f = p.o - p.f by omega]
  cases p.b
  ·rw [cond_false]; omega
  ·rw [cond_true, List.count_reverse]; omega
 ·rw [if_neg hf, show p.o = p.f by omega]; simp
theorem Zbr (d : Day) (s : Stop) (r : Rw5) : (zY d r).count s = (yv d r.a).count s + (yv d r.b).count s + (yv d r.c).count s + (yv d r.d).count s + (yv d r.e).count s := by
 unfold zY Rw5.l
 simp only [List.flatMap_cons, List.flatMap_nil, List.count_append, List.append_nil]
 omega
theorem ZiX {d : Day} {m : Mv} (h : ji d m = true) (s : Stop) : (zY d (zJ d m).1).count s + (if m.a = m.b then 0 else (zY d (zJ d m).2).count s) = (d.getD m.a []).count s + (if m.a = m.b then 0 else (d.getD m.b []).count s) := by
 unfold ji at h
 rw [Bool.and_eq_true] at h
 obtain ⟨-, h2⟩ := h
 unfold jS at h2
 unfold zJ qW
 have e0 := XH d s
 have ea := XH d s m.a
 have eb := XH d s m.b
 have la := Zbq d s m.a
 have lb := Zbq d s m.b
 have key := ZiW d s
 rw [Zbr, Zbr]
 by_cases k0 : m.k = 0
 ·rw [if_pos k0] at h2 ⊢
  have h2 := of_decide_eq_true h2
  rw [if_pos h2.1.symm, if_pos h2.1.symm]
  have q1 := key ⟨m.a, 0, m.i, false⟩
  have q2 := key ⟨m.a, m.i, m.j + 1, true⟩
  have q3 := key ⟨m.a, m.j + 1, tlen d m.a, false⟩
  have q0 := key pc0
  simp only [pc0] at q1 q2 q3 q0 ⊢
  omega
 rw [if_neg k0] at h2 ⊢
 by_cases k1 : m.k = 1
 ·rw [if_pos k1] at h2 ⊢
  have h2 := of_decide_eq_true h2
  by_cases hab : m.a = m.b
  ·rw [if_pos hab] at h2
   rw [if_pos hab, if_pos hab, if_neg (by simp [hab])]
   rw [← hab] at h2
   by_cases hij : m.i < m.j
   ·rw [if_pos hij]
    have q1 := key ⟨m.a, 0, m.i, false⟩
    have q2 := key ⟨m.a, m.i + 1, m.j + 1, false⟩
    have q3 := key ⟨m.a, m.i, m.i + 1, false⟩
    have q4 := key ⟨m.a, m.j + 1, tlen d m.a, false⟩
    have q0 := key pc0
    simp only [pc0] at q1 q2 q3 q4 q0 ⊢
    omega
   ·rw [if_neg hij]
    have q1 := key ⟨m.a, 0, m.j, false⟩
    have q2 := key ⟨m.a, m.i, m.i + 1, false⟩
    have q3 := key ⟨m.a, m.j, m.i, false⟩
    have q4 := key ⟨m.a, m.i + 1, tlen d m.a, false⟩
    have q0 := key pc0
    simp only [pc0] at q1 q2 q3 q4 q0 ⊢
    omega
  ·rw [if_neg hab] at h2
   rw [if_neg hab, if_neg hab, if_pos hab]
   have q1 := key ⟨m.a, 0, m.i, false⟩
   have q2 := key ⟨m.a, m.i + 1, tlen d m.a, false⟩
   have q3 := key ⟨m.b, 0, m.j, false⟩
   have q4 := key ⟨m.a, m.i, m.i + 1, false⟩
   have q5 := key ⟨m.b, m.j, tlen d m.b, false⟩
   have q0 := key pc0
   simp only [pc0] at q1 q2 q3 q4 q5 q0 ⊢
   omega
 rw [if_neg k1] at h2 ⊢
 by_cases k2 : m.k = 2
 ·rw [if_pos k2] at h2 ⊢
  have h2 := of_decide_eq_true h2
  by_cases hab : m.a = m.b
  ·rw [if_pos hab, if_pos hab, if_pos hab]
   rw [← hab] at h2 ⊢
   have q1 := key ⟨m.a, 0, m.i, false⟩
   have q2 := key ⟨m.a, m.j, m.j + 1, false⟩
   have q3 := key ⟨m.a, m.i + 1, m.j, false⟩
   have q4 := key ⟨m.a, m.i, m.i + 1, false⟩
   have q5 := key ⟨m.a, m.j + 1, tlen d m.a, false⟩
   simp only at q1 q2 q3 q4 q5 ⊢
   omega
  ·rw [if_neg hab, if_neg hab, if_neg hab]
   have q1 := key ⟨m.a, 0, m.i, false⟩
   have q2 := key ⟨m.b, m.j, m.j + 1, false⟩
   have q3 := key ⟨m.a, m.i + 1, tlen d m.a, false⟩
   have q4 := key ⟨m.b, 0, m.j, false⟩
   have q5 := key ⟨m.a, m.i, m.i + 1, false⟩
   have q6 := key ⟨m.b, m.j + 1, tlen d m.b, false⟩
   have q0 := key pc0
   simp only [pc0] at q1 q2 q3 q4 q5 q6 q0 ⊢
   omega
 rw [if_neg k2] at h2 ⊢
 have h2 := of_decide_eq_true h2
 rw [if_neg (by omega), if_neg (by omega)]
 have q1 := key ⟨m.a, 0, m.i, false⟩
 have q2 := key ⟨m.b, m.j, tlen d m.b, false⟩
 have q3 := key ⟨m.b, 0, m.j, false⟩
 have q4 := key ⟨m.a, m.i, tlen d m.a, false⟩
 have q0 := key pc0
 simp only [pc0] at q1 q2 q3 q4 q0 ⊢
 omega
theorem XI {d : Day} {i : Nat} {u : zq} (t : zq) (h : d[i]? = some u) (s : Stop) : (d.set i t).flatten.count s + u.count s = t.count s + d.flatten.count s := by
 obtain ⟨hi, rfl⟩ := List.getElem?_eq_some_iff.1 h
 have e : d = d.take i ++ d[i] :: d.drop (i + 1) := by rw [← List.drop_eq_getElem_cons hi, List.take_append_drop]
 rw [List.set_eq_take_append_cons_drop, if_pos hi]
 conv => rhs; rw [e]
 simp only [List.flatten_append, List.flatten_cons, List.count_append]
 omega
theorem XJ {d : Day} {i : Nat} {u : zq} (t : zq) (h : d[i]? = some u) (x : Inst) : yn x (d.set i t) + zF x (u.map (·.c)) = zF x (t.map (·.c)) + yn x d := by
 obtain ⟨hi, rfl⟩ := List.getElem?_eq_some_iff.1 h
 have e : d = d.take i ++ d[i] :: d.drop (i + 1) := by rw [← List.drop_eq_getElem_cons hi, List.take_append_drop]
 unfold yn
 rw [List.set_eq_take_append_cons_drop, if_pos hi]
 conv => rhs; rw [e]
 simp only [List.map_append, List.map_cons, List.sum_append, List.sum_cons]
 omega
theorem Zbs (d : Day) (m : Mv) : (List.range d.length).map (mkT d m) = (d.set m.b (zY d (zJ d m).2)).set m.a (zY d (zJ d m).1) := by
 refine List.ext_getElem? fun i => ?_
 by_cases hi : i < d.length
 ·rw [List.getElem?_map, List.getElem?_range hi]
  simp only [Option.map_some, mkT, List.getElem?_set, List.length_set]
  by_cases h1 : i = m.a
  ·rw [if_pos h1, if_pos h1.symm, if_pos (by omega)]
  ·rw [if_neg h1, if_neg (fun e : m.a = i => h1 e.symm)]
   by_cases h2 : i = m.b
   ·rw [if_pos h2, if_pos h2.symm, if_pos (by omega)]
   ·rw [if_neg h2, if_neg (fun e : m.b = i => h2 e.symm), List.getD_eq_getElem?_getD, List.getElem?_eq_getElem hi]; rfl
 ·rw [List.getElem?_eq_none (by simp; omega), List.getElem?_eq_none (by simp; omega)]
theorem XK (d : Day) (m : Mv) : ∀ l : List Nat, (l.filterMap (qu d m)).flatten = (l.map (mkT d m)).flatten ∧ ∀ x, yn x (l.filterMap (qu d m)) = yn x (l.map (mkT d m))
 | [] => ⟨rfl, fun _ => rfl⟩
 | i :: l => by
  obtain ⟨h1, h2⟩ := XK d m l
  have e : qu d m i = if (mkT d m i).length = 0 then none else some (mkT d m i) := rfl
  rw [List.filterMap_cons, e, List.map_cons]
  by_cases h : (mkT d m i).length = 0
  ·rw [if_pos h, List.length_eq_zero_iff.1 h]
   refine ⟨by simpa using h1, fun x => ?_⟩
   have := h2 x
   unfold yn at this ⊢
   simpa [zF] using this
  ·rw [if_neg h]
   refine ⟨by simpa using h1, fun x => ?_⟩
   have := h2 x
   unfold yn at this ⊢
   simpa using this
theorem ZiY {d : Day} {m : Mv} {t : zq} (h : t ∈ mkZ d m) : t ≠ [] ∧ (t = zY d (zJ d m).1 ∨ t = zY d (zJ d m).2 ∨ t ∈ d) := by
 unfold mkZ at h
 obtain ⟨i, hi, h⟩ := List.mem_filterMap.1 h
 unfold qu at h
 split at h
 ·cases h
 ·rename_i h0
  cases h
  refine ⟨fun e => h0 (by rw [e]; rfl), ?_⟩
  unfold mkT
  split
  ·exact .inl rfl
  ·split
   ·exact .inr (.inl rfl)
   ·refine .inr (.inr ?_)
    have hi := List.mem_range.1 hi
    rw [List.getD_eq_getElem?_getD, List.getElem?_eq_getElem hi]
    exact List.getElem_mem hi
theorem ZiZ (d : Day) (m : Mv) : (mkZ d m).length ≤ d.length := by
 have := List.length_filterMap_le (qu d m) (List.range d.length)
 simpa [mkZ] using this
theorem Zbt {d : Day} {m : Mv} (h : ji d m = true) : (mkZ d m).flatten.Perm d.flatten := by
 obtain ⟨-, ha, hb, -, -⟩ := uJ h
 refine List.perm_iff_count.2 fun s => ?_
 have hc := ZiX h s
 unfold mkZ
 rw [(XK d m _).1, Zbs]
 obtain ⟨ua, hua⟩ : ∃ u, d[m.a]? = some u := ⟨_, List.getElem?_eq_getElem ha⟩
 obtain ⟨ub, hub⟩ : ∃ u, d[m.b]? = some u := ⟨_, List.getElem?_eq_getElem hb⟩
 have ga : d.getD m.a [] = ua := by rw [List.getD_eq_getElem?_getD, hua]; rfl
 have gb : d.getD m.b [] = ub := by rw [List.getD_eq_getElem?_getD, hub]; rfl
 rw [ga, gb] at hc
 generalize zY d (zJ d m).1 = t1 at *
 generalize zY d (zJ d m).2 = t2 at *
 by_cases hab : m.a = m.b
 ·rw [if_pos hab, if_pos hab] at hc
  rw [← hab, List.set_set]
  have := XI t1 hua s
  omega
 ·rw [if_neg hab, if_neg hab] at hc
  have h1 := XI t2 hub s
  have h2 := XI (d := d.set m.b t2) (i := m.a) (u := ua) t1 (by rw [List.getElem?_set_ne (fun e => hab e.symm)]; exact hua) s
  omega
theorem Zi0 {x : Inst} {d : Day} {m : Mv} (h : ji d m = true) (h0 : arc x 0 0 = 0) : yn x (mkZ d m) = yn x d + byM x d m := by
 obtain ⟨-, ha, hb, r1, r2⟩ := uJ h
 unfold mkZ byM Ys
 rw [(XK d m _).2, Zbs, XE r1 h0, XE r2 h0]
 obtain ⟨ua, hua⟩ : ∃ u, d[m.a]? = some u := ⟨_, List.getElem?_eq_getElem ha⟩
 obtain ⟨ub, hub⟩ : ∃ u, d[m.b]? = some u := ⟨_, List.getElem?_eq_getElem hb⟩
 have ga : d.getD m.a [] = ua := by rw [List.getD_eq_getElem?_getD, hua]; rfl
 have gb : d.getD m.b [] = ub := by rw [List.getD_eq_getElem?_getD, hub]; rfl
 rw [ga, gb]
 generalize zY d (zJ d m).1 = t1 at *
 generalize zY d (zJ d m).2 = t2 at *
 by_cases hab : m.a = m.b
 ·rw [if_pos hab, ← hab, List.set_set]
  have := XJ t1 hua x
  omega
 ·rw [if_neg hab]
  have h1 := XJ t2 hub x
  have h2 := XJ (d := d.set m.b t2) (i := m.a) (u := ua) t1 (by rw [List.getElem?_set_ne (fun e => hab e.symm)]; exact hua) x
  omega
open Go Go.Proofs Hp
theorem XL (x : Inst) : ∀ (ds : List Day) (st : Day × Int × Bool), (ds.foldl (qV x) st).2.2 = true → ds.foldl (qV x) st = st ∨ (∃ d ∈ ds, zT x d = 0 ∧ ds.foldl (qV x) st = (d, W (yn x d), true))
 | [], st, _ => .inl rfl
 | d :: ds, st, h => by
  rw [List.foldl_cons] at h ⊢
  rcases XL x ds _ h with e | ⟨d2, h1, h2, h3⟩
  ·rw [e]
   unfold qV
   split
   ·rename_i h0
    split
    ·exact .inr ⟨d, by simp, h0, rfl⟩
    ·exact .inl rfl
   ·exact .inl rfl
  ·exact .inr ⟨d2, by simp [h1], h2, h3⟩
theorem Zbu {x : Inst} {e : Int} {ds : List Day} (h : (jg x e ds).2 = 0) : e = 0 ∧ (jg x e ds).1 ∈ ds ∧ zT x (jg x e ds).1 = 0 := by
 unfold jg at h ⊢
 by_cases he : e = 0
 ·rw [if_pos he] at h ⊢
  cases hz : (xp x ds).2.2 with
  | false => rw [hz] at h; cases h
  | true =>
   refine ⟨he, ?_⟩
   rcases XL x ds ([], 0, false) hz with q | ⟨d, h1, h2, h3⟩
   ·have : (xp x ds).2.2 = false := by unfold xp; rw [q]
    rw [this] at hz; cases hz
   ·have : xp x ds = (d, W (yn x d), true) := h3
    rw [this]; exact ⟨h1, h2⟩
 ·rw [if_neg he] at h; exact absurd h he
theorem Zbv (x : Inst) : qJ (zz x) := by
 refine Za4 fun row hr d hd => ?_
 simp only [zz, List.mem_map] at hr
 obtain ⟨a, _, rfl⟩ := hr
 unfold q8 at hd
 obtain ⟨b, _, rfl⟩ := List.mem_map.1 hd
 split
 ·have := yB (arc x a b) 0 60 (by omega); omega
 ·omega
theorem Zi1 (x : Inst) : 0 ≤ (zz x).veh := (yB x.veh 0 5 (by omega)).1
open Go Go.Proofs
structure SG (x : Inst) (l : List Stop) (d : Day) : Prop where
 may : ∀ t ∈ d, zu x t = 0
 perm : d.flatten.Perm l
def XM (x : Inst) (t : zq) : Prop := (∀ s ∈ t, qf x s = true) ∧ (t.map (·.c)).Nodup ∧ t.length ≤ 1000
theorem XN {x : Inst} {t : zq} (h : zu x t = 0) : (∀ s ∈ t, qf x s = true) ∧ t ≠ [] := by
 have := ((uG x t).1 h).1
 unfold yt at this
 rw [Bool.and_eq_true, List.all_eq_true] at this
 refine ⟨this.1, fun e => ?_⟩
 subst e
 simp at this
theorem XO {x : Inst} : ∀ t : zq, (∀ s ∈ t, qf x s = true) → 0 ≤ zx t ∧ zx t ≤ 2147483648 * (t.length : Int)
 | [], _ => by simp [zx]
 | s :: t, h => by
  have h1 := XO t fun s hs => h s (by simp [hs])
  have h2 := h s (by simp)
  simp [qf] at h2
  unfold zx at h1 ⊢
  simp only [List.map_cons, List.sum_cons, List.length_cons]
  omega
theorem Zy {x : Inst} (hx : qJ x) {t : zq} (h : XM x t) (hn : t ≠ []) : zu x t = 0 ↔ zx t ≤ x.cap ∧ zF x (t.map (·.c)) ≤ x.len := by
 obtain ⟨h1, h2, h3⟩ := h
 have b1 := XO t h1
 have b2 := Zo hx (t.map (·.c))
 rw [List.length_map] at b2
 have w1 : W (zx t) = zx t := wr _ (by omega) (by omega)
 have w2 : W (zF x (t.map (·.c))) = zF x (t.map (·.c)) := wr _ (by omega) (by omega)
 rw [uG, w1, w2]
 have : yt x t = true := by
  unfold yt
  rw [Bool.and_eq_true, List.all_eq_true]
  exact ⟨h1, by cases t <;> simp at hn ⊢⟩
 exact ⟨fun e => e.2.2, fun e => ⟨this, h2, e⟩⟩
theorem SG.each {x : Inst} {l : List Stop} {d : Day} (g : SG x l d) : ∀ s ∈ l, qf x s = true := by
 intro s hs
 obtain ⟨t, ht, hst⟩ := List.mem_flatten.1 (g.perm.symm.subset hs)
 exact (XN (g.may t ht)).1 s hst
section
variable {x : Inst} {l : List Stop} (h : SOk x l)
include h
theorem SG.len {d : Day} (g : SG x l d) : d.flatten.length ≤ 1000 ∧ d.length ≤ 1000 := by
 have h1 := Yk d fun t ht => (XN (g.may t ht)).2
 have h2 := g.perm.length_eq
 have h3 := h.len
 omega
theorem SG.tour {d : Day} (g : SG x l d) {e : Day} (he : e.flatten.Perm l) {t : zq} (ht : t ∈ e) : XM x t := by
 have hs := xZ ht
 have hl := h.len
 refine ⟨fun s q => g.each s (he.subset (hs.subset q)), ?_, ?_⟩
 ·exact ((he.map _).nodup_iff.2 h.nd).sublist (hs.map _)
 ·have := hs.length_le
  have := he.length_eq
  omega
theorem SG.mv {d : Day} (g : SG x l d) : MvDay d := by
 refine ⟨(g.len h).2, fun t ht => (g.tour h g.perm ht).2.2, fun t ht s hs => ?_⟩
 have := (g.tour h g.perm ht).1 s hs
 have hc := h.cust
 simp [qf] at this
 unfold small
 omega
theorem SG.ok {d : Day} (g : SG x l d) : DayOk d := by
 have h1 := g.len h
 have h2 := g.mv h
 exact ⟨by omega, fun t ht => Nat.le_trans (h2.t t ht) (by decide), fun t ht s hs => (h2.s t ht s hs).1⟩
end
theorem Zbw {x : Inst} {d : Day} {r : Rw5} (hr : xy d r) (h0 : arc x 0 0 = 0) : jK x d r ↔ zx (zY d r) ≤ x.cap ∧ zF x ((zY d r).map (·.c)) ≤ x.len := by
 unfold jK
 rw [XE hr h0, ZiO hr]
theorem Zi2 {d : Day} {m : Mv} (h : ji d m = true) (hab : m.a = m.b) : zY d (zJ d m).2 = [] := by
 have e0 : zY d rw0 = [] := rfl
 unfold ji at h
 rw [Bool.and_eq_true] at h
 obtain ⟨-, h2⟩ := h
 unfold jS at h2
 unfold zJ qW
 by_cases k0 : m.k = 0
 ·rw [if_pos k0]; exact e0
 rw [if_neg k0] at h2 ⊢
 by_cases k1 : m.k = 1
 ·rw [if_pos k1, if_neg (by simp [hab])]
  split <;> exact e0
 rw [if_neg k1] at h2 ⊢
 by_cases k2 : m.k = 2
 ·rw [if_pos k2, if_pos hab]; exact e0
 rw [if_neg k2] at h2
 have h2 := of_decide_eq_true h2
 omega
theorem Zi3 {d : Day} {m : Mv} (h : ji d m = true) (hn : zY d (zJ d m).1 ≠ []) : zY d (zJ d m).1 ∈ mkZ d m := by
 obtain ⟨-, ha, -⟩ := uJ h
 refine List.mem_filterMap.2 ⟨m.a, List.mem_range.2 ha, ?_⟩
 have e : mkT d m m.a = zY d (zJ d m).1 := by unfold mkT; rw [if_pos rfl]
 unfold qu
 rw [e, if_neg fun q => hn (List.length_eq_zero_iff.1 q)]
theorem Zi4 {d : Day} {m : Mv} (h : ji d m = true) (hab : m.a ≠ m.b) (hn : zY d (zJ d m).2 ≠ []) : zY d (zJ d m).2 ∈ mkZ d m := by
 obtain ⟨-, -, hb, -⟩ := uJ h
 refine List.mem_filterMap.2 ⟨m.b, List.mem_range.2 hb, ?_⟩
 have e : mkT d m m.b = zY d (zJ d m).2 := by unfold mkT; rw [if_neg fun q => hab q.symm, if_pos rfl]
 unfold qu
 rw [e, if_neg fun q => hn (List.length_eq_zero_iff.1 q)]
theorem Zi5 {x : Inst} {l : List Stop} (h : SOk x l) (h0 : arc x 0 0 = 0) {d : Day} (g : SG x l d) {m : Mv} (hm : ji d m = true) : (jK x d (zJ d m).1 ∧ jK x d (zJ d m).2) ↔ ∀ t ∈ mkZ d m, zu x t = 0 := by
 obtain ⟨-, ha, hb, r1, r2⟩ := uJ hm
 have hp : (mkZ d m).flatten.Perm l := (Zbt hm).trans g.perm
 rw [Zbw r1 h0, Zbw r2 h0]
 have hz : 0 ≤ x.cap ∧ 0 ≤ x.len := by
  have ht := g.may _ (List.getElem_mem ha)
  have hg := g.tour h g.perm (List.getElem_mem ha)
  have := (Zy h.arc hg (XN ht).2).1 ht
  have b1 := XO _ hg.1
  have b2 := Zo h.arc (d[m.a].map (·.c))
  omega
 have e0 : zx [] = 0 ∧ zF x (([] : zq).map (·.c)) = 0 := ⟨rfl, rfl⟩
 constructor
 ·rintro ⟨q1, q2⟩ t ht
  obtain ⟨hn, h3⟩ := ZiY ht
  have hg := g.tour h hp ht
  rcases h3 with rfl | rfl | h3
  ·exact (Zy h.arc hg hn).2 q1
  ·exact (Zy h.arc hg hn).2 q2
  ·exact g.may t h3
 ·intro hall
  constructor
  ·by_cases hn : zY d (zJ d m).1 = []
   ·rw [hn, e0.1, e0.2]; exact hz
   ·have ht := Zi3 hm hn
    exact (Zy h.arc (g.tour h hp ht) hn).1 (hall _ ht)
  ·by_cases hn : zY d (zJ d m).2 = []
   ·rw [hn, e0.1, e0.2]; exact hz
   ·by_cases hab : m.a = m.b
    ·exact absurd (Zi2 hm hab) hn
    ·have ht := Zi4 hm hab hn
     exact (Zy h.arc (g.tour h hp ht) hn).1 (hall _ ht)
theorem Zbx (x : Inst) (d : Day) : ∀ (ms : List Mv) (st : Mv × Int), (ms.foldl (mbS x d) st = st) ∨ (∃ m ∈ ms, (ms.foldl (mbS x d) st) = (m, byM x d m) ∧ jK x d (zJ d m).1 ∧ jK x d (zJ d m).2)
 | [], st => .inl rfl
 | m :: ms, st => by
  rw [List.foldl_cons]
  rcases Zbx x d ms (mbS x d st m) with e | ⟨m2, h1, h2, h3⟩
  ·rw [e]
   unfold mbS
   split
   ·rename_i hc
    exact .inr ⟨m, by simp, rfl, hc.2⟩
   ·exact .inl rfl
  ·exact .inr ⟨m2, by simp [h1], h2, h3⟩
def xz (x : Inst) (d : Day) : Option Day := if (mbZ x d).2 < 0 then some (mkZ d (mbZ x d).1) else none
theorem Zby {x : Inst} {d : Day} (hb : (mbZ x d).2 < 0) : (mbZ x d).1 ∈ wJ d ∧ byM x d (mbZ x d).1 < 0 ∧ jK x d (zJ d (mbZ x d).1).1 ∧ jK x d (zJ d (mbZ x d).1).2 := by
 rcases Zbx x d (wJ d) (mv0, 0) with e | ⟨m, h1, h2, h3⟩
 ·unfold mbZ at hb; rw [e] at hb; cases hb
 ·unfold mbZ at hb ⊢
  rw [h2] at hb ⊢
  exact ⟨h1, hb, h3⟩
theorem Zbz {x : Inst} {l : List Stop} (h : SOk x l) (h0 : arc x 0 0 = 0) {d e : Day} (g : SG x l d) (hs : xz x d = some e) : SG x l e ∧ yn x e < yn x d ∧ e.length ≤ d.length := by
 unfold xz at hs
 split at hs
 ·rename_i hb
  cases hs
  obtain ⟨h1, h2, h3⟩ := Zby hb
  have hm := (XG h1).1
  refine ⟨⟨(Zi5 h h0 g hm).1 h3, (Zbt hm).trans g.perm⟩, ?_, ZiZ _ _⟩
  rw [Zi0 hm h0]; omega
 ·cases hs
theorem Zi6 {x : Inst} {l : List Stop} (h : SOk x l) (h0 : arc x 0 0 = 0) : Za7 x (xz x) (SG x l) := by
 intro d g
 have hv := g.mv h
 have hl : ∀ a, tlen d a ≤ 1000 := by
  intro a
  unfold tlen
  rw [List.getD_eq_getElem?_getD]
  cases hq : d[a]? with
  | none => simp
  | some l => exact hv.t l (List.mem_of_getElem? hq)
 have hd1 : (xz x d).isSome = decide ((mbZ x d).2 < 0) := by
  unfold xz
  split
  ·rename_i q; simp [q]
  ·rename_i q; simp [q]
 refine ⟨_, _, _, _, _, _, by rw [hd1]; exact ZiU x d h.arc hv, fun e he => ⟨?_, (Zbz h h0 g he).1⟩⟩
 unfold xz at he
 split at he
 ·rename_i hb
  cases he
  obtain ⟨h1, -, -⟩ := Zby hb
  obtain ⟨h1, h2, h3⟩ := XG h1
  have := hl (mbZ x d).1.a
  have := hl (mbZ x d).1.b
  exact ZiV x d _ hv.n hv.t h1 (by omega) (by omega)
 ·cases he
theorem XP {x : Inst} {l : List Stop} (h : SOk x l) (h0 : arc x 0 0 = 0) : ∀ (n : Nat) (d : Day), SG x l d → SG x l (jI (xz x) n d) ∧ yn x (jI (xz x) n d) ≤ yn x d ∧ (jI (xz x) n d).length ≤ d.length
 | 0, d, g => ⟨g, Int.le_refl _, Nat.le_refl _⟩
 | n + 1, d, g => by
  unfold jI
  cases hs : xz x d with
  | none => exact ⟨g, Int.le_refl _, Nat.le_refl _⟩
  | some e =>
   obtain ⟨a, b, c⟩ := Zbz h h0 g hs
   obtain ⟨a', b', c'⟩ := XP h h0 n e a
   exact ⟨a', by simp only; omega, by simp only; omega⟩
open Go Go.Proofs Hp
theorem ZbA (x : Inst) : arc (zz x) 0 0 = 0 := by
 have h1 : (zz x).dist[0]? = some (q8 x (x.cust.take 6).length 0) := by
  unfold zz
  rw [List.getElem?_map, List.getElem?_range (by omega)]; rfl
 have h2 : (q8 x (x.cust.take 6).length 0)[0]? = some 0 := by
  unfold q8
  rw [List.getElem?_map, List.getElem?_range (by omega)]; rfl
 unfold arc
 split
 ·rfl
 ·rw [List.getD_eq_getElem?_getD, List.getD_eq_getElem?_getD]
  show (((zz x).dist[0]?).getD [])[0]?.getD 0 = 0
  rw [h1]
  show ((q8 x (x.cust.take 6).length 0)[0]?).getD 0 = 0
  rw [h2]; rfl
theorem ZbB {x : Inst} {l : List Stop} (h : qH x l = 0) : ∀ s ∈ l, zu x [s] = 0 := by
 unfold qH at h
 intro s hs
 cases hf : l.find? (fun s => zu x [s] != 0) with
 | some s2 =>
  have := List.find?_some hf
  rw [hf] at h
  simp only at h
  rw [h] at this; simp at this
 | none =>
  have := List.find?_eq_none.1 hf s hs
  simpa using this
theorem Zi7 {x : Inst} {l : List Stop} (h : SOk x l) (hf : qH x l = 0) : ∀ t ∈ jG x l, zu x t = 0 := by
 have key : ∀ (ps : List Pr) (st : Day × Int), (∀ t ∈ st.1, t.length ≤ 1 ∨ zu x t = 0) → ∀ t ∈ (ps.foldl (yO x) st).1, t.length ≤ 1 ∨ zu x t = 0 := by
  intro ps
  induction ps with
  | nil => intro st h; exact h
  | cons p ps ih =>
   intro st hst
   rw [List.foldl_cons]
   refine ih _ fun t ht => ?_
   unfold yO Zl at ht
   generalize xH st.1 p.a = i at ht
   generalize xH st.1 p.b = k at ht
   generalize st.1.getD i [] = a at ht
   generalize st.1.getD k [] = b at ht
   cases hc : yq x st.2 p i k a b with
   | false => rw [hc] at ht; exact hst t ht
   | true =>
    rw [hc] at ht
    simp only [cond_true] at ht
    unfold yq at hc
    simp only [Bool.and_eq_true, decide_eq_true_eq] at hc
    rcases List.mem_or_eq_of_mem_set ht with ht | ht
    ·rcases List.mem_or_eq_of_mem_set ht with ht | ht
     ·exact hst t ht
     ·rw [ht]; exact .inr hc.2
    ·rw [ht]; exact .inl (by simp)
 intro t ht
 obtain ⟨-, hp, -, hne⟩ := h.join
 have hs := xZ ht
 have h1 := key (yS x (l.map fun s : Stop => s.c)) (l.map fun s => [s], (l.length : Int)) (fun t ht => by obtain ⟨s, _, rfl⟩ := List.mem_map.1 ht; simp) t (List.mem_filter.1 ht).1
 rcases h1 with h1 | h1
 ·have := hne t ht
  match t, h1, this with
  | [s], _, _ => exact ZbB hf s (hp.subset (hs.subset (by simp)))
 ·exact h1
theorem XT {x : Inst} {l : List Stop} (h : SOk x l) (hf : qH x l = 0) : ∀ d ∈ vn x l, SG x l d := by
 intro d hd
 unfold vn at hd
 simp only [List.cons_append, List.nil_append, List.mem_cons] at hd
 rcases hd with rfl | rfl | hd
 ·exact ⟨Zi7 h hf, h.join.2.1⟩
 ·refine ⟨fun t ht => ?_, by rw [h.apart.2.1]⟩
  obtain ⟨s, hs, rfl⟩ := List.mem_map.1 ht
  exact ZbB hf s hs
 ·cases hall : (y8 x l).2 with
  | false => rw [hall] at hd; simp at hd
  | true =>
   rw [hall] at hd
   simp at hd; subst hd
   obtain ⟨r, hp⟩ := h.regret
   exact ⟨((xJ x _).1 r.may).1, hp hall⟩
def QK (x : Inst) (b : Int) (d : Day) : Day := jI (xz x) b.toNat d
def yT (x : Inst) (b : Int) (l : List Stop) : Day × Int := jg x (qH x l) (x6 x (QK x b) l)
theorem Zi8 {x : Inst} {l : List Stop} (h : SOk x l) (h0 : arc x 0 0 = 0) (hf : qH x l = 0) {b : Int} (hb : b ≤ 9223372036854775807) : Zbg x b (QK x b) (vn x l) := by
 intro d hd
 have g := XT h hf d hd
 obtain ⟨g2, -, -⟩ := XP h h0 b.toNat d g
 have o := g.ok h
 refine ⟨⟨_, Zii x d b (xz x) (SG x l) hb o.n o.t (fun _ => g) (Zi6 h h0)⟩, g2.ok h, ?_⟩
 have := (g2.len h).1
 show (jI (xz x) b.toNat d).flatten.length ≤ 1048576
 omega
theorem Zi9 {x : Inst} {l : List Stop} (h : SOk x l) (h0 : arc x 0 0 = 0) {b : Int} (hb : b ≤ 9223372036854775807) : Pure Tryz.prog 130 [.agg (zt x), L l, I b] (.tup [.agg [L (yT x b l).1], I (yT x b l).2]) :=
 ZiF x l b _ h fun hf => Zi8 h h0 hf hb
theorem ZbC {x : Inst} {l : List Stop} (h : SOk x l) (h0 : arc x 0 0 = 0) (hf : qH x l = 0) (b : Int) : ∀ d ∈ x6 x (QK x b) l, SG x l d := by
 have hb := XT h hf
 have hi := fun d g => (XP h h0 b.toNat d g).1
 intro d hd
 unfold x6 at hd
 unfold vn at hb
 simp only [List.cons_append, List.nil_append, List.mem_cons] at hd hb
 rcases hd with rfl | rfl | rfl | hd
 ·exact hb _ (.inr (.inl rfl))
 ·exact hi _ (hb _ (.inl rfl))
 ·exact hi _ (hb _ (.inr (.inl rfl)))
 ·cases hall : (y8 x l).2 with
  | false => rw [hall] at hd; simp at hd
  | true =>
   rw [hall] at hd
   simp at hd; subst hd
   exact hi _ (hb _ (.inr (.inr (by rw [hall]; simp))))
theorem ZbD (x : Inst) : ∀ (ds : List Day) (st : Day × Int × Bool), (st.2.2 = true → (ds.foldl (qV x) st).2.2 = true ∧ (ds.foldl (qV x) st).2.1 ≤ st.2.1) ∧ ∀ d ∈ ds, zT x d = 0 → (ds.foldl (qV x) st).2.2 = true ∧ (ds.foldl (qV x) st).2.1 ≤ W (yn x d)
 | [], st => ⟨fun e => ⟨e, Int.le_refl _⟩, by simp⟩
 | d :: ds, st => by
  rw [List.foldl_cons]
  obtain ⟨h1, h2⟩ := ZbD x ds (qV x st d)
  constructor
  ·intro e
   have : (qV x st d).2.2 = true ∧ (qV x st d).2.1 ≤ st.2.1 := by
    unfold qV
    split
    ·split
     ·rename_i hc
      rcases hc with hc | hc
      ·rw [e] at hc; cases hc
      ·exact ⟨rfl, Int.le_of_lt hc⟩
     ·exact ⟨e, Int.le_refl _⟩
    ·exact ⟨e, Int.le_refl _⟩
   obtain ⟨a, b⟩ := h1 this.1
   exact ⟨a, Int.le_trans b this.2⟩
  ·intro d2 hd hz
   rcases List.mem_cons.1 hd with rfl | hd
   ·have : (qV x st d2).2.2 = true ∧ (qV x st d2).2.1 ≤ W (yn x d2) := by
     unfold qV
     rw [if_pos hz]
     split
     ·exact ⟨rfl, Int.le_refl _⟩
     ·rename_i hc
      cases hq : st.2.2 with
      | false => exact absurd (.inl hq) hc
      | true => exact ⟨rfl, Int.not_lt.1 fun q => hc (.inr q)⟩
    obtain ⟨a, b⟩ := h1 this.1
    exact ⟨a, Int.le_trans b this.2⟩
   ·exact h2 d2 hd hz
theorem ZbE {x : Inst} {e : Int} {ds : List Day} (he : e = 0) {d : Day} (hd : d ∈ ds) (hz : zT x d = 0) : (jg x e ds).2 = 0 ∧ W (yn x (jg x e ds).1) ≤ W (yn x d) := by
 obtain ⟨h1, h2⟩ := (ZbD x ds ([], 0, false)).2 d hd hz
 change (xp x ds).2.2 = true at h1
 change (xp x ds).2.1 ≤ W (yn x d) at h2
 unfold jg
 rw [if_pos he, h1]
 refine ⟨rfl, ?_⟩
 rcases XL x ds ([], 0, false) h1 with q | ⟨d2, g1, g2, g3⟩
 ·have : (xp x ds).2.2 = false := by unfold xp; rw [q]
  rw [this] at h1; cases h1
 ·have : xp x ds = (d2, W (yn x d2), true) := g3
  rw [this] at h2 ⊢; exact h2
theorem ZbF {x : Inst} {e : Int} {ds : List Day} (h : (jg x e ds).2 ≠ 0) : (jg x e ds).1 = [] := by
 unfold jg at h ⊢
 by_cases he : e = 0
 ·rw [if_pos he] at h ⊢
  cases hz : (xp x ds).2.2 with
  | true => rw [hz] at h; exact absurd rfl h
  | false => rfl
 ·rw [if_neg he]
theorem ZbG (x : Inst) (imp : Day → Day) (l : List Stop) : yC l ∈ x6 x imp l := by simp [x6]
section
variable {x : Inst} {l : List Stop} (h : SOk x l) (h0 : arc x 0 0 = 0) (b : Int)
include h h0
theorem Zja : DayOk (yT x b l).1 ∧ (yT x b l).1.length ≤ 1000 ∧ (yT x b l).1.flatten.length ≤ 1000 := by
 by_cases he : (yT x b l).2 = 0
 ·obtain ⟨hf, hm, -⟩ := Zbu he
  have g := ZbC h h0 hf b _ hm
  exact ⟨g.ok h, (g.len h).2, (g.len h).1⟩
 ·have : (yT x b l).1 = [] := ZbF he
  rw [this]; exact ⟨⟨by simp, by simp, by simp⟩, by simp, by simp⟩
theorem XU (he : (yT x b l).2 = 0) : qH x l = 0 ∧ zT x (yT x b l).1 = 0 ∧ (yT x b l).1.flatten.Perm l ∧ (zT x (yC l) = 0 → W (yn x (yT x b l).1) ≤ W (yn x (yC l))) := by
 obtain ⟨hf, hm, hz⟩ := Zbu he
 have g := ZbC h h0 hf b _ hm
 exact ⟨hf, hz, g.perm, fun q => (ZbE hf (ZbG x _ l) q).2⟩
omit h0 in
theorem ZbH (he : (yT x b l).2 ≠ 0) : (yT x b l).1 = [] ∧ (qH x l ≠ 0 ∨ x.veh < l.length) := by
 refine ⟨ZbF he, ?_⟩
 by_cases hf : qH x l = 0
 ·refine .inr ?_
  by_cases hv : x.veh < l.length
  ·exact hv
  ·refine absurd (ZbE hf (ZbG x (QK x b) l) ?_).1 he
   have g := XT h hf (yC l) (by simp [vn])
   refine (xJ x _).2 ⟨g.may, by rw [h.apart.2.1]; exact h.nd, ?_⟩
   rw [Xz]; omega
 ·exact .inl hf
end
open Go
structure Visit where
 d : Int
 q : Int
 deriving DecidableEq
instance : Inhabited Visit := ⟨⟨0, 0⟩⟩
instance : Enc Visit := ⟨fun s => [I s.d, I s.q], 2, fun _ => rfl, fun _ => rfl⟩
@[simp] theorem ZnS (s : Visit) : Enc.enc s = [I s.d, I s.q] := rfl
@[simp high] theorem ZnT (l : List Visit) : (l.flatMap Enc.enc).length = l.length * 2 := jp l
@[simp high] theorem ZnU (l : List Visit) : (l.flatMap Enc.enc).take (l.length * 2) = l.flatMap Enc.enc := w8 l
def told : Nat → List Day → List (Stop × Nat)
 | _, [] => []
 | i, d :: ds => d.flatten.map (·, i) ++ told (i + 1) ds
open Go
def yr (c : Int) (l : List (Stop × Nat)) : List Visit := (l.filter fun x => decide (x.1.c = c)).map fun x => ⟨x.2, x.1.q⟩
theorem Yt (c : Int) (l m : List (Stop × Nat)) : yr c (l ++ m) = yr c l ++ yr c m := by simp [yr]
theorem QL (c : Int) (x : Stop × Nat) : yr c [x] = if x.1.c = c then [⟨x.2, x.1.q⟩] else [] := by
 by_cases h : x.1.c = c <;> simp [yr, h]
theorem ZbI (c : Int) (l : List (Stop × Nat)) : (yr c l).length ≤ l.length := by
 simp only [yr, List.length_map]; exact List.length_filter_le _ _
structure PlanOk (p : yA) : Prop where
 n : p.length ≤ 1048576
 d : ∀ d ∈ p, d.length ≤ 1048576
 t : ∀ d ∈ p, ∀ t ∈ d, t.length ≤ 1048576
 told : (told 0 p).length ≤ 1048576
open Go
def qO (n : Nat) (d : Int) : Nat := if 0 ≤ d ∧ d < 64 then n ||| 2 ^ d.toNat else n
theorem XV (n : Nat) (d : Int) (hn : n < 2 ^ 64) : qO n d < 2 ^ 64 := by
 unfold qO; split
 ·exact Nat.or_lt_two_pow hn (Nat.pow_lt_pow_right (by decide) (by omega))
 ·exact hn
def ofD (l : List Int) : Nat := l.foldl qO 0
theorem Zjb (l : List Int) : ofD l < 2 ^ 64 := by
 have : ∀ (l : List Int) (n : Nat), n < 2 ^ 64 → l.foldl qO n < 2 ^ 64 := by
  intro l; induction l with
  | nil => intro n h; exact h
  | cons d l ih => intro n h; exact ih _ (XV n d h)
 exact this l 0 (by decide)
set_option maxRecDepth 20000 in
theorem XW (d : Int) : Pure Tryz.prog 210 [I d] (B (decide (0 ≤ d ∧ d < 64))) := by
 refine pwe Tryz.func210 Tryz.ntmps210 Tryz.results210 fun S nx hd => ?_
 (repeat apply za); refine pwn ?_; intros
 by_cases h1 : 0 ≤ d
 ·repeat apply za
  refine pwN [(2, 5)] h1 ?_
  intros
  repeat apply za
  exact zb (zg hd (by simp; rfl) (by simp [h1, zj]))
 ·repeat apply za
  refine pwN [(2, 5)] (jn2 h1 zp) ?_
  intros
  repeat apply za
  exact zb (zg hd (by simp; rfl) (by simp [h1, zj]))
theorem Zjc (d : Nat) (h : d < 64) : IntKind.u64.wrap (2 ^ d) = ((2 ^ d : Nat) : Int) := by
 have h2 : (2 : Nat) ^ d < 2 ^ 64 := Nat.pow_lt_pow_right (by decide) h
 have h3 : ((2 ^ d : Nat) : Int) < 2 ^ 64 := by exact_mod_cast h2
 have h4 : (2 : Int) ^ d = ((2 ^ d : Nat) : Int) := by simp
 rw [h4]
 generalize (2 ^ d : Nat) = m at h3 ⊢
 simp only [IntKind.wrap, IntKind.bits, IntKind.signed]
 simp
 omega
set_option maxRecDepth 20000 in
theorem Zjd (n : Nat) (d : Int) (hn : n < 2 ^ 64) : Pure Tryz.prog 173 [U n, I d] (U (qO n d)) := by
 refine pwe Tryz.func173 Tryz.ntmps173 Tryz.results173 fun S nx hd => ?_
 (repeat apply za); refine pwn ?_; intros
 repeat apply za
 refine pwn ?_
 refine pwc (XW d) ?_
 intros
 by_cases h : 0 ≤ d ∧ d < 64
 ·repeat apply za
  refine zk (by simp [h]) ?_
  refine ze ?_
  have h1 : ¬ d < 0 := by omega
  have h2 : min d.toNat 64 = d.toNat := by omega
  have h3 := Zjc d.toNat (by omega)
  have h4 : bits BinOp.or IntKind.u64 (n : Int) (2 ^ d.toNat) = ((n ||| 2 ^ d.toNat : Nat) : Int) := by
   have := bits_or_u64_nat n (2 ^ d.toNat) (by omega) (by have : (2 : Nat) ^ d.toNat < 2 ^ 64 := Nat.pow_lt_pow_right (by decide) (by omega); omega)
   simpa using this
  repeat apply za
  refine zQ [] (by rfl) (by rfl) fun K Gc Gh hK hGc hGh X hX0 hX => ?_
  simp -implicitDefEqProofs [hX0, hX, h1, h2, IntKind.bits, h3, h4]
  try clear hX0 hX X
  intros
  refine hK _ _ _ ?_
  clear hK hGc hGh
  clear K Gc Gh
  repeat apply za
  exact zb (zg hd (by simp; rfl) (by simp [qO, h, zj]))
 ·repeat apply za
  refine zi (by simp; omega) ?_
  (repeat apply za); refine pwn ?_; intros
  repeat apply za
  exact zb (zg hd (by simp; rfl) (by simp [qO, h, zj]))
open Go
structure CustFits (c : Cust) : Prop where
 rate : 0 ≤ c.rate ∧ c.rate ≤ 2147483648
 size : 0 ≤ c.size ∧ c.size ≤ 2147483648
 start : 0 ≤ c.start ∧ c.start ≤ 2147483648
def qX (q : Int) : Bool := decide (q < 0 ∨ 2147483648 < q)
def zR (size rate : Int) : Int → List Int → Option (List Int)
 | _, [] => some []
 | there, q :: l => if size < there + q ∨ there + q < rate then none else (zR size rate (there + q - rate) l).map ((there + q - rate) :: ·)
def yd (c : Cust) (q : List Int) : List Int × Int :=
 if q.any qX then ([], 1) else match zR c.size c.rate c.start q with
 | none => ([], 8)
 | some l => (l, 0)
set_option maxRecDepth 20000 in
theorem ZbJ (c : Cust) {S : Store} {nx : Nat} (hd : zO nx S) : Spec Tryz.prog 205 [.agg (zv c)] S (fun p S' => ∃ v, p = .fn (.func 239) [] [.ptr (nx + 1) v 0, .ip (zv c)] ∧ S' = S.set (nx + 1) (.cells v 3 [I c.start])) := by
 refine ut hd Tryz.func205 Tryz.ntmps205 Tryz.results205 ?_
 repeat apply za
 refine pwn ?_
 intro v0
 repeat apply za
 refine pwn ?_
 intro v1
 (repeat apply za); refine pwn ?_; intros
 refine jq 0 rfl ?_
 repeat apply za
 refine zb ⟨_, _, rfl, ⟨v1, by simp [zj], rfl⟩, JB (j := 1) hd (by simp)⟩
set_option maxRecDepth 20000 in
theorem ZbK (c : Cust) (q there : Int) {S : Store} {id v : Nat} (hid : S id = .cells v 3 [I there]) (h1 : -4611686018427387904 ≤ there + q ∧ there + q ≤ 4611686018427387904) (h2 : -4611686018427387904 ≤ there + q - c.rate ∧ there + q - c.rate ≤ 4611686018427387904) :
  Spec Tryz.prog 239 [I q, .ptr id v 0, .ip (zv c)] S (fun p S' => p = .tup [I (there + q), I (there + q - c.rate)] ∧ S' = S.set id (.cells v 3 [I (there + q - c.rate)])) := by
 refine qp Tryz.func239 Tryz.ntmps239 Tryz.results239 fun nx hd => ?_
 have hlt : id < nx := by
  rcases Nat.lt_or_ge id nx with h | h
  ·exact h
  ·rw [hd id h] at hid; cases hid
 have hge : ¬ nx ≤ id := by omega
 have hE : ∀ obs, ext S nx obs id = .cells v 3 [I there] := fun obs => (zB hlt).trans hid
 have hE2 : ∀ obs x, ext (S.set id x) nx obs id = x := fun obs x => (zB hlt).trans (Store.set_same _ _ _)
 have hd2 : ∀ x, zO nx (S.set id x) := fun x i hi => by rw [Store.set_other _ _ _ _ (by omega)]; exact hd i hi
 have w1 : IntKind.i64.wrap (there + q) = there + q := wr _ (by omega) (by omega)
 have w2 : IntKind.i64.wrap (there + q - c.rate) = there + q - c.rate := wr _ (by omega) (by omega)
 (repeat apply za); refine pwn ?_; intros
 repeat apply za
 refine pwN [] (jn2 hE w1) ?_
 intros
 repeat apply za
 refine pwN [] (jn3 hE hge w2) ?_
 intros
 repeat apply za
 refine pwY none (Row.pures [0, 1, 2, 3] .done) mixed hE2 ?_
 intros
 repeat apply za
 refine zb ⟨_, _, rfl, ⟨rfl, rfl⟩, zE (hd2 _)⟩
theorem ZbL {size rate there q : Int} {l : List Int} {out : List Int} {r : Option (List Int)} (h : r = (zR size rate there (q :: l)).map (out ++ ·)) (hs : ¬ size < there + q) (hr : ¬ there + q < rate) :
  r = (zR size rate (there + q - rate) l).map ((out ++ [there + q - rate]) ++ ·) := by
 rw [h]
 simp only [zR, hs, hr, or_self, if_false, Option.map_map]
 congr 1
 funext x
 simp
set_option maxRecDepth 20000 in
theorem ZbM (c : Cust) (q : List Int) (hc : CustFits c) (hq : q.length ≤ 1048576) : Pure Tryz.prog 164 [.agg (zv c), L q] (.tup [L (yd c q).1, I (yd c q).2]) := by
 obtain ⟨hr, hsz, hst⟩ := hc
 refine pwe Tryz.func164 Tryz.ntmps164 Tryz.results164 fun S nx hd => ?_
 repeat apply za
 refine pwn ?_
 intro v0
 (repeat apply za); refine pwn ?_; intros
 repeat apply za
 refine zX (nx := nx) (σ := Nat) (fun v0 => q.any qX = false) (fun v0 => [(1, L q), (2, .ptr nx v0 0)]) (fun _ => S) (fun v0 => [.cells v0 41 (zv c)]) ?_ ?_
 ·refine zh (zr (fun s : Nat => s ≤ q.length ∧ (q.take s).any qX = false) (fun k => [(1, L q), (2, .ptr nx v0 0), (14, L q), (15, I q.length), (16, I k)]) (fun _ => [.cells v0 41 (zv c)]) (fun s => q.length - s) 0 [] (by simp) (by simp) (by simp) ?_)
  rintro k ⟨hk, ho⟩
  (repeat apply za); refine pwn ?_; intros
  repeat apply za
  refine zn rfl (fun hc => ?_) (fun hc => ?_)
  ·simp at hc
   obtain ⟨z, tl, a1, a2, a3, e0⟩ := el1 rfl q k hc
   have bad : qX z = true → yd c q = ([], 1) := fun h => by
    have : q.any qX = true := by rw [List.any_eq_true]; exact ⟨z, List.mem_of_getElem? a1, h⟩
    simp [yd, this]
   refine ze (za (zh ?_))
   repeat apply za
   refine pwN [] (jn2 e0 hc) ?_
   intros
   by_cases h1 : z < 0
   ·repeat apply za
    refine pwN [(2, 22)] (jn2 h1 zp) ?_
    intros
    repeat apply za
    refine zi rfl ?_
    (repeat apply za); refine pwn ?_; intros
    refine jP 4 rfl ?_
    repeat apply za
    exact zb (zg hd (by simp; rfl) (by rw [bad (by simp [qX, h1])]; rfl))
   by_cases h2 : (2147483648 : Int) < z
   ·repeat apply za
    refine pwN [(2, 22)] (jn2 h1 h2) ?_
    intros
    repeat apply za
    refine zi rfl ?_
    (repeat apply za); refine pwn ?_; intros
    refine jP 4 rfl ?_
    repeat apply za
    exact zb (zg hd (by simp; rfl) (by rw [bad (by simp [qX, h2])]; rfl))
   repeat apply za
   refine pwN [(2, 22)] (jn2 h1 h2) ?_
   intros
   repeat apply za
   refine zk rfl ?_
   refine ze ?_
   (repeat apply za); refine pwn ?_; intros
   exact zm (k + 1) [] ⟨hc, by rw [a3, List.any_append, ho]; simp [qX]; omega⟩ (by omega) (by simp [wrN k (by omega)]) rfl (by simp)
  ·simp at hc
   obtain rfl : k = q.length := by omega
   rw [List.take_length] at ho
   exact zo (zy v0 [] ho (by simp) rfl (by simp))
 ·intro v0 hb
  have hq0 : ∀ z ∈ q, 0 ≤ z ∧ z ≤ 2147483648 := by
   intro z hz
   rw [List.any_eq_false] at hb
   have := hb z hz
   simp [qX] at this
   omega
  have hres : yd c q = match zR c.size c.rate c.start q with | none => ([], 8) | some l => (l, 0) := by simp [yd, hb]
  repeat apply za
  refine zQ [] (by rfl) (by rfl) fun K Gc Gh hK hGc hGh X hX0 hX => ?_
  simp -implicitDefEqProofs [hX0, hX]
  try clear hX0 hX X
  refine hGc _ _ _ _ _ _ _ fun hsuf => ((ZbJ c jD).mono ?_).v
  rintro p T ⟨v1, rfl, rfl⟩
  refine ⟨_, _, Zd _, ?_⟩
  clear hGc hGh
  clear Gc Gh
  refine zH hsuf (D := []) (by rfl) fun Gc Gh hGc hGh X hX0 hX => ?_
  simp -implicitDefEqProofs [hX0, hX]
  clear hX0 hX X
  intros
  refine hK _ _ _ ?_
  clear hK hGc hGh
  clear K Gc Gh
  repeat apply za
  refine pwn ?_
  refine ⟨by omega, fun v2 => ?_⟩
  intros
  refine Zer 3 0 rfl ?_
  simp only [List.take_zero, List.set_cons_succ, List.set_cons_zero, List.append_eq, List.cons_append, List.nil_append, List.length_cons, List.length_nil]
  (repeat apply za); refine pwn ?_; intros
  repeat apply za
  refine zh (zr (fun s : Nat × Int × List Int × Nat => s.1 ≤ q.length ∧ s.2.2.1.length = s.1 ∧ (0 ≤ s.2.1 ∧ s.2.1 ≤ 2147483648) ∧ zR c.size c.rate c.start q = (zR c.size c.rate s.2.1 (q.drop s.1)).map (s.2.2.1 ++ ·))
   (fun (k, there, out, v2) => [(2, .ptr nx v0 0), (8, .fn (.func 239) [] [.ptr (nx + 2) v1 0, .ip (zv c)]), (9, .sl (nx + 3) v2 1 0 out.length), (32, L q), (33, I q.length), (34, I k)])
   (fun (k, there, out, v2) => [.cells v0 41 (zv c), .dead, .cells v1 3 [I there], .cells v2 3 (out.flatMap Enc.enc)]) (fun s => q.length - s.1) (0, c.start, [], v2) [] ?_ (by simp) (by simp) ?_)
  ·refine ⟨by simp, by simp, hst, ?_⟩
   simp
  rintro ⟨k, there, out, v2⟩ ⟨hk, hol, hth, ho⟩
  simp only at hk hol hth ho ⊢
  (repeat apply za); refine pwn ?_; intros
  repeat apply za
  refine zn rfl (fun hc => ?_) (fun hc => ?_)
  ·simp at hc
   obtain ⟨z, tl, a1, a2, a3, e0⟩ := el1 rfl q k hc
   have hz := hq0 z (List.mem_of_getElem? a1)
   rw [a2] at ho
   refine ze (za (zh ?_))
   repeat apply za
   refine pwN [] (jn2 e0 hc) ?_
   intros
   repeat apply za
   refine zQ [] (by rfl) (by rfl) fun K Gc Gh hK hGc hGh X hX0 hX => ?_
   simp -implicitDefEqProofs [hX0, hX]
   try clear hX0 hX X
   refine hGc _ _ _ _ _ _ _ fun hsuf => ((ZbK c z there (id := nx + 2) (v := v1) (by simp) (by omega) (by omega)).mono ?_).v
   rintro p T ⟨rfl, rfl⟩
   refine ⟨_, _, qn _ (by omega) (by simp), ?_⟩
   clear hGc hGh
   clear Gc Gh
   refine zH hsuf (D := []) (by rfl) fun Gc Gh hGc hGh X hX0 hX => ?_
   simp -implicitDefEqProofs [hX0, hX]
   clear hX0 hX X
   intros
   refine hK _ _ _ ?_
   clear hK hGc hGh
   clear K Gc Gh
   have bad : (c.size < there + z ∨ there + z < c.rate) → yd c q = ([], 8) := fun h => by
    rw [hres, ho]; simp only [zR, if_pos h, Option.map_none]
   by_cases h1 : c.size < there + z
   ·repeat apply za
    refine pwN [(4, 48)] (jn2 h1 zp) ?_
    intros
    repeat apply za
    refine zi rfl ?_
    (repeat apply za); refine pwn ?_; intros
    refine jP 4 rfl ?_
    repeat apply za
    exact zb (zg hd (by simp; rfl) (by rw [bad (.inl h1)]; rfl))
   by_cases h2 : there + z < c.rate
   ·repeat apply za
    refine pwN [(4, 48)] (jn2 h1 h2) ?_
    intros
    repeat apply za
    refine zi rfl ?_
    (repeat apply za); refine pwn ?_; intros
    refine jP 4 rfl ?_
    repeat apply za
    exact zb (zg hd (by simp; rfl) (by rw [bad (.inr h2)]; rfl))
   repeat apply za
   refine pwN [(4, 48)] (jn2 h1 h2) ?_
   intros
   repeat apply za
   refine zk rfl ?_
   refine ze ?_
   repeat apply za
   refine pwn ?_
   refine ⟨by omega, ?_⟩
   intros
   (repeat apply za); refine pwn ?_; intros
   exact zm (k + 1, there + z - c.rate, out ++ [there + z - c.rate], v2 + 1) [] ⟨hc, by simp [hol], by dsimp only; omega, ZbL ho h1 h2⟩ (by simp; omega) (by simp [wrN k (by omega)]) rfl (by simp)
  ·simp at hc
   obtain rfl : k = q.length := by omega
   rw [List.drop_length] at ho
   simp only [zR, Option.map_some, List.append_nil] at ho
   refine zo ?_
   (repeat apply za); refine pwn ?_; intros
   refine zL 3 rfl ?_
   repeat apply za
   exact zb (zg hd (by simp; rfl) (by rw [hres, ho]; simp [zj]))
open Go
def qv (rate size : Int) : List Int → List Int → Bool
 | z :: q, n :: l => decide (0 < z ∧ n + rate ≠ size) || qv rate size q l
 | _, _ => false
def qB (c : Cust) (q : List Int) : Int :=
 if (yd c q).2 ≠ 0 then (yd c q).2 else if c.rule ≠ 1 then 0 else if qv c.rate c.size q (yd c q).1 then 9 else 0
def Zz (c : Cust) (ns : List Int) : Int := W (c.hold * W ns.sum)
theorem Yu (l : List Int) (x : Int) : (l ++ [x]).sum = l.sum + x := by simp
set_option maxRecDepth 20000 in
theorem ZbN (c : Cust) (ns : List Int) (hn : ns.length ≤ 1048576) : Pure Tryz.prog 166 [.agg (zv c), L ns] (I (Zz c ns)) := by
 refine pwe Tryz.func166 Tryz.ntmps166 Tryz.results166 fun S nx hd => ?_
 repeat apply za
 refine pwn ?_
 intro v0
 (repeat apply za); refine pwn ?_; intros
 (repeat apply za); refine pwn ?_; intros
 repeat apply za
 refine zh (zr (fun s : Nat => s ≤ ns.length) (fun k => [(2, .ptr nx v0 0), (5, I (W (ns.take k).sum)), (8, L ns), (9, I ns.length), (10, I k)]) (fun _ => [.cells v0 41 (zv c)]) (fun s => ns.length - s) 0 [] (by simp) (by simp) (by simp) ?_)
 rintro k hk
 (repeat apply za); refine pwn ?_; intros
 repeat apply za
 refine zn rfl (fun hc => ?_) (fun hc => ?_)
 ·simp at hc
  obtain ⟨z, tl, a1, a2, a3, e0⟩ := el1 rfl ns k hc
  refine ze (za (zh ?_))
  repeat apply za
  refine pwN [] (jn2 e0 hc) ?_
  intros
  (repeat apply za); refine pwn ?_; intros
  (repeat apply za); refine pwn ?_; intros
  have hw : W (W (ns.take k).sum + z) = W (ns.take (k + 1)).sum := by rw [a3, Yu, xS]
  exact zm (k + 1) [] hc (by omega) (by simp [wrN k (by omega)]; exact hw) rfl (by simp)
 ·simp at hc
  obtain rfl : k = ns.length := by omega
  rw [List.take_length]
  refine zo ?_
  (repeat apply za); refine pwn ?_; intros
  repeat apply za
  exact zb (zg hd (by simp; rfl) rfl)
set_option maxRecDepth 20000 in
theorem Zje (c : Cust) (q : List Int) (hc : CustFits c) (hq : q.length ≤ 1048576) : Pure Tryz.prog 244 [.agg (zv c), L q] (I (qB c q)) := by
 have hni := ZbM c q hc hq
 obtain ⟨hr, hsz, hst⟩ := hc
 refine pwe Tryz.func244 Tryz.ntmps244 Tryz.results244 fun S nx hd => ?_
 repeat apply za
 refine pwn ?_
 intro v0
 repeat apply za
 refine pwn ?_
 refine pwc hni ?_
 intros
 by_cases he : (yd c q).2 = 0
 case neg =>
  repeat apply za
  refine pwN [] he ?_
  intros
  repeat apply za
  refine zi (by simp [he]) ?_
  (repeat apply za); refine pwn ?_; intros
  repeat apply za
  exact zb (zg hd (by simp; rfl) (by simp [qB, he, zj]))
 repeat apply za
 refine pwN [] he ?_
 intros
 repeat apply za
 refine zk (by simp [he]) ?_
 refine ze ?_
 by_cases hru : c.rule = 1
 case neg =>
  repeat apply za
  refine pwN [] hru ?_
  intros
  repeat apply za
  refine zi (by simp [hru]) ?_
  (repeat apply za); refine pwn ?_; intros
  repeat apply za
  exact zb (zg hd (by simp; rfl) (by simp [qB, he, hru, zj]))
 repeat apply za
 refine pwN [] hru ?_
 intros
 repeat apply za
 refine zk (by simp [hru]) ?_
 refine ze ?_
 have hres : qB c q = if qv c.rate c.size q (yd c q).1 then 9 else 0 := by simp [qB, he, hru]
 obtain ⟨l, hl, hq0⟩ : ∃ l, zR c.size c.rate c.start q = some l ∧ (yd c q).1 = l ∧ ∀ z ∈ q, 0 ≤ z ∧ z ≤ 2147483648 := by
  unfold yd at he ⊢
  split at he
  ·simp at he
  ·rename_i hb
   cases hrn : zR c.size c.rate c.start q with
   | none => simp [hrn] at he
   | some l =>
    refine ⟨l, rfl, by simp [hb], fun z hz => ?_⟩
    simp only [Bool.not_eq_true, List.any_eq_false] at hb
    have := hb z hz
    simp [qX] at this
    omega
 obtain ⟨hl1, hq0⟩ := hq0
 rw [hl1] at hres
 repeat apply za
 refine zQ [] (by rfl) (by rfl) fun K Gc Gh hK hGc hGh X hX0 hX => ?_
 simp -implicitDefEqProofs [hX0, hX]
 try clear hX0 hX X
 refine hGc _ _ _ _ _ _ _ fun hsuf => ((ZbJ c jD).mono ?_).v
 rintro p T ⟨v1, rfl, rfl⟩
 refine ⟨_, _, Zd _, ?_⟩
 clear hGc hGh
 clear Gc Gh
 refine zH hsuf (D := []) (by rfl) fun Gc Gh hGc hGh X hX0 hX => ?_
 simp -implicitDefEqProofs [hX0, hX]
 clear hX0 hX X
 intros
 refine hK _ _ _ ?_
 clear hK hGc hGh
 clear K Gc Gh
 (repeat apply za); refine pwn ?_; intros
 repeat apply za
 refine zh (zr (fun s : Nat × Int => s.1 ≤ q.length ∧ (0 ≤ s.2 ∧ s.2 ≤ 2147483648) ∧ zR c.size c.rate s.2 (q.drop s.1) = some (l.drop s.1) ∧ qv c.rate c.size q l = qv c.rate c.size (q.drop s.1) (l.drop s.1))
  (fun (k, there) => [(2, .ptr nx v0 0), (7, .fn (.func 239) [] [.ptr (nx + 2) v1 0, .ip (zv c)]), (26, L q), (27, I q.length), (28, I k)])
  (fun (k, there) => [.cells v0 41 (zv c), .dead, .cells v1 3 [I there]]) (fun s => q.length - s.1) (0, c.start) [] ⟨by simp, hst, by simpa using hl, by simp⟩ (by simp) (by simp) ?_)
 rintro ⟨k, there⟩ ⟨hk, hth, hrn, ho⟩
 simp only at hk hth hrn ho ⊢
 (repeat apply za); refine pwn ?_; intros
 repeat apply za
 refine zn rfl (fun hc => ?_) (fun hc => ?_)
 ·simp at hc
  obtain ⟨z, tl, a1, a2, a3, e0⟩ := el1 rfl q k hc
  have hz := hq0 z (List.mem_of_getElem? a1)
  rw [a2] at hrn ho
  simp only [zR] at hrn
  split at hrn
  ·cases hrn
  rename_i hno
  obtain ⟨l2, hl2, hl3⟩ := Option.map_eq_some_iff.1 hrn
  rw [← hl3] at ho
  simp only [qv] at ho
  have hl4 : l.drop (k + 1) = l2 := by rw [← List.drop_drop, ← hl3]; rfl
  have hs1 : there + z - c.rate + c.rate = there + z := by omega
  rw [hs1] at ho
  refine ze (za (zh ?_))
  repeat apply za
  refine pwN [] (jn2 e0 hc) ?_
  intros
  repeat apply za
  refine zQ [] (by rfl) (by rfl) fun K Gc Gh hK hGc hGh X hX0 hX => ?_
  simp -implicitDefEqProofs [hX0, hX]
  try clear hX0 hX X
  refine hGc _ _ _ _ _ _ _ fun hsuf => ((ZbK c z there (id := nx + 2) (v := v1) (by simp) (by omega) (by omega)).mono ?_).v
  rintro p T ⟨rfl, rfl⟩
  refine ⟨_, _, qn _ (by omega) (by simp), ?_⟩
  clear hGc hGh
  clear Gc Gh
  refine zH hsuf (D := []) (by rfl) fun Gc Gh hGc hGh X hX0 hX => ?_
  simp -implicitDefEqProofs [hX0, hX]
  clear hX0 hX X
  intros
  refine hK _ _ _ ?_
  clear hK hGc hGh
  clear K Gc Gh
  by_cases h1 : 0 < z
  ·by_cases h2 : there + z = c.size
   ·repeat apply za
    refine pwN [(2, 40)] (jn2 h1 h2) ?_
    intros
    repeat apply za
    refine zk (by simp [h2]) ?_
    refine ze ?_
    (repeat apply za); refine pwn ?_; intros
    exact zm (k + 1, there + z - c.rate) [] ⟨hc, by dsimp only; omega, by rw [hl4]; exact hl2, by rw [ho, hl4, decide_eq_false (by omega), Bool.false_or]⟩ (by simp; omega) (by simp [wrN k (by omega)]) rfl (by simp [h2])
   ·repeat apply za
    refine pwN [(2, 40)] (jn2 h1 h2) ?_
    intros
    repeat apply za
    refine zi (by simp [h2]) ?_
    (repeat apply za); refine pwn ?_; intros
    repeat apply za
    exact zb (zg hd (by simp; rfl) (by rw [hres, ho]; simp [h1, h2, zj]))
  ·repeat apply za
   refine pwN [(2, 40)] (jn2 h1 zp) ?_
   intros
   repeat apply za
   refine zk rfl ?_
   refine ze ?_
   (repeat apply za); refine pwn ?_; intros
   exact zm (k + 1, there + z - c.rate) [] ⟨hc, by dsimp only; omega, by rw [hl4]; exact hl2, by rw [ho, hl4, decide_eq_false (by omega), Bool.false_or]⟩ (by simp; omega) (by simp [wrN k (by omega)]) rfl (by simp)
 ·simp at hc
  obtain rfl : k = q.length := by omega
  rw [List.drop_length] at ho
  simp only [qv] at ho
  refine zo ?_
  (repeat apply za); refine pwn ?_; intros
  repeat apply za
  exact zb (zg hd (by simp; rfl) (by rw [hres, ho]; rfl))
def x8 (a b : Int) : Int := if a + b < -9223372036854775808 then -9223372036854775808 else if 9223372036854775807 < a + b then 9223372036854775807 else a + b
set_option maxRecDepth 20000 in
theorem Zjf (a b : Int) (ha : I64 a) (hb : I64 b) : Pure Tryz.prog 243 [I a, I b] (if -9223372036854775808 ≤ a + b ∧ a + b ≤ 9223372036854775807 then .tup [I (a + b), B true] else .tup [I 0, B false]) := by
 unfold I64 at ha hb
 refine pwe Tryz.func243 Tryz.ntmps243 Tryz.results243 fun S nx hd => ?_
 (repeat apply za); refine pwn ?_; intros
 by_cases h : -9223372036854775808 ≤ a + b ∧ a + b ≤ 9223372036854775807
 ·have w1 : IntKind.i64.wrap (a + b) = a + b := wr _ h.1 h.2
  repeat apply za
  refine pwN [] w1 ?_
  intros
  by_cases h1 : b < 0
  ·have h2 : a + b < a := by omega
   repeat apply za
   refine pwN [] (jn2 h1 h2) ?_
   intros
   repeat apply za
   refine zk (by simp) ?_
   refine ze ?_
   (repeat apply za); refine pwn ?_; intros
   repeat apply za
   exact zb (zg hd (by simp; rfl) (by simp [h, zj]))
  ·have h2 : ¬ a + b < a := by omega
   repeat apply za
   refine pwN [] (jn2 h1 h2) ?_
   intros
   repeat apply za
   refine zk (by simp) ?_
   refine ze ?_
   (repeat apply za); refine pwn ?_; intros
   repeat apply za
   exact zb (zg hd (by simp; rfl) (by simp [h, zj]))
 ·by_cases h0 : a + b < -9223372036854775808
  ·have w1 : IntKind.i64.wrap (a + b) = a + b + 18446744073709551616 := by rw [IntKind.wrap_i64]; omega
   have h1 : b < 0 := by omega
   have h2 : ¬ a + b + 18446744073709551616 < a := by omega
   repeat apply za
   refine pwN [] w1 ?_
   intros
   repeat apply za
   refine pwN [] (jn2 h1 h2) ?_
   intros
   repeat apply za
   refine zi (by simp) ?_
   (repeat apply za); refine pwn ?_; intros
   repeat apply za
   exact zb (zg hd (by simp; rfl) (by simp only [h, if_false]; rfl))
  ·have w1 : IntKind.i64.wrap (a + b) = a + b - 18446744073709551616 := by rw [IntKind.wrap_i64]; omega
   have h1 : ¬ b < 0 := by omega
   have h2 : a + b - 18446744073709551616 < a := by omega
   repeat apply za
   refine pwN [] w1 ?_
   intros
   repeat apply za
   refine pwN [] (jn2 h1 h2) ?_
   intros
   repeat apply za
   refine zi (by simp) ?_
   (repeat apply za); refine pwn ?_; intros
   repeat apply za
   exact zb (zg hd (by simp; rfl) (by simp only [h, if_false]; rfl))
set_option maxRecDepth 20000 in
theorem ZbO (a b : Int) (ha : I64 a) (hb : I64 b) : Pure Tryz.prog 209 [I a, I b] (I (x8 a b)) := by
 have hadd := Zjf a b ha hb
 unfold I64 at ha hb
 refine pwe Tryz.func209 Tryz.ntmps209 Tryz.results209 fun S nx hd => ?_
 (repeat apply za); refine pwn ?_; intros
 by_cases h : -9223372036854775808 ≤ a + b ∧ a + b ≤ 9223372036854775807
 ·rw [if_pos h] at hadd
  repeat apply za
  refine pwn ?_
  refine pwc hadd ?_
  intros
  repeat apply za
  refine zh ?_
  (repeat apply za); refine pwn ?_; intros
  repeat apply za
  refine zi rfl ?_
  (repeat apply za); refine pwn ?_; intros
  repeat apply za
  exact zb (zg hd (by simp; rfl) (by simp only [x8, zj]; rw [if_neg (by omega), if_neg (by omega)]))
 ·rw [if_neg h] at hadd
  repeat apply za
  refine pwn ?_
  refine pwc hadd ?_
  intros
  repeat apply za
  refine zh ?_
  (repeat apply za); refine pwn ?_; intros
  repeat apply za
  refine zk rfl ?_
  (repeat apply za); refine pwn ?_; intros
  repeat apply za
  refine zn rfl (fun h1 => ?_) (fun h1 => ?_)
  ·simp at h1
   (repeat apply za); refine pwn ?_; intros
   repeat apply za
   exact zb (zg hd (by simp; rfl) (by simp only [x8, zj]; rw [if_pos (by omega)]))
  ·simp at h1
   refine ze ?_
   (repeat apply za); refine pwn ?_; intros
   repeat apply za
   exact zb (zg hd (by simp; rfl) (by simp only [x8, zj]; rw [if_neg (by omega), if_pos (by omega)]))
set_option maxRecDepth 20000 in
theorem Zjg (a lo hi : Int) : Pure Tryz.prog 79 [I a, I lo, I hi] (I (min (max a lo) hi)) := by
 have h1 : xO (jX a lo) hi = min (max a lo) hi := by unfold xO jX; split <;> split <;> omega
 refine pwe Tryz.func79 Tryz.ntmps79 Tryz.results79 fun S nx hd => ?_
 (repeat apply za); refine pwn ?_; intros
 repeat apply za
 refine pwN [] h1 ?_
 intros
 repeat apply za
 exact zb (zg hd (by simp; rfl) rfl)
def zK (v : List Visit) (n : Int) : List Int := (List.range (min (max n 0) 64).toNat).map fun (d : Nat) => ((v.filter fun s => decide (s.d = (d : Int))).map (·.q)).sum
theorem ZA (v : List Visit) (n : Int) : (zK v n).length = (min (max n 0) 64).toNat := by simp [zK]
theorem ZbP (n : Int) : zK [] n = List.replicate (min (max n 0) 64).toNat 0 := by
 apply List.ext_getElem
 ·simp [zK]
 ·intro i h1 h2; simp [zK]
theorem Zjh (v : List Visit) (n : Int) (s : Visit) (h : ¬ (0 ≤ s.d ∧ s.d < ((min (max n 0) 64).toNat : Int))) : zK (v ++ [s]) n = zK v n := by
 unfold zK
 apply List.map_congr_left
 intro d hd
 have hdl := List.mem_range.1 hd
 have : ¬ s.d = (d : Int) := by omega
 simp [this]
theorem Zji (v : List Visit) (n : Int) (s : Visit) (d : Nat) (hs : s.d = (d : Int)) (b : Int) (hb : (zK v n)[d]? = some b) : zK (v ++ [s]) n = (zK v n).set d (b + s.q) := by
 obtain ⟨hdl, hbe⟩ := List.getElem?_eq_some_iff.1 hb
 apply List.ext_getElem
 ·simp [zK]
 ·intro i h1 h2
  rw [List.getElem_set]
  have hil : i < (zK v n).length := by simpa using h2
  by_cases q : d = i
  ·subst q
   rw [if_pos rfl, ← hbe]
   simp [zK, hs]
  ·rw [if_neg q]
   have : ¬ s.d = (i : Int) := by omega
   simp [zK, this]
structure VisOk (v : List Visit) : Prop where
 n : v.length ≤ 1048576
 q : ∀ s ∈ v, 0 ≤ s.q ∧ s.q ≤ 2147483648
 d : ∀ s ∈ v, I64 s.d
theorem ZbQ (v : List Visit) (p : Visit → Bool) (h : ∀ s ∈ v, 0 ≤ s.q ∧ s.q ≤ 2147483648) : 0 ≤ ((v.filter p).map (·.q)).sum ∧ ((v.filter p).map (·.q)).sum ≤ 2147483648 * v.length := by
 induction v with
 | nil => simp
 | cons s v ih =>
  have h1 := ih fun x hx => h x (by simp [hx])
  have h2 := h s (by simp)
  rw [List.filter_cons]
  split
  ·simp only [List.map_cons, List.sum_cons, List.length_cons]; omega
  ·simp only [List.length_cons]; omega
theorem Zjj {v : List Visit} (hv : ∀ s ∈ v, 0 ≤ s.q ∧ s.q ≤ 2147483648) (n : Int) : ∀ b ∈ zK v n, 0 ≤ b ∧ b ≤ 2147483648 * v.length := by
 intro b hb
 simp only [zK, List.mem_map] at hb
 obtain ⟨d, _, rfl⟩ := hb
 exact ZbQ v _ hv
set_option maxRecDepth 20000 in
theorem Zjk (v : List Visit) (n : Int) (hv : VisOk v) : Pure Tryz.prog 206 [L v, I n] (L (zK v n)) := by
 have hvn := hv.n
 have hm : min (max n 0) 64 = (((min (max n 0) 64).toNat : Nat) : Int) := by omega
 have hm64 : (min (max n 0) 64).toNat ≤ 64 := by omega
 refine pwe Tryz.func206 Tryz.ntmps206 Tryz.results206 fun S nx hd => ?_
 (repeat apply za); refine pwn ?_; intros
 repeat apply za
 refine pwn ?_
 refine pwc (Zjg n 0 64) ?_
 refine ⟨by omega, fun v1 => ?_⟩
 intros
 generalize hmm : (min (max n 0) 64).toNat = m at hm hm64
 have hz := ZbP n
 rw [hmm] at hz
 (repeat apply za); refine pwn ?_; intros
 repeat apply za
 refine zh (zr (fun s : Nat => s ≤ v.length) (fun k => [(5, .sl nx v1 1 0 m), (11, L v), (12, I v.length), (13, I k)]) (fun k => [.cells v1 3 ((zK (v.take k) n).flatMap Enc.enc)]) (fun s => v.length - s) 0 [] (by simp) (by simp [hmm]) (by simp [hz, hmm, JN]) ?_)
 rintro k hk
 have hbl := ZA (v.take k) n
 rw [hmm] at hbl
 (repeat apply za); refine pwn ?_; intros
 repeat apply za
 refine zn rfl (fun hc => ?_) (fun hc => ?_)
 ·simp at hc
  obtain ⟨s, tl, a1, a2, a3, _, e0⟩ := el 2 rfl v k hc
  have hsm := List.mem_of_getElem? a1
  have hsq := hv.q s hsm
  have hout := Zjh (v.take k) n s
  rw [hmm] at hout
  refine ze (za (zh ?_))
  repeat apply za
  refine pwN [] (jn2 e0 hc) ?_
  intro v2
  by_cases h1 : 0 ≤ s.d
  ·by_cases h2 : s.d < (m : Int)
   ·obtain ⟨d, hd⟩ := Int.eq_ofNat_of_zero_le h1
    have hdm : d < m := by omega
    obtain ⟨b, tl2, b1, b2, b3, e2⟩ := el1 rfl (zK (v.take k) n) d (by omega)
    have hbm := Zjj (fun x hx => hv.q x (List.mem_of_mem_take hx)) n b (List.mem_of_getElem? b1)
    have htl : (v.take k).length ≤ 1048576 := by simp; omega
    have hin := Zji (v.take k) n s d hd b b1
    have hsp := Qj (zK (v.take k) n) d (b + s.q) (by omega)
    have hsat : x8 b s.q = b + s.q := by unfold x8; rw [if_neg (by omega), if_neg (by omega)]
    have hflen : ((zK (v.take k) n).flatMap Enc.enc).length = m := by rw [qy, hbl]
    repeat apply za
    refine pwN [(3, 20)] (jn2 h1 h2) ?_
    intros
    repeat apply za
    refine zi rfl ?_
    repeat apply za
    refine pwY (some [nx + 1]) (Row.pures [0, 1, 2, 3, 4, 5, 6, 8, 9] (.alt 7 (Row.pures [10, 11] (.alt 12 (.done) .stop)) .stop)) mixed (jn4 hd hdm e2 hbl) ?_
    refine pwP (ZbO b s.q (by unfold I64; omega) (by unfold I64; omega)) (jn5 hsat hsp hbl hdm hd) ?_
    refine ⟨by omega, ?_⟩
    intros
    (repeat apply za); refine pwn ?_; intros
    exact zm (k + 1) [_] hc (by omega) (by simp [wrN k (by omega)]) rfl (by rw [a3, hin]; rfl)
   ·repeat apply za
    refine pwN [(3, 20)] (jn2 h1 h2) ?_
    intros
    repeat apply za
    refine zk rfl ?_
    refine ze ?_
    (repeat apply za); refine pwn ?_; intros
    exact zm (k + 1) [_] hc (by omega) (by simp [wrN k (by omega)]) rfl (by rw [a3, hout (by omega)]; rfl)
  ·repeat apply za
   refine pwN [(3, 20)] (jn2 h1 zp) ?_
   intros
   repeat apply za
   refine zk rfl ?_
   refine ze ?_
   (repeat apply za); refine pwn ?_; intros
   exact zm (k + 1) [_] hc (by omega) (by simp [wrN k (by omega)]) rfl (by rw [a3, hout (by omega)]; rfl)
 ·simp at hc
  obtain rfl : k = v.length := by omega
  rw [List.take_length] at hbl ⊢
  refine zo ?_
  (repeat apply za); refine pwn ?_; intros
  refine zL 0 rfl ?_
  repeat apply za
  exact zb (zg hd (by simp; rfl) (by simp [hbl, zj]))
open Go
def zU (n : Nat) : List Int := if h : n = 0 then [] else ((n % 65536 : Nat) : Int) :: zU (n / 65536)
termination_by n
decreasing_by omega
theorem vS : zU 0 = [] := by rw [zU]; simp
theorem vT {n : Nat} (h : n ≠ 0) : zU n = ((n % 65536 : Nat) : Int) :: zU (n / 65536) := by rw [zU]; simp [h]
def zN : List Int → Int
 | [] => 0
 | d :: l => d + 65536 * zN l
def jx (l : List Int) : Prop := ∀ d ∈ l, 0 ≤ d ∧ d < 65536
def uK : List Int → Prop
 | [] => True
 | [d] => d ≠ 0
 | _ :: e :: l => uK (e :: l)
theorem vU : ∀ n : Nat, jx (zU n) ∧ zN (zU n) = n ∧ uK (zU n) ∧ (n < 65536 ^ 4 → (zU n).length ≤ 4) := by
 intro n
 induction n using Nat.strongRecOn with
 | _ n ih =>
  by_cases h : n = 0
  ·subst h; rw [vS]; exact ⟨fun d hd => (nomatch hd), rfl, trivial, by simp⟩
  ·obtain ⟨h1, h2, h3, _⟩ := ih (n / 65536) (by omega)
   rw [vT h]
   refine ⟨?_, ?_, ?_, ?_⟩
   ·intro d hd
    rcases List.mem_cons.1 hd with rfl | hd
    ·omega
    ·exact h1 d hd
   ·simp only [zN, h2]; omega
   ·cases hl : zU (n / 65536) with
    | nil =>
     rw [hl] at h2
     simp only [zN] at h2
     simp only [uK]; omega
    | cons e l => rw [hl] at h3; exact h3
   ·intro hlt
    have : ∀ m : Nat, ∀ k : Nat, m < 65536 ^ k → (zU m).length ≤ k := by
     intro m k
     induction k generalizing m with
     | zero => intro hm; simp at hm; subst hm; rw [vS]; simp
     | succ k ihk =>
      intro hm
      by_cases h0 : m = 0
      ·subst h0; rw [vS]; simp
      ·rw [vT h0]
       have := ihk (m / 65536) (by rw [Nat.pow_succ] at hm; exact Nat.div_lt_of_lt_mul (by rw [Nat.mul_comm]; exact hm))
       simp; exact this
    have := this n 4 hlt
    rw [vT h] at this
    exact this
theorem XX {l : List Int} (h : jx l) : 0 ≤ zN l := by
 induction l with
 | nil => simp [zN]
 | cons d l ih =>
  have h1 := h d (by simp)
  have h2 := ih fun x hx => h x (by simp [hx])
  simp only [zN]; omega
theorem QM (a b : List Int) : zN (a ++ b) = zN a + 65536 ^ a.length * zN b := by
 induction a with
 | nil => simp [zN]
 | cons d a ih => simp only [List.cons_append, zN, ih, List.length_cons, Int.pow_succ]; rw [Int.mul_add, Int.mul_comm (65536 ^ a.length) 65536, Int.mul_assoc]; omega
theorem Zjl : ∀ {l : List Int}, jx l → uK l → l = zU (zN l).toNat := by
 intro l
 induction l with
 | nil => intro _ _; simp only [zN]; exact vS.symm
 | cons d l ih =>
  intro h ht
  have h1 := h d (by simp)
  have hl : jx l := fun x hx => h x (by simp [hx])
  have h2 := XX hl
  cases l with
  | nil =>
   simp only [uK] at ht
   simp only [zN]
   rw [vT (by omega)]
   have e1 : (d + 65536 * 0).toNat / 65536 = 0 := by omega
   rw [e1, vS]
   congr 1; omega
  | cons e l =>
   have := ih hl ht
   have hpos : zN (e :: l) ≠ 0 := by
    intro h0
    rw [h0] at this
    rw [show (0 : Int).toNat = 0 from rfl, vS] at this
    cases this
   have ev : zN (d :: e :: l) = d + 65536 * zN (e :: l) := rfl
   rw [ev, vT (by omega)]
   have e1 : (d + 65536 * zN (e :: l)).toNat / 65536 = (zN (e :: l)).toNat := by omega
   rw [e1, ← this]
   congr 1; omega
set_option maxRecDepth 20000 in
theorem QN (n : Int) (hn : I64 n) : Pure Tryz.prog 137 [I n] (.agg [L (zU n.natAbs), B (decide (n < 0))]) := by
 unfold I64 at hn
 have hd4 := (vU n.natAbs).2.2.2 (by rw [show (65536 : Nat) ^ 4 = 18446744073709551616 from by decide]; omega)
 refine pwe Tryz.func137 Tryz.ntmps137 Tryz.results137 fun S nx hd => ?_
 repeat apply za
 refine pwn ?_
 intro v0
 repeat apply za
 refine pwn ?_
 intro v1
 (repeat apply za); refine pwn ?_; intros
 refine za (qT 1 0 3 1 rfl rfl fun v2 => ?_)
 repeat apply za
 refine zh (zr (fun s : Int × List Int × Nat => zU n.natAbs = s.2.1 ++ zU s.1.natAbs ∧ (-9223372036854775808 ≤ s.1 ∧ s.1 ≤ 9223372036854775807)) (fun (m, out, v2) => [(0, I m), (2, .ptr nx v0 0), (3, .ptr (nx + 1) v1 0)])
  (fun (m, out, v2) => [.cells v0 178 [.sc (.slice none 0 0), B false], .cells v1 178 [.sl (nx + 2) v2 1 0 out.length, B (decide (n < 0))], .cells v2 3 (out.flatMap Enc.enc)]) (fun s => s.1.natAbs) (n, [], v2) [] (by simp; exact hn) (by simp) (by simp) ?_)
 rintro ⟨m, out, v2⟩ ⟨ho, hm⟩
 simp only at ho hm ⊢
 by_cases h0 : m = 0
 ·subst h0
  rw [show (0 : Int).natAbs = 0 from rfl, vS, List.append_nil] at ho
  (repeat apply za); refine pwn ?_; intros
  repeat apply za
  refine zk rfl ?_
  refine zo ?_
  (repeat apply za); refine pwn ?_; intros
  refine zL 2 rfl ?_
  repeat apply za
  exact zb (zg hd (by simp; rfl) (by rw [ho]; simp [zj]))
 ·repeat apply za
  refine pwN [] h0 ?_
  intros
  repeat apply za
  refine zi (by simp [h0]) ?_
  refine ze (zh ?_)
  have hdm : zU m.natAbs = ((m.natAbs % 65536 : Nat) : Int) :: zU (m.tdiv 65536).natAbs := by
   rw [vT (by omega)]
   congr 2
   rw [Int.natAbs_tdiv]; rfl
  rw [hdm] at ho
  have hol : out.length ≤ 4 := by rw [ho] at hd4; simp at hd4; omega
  have hq : (m.tdiv 65536).natAbs = m.natAbs / 65536 := by rw [Int.natAbs_tdiv]; rfl
  have hq2 : -9223372036854775808 ≤ m.tdiv 65536 ∧ m.tdiv 65536 ≤ 9223372036854775807 := by omega
  have w1 : IntKind.i64.wrap (m.tdiv 65536) = m.tdiv 65536 := wr _ hq2.1 hq2.2
  (repeat apply za); refine pwn ?_; intros
  (repeat apply za); refine pwn ?_; intros
  by_cases hneg : m.tmod 65536 < 0
  ·have e1 : -(m.tmod 65536) = ((m.natAbs % 65536 : Nat) : Int) := by
    have := Int.natAbs_tmod m 65536
    have e : (65536 : Int).natAbs = 65536 := rfl
    rw [e] at this; omega
   have w2 : IntKind.i64.wrap (-(m.tmod 65536)) = ((m.natAbs % 65536 : Nat) : Int) := by rw [wr _ (by omega) (by omega)]; exact e1
   repeat apply za
   refine zi (by simp [hneg]) ?_
   repeat apply za
   refine pwN [] w2 ?_
   intros
   repeat apply za
   refine pwn ?_
   refine ⟨by omega, ?_⟩
   intros
   repeat apply za
   refine pwN [] w1 ?_
   intros
   exact zm (m.tdiv 65536, out ++ [((m.natAbs % 65536 : Nat) : Int)], v2 + 1) [] ⟨by rw [ho]; simp, hq2⟩ (by dsimp only; omega) (by simp) rfl (by simp)
  ·have e1 : m.tmod 65536 = ((m.natAbs % 65536 : Nat) : Int) := by
    have := Int.natAbs_tmod m 65536
    have e : (65536 : Int).natAbs = 65536 := rfl
    rw [e] at this; omega
   repeat apply za
   refine zk (by simp; omega) ?_
   refine ze ?_
   repeat apply za
   refine pwN [] e1 ?_
   refine ⟨by omega, ?_⟩
   intros
   repeat apply za
   refine pwN [] w1 ?_
   intros
   exact zm (m.tdiv 65536, out ++ [((m.natAbs % 65536 : Nat) : Int)], v2 + 1) [] ⟨by rw [ho]; simp, hq2⟩ (by dsimp only; omega) (by simp) rfl (by simp)
def yU : List Int → List Int → Int → List Int
 | [], [], c => if 0 < c then [c] else []
 | a :: u, [], c => (a + c) % 65536 :: yU u [] ((a + c) / 65536)
 | [], b :: bs, c => (b + c) % 65536 :: yU [] bs ((b + c) / 65536)
 | a :: u, b :: bs, c => (a + b + c) % 65536 :: yU u bs ((a + b + c) / 65536)
theorem Zjm : ∀ (a b : List Int) (c : Int), jx a → jx b → 0 ≤ c → c ≤ 1 → jx (yU a b c) ∧ zN (yU a b c) = zN a + zN b + c ∧ (yU a b c).length ≤ max a.length b.length + 1 := by
 intro a
 induction a with
 | nil =>
  intro b
  induction b with
  | nil =>
   intro c _ _ h0 h1
   simp only [yU]
   split
   ·refine ⟨?_, by simp [zN], by simp⟩
    intro d hd; simp at hd; omega
   ·refine ⟨by intro d hd; simp at hd, by simp [zN]; omega, by simp⟩
  | cons b bs ih =>
   intro c ha hb h0 h1
   have hb1 := hb b (by simp)
   obtain ⟨q1, q2, q3⟩ := ih ((b + c) / 65536) ha (fun x hx => hb x (by simp [hx])) (by omega) (by omega)
   simp only [yU]
   refine ⟨?_, by simp only [zN] at q2 ⊢; rw [q2]; omega, by simp at q3 ⊢; omega⟩
   intro d hd
   rcases List.mem_cons.1 hd with rfl | hd
   ·omega
   ·exact q1 d hd
 | cons a u iha =>
  intro b
  cases b with
  | nil =>
   intro c ha hb h0 h1
   have ha1 := ha a (by simp)
   obtain ⟨q1, q2, q3⟩ := iha [] ((a + c) / 65536) (fun x hx => ha x (by simp [hx])) hb (by omega) (by omega)
   simp only [yU]
   refine ⟨?_, by simp only [zN] at q2 ⊢; rw [q2]; omega, by simp at q3 ⊢; omega⟩
   intro d hd
   rcases List.mem_cons.1 hd with rfl | hd
   ·omega
   ·exact q1 d hd
  | cons b bs =>
   intro c ha hb h0 h1
   have ha1 := ha a (by simp)
   have hb1 := hb b (by simp)
   obtain ⟨q1, q2, q3⟩ := iha bs ((a + b + c) / 65536) (fun x hx => ha x (by simp [hx])) (fun x hx => hb x (by simp [hx])) (by omega) (by omega)
   simp only [yU]
   refine ⟨?_, by simp only [zN] at q2 ⊢; rw [q2]; omega, by simp at q3 ⊢; omega⟩
   intro d hd
   rcases List.mem_cons.1 hd with rfl | hd
   ·omega
   ·exact q1 d hd
theorem Zjn (a b : List Int) (c : Int) (h : a ≠ [] ∨ b ≠ [] ∨ 0 < c) : yU a b c = (a.headD 0 + b.headD 0 + c) % 65536 :: yU a.tail b.tail ((a.headD 0 + b.headD 0 + c) / 65536) ∨ (a = [] ∧ b = [] ∧ yU a b c = [c]) := by
 cases a with
 | nil =>
  cases b with
  | nil => right; simp at h; simp [yU, h]
  | cons b bs => left; simp [yU]
 | cons a u =>
  cases b with
  | nil => left; simp [yU]
  | cons b bs => left; simp [yU]
theorem QO (l : List Int) (k : Nat) : (l.drop k).headD 0 = l.getD k 0 := by simp [List.headD_eq_head?_getD, List.head?_drop, List.getD_eq_getElem?_getD]
set_option maxRecDepth 20000 in
theorem Zjo (a b : List Int) (ha : jx a) (hb : jx b) (hal : a.length ≤ 1000) (hbl : b.length ≤ 1000) : Pure Tryz.prog 183 [L a, L b] (L (yU a b 0)) := by
 refine pwe Tryz.func183 Tryz.ntmps183 Tryz.results183 fun S nx hd => ?_
 (repeat apply za); refine pwn ?_; intros
 (repeat apply za); refine pwn ?_; intros
 refine za (yK 5 3 1 rfl fun v1 => ?_)
 (repeat apply za); refine pwn ?_; intros
 (repeat apply za); refine pwn ?_; intros
 repeat apply za
 refine zh (zr (fun s : Nat × Int × List Int × Nat => s.1 ≤ max a.length b.length + 1 ∧ (0 ≤ s.2.1 ∧ s.2.1 ≤ 1) ∧ s.2.2.1.length = s.1 ∧ yU a b 0 = s.2.2.1 ++ yU (a.drop s.1) (b.drop s.1) s.2.1 ∧ (s.1 = max a.length b.length + 1 → s.2.1 = 0)) (fun (k, c, out, v1) => [(0, L a), (1, L b), (5, .sl nx v1 1 0 out.length), (6, I c), (7, I k)])
  (fun (k, c, out, v1) => [.cells v1 3 (out.flatMap Enc.enc)]) (fun s => max a.length b.length + 1 - s.1) (0, 0, [], v1) [] (by simp) (by simp) (by simp) ?_)
 rintro ⟨k, c, out, v1⟩ ⟨hk, hc, hol, ho, hend⟩
 simp only at hk hc hol ho hend ⊢
 by_cases hlive : k < a.length ∨ k < b.length ∨ 0 < c
 ·have hkl : k < max a.length b.length + 1 := by
   rcases Nat.lt_or_ge k (max a.length b.length + 1) with h | h
   ·exact h
   ·have := hend (by omega); omega
  -- the sum at this place
  have hx : 0 ≤ a.getD k 0 ∧ a.getD k 0 < 65536 := by
   rw [List.getD_eq_getElem?_getD]
   cases h : a[k]? with
   | none => simp
   | some x => exact ha x (List.mem_of_getElem? h)
  have hy : 0 ≤ b.getD k 0 ∧ b.getD k 0 < 65536 := by
   rw [List.getD_eq_getElem?_getD]
   cases h : b[k]? with
   | none => simp
   | some x => exact hb x (List.mem_of_getElem? h)
  generalize hxx : a.getD k 0 = x at hx
  generalize hyy : b.getD k 0 = y at hy
  have hnext : ∀ s, s = c + x + y → yU a b 0 = (out ++ [s % 65536]) ++ yU (a.drop (k + 1)) (b.drop (k + 1)) (s / 65536) ∧ (k + 1 = max a.length b.length + 1 → s / 65536 = 0) := by
   rintro s rfl
   have hne : a.drop k ≠ [] ∨ b.drop k ≠ [] ∨ 0 < c := by
    rcases hlive with h | h | h
    ·left; intro e; have := List.drop_eq_nil_iff.1 e; omega
    ·right; left; intro e; have := List.drop_eq_nil_iff.1 e; omega
    ·exact .inr (.inr h)
   have hsum : (a.drop k).headD 0 + (b.drop k).headD 0 + c = c + x + y := by rw [QO, QO, hxx, hyy]; omega
   have h0 : k + 1 = max a.length b.length + 1 → c + x + y = c := by
    intro q
    have e1 : x = 0 := by rw [← hxx, List.getD_eq_getElem?_getD, List.getElem?_eq_none (by omega)]; rfl
    have e2 : y = 0 := by rw [← hyy, List.getD_eq_getElem?_getD, List.getElem?_eq_none (by omega)]; rfl
    omega
   refine ⟨?_, fun q => by have := h0 q; omega⟩
   rcases Zjn (a.drop k) (b.drop k) c hne with e | ⟨e1, e2, e3⟩
   ·rw [ho, e, hsum]
    simp [List.tail_drop]
   ·have hx0 : x = 0 := by rw [← hxx, ← QO, e1]; rfl
    have hy0 : y = 0 := by rw [← hyy, ← QO, e2]; rfl
    have d1 : a.drop (k + 1) = [] := by rw [← List.drop_drop, e1]; rfl
    have d2 : b.drop (k + 1) = [] := by rw [← List.drop_drop, e2]; rfl
    have z1 : (c + x + y) % 65536 = c := by omega
    have z2 : (c + x + y) / 65536 = 0 := by omega
    rw [ho, e3, d1, d2, z1, z2]; simp [yU]
  have fin : ∀ s : Int, s = c + x + y → s.tmod 65536 = s % 65536 ∧ IntKind.i64.wrap (s.tdiv 65536) = s / 65536 := by
   intro s hs
   refine ⟨Int.tmod_eq_emod_of_nonneg (by omega), ?_⟩
   rw [Int.tdiv_eq_ediv_of_nonneg (by omega), wr _ (by omega) (by omega)]
  obtain ⟨f1, f2⟩ := fin _ rfl
  obtain ⟨g1, g2⟩ := hnext _ rfl
  have wa : IntKind.i64.wrap (c + x) = c + x := wr _ (by omega) (by omega)
  have wb : IntKind.i64.wrap (c + x + y) = c + x + y := wr _ (by omega) (by omega)
  by_cases h1 : k < a.length
  ·obtain ⟨x', tl, a1, a2, a3, e0⟩ := el1 rfl a k h1
   obtain rfl : x' = x := by rw [← hxx, List.getD_eq_getElem?_getD, a1]; rfl
   repeat apply za
   refine pwN [(4, 12), (10, 18)] (jn2 h1 zp) ?_
   intros
   repeat apply za
   refine zi (by simp) ?_
   refine ze (za (zh ?_))
   (repeat apply za); refine pwn ?_; intros
   repeat apply za
   refine zi (by simp [h1]) ?_
   repeat apply za
   refine pwN [] (jn3 e0 h1 wa) ?_
   intros
   by_cases h2 : k < b.length
   ·obtain ⟨y', tl2, b1, b2, b3, e2⟩ := el1 rfl b k h2
    obtain rfl : y' = y := by rw [← hyy, List.getD_eq_getElem?_getD, b1]; rfl
    (repeat apply za); refine pwn ?_; intros
    repeat apply za
    refine zi (by simp [h2]) ?_
    repeat apply za
    refine pwN [] (jn3 e2 h2 wb) ?_
    intros
    repeat apply za
    refine pwN [] f1 ?_
    refine ⟨by omega, ?_⟩
    intros
    repeat apply za
    refine pwN [] f2 ?_
    intros
    (repeat apply za); refine pwn ?_; intros
    exact zm (k + 1, (c + x' + y') / 65536, out ++ [(c + x' + y') % 65536], v1 + 1) [] ⟨by omega, by dsimp only; omega, by simp [hol], g1, g2⟩ (by simp; omega) (by simp [wrN k (by omega)]) rfl (by simp)
   ·obtain rfl : y = 0 := by rw [← hyy, List.getD_eq_getElem?_getD, List.getElem?_eq_none (by omega)]; rfl
    rw [Int.add_zero] at f1 f2 g1 g2
    (repeat apply za); refine pwn ?_; intros
    repeat apply za
    refine zk (by simp; omega) ?_
    refine ze ?_
    repeat apply za
    refine pwN [] f1 ?_
    refine ⟨by omega, ?_⟩
    intros
    repeat apply za
    refine pwN [] f2 ?_
    intros
    (repeat apply za); refine pwn ?_; intros
    exact zm (k + 1, (c + x') / 65536, out ++ [(c + x') % 65536], v1 + 1) [] ⟨by omega, by dsimp only; omega, by simp [hol], g1, g2⟩ (by simp; omega) (by simp [wrN k (by omega)]) rfl (by simp)
  ·obtain rfl : x = 0 := by rw [← hxx, List.getD_eq_getElem?_getD, List.getElem?_eq_none (by omega)]; rfl
   by_cases h2 : k < b.length
   ·obtain ⟨y', tl2, b1, b2, b3, e2⟩ := el1 rfl b k h2
    obtain rfl : y' = y := by rw [← hyy, List.getD_eq_getElem?_getD, b1]; rfl
    have f1' : (c + y').tmod 65536 = (c + y') % 65536 := by rw [show c + y' = c + 0 + y' by omega]; exact f1
    have f2' : IntKind.i64.wrap ((c + y').tdiv 65536) = (c + y') / 65536 := by rw [show c + y' = c + 0 + y' by omega]; exact f2
    have wb' : IntKind.i64.wrap (c + y') = c + y' := wr _ (by omega) (by omega)
    rw [show c + 0 + y' = c + y' by omega] at g1 g2
    repeat apply za
    refine pwN [(4, 12), (10, 18)] (jn3 h1 h2 zp) ?_
    intros
    repeat apply za
    refine zi (by simp) ?_
    refine ze (za (zh ?_))
    (repeat apply za); refine pwn ?_; intros
    repeat apply za
    refine zk (by simp; omega) ?_
    refine ze ?_
    (repeat apply za); refine pwn ?_; intros
    repeat apply za
    refine zi (by simp [h2]) ?_
    repeat apply za
    refine pwN [] (jn3 e2 h2 wb') ?_
    intros
    repeat apply za
    refine pwN [] f1' ?_
    refine ⟨by omega, ?_⟩
    intros
    repeat apply za
    refine pwN [] f2' ?_
    intros
    (repeat apply za); refine pwn ?_; intros
    exact zm (k + 1, (c + y') / 65536, out ++ [(c + y') % 65536], v1 + 1) [] ⟨by omega, by dsimp only; omega, by simp [hol], g1, g2⟩ (by simp; omega) (by simp [wrN k (by omega)]) rfl (by simp)
   ·obtain rfl : y = 0 := by rw [← hyy, List.getD_eq_getElem?_getD, List.getElem?_eq_none (by omega)]; rfl
    have h3 : 0 < c := by omega
    obtain rfl : c = 1 := by omega
    rw [show (1 : Int) + 0 + 0 = 1 by rfl] at f1 f2 g1 g2
    repeat apply za
    refine pwN [(4, 12), (10, 18)] (jn2 h1 h2) ?_
    intros
    repeat apply za
    refine zi (by simp) ?_
    refine ze (za (zh ?_))
    (repeat apply za); refine pwn ?_; intros
    repeat apply za
    refine zk (by simp; omega) ?_
    refine ze ?_
    (repeat apply za); refine pwn ?_; intros
    repeat apply za
    refine zk (by simp; omega) ?_
    refine ze ?_
    repeat apply za
    refine pwN [] f1 ?_
    refine ⟨by omega, ?_⟩
    intros
    repeat apply za
    refine pwN [] f2 ?_
    intros
    (repeat apply za); refine pwn ?_; intros
    exact zm (k + 1, (1 : Int) / 65536, out ++ [(1 : Int) % 65536], v1 + 1) [] ⟨by omega, by dsimp only; omega, by simp [hol], g1, g2⟩ (by simp; omega) (by simp [wrN k (by omega)]) rfl (by simp)
 ·have h1 : ¬ k < a.length := by omega
  have h2 : ¬ k < b.length := by omega
  have h3 : ¬ 0 < c := by omega
  rw [List.drop_of_length_le (by omega), List.drop_of_length_le (by omega)] at ho
  simp only [yU, h3, if_false, List.append_nil] at ho
  repeat apply za
  refine pwN [(4, 12), (10, 18)] (jn3 h1 h2 h3) ?_
  intros
  repeat apply za
  refine zk (by simp) ?_
  refine zo ?_
  (repeat apply za); refine pwn ?_; intros
  refine zL 0 rfl ?_
  repeat apply za
  exact zb (zg hd (by simp; rfl) (by rw [ho]; simp [zj]))
open Go
theorem Zjp {l : List Int} (h : l = [] ∨ ∃ m x, l = m ++ [x] ∧ x ≠ 0) : uK l := by
 rcases h with rfl | ⟨m, x, rfl, hx⟩
 ·trivial
 ·induction m with
  | nil => exact hx
  | cons a m ih =>
   cases m with
   | nil => exact hx
   | cons b m => exact ih
theorem Zjq (l : List Int) (k : Nat) (h : ∀ d ∈ l.drop k, d = 0) : zN l = zN (l.take k) := by
 have hz : ∀ m : List Int, (∀ d ∈ m, d = 0) → zN m = 0 := by
  intro m; induction m with
  | nil => intro _; rfl
  | cons a m ih => intro h; simp only [zN]; rw [ih fun d hd => h d (by simp [hd]), h a (by simp)]; rfl
 conv => lhs; rw [← List.take_append_drop k l]
 rw [QM, hz _ h]; simp
set_option maxRecDepth 20000 in
theorem Zjr (l : List Int) (neg : Bool) (hl : jx l) (hn : l.length ≤ 1000) : Pure Tryz.prog 182 [.agg [L l, B neg]] (.agg [L (zU (zN l).toNat), B (if zU (zN l).toNat = [] then false else neg)]) := by
 refine pwe Tryz.func182 Tryz.ntmps182 Tryz.results182 fun S nx hd => ?_
 repeat apply za
 refine pwn ?_
 intro v0 v1
 have fl : ∀ k, k ≤ l.length → ((l.flatMap Enc.enc).take k) = ((l.take k).flatMap Enc.enc) := fun k _ => by
  have := vB (α := Int) Enc.enc 1 (fun _ => rfl) l k
  rw [Nat.mul_one] at this; exact this
 repeat apply za
 refine zX (nx := nx) (σ := Unit) (fun _ => True) (fun _ => [(1, .ptr nx v0 0), (2, .ptr (nx + 1) v1 0)]) (fun _ => S) (fun _ => [.cells v0 178 [L (zU (zN l).toNat), B neg], .cells v1 178 [.sc (.slice none 0 0), B false]]) ?_ ?_
 ·refine zh (zr (fun s : Nat => s ≤ l.length ∧ (∀ d ∈ l.drop s, d = 0)) (fun k => [(1, .ptr nx v0 0), (2, .ptr (nx + 1) v1 0)]) (fun k => [.cells v0 178 [L (l.take k), B neg], .cells v1 178 [.sc (.slice none 0 0), B false]]) (fun s => s) l.length [] (by simp) (by simp) (by simp) ?_)
  rintro k ⟨hk, ho⟩
  have htk : (l.take k).length = k := by simp; omega
  have stop : uK (l.take k) → L (l.take k) = L (zU (zN l).toNat) := by
   intro h
   rw [Zjq l k ho, ← Zjl (fun d hd => hl d (List.mem_of_mem_take hd)) h]
  match k, hk with
  | 0, _ =>
   repeat apply za
   refine pwN [(4, 7)] zp ?_
   intros
   repeat apply za
   refine zk rfl ?_
   refine zo (zy () [] trivial (by simp) rfl ?_)
   have := stop trivial
   simp only [List.take_zero] at this
   simp [this]
  | j + 1, hk =>
   obtain ⟨d, tl, a1, a2, a3, e0⟩ := el1 rfl l j (by omega)
   have hw : IntKind.i64.wrap ((j : Int) + 1 - 1) = (j : Int) := by rw [wr _ (by omega) (by omega)]; omega
   have hw' : IntKind.i64.wrap (j : Int) = (j : Int) := wr _ (by omega) (by omega)
   have hlast : ((l.take (j + 1)).flatMap Enc.enc).drop j = [I d] := by
    rw [a3, List.flatMap_append, List.drop_append_of_le_length (by rw [qy]; simp; omega), List.drop_of_length_le (by rw [qy]; simp; omega)]; rfl
   have hjj : (j : Int) < (j : Int) + 1 := by omega
   by_cases h0 : d = 0
   ·repeat apply za
    refine pwN [(4, 7)] (jn6 htk hw hw' hlast hjj h0) ?_
    intros
    repeat apply za
    refine zi (by simp) ?_
    refine ze (zh ?_)
    have hft : ((l.take (j + 1)).flatMap Enc.enc).take j = (l.take j).flatMap Enc.enc := by rw [← fl (j + 1) hk, List.take_take, fl _ (by omega)]; congr 2; omega
    have hjl : (l.take j).length = j := by simp; omega
    repeat apply za
    refine pwN [] (jn4 htk hw hw' hft) ?_
    intros
    exact zm j [] ⟨by omega, fun e he => by rw [a2] at he; rcases List.mem_cons.1 he with q | q; exact q.trans h0; exact ho e q⟩ (by omega) (by simp) rfl (by simp [hjl, hft])
   ·repeat apply za
    refine pwN [(4, 7)] (jn6 htk hw hw' hlast hjj h0) ?_
    intros
    repeat apply za
    refine zk (by simp) ?_
    have := stop (Zjp (.inr ⟨l.take j, d, a3, h0⟩))
    refine zo (zy () [] trivial (by simp) rfl (by rw [this]; rfl))
 ·intro _ _
  have hdl := vU (zN l).toNat
  generalize zU (zN l).toNat = m at hdl ⊢
  cases m with
  | nil =>
   (repeat apply za); refine pwn ?_; intros
   repeat apply za
   refine zi (by simp) ?_
   (repeat apply za); refine pwn ?_; intros
   (repeat apply za); refine pwn ?_; intros
   repeat apply za
   exact zb (zg hd (by simp; rfl) rfl)
  | cons a m =>
   have h1 : ¬ ((m.length : Int) + 1 = 0) := by omega
   repeat apply za
   refine pwN [] h1 ?_
   intros
   repeat apply za
   refine zk (by simp) ?_
   refine ze ?_
   (repeat apply za); refine pwn ?_; intros
   repeat apply za
   exact zb (zg hd (by simp; rfl) rfl)
def wK : List Int → List Int → Int
 | x :: a, y :: b => if x < y then -1 else if y < x then 1 else wK a b
 | _, _ => 0
def vV (a b : List Int) : Int := if a.length < b.length then -1 else if b.length < a.length then 1 else wK a.reverse b.reverse
set_option maxRecDepth 20000 in
theorem Zjs (a b : List Int) (ha : a.length ≤ 1000) (hb : b.length ≤ 1000) : Pure Tryz.prog 181 [L a, L b] (I (vV a b)) := by
 refine pwe Tryz.func181 Tryz.ntmps181 Tryz.results181 fun S nx hd => ?_
 (repeat apply za); refine pwn ?_; intros
 by_cases h1 : a.length = b.length
 case neg =>
  have h1' : ¬ ((a.length : Int) = b.length) := by omega
  repeat apply za
  refine pwN [] h1' ?_
  intros
  repeat apply za
  refine zi (by simp [h1']) ?_
  by_cases h2 : a.length < b.length
  ·(repeat apply za); refine pwn ?_; intros
   repeat apply za
   refine zi (by simp [h2]) ?_
   (repeat apply za); refine pwn ?_; intros
   repeat apply za
   exact zb (zg hd (by simp; rfl) (by simp [vV, h2, zj]))
  ·(repeat apply za); refine pwn ?_; intros
   repeat apply za
   refine zk (by simp; omega) ?_
   refine ze ?_
   (repeat apply za); refine pwn ?_; intros
   repeat apply za
   exact zb (zg hd (by simp; rfl) (by simp [vV, h2, show b.length < a.length by omega, zj]))
 have hres : vV a b = wK a.reverse b.reverse := by simp [vV, h1]
 rw [hres]
 have h1' : ((a.length : Int) = b.length) := by omega
 repeat apply za
 refine pwN [] h1' ?_
 intros
 repeat apply za
 refine zk (by simp [h1']) ?_
 refine ze ?_
 (repeat apply za); refine pwn ?_; intros
 repeat apply za
 have w0 : IntKind.i64.wrap ((a.length : Int) - 1) = (a.length : Int) - 1 := wr _ (by omega) (by omega)
 refine zh (zr (fun m : Nat => m ≤ a.length ∧ wK a.reverse b.reverse = wK (a.take m).reverse (b.take m).reverse) (fun m => [(0, L a), (1, L b), (5, I ((m : Int) - 1))]) (fun _ => []) (fun m => m) a.length [] ⟨Nat.le_refl _, by rw [List.take_length, List.take_of_length_le (by omega)]⟩ (by simp [w0]) (by simp) ?_)
 rintro m ⟨hm, ho⟩
 match m, hm with
 | 0, _ =>
  (repeat apply za); refine pwn ?_; intros
  repeat apply za
  refine zk (by simp) ?_
  refine zo ?_
  (repeat apply za); refine pwn ?_; intros
  repeat apply za
  exact zb (zg hd (by simp; rfl) (by rw [ho]; simp [wK, zj]))
 | j + 1, hm =>
  have s1 : ((j + 1 : Nat) : Int) - 1 = (j : Int) := by omega
  obtain ⟨x, tl, a1, a2, a3, e0⟩ := el1 rfl a j (by omega)
  obtain ⟨y, tl2, b1, b2, b3, e2⟩ := el1 rfl b j (by omega)
  rw [a3, b3] at ho
  simp only [List.reverse_append, List.reverse_cons, List.reverse_nil, List.nil_append, List.cons_append, wK] at ho
  have g1 : j < a.length := by omega
  have g2 : j < b.length := by omega
  have s2 : (j : Int) + 1 - 1 = (j : Int) := by omega
  repeat apply za
  refine pwN [] (jn2 s1 s2) ?_
  intros
  repeat apply za
  refine zi (by simp) ?_
  refine ze (za (zh ?_))
  repeat apply za
  refine pwY none (Row.pures [0, 1, 2, 3, 4, 5, 6, 7, 8] .done) mixed (jn6 s1 s2 g1 g2 e0 e2) ?_
  intros
  by_cases h3 : x < y
  ·repeat apply za
   refine zi (by simp [h3]) ?_
   (repeat apply za); refine pwn ?_; intros
   repeat apply za
   exact zb (zg hd (by simp; rfl) (by rw [ho, if_pos h3]; rfl))
  ·repeat apply za
   refine zk (by simp; omega) ?_
   refine ze ?_
   repeat apply za
   refine pwY none (Row.pures [0, 1, 2, 3, 4, 5, 6, 7, 8] .done) mixed (jn6 s1 s2 g1 g2 e0 e2) ?_
   intros
   by_cases h4 : y < x
   ·repeat apply za
    refine zi (by simp [h4]) ?_
    (repeat apply za); refine pwn ?_; intros
    repeat apply za
    exact zb (zg hd (by simp; rfl) (by rw [ho, if_neg h3, if_pos h4]; rfl))
   ·repeat apply za
    refine zk (by simp; omega) ?_
    refine ze ?_
    have w1 : IntKind.i64.wrap ((j : Int) - 1) = (j : Int) - 1 := wr _ (by omega) (by omega)
    repeat apply za
    refine pwN [] (jn3 s1 s2 w1) ?_
    intros
    exact zm j [] ⟨by omega, by rw [ho, if_neg h3, if_neg h4]⟩ (by omega) (by simp) rfl (by simp)
theorem XY (l : List Int) (h : jx l) (k : Nat) : 0 ≤ zN (l.take k) ∧ zN (l.take k) < 65536 ^ k := by
 have hd : jx (l.take k) := fun d hd => h d (List.mem_of_mem_take hd)
 refine ⟨XX hd, ?_⟩
 have main : ∀ (k : Nat) (m : List Int), jx m → m.length ≤ k → zN m < 65536 ^ k := by
  intro k
  induction k with
  | zero => intro m _ hm; simp at hm; subst hm; simp [zN]
  | succ k ih =>
   intro m hm hl
   cases m with
   | nil => simp only [zN]; exact Int.pow_pos (by decide)
   | cons d m =>
    have h1 := hm d (by simp)
    have h2 := ih m (fun x hx => hm x (by simp [hx])) (by simpa using hl)
    simp only [zN, Int.pow_succ]; omega
 exact main k _ hd (by simp; omega)
theorem Zjt : ∀ (m : Nat) (a b : List Int), jx a → jx b → a.length = m → b.length = m → zN a ≤ zN b → wK a.reverse b.reverse ≤ 0 := by
 intro m
 induction m with
 | zero => intro a b _ _ ha hb _; rw [List.eq_nil_of_length_eq_zero ha]; simp [wK]
 | succ m ih =>
  intro a b ha hb hal hbl hv
  have hane : a ≠ [] := by intro e; subst e; cases hal
  have hbne : b ≠ [] := by intro e; subst e; cases hbl
  obtain ⟨a', x, rfl⟩ : ∃ a' x, a = a' ++ [x] := ⟨a.dropLast, a.getLast hane, (List.dropLast_concat_getLast hane).symm⟩
  obtain ⟨b', y, rfl⟩ : ∃ b' y, b = b' ++ [y] := ⟨b.dropLast, b.getLast hbne, (List.dropLast_concat_getLast hbne).symm⟩
  have hal' : a'.length = m := by simpa using hal
  have hbl' : b'.length = m := by simpa using hbl
  have ha' : jx a' := fun d hd => ha d (by simp [hd])
  have hb' : jx b' := fun d hd => hb d (by simp [hd])
  have p1 := XY (b' ++ [y]) hb m
  have p2 := XY (a' ++ [x]) ha m
  rw [List.take_append_of_le_length (by omega), List.take_of_length_le (by omega)] at p1 p2
  rw [QM, QM, hal', hbl'] at hv
  simp only [zN, Int.mul_zero, Int.add_zero] at hv
  simp only [List.reverse_append, List.reverse_cons, List.reverse_nil, List.nil_append, List.cons_append, wK]
  by_cases h1 : x < y
  ·rw [if_pos h1]; omega
  ·rw [if_neg h1]
   by_cases h2 : y < x
   ·exfalso
    have : (65536 : Int) ^ m * x ≥ 65536 ^ m * (y + 1) := Int.mul_le_mul_of_nonneg_left (by omega) (by omega)
    rw [Int.mul_add] at this
    omega
   ·rw [if_neg h2]
    have hxy : x = y := by omega
    subst hxy
    exact ih a' b' ha' hb' hal' hbl' (by omega)
theorem Zju {a b : Nat} (h : a ≤ b) : (zU a).length ≤ (zU b).length := by
 induction b using Nat.strongRecOn generalizing a with
 | _ b ih =>
  by_cases h0 : a = 0
  ·subst h0; rw [vS]; simp
  ·rw [vT h0, vT (show b ≠ 0 by omega)]
   have := ih (b / 65536) (by omega) (a := a / 65536) (Nat.div_le_div_right h)
   simpa using this
theorem Zjv {a b : Nat} (h : a ≤ b) : vV (zU a) (zU b) ≤ 0 := by
 have hl := Zju h
 unfold vV
 split
 ·omega
 ·rw [if_neg (by omega)]
  have h1 := vU a
  have h2 := vU b
  exact Zjt _ _ _ h1.1 h2.1 rfl (by omega) (by rw [h1.2.1, h2.2.1]; omega)
theorem QP {n : Nat} (h : n ≤ 18446744073709551615) : (zU n).length ≤ 4 := (vU n).2.2.2 (by rw [show (65536 : Nat) ^ 4 = 18446744073709551616 from by decide]; omega)
set_option maxRecDepth 20000 in
theorem Zjw (a b : Nat) (ha : a ≤ 9223372036854775807) (hb : b ≤ 9223372036854775807) : Pure Tryz.prog 136 [.agg [L (zU a), B false], .agg [L (zU b), B false]] (.agg [L (zU (a + b)), B false]) := by
 have h1 := vU a
 have h2 := vU b
 have l1 := QP (n := a) (by omega)
 have l2 := QP (n := b) (by omega)
 obtain ⟨p1, p2, p3⟩ := Zjm (zU a) (zU b) 0 h1.1 h2.1 (by omega) (by omega)
 have hv : (zN (yU (zU a) (zU b) 0)).toNat = a + b := by rw [p2, h1.2.1, h2.2.1]; omega
 have hpl := Zjo (zU a) (zU b) h1.1 h2.1 (by omega) (by omega)
 have htr := Zjr (yU (zU a) (zU b) 0) false p1 (by omega)
 rw [hv, ite_self] at htr
 generalize zU a = x at *
 generalize zU b = y at *
 generalize yU x y 0 = z at *
 refine pwe Tryz.func136 Tryz.ntmps136 Tryz.results136 fun S nx hd => ?_
 repeat apply za
 refine pwn ?_
 intro v0 v1 v2
 (repeat apply za); refine pwn ?_; intros
 repeat apply za
 refine zi (by simp) ?_
 repeat apply za
 refine pwY (some [nx, nx + 1]) (Row.pures [0, 1, 2, 3, 4, 5, 6, 7, 8] (.alt 9 (.done) .stop)) mixed trivial ?_
 refine pwP (hpl) trivial ?_
 refine pwP (htr) trivial ?_
 intros
 repeat apply za
 exact zb (zg hd (by simp; rfl) rfl)
set_option maxRecDepth 20000 in
theorem Zjx (n : Nat) (hn : n ≤ 9223372036854775807) : Pure Tryz.prog 135 [.agg [L (zU n), B false]] (.tup [I n, B true]) := by
 have h1 := vU n
 have l1 := QP (n := n) (by omega)
 have hsz := Zjv (a := n) (b := 9223372036854775807) hn
 have hs := Zjs (zU n) (zU 9223372036854775807) (by omega) (by have := QP (n := 9223372036854775807) (by omega); omega)
 have o1 := QN 9223372036854775807 (by unfold I64; omega)
 have o2 := QN (-9223372036854775808) (by unfold I64; omega)
 rw [show ((9223372036854775807 : Int)).natAbs = 9223372036854775807 from rfl, show decide ((9223372036854775807 : Int) < 0) = false from rfl] at o1
 rw [show decide ((-9223372036854775808 : Int) < 0) = true from rfl] at o2
 generalize zU (-9223372036854775808 : Int).natAbs = lo at *
 generalize zU 9223372036854775807 = hi at *
 generalize hdn : zU n = l at *
 have hg : ¬ 0 < vV l hi := by omega
 refine pwe Tryz.func135 Tryz.ntmps135 Tryz.results135 fun S nx hd => ?_
 repeat apply za
 refine pwn ?_
 intro v0
 repeat apply za
 refine pwn ?_
 refine pwc o1 ?_
 intro v1
 intros
 repeat apply za
 refine pwn ?_
 refine pwc o2 ?_
 intro v2
 intros
 repeat apply za
 refine pwN [(3, 13)] trivial ?_
 refine pwC [(3, 13)] hs hg ?_
 intros
 repeat apply za
 refine zk (by simp) ?_
 refine ze ?_
 repeat apply za
 refine pwN [(2, 23)] zp ?_
 intros
 repeat apply za
 refine zk (by simp) ?_
 refine ze ?_
 (repeat apply za); refine pwn ?_; intros
 have w0 : IntKind.i64.wrap ((l.length : Int) - 1) = (l.length : Int) - 1 := wr _ (by omega) (by omega)
 repeat apply za
 refine pwN [] w0 ?_
 intros
 repeat apply za
 refine zh (zr (fun m : Nat => m ≤ l.length) (fun m => [(1, .ptr nx v0 0), (6, I (zN (l.drop m))), (7, I ((m : Int) - 1))]) (fun _ => [.cells v0 178 [L l, B false]]) (fun m => m) l.length [_, _] (Nat.le_refl _) (by simp [zN]) rfl ?_)
 rintro m hm
 match m, hm with
 | 0, _ =>
  (repeat apply za); refine pwn ?_; intros
  repeat apply za
  refine zk (by simp) ?_
  refine zo ?_
  (repeat apply za); refine pwn ?_; intros
  repeat apply za
  exact zb (zg hd (by simp; rfl) (by simp [h1.2.1, zj]))
 | j + 1, hm =>
  have s1 : ((j + 1 : Nat) : Int) - 1 = (j : Int) := by omega
  have s2 : (j : Int) + 1 - 1 = (j : Int) := by omega
  obtain ⟨x, tl, a1, a2, a3, e0⟩ := el1 rfl l j (by omega)
  have g1 : j < l.length := by omega
  have hx := h1.1 x (List.mem_of_getElem? a1)
  have hv0 : 0 ≤ zN (l.drop (j + 1)) := XX fun d hd => h1.1 d (List.mem_of_mem_drop hd)
  have hvj : zN (l.drop j) = x + 65536 * zN (l.drop (j + 1)) := by rw [a2]; rfl
  have hvle : zN (l.drop j) ≤ n := by
   have e := QM (l.take j) (l.drop j)
   rw [List.take_append_drop, h1.2.1] at e
   have t0 := (XY l h1.1 j).1
   have hp : (1 : Int) ≤ 65536 ^ (l.take j).length := by have := Int.pow_pos (n := 65536) (m := (l.take j).length) (by decide); omega
   have hd0 : 0 ≤ zN (l.drop j) := by omega
   have := Int.mul_le_mul_of_nonneg_right hp hd0
   rw [Int.one_mul] at this
   omega
  have w1 : IntKind.i64.wrap (zN (l.drop (j + 1)) * 65536) = zN (l.drop (j + 1)) * 65536 := wr _ (by omega) (by omega)
  have w2 : IntKind.i64.wrap (zN (l.drop (j + 1)) * 65536 + x) = zN (l.drop j) := by rw [wr _ (by omega) (by omega)]; omega
  have w3 : IntKind.i64.wrap ((j : Int) - 1) = (j : Int) - 1 := wr _ (by omega) (by omega)
  repeat apply za
  refine pwN [] (jn2 s1 s2) ?_
  intros
  repeat apply za
  refine zi (by simp) ?_
  refine ze (za (zh ?_))
  repeat apply za
  refine pwN [] w1 ?_
  intros
  (repeat apply za); refine pwn ?_; intros
  repeat apply za
  refine zk (by simp) ?_
  repeat apply za
  refine pwN [] (jn5 s1 s2 g1 e0 w2) ?_
  intros
  repeat apply za
  refine pwN [] (jn3 s1 s2 w3) ?_
  intros
  exact zm j [] (by omega) (by omega) (by simp) rfl (by simp)
set_option maxRecDepth 20000 in
theorem Zjy (a b : Int) (ha : 0 ≤ a) (hb : 0 ≤ b) (hab : a + b ≤ 9223372036854775807) : Pure Tryz.prog 100 [I a, I b] (I (a + b)) := by
 obtain ⟨x, rfl⟩ := Int.eq_ofNat_of_zero_le ha
 obtain ⟨y, rfl⟩ := Int.eq_ofNat_of_zero_le hb
 have o1 := QN (x : Int) (by unfold I64; omega)
 have o2 := QN (y : Int) (by unfold I64; omega)
 rw [Int.natAbs_natCast, decide_eq_false (by omega)] at o1 o2
 have h3 := Zjw x y (by omega) (by omega)
 have h4 := Zjx (x + y) (by omega)
 rw [show ((x + y : Nat) : Int) = (x : Int) + (y : Int) by omega] at h4
 refine pwe Tryz.func100 Tryz.ntmps100 Tryz.results100 fun S nx hd => ?_
 (repeat apply za); refine pwn ?_; intros
 repeat apply za
 refine pwn ?_
 refine pwc o1 ?_
 refine pwc o2 ?_
 refine pwc h3 ?_
 refine pwc h4 ?_
 intros
 (repeat apply za); refine pwn ?_; intros
 repeat apply za
 refine zi (by simp) ?_
 (repeat apply za); refine pwn ?_; intros
 repeat apply za
 exact zb (zg hd (by simp; rfl) rfl)
open Go
set_option maxRecDepth 20000 in
theorem Zjz (c : Cust) (ns : List Int) (hn : ns.length ≤ 1048576) : Pure Tryz.prog 117 [.agg (zv c), L ns] (I (Zz c ns)) := by
 refine pwe Tryz.func117 Tryz.ntmps117 Tryz.results117 fun S nx hd => ?_
 repeat apply za
 refine pwn ?_
 intro v0
 (repeat apply za); refine pwn ?_; intros
 (repeat apply za); refine pwn ?_; intros
 repeat apply za
 refine zh (zr (fun s : Nat => s ≤ ns.length) (fun k => [(1, L ns), (2, .ptr nx v0 0), (5, I (W (ns.take k).sum)), (6, I k)]) (fun _ => [.cells v0 41 (zv c)]) (fun s => ns.length - s) 0 [] (by simp) (by simp) (by simp) ?_)
 rintro k hk
 (repeat apply za); refine pwn ?_; intros
 repeat apply za
 refine zn rfl (fun hc => ?_) (fun hc => ?_)
 ·simp at hc
  obtain ⟨z, tl, a1, a2, a3, e0⟩ := el1 rfl ns k hc
  refine ze (za (zh ?_))
  have hw : W (W (ns.take k).sum + z) = W (ns.take (k + 1)).sum := by rw [a3, Yu, xS]
  repeat apply za
  refine pwN [] (jn2 e0 hc) ?_
  intros
  (repeat apply za); refine pwn ?_; intros
  exact zm (k + 1) [] hc (by omega) (by simp [wrN k (by omega)]; exact hw) rfl (by simp)
 ·simp at hc
  obtain rfl : k = ns.length := by omega
  rw [List.take_length]
  refine zo ?_
  (repeat apply za); refine pwn ?_; intros
  repeat apply za
  exact zb (zg hd (by simp; rfl) rfl)
theorem XZ {q : List Int} (h : ∀ z ∈ q, 0 ≤ z ∧ z ≤ 2147483648) : ∀ k : Nat, k ≤ q.length → 0 ≤ (q.take k).sum ∧ (q.take k).sum ≤ 2147483648 * k := by
 intro k
 induction k with
 | zero => intro _; simp
 | succ k ih =>
  intro hk
  have := ih (by omega)
  have hz := h q[k] (List.getElem_mem (by omega))
  rw [List.take_succ_eq_append_getElem (by omega), Yu]
  omega
set_option maxRecDepth 20000 in
theorem ZbR (c : Cust) (q : List Int) (hc : CustFits c) (hq : q.length ≤ 1048576) : Pure Tryz.prog 101 [.agg (zv c), L q] (.tup [L (yd c q).1, I (yd c q).2]) := by
 obtain ⟨hr, hsz, hst⟩ := hc
 refine pwe Tryz.func101 Tryz.ntmps101 Tryz.results101 fun S nx hd => ?_
 repeat apply za
 refine pwn ?_
 intro v0
 (repeat apply za); refine pwn ?_; intros
 repeat apply za
 refine zX (nx := nx) (σ := Nat) (fun v0 => q.any qX = false) (fun v0 => [(1, L q), (2, .ptr nx v0 0)]) (fun _ => S) (fun v0 => [.cells v0 41 (zv c)]) ?_ ?_
 ·refine zh (zr (fun s : Nat => s ≤ q.length ∧ (q.take s).any qX = false) (fun k => [(1, L q), (2, .ptr nx v0 0), (6, I k)]) (fun _ => [.cells v0 41 (zv c)]) (fun s => q.length - s) 0 [] (by simp) (by simp) (by simp) ?_)
  rintro k ⟨hk, ho⟩
  (repeat apply za); refine pwn ?_; intros
  repeat apply za
  refine zn rfl (fun hc => ?_) (fun hc => ?_)
  ·simp at hc
   obtain ⟨z, tl, a1, a2, a3, e0⟩ := el1 rfl q k hc
   have bad : qX z = true → yd c q = ([], 1) := fun h => by
    have : q.any qX = true := by rw [List.any_eq_true]; exact ⟨z, List.mem_of_getElem? a1, h⟩
    simp [yd, this]
   refine ze (za (zh ?_))
   by_cases h1 : z < 0
   ·repeat apply za
    refine pwN [(5, 23)] (jn4 e0 hc h1 zp) ?_
    intros
    repeat apply za
    refine zi rfl ?_
    (repeat apply za); refine pwn ?_; intros
    refine jP 4 rfl ?_
    repeat apply za
    exact zb (zg hd (by simp; rfl) (by rw [bad (by simp [qX, h1])]; rfl))
   by_cases h2 : (2147483648 : Int) < z
   ·repeat apply za
    refine pwN [(5, 23)] (jn4 e0 hc h1 h2) ?_
    intros
    repeat apply za
    refine zi rfl ?_
    (repeat apply za); refine pwn ?_; intros
    refine jP 4 rfl ?_
    repeat apply za
    exact zb (zg hd (by simp; rfl) (by rw [bad (by simp [qX, h2])]; rfl))
   repeat apply za
   refine pwN [(5, 23)] (jn4 e0 hc h1 h2) ?_
   intros
   repeat apply za
   refine zk rfl ?_
   refine ze ?_
   (repeat apply za); refine pwn ?_; intros
   exact zm (k + 1) [] ⟨hc, by rw [a3, List.any_append, ho]; simp [qX]; omega⟩ (by omega) (by simp [wrN k (by omega)]) rfl (by simp)
  ·simp at hc
   obtain rfl : k = q.length := by omega
   rw [List.take_length] at ho
   exact zo (zy v0 [] ho (by simp) rfl (by simp))
 ·intro v0 hb
  have hq0 : ∀ z ∈ q, 0 ≤ z ∧ z ≤ 2147483648 := by
   intro z hz
   rw [List.any_eq_false] at hb
   have := hb z hz
   simp [qX] at this
   omega
  have hres : yd c q = match zR c.size c.rate c.start q with | none => ([], 8) | some l => (l, 0) := by unfold yd; rw [hb]; rfl
  (repeat apply za); refine pwn ?_; intros
  refine yK 7 3 1 rfl fun v1 => ?_
  (repeat apply za); refine pwn ?_; intros
  repeat apply za
  refine zh (zr (fun s : Nat × List Int × Nat => s.1 ≤ q.length ∧ s.2.1.length = s.1 ∧ (0 ≤ c.start + (q.take s.1).sum - c.rate * s.1 ∧ c.start + (q.take s.1).sum - c.rate * s.1 ≤ 2147483648) ∧ zR c.size c.rate c.start q = (zR c.size c.rate (c.start + (q.take s.1).sum - c.rate * s.1) (q.drop s.1)).map (s.2.1 ++ ·))
   (fun (k, out, v1) => [(1, L q), (2, .ptr nx v0 0), (7, .sl (nx + 1) v1 1 0 out.length), (8, I k)])
   (fun (k, out, v1) => [.cells v0 41 (zv c), .cells v1 3 (out.flatMap Enc.enc)]) (fun s => q.length - s.1) (0, [], v1) [] ?_ (by simp) (by simp) ?_)
  ·refine ⟨by simp, by simp, by simpa using hst, ?_⟩
   simp
  rintro ⟨k, out, v1⟩ ⟨hk, hol, hth, ho⟩
  simp only at hk hol hth ho ⊢
  (repeat apply za); refine pwn ?_; intros
  repeat apply za
  refine zn rfl (fun hc => ?_) (fun hc => ?_)
  ·simp at hc
   obtain ⟨z, tl, a1, a2, a3, e0⟩ := el1 rfl q k hc
   have hz := hq0 z (List.mem_of_getElem? a1)
   have hst1 := XZ hq0 k hk
   have hst2 := XZ hq0 (k + 1) hc
   have hsum : (q.take (k + 1)).sum = (q.take k).sum + z := by rw [a3, Yu]
   have hrk : 0 ≤ c.rate * k ∧ c.rate * k ≤ 2147483648 * 1048576 := ⟨Int.mul_nonneg hr.1 (by omega), Int.mul_le_mul hr.2 (by omega) (by omega) (by omega)⟩
   rw [a2] at ho
   refine ze (za (zh ?_))
   (repeat apply za); refine pwn ?_; intros
   (repeat apply za); refine pwn ?_; intros
   repeat apply za
   refine zX (nx := nx) (σ := Nat) (fun _ => True) (fun v1 => [(1, L q), (2, .ptr nx v0 0), (7, .sl (nx + 1) v1 1 0 out.length), (8, I k), (9, I (c.start + (q.take (k + 1)).sum))]) (fun _ => S) (fun v1 => [.cells v0 41 (zv c), .cells v1 3 (out.flatMap Enc.enc)]) ?_ ?_
   ·refine zh (zr (fun s : Nat => s ≤ k + 1) (fun j => [(1, L q), (2, .ptr nx v0 0), (7, .sl (nx + 1) v1 1 0 out.length), (8, I k), (9, I (c.start + (q.take j).sum)), (10, I j)]) (fun _ => [.cells v0 41 (zv c), .cells v1 3 (out.flatMap Enc.enc)]) (fun s => k + 1 - s) 0 [] (by simp) (by simp) (by simp) ?_)
    rintro j hj
    (repeat apply za); refine pwn ?_; intros
    repeat apply za
    refine zn rfl (fun hc2 => ?_) (fun hc2 => ?_)
    ·simp at hc2
     obtain ⟨y, tl2, b1, b2, b3, e2⟩ := el1 rfl q j (by omega)
     have hsj := XZ hq0 (j + 1) (by omega)
     have hjq : j < q.length := by omega
     have hsum2 : c.start + (q.take j).sum + y = c.start + (q.take (j + 1)).sum := by rw [b3, Yu]; omega
     have w1 : IntKind.i64.wrap (c.start + (q.take (j + 1)).sum) = c.start + (q.take (j + 1)).sum := wr _ (by omega) (by omega)
     refine ze (za (zh ?_))
     repeat apply za
     refine pwN [] (jn4 e2 hjq hsum2 w1) ?_
     intros
     (repeat apply za); refine pwn ?_; intros
     exact zm (j + 1) [] (by omega) (by omega) (by simp [wrN j (by omega)]) rfl (by simp)
    ·simp at hc2
     obtain rfl : j = k + 1 := by omega
     exact zo (zy v1 [] trivial (by simp) rfl (by simp))
   ·intro v1 _
    have w1 : IntKind.i64.wrap (c.rate * (k : Int)) = c.rate * (k : Int) := wr _ (by omega) (by omega)
    have hbe : c.start + (q.take (k + 1)).sum - c.rate * (k : Int) = (c.start + (q.take k).sum - c.rate * (k : Int)) + z := by omega
    generalize hth' : c.start + (q.take k).sum - c.rate * (k : Int) = there at hth ho hbe
    have w2 : IntKind.i64.wrap (there + z) = there + z := wr _ (by omega) (by omega)
    have w3 : IntKind.i64.wrap (there + z - c.rate) = there + z - c.rate := wr _ (by omega) (by omega)
    have bad : (c.size < there + z ∨ there + z < c.rate) → yd c q = ([], 8) := fun h => by
     rw [hres, ho]; simp only [zR, if_pos h, Option.map_none]
    repeat apply za
    refine pwN [] (jn3 w1 hbe w2) ?_
    intros
    by_cases h1 : c.size < there + z
    ·repeat apply za
     refine pwN [(4, 59)] (jn2 h1 zp) ?_
     intros
     repeat apply za
     refine zi rfl ?_
     (repeat apply za); refine pwn ?_; intros
     refine jP 4 rfl ?_
     repeat apply za
     exact zb (zg hd (by simp; rfl) (by rw [bad (.inl h1)]; rfl))
    by_cases h2 : there + z - c.rate < 0
    ·repeat apply za
     refine pwN [(4, 59)] (jn3 h1 h2 w3) ?_
     intros
     repeat apply za
     refine zi rfl ?_
     (repeat apply za); refine pwn ?_; intros
     refine jP 4 rfl ?_
     repeat apply za
     exact zb (zg hd (by simp; rfl) (by rw [bad (.inr (by omega))]; rfl))
    repeat apply za
    refine pwN [(4, 59)] (jn3 h1 h2 w3) ?_
    intros
    repeat apply za
    refine zk rfl ?_
    refine ze ?_
    repeat apply za
    refine pwN [] w3 ?_
    refine ⟨by omega, ?_⟩
    intros
    (repeat apply za); refine pwn ?_; intros
    have hnext : c.start + (q.take (k + 1)).sum - c.rate * ((k + 1 : Nat) : Int) = there + z - c.rate := by
     have : c.rate * ((k + 1 : Nat) : Int) = c.rate * (k : Int) + c.rate := by rw [show ((k + 1 : Nat) : Int) = (k : Int) + 1 by omega, Int.mul_add, Int.mul_one]
     omega
    exact zm (k + 1, out ++ [there + z - c.rate], v1 + 1) [] ⟨hc, by simp [hol], by dsimp only; rw [hnext]; omega, by dsimp only; rw [hnext]; exact ZbL ho h1 (by omega)⟩ (by simp; omega) (by simp [wrN k (by omega)]) rfl (by simp)
  ·simp at hc
   obtain rfl : k = q.length := by omega
   rw [List.drop_length] at ho
   simp only [zR, Option.map_some, List.append_nil] at ho
   refine zo ?_
   (repeat apply za); refine pwn ?_; intros
   refine zL 1 rfl ?_
   repeat apply za
   exact zb (zg hd (by simp; rfl) (by rw [hres, ho]; simp [zj]))
theorem X0 {size rate : Int} : ∀ {q : List Int} {there : Int} {l : List Int}, zR size rate there q = some l → l.length = q.length := by
 intro q
 induction q with
 | nil => intro there l h; simp only [zR, Option.some.injEq] at h; subst h; rfl
 | cons z q ih =>
  intro there l h
  simp only [zR] at h
  split at h
  ·cases h
  ·obtain ⟨l2, h2, rfl⟩ := Option.map_eq_some_iff.1 h
   simp [ih h2]
theorem ZjA {size rate : Int} : ∀ {q : List Int} {there : Int} {l : List Int}, zR size rate there q = some l → ∀ n ∈ l, n + rate ≤ size ∧ 0 ≤ n := by
 intro q
 induction q with
 | nil => intro there l h; simp only [zR, Option.some.injEq] at h; subst h; intro n hn; cases hn
 | cons z q ih =>
  intro there l h
  simp only [zR] at h
  split at h
  ·cases h
  ·obtain ⟨l2, h2, rfl⟩ := Option.map_eq_some_iff.1 h
   intro n hn
   rcases List.mem_cons.1 hn with rfl | hn
   ·omega
   ·exact ih h2 n hn
set_option maxRecDepth 20000 in
theorem X1 (c : Cust) (q : List Int) (hc : CustFits c) (hq : q.length ≤ 1048576) : Pure Tryz.prog 64 [.agg (zv c), L q] (I (qB c q)) := by
 have hni := ZbR c q hc hq
 obtain ⟨hr, hsz, hst⟩ := hc
 refine pwe Tryz.func64 Tryz.ntmps64 Tryz.results64 fun S nx hd => ?_
 repeat apply za
 refine pwn ?_
 intro v0
 repeat apply za
 refine pwn ?_
 refine pwc hni ?_
 intros
 by_cases he : (yd c q).2 = 0
 case neg =>
  repeat apply za
  refine pwN [] he ?_
  intros
  repeat apply za
  refine zi (by simp [he]) ?_
  (repeat apply za); refine pwn ?_; intros
  repeat apply za
  exact zb (zg hd (by simp; rfl) (by simp [qB, he, zj]))
 repeat apply za
 refine pwN [] he ?_
 intros
 repeat apply za
 refine zk (by simp [he]) ?_
 refine ze ?_
 have hres : qB c q = if c.rule ≠ 1 then 0 else if qv c.rate c.size q (yd c q).1 then 9 else 0 := by simp [qB, he]
 obtain ⟨l, hl, hl1⟩ : ∃ l, zR c.size c.rate c.start q = some l ∧ (yd c q).1 = l := by
  unfold yd at he ⊢
  split at he
  ·simp at he
  ·rename_i hb
   cases hrn : zR c.size c.rate c.start q with
   | none => simp [hrn] at he
   | some l => exact ⟨l, rfl, by simp [hb]⟩
 rw [hl1] at hres ⊢
 have hll := X0 hl
 (repeat apply za); refine pwn ?_; intros
 repeat apply za
 refine zh (zr (fun s : Nat => s ≤ q.length ∧ (c.rule = 1 → qv c.rate c.size q l = qv c.rate c.size (q.drop s) (l.drop s)))
  (fun k => [(1, L q), (2, .ptr nx v0 0), (5, L l), (7, I k)]) (fun k => [.cells v0 41 (zv c)]) (fun s => q.length - s) 0 [] ⟨by simp, by simp⟩ (by simp) (by simp) ?_)
 rintro k ⟨hk, ho⟩
 (repeat apply za); refine pwn ?_; intros
 repeat apply za
 refine zn rfl (fun hc => ?_) (fun hc => ?_)
 ·simp at hc
  obtain ⟨z, tl, a1, a2, a3, e0⟩ := el1 rfl q k hc
  obtain ⟨n, tl2, b1, b2, b3, e2⟩ := el1 rfl l k (by omega)
  have hkl : k < l.length := by omega
  have hnl := ZjA hl n (List.mem_of_getElem? b1)
  rw [a2, b2] at ho
  simp only [qv] at ho
  have w1 : IntKind.i64.wrap (n + c.rate) = n + c.rate := wr _ (by omega) (by omega)
  refine ze (za (zh ?_))
  by_cases h0 : c.rule = 1
  ·have ho := ho h0
   by_cases h1 : 0 < z
   ·by_cases h2 : n + c.rate = c.size
    ·have w4 : IntKind.i64.wrap c.size = c.size := wr _ (by omega) (by omega)
     repeat apply za
     refine pwY (some [nx]) (Row.pures [0, 1, 2, 3, 4, 5, 6, 7, 8, 9, 10, 11, 12, 13, 14, 15, 16, 17, 18, 19, 20, 21] .done) mixed (jn6 e0 e2 hc hkl h0 (jn3 h1 h2 w4)) ?_
     intros
     repeat apply za
     refine zk (by simp) ?_
     refine ze ?_
     (repeat apply za); refine pwn ?_; intros
     exact zm (k + 1) [] ⟨hc, fun _ => by rw [ho, decide_eq_false (by omega), Bool.false_or]⟩ (by omega) (by simp [wrN k (by omega)]) rfl (by simp)
    ·repeat apply za
     refine pwY (some [nx]) (Row.pures [0, 1, 2, 3, 4, 5, 6, 7, 8, 9, 10, 11, 12, 13, 14, 15, 16, 17, 18, 19, 20, 21] .done) mixed (jn6 e0 e2 hc hkl h0 (jn3 h1 w1 h2)) ?_
     intros
     repeat apply za
     refine zi (by simp [h2]) ?_
     (repeat apply za); refine pwn ?_; intros
     repeat apply za
     exact zb (zg hd (by simp; rfl) (by rw [hres, ho]; simp [h0, h1, h2, zj]))
   ·repeat apply za
    refine pwY (some [nx]) (Row.pures [0, 1, 2, 3, 4, 5, 6, 7, 8, 9, 10, 11, 12, 13, 14, 15, 16, 17, 18, 19, 20, 21] .done) mixed (jn6 e0 e2 hc hkl h0 (jn2 h1 zp)) ?_
    intros
    repeat apply za
    refine zk (by simp) ?_
    refine ze ?_
    (repeat apply za); refine pwn ?_; intros
    exact zm (k + 1) [] ⟨hc, fun _ => by rw [ho, decide_eq_false (by omega), Bool.false_or]⟩ (by omega) (by simp [wrN k (by omega)]) rfl (by simp)
  ·repeat apply za
   refine pwY (some [nx]) (Row.pures [0, 1, 2, 3, 4, 5, 6, 7, 8, 9, 10, 11, 12, 13, 14, 15, 16, 17, 18, 19, 20, 21] .done) mixed (jn2 h0 zp) ?_
   intros
   repeat apply za
   refine zk (by simp) ?_
   refine ze ?_
   (repeat apply za); refine pwn ?_; intros
   exact zm (k + 1) [] ⟨hc, fun q => absurd q h0⟩ (by omega) (by simp [wrN k (by omega)]) rfl (by simp)
 ·simp at hc
  obtain rfl : k = q.length := by omega
  rw [List.drop_length] at ho
  simp only [qv] at ho
  refine zo ?_
  (repeat apply za); refine pwn ?_; intros
  repeat apply za
  exact zb (zg hd (by simp; rfl) (by rw [hres]; by_cases h0 : c.rule = 1; simp [h0, ho h0, zj]; simp [h0, zj]))
open Go
def Yv (v : List Visit) (k : Nat) : List Int := (List.range k).map fun (d : Nat) => ((v.filter fun s => decide (s.d = (d : Int))).map (·.q)).sum
set_option maxRecDepth 20000 in
theorem ZbS (v : List Visit) (n : Int) (hv : VisOk v) : Pure Tryz.prog 62 [L v, I n] (L (zK v n)) := by
 have hvn := hv.n
 have hres : zK v n = Yv v (min (max n 0) 64).toNat := rfl
 rw [hres]
 refine pwe Tryz.func62 Tryz.ntmps62 Tryz.results62 fun S nx hd => ?_
 (repeat apply za); refine pwn ?_; intros
 (repeat apply za); refine pwn ?_; intros
 repeat apply za
 refine zX (nx := nx) (σ := Unit) (fun _ => True) (fun _ => [(0, L v), (1, I (min n 64))]) (fun _ => S) (fun _ => []) ?_ ?_
 ·by_cases h : (64 : Int) < n
  ·refine zi (by simp [h]) ?_
   (repeat apply za); refine pwn ?_; intros
   exact zy () [] trivial (by simp; omega) rfl (by simp)
  ·refine zk (by simp; omega) ?_
   refine ze ?_
   exact zy () [] trivial (by simp; omega) rfl (by simp)
 intro _ _
 generalize hm : (min (max n 0) 64).toNat = m
 have hm64 : m ≤ 64 := by omega
 have hcmp : ∀ k : Nat, ((k : Int) < min n 64) = (k < m) := fun k => propext ⟨fun h => by omega, fun h => by omega⟩
 (repeat apply za); refine pwn ?_; intros
 refine yK 5 3 1 rfl fun v1 => ?_
 (repeat apply za); refine pwn ?_; intros
 repeat apply za
 refine zh (zr (fun s : Nat × List Int × Nat => s.1 ≤ m ∧ s.2.1 = Yv v s.1) (fun (k, out, v1) => [(0, L v), (1, I (min n 64)), (5, .sl nx v1 1 0 out.length), (6, I k)]) (fun (k, out, v1) => [.cells v1 3 (out.flatMap Enc.enc)]) (fun s => m - s.1) (0, [], v1) [] (by simp [Yv]) (by simp) (by simp) ?_)
 rintro ⟨k, out, v1⟩ ⟨hk, ho⟩
 simp only at hk ho ⊢
 have hol : out.length = k := by rw [ho]; simp [Yv]
 by_cases hc : k < m
 ·repeat apply za
  refine pwN [] (jn2 hcmp hc) ?_
  intros
  repeat apply za
  refine zi (by simp) ?_
  refine ze (za (zh ?_))
  (repeat apply za); refine pwn ?_; intros
  (repeat apply za); refine pwn ?_; intros
  repeat apply za
  refine zX (nx := nx) (σ := Nat) (fun _ => True) (fun v1 => [(0, L v), (1, I (min n 64)), (5, .sl nx v1 1 0 out.length), (6, I k), (7, I ((v.filter fun s => decide (s.d = (k : Int))).map (·.q)).sum)]) (fun _ => S) (fun v1 => [.cells v1 3 (out.flatMap Enc.enc)]) ?_ ?_
  ·refine zh (zr (fun s : Nat => s ≤ v.length) (fun j => [(0, L v), (1, I (min n 64)), (5, .sl nx v1 1 0 out.length), (6, I k), (7, I (((v.take j).filter fun s => decide (s.d = (k : Int))).map (·.q)).sum), (8, I j)]) (fun _ => [.cells v1 3 (out.flatMap Enc.enc)]) (fun s => v.length - s) 0 [] (by simp) (by simp) (by simp) ?_)
   rintro j hj
   (repeat apply za); refine pwn ?_; intros
   repeat apply za
   refine zn rfl (fun hc2 => ?_) (fun hc2 => ?_)
   ·simp at hc2
    obtain ⟨s, tl, a1, a2, a3, e1, e0⟩ := el 2 rfl v j hc2
    have hsq := hv.q s (List.mem_of_getElem? a1)
    have hlj : (v.take j).length ≤ 1048576 := by simp; omega
    have hle := ZbQ (v.take j) (fun s => decide (s.d = (k : Int))) (fun x hx => hv.q x (List.mem_of_mem_take hx))
    have e11 := e1 1 (by omega)
    refine ze (za (zh ?_))
    by_cases h : s.d = (k : Int)
    ·have hsum : (((v.take j).filter fun s => decide (s.d = (k : Int))).map (·.q)).sum + s.q = (((v.take (j + 1)).filter fun s => decide (s.d = (k : Int))).map (·.q)).sum := by rw [a3]; simp [h]
     repeat apply za
     refine pwN [] (jn3 e0 hc2 h) ?_
     intros
     repeat apply za
     refine zi (by simp) ?_
     repeat apply za
     refine pwN [] (jn2 e11 hc2) ?_
     refine pwc (Zjy _ _ hle.1 hsq.1 (by omega)) ?_
     intros
     (repeat apply za); refine pwn ?_; intros
     exact zm (j + 1) [] hc2 (by omega) (by simp [wrN j (by omega)]; exact hsum) rfl (by simp)
    ·have hsum : (((v.take j).filter fun s => decide (s.d = (k : Int))).map (·.q)).sum = (((v.take (j + 1)).filter fun s => decide (s.d = (k : Int))).map (·.q)).sum := by rw [a3]; simp [h]
     repeat apply za
     refine pwN [] (jn3 e0 hc2 h) ?_
     intros
     repeat apply za
     refine zk (by simp) ?_
     refine ze ?_
     (repeat apply za); refine pwn ?_; intros
     exact zm (j + 1) [] hc2 (by omega) (by simp [wrN j (by omega)]; exact hsum) rfl (by simp)
   ·simp at hc2
    obtain rfl : j = v.length := by omega
    rw [List.take_length]
    exact zo (zy v1 [] trivial (by simp) rfl (by simp))
  ·intro v1 _
   repeat apply za
   refine pwn ?_
   refine ⟨by omega, ?_⟩
   intros
   (repeat apply za); refine pwn ?_; intros
   exact zm (k + 1, out ++ [((v.filter fun s => decide (s.d = (k : Int))).map (·.q)).sum], v1 + 1) [] ⟨hc, by rw [ho]; simp [Yv, List.range_succ]⟩ (by simp; omega) (by simp [wrN k (by omega)]) rfl (by simp)
 ·obtain rfl : k = m := by omega
  repeat apply za
  refine pwN [] hcmp ?_
  intros
  repeat apply za
  refine zk (by simp) ?_
  refine zo ?_
  (repeat apply za); refine pwn ?_; intros
  refine zL 0 rfl ?_
  repeat apply za
  exact zb (zg hd (by simp; rfl) (by rw [ho]; simp [zj]))
set_option maxRecDepth 20000 in
theorem ZjB (p : yA) (c : Int) (hp : PlanOk p) : Pure Tryz.prog 20 [.agg [L p], I c] (L (yr c (told 0 p))) := by
 have hlen := hp.told
 have ol : ∀ pre rest, told 0 p = pre ++ rest → (yr c pre).length ≤ 1048576 := fun pre rest e => by
  have := ZbI c pre
  have := congrArg List.length e
  simp at this; omega
 refine pwe Tryz.func20 Tryz.ntmps20 Tryz.results20 fun S nx hd => ?_
 repeat apply za
 refine pwn ?_
 intro v0
 (repeat apply za); refine pwn ?_; intros
 refine za (yK 5 103 2 rfl fun v1 => ?_)
 (repeat apply za); refine pwn ?_; intros
 repeat apply za
 refine zh (zr (fun s : Nat × List (Stop × Nat) × Nat => s.1 ≤ p.length ∧ told 0 p = s.2.1 ++ told s.1 (p.drop s.1)) (fun (a, pre, v1) => [(1, I c), (2, .ptr nx v0 0), (5, .sl (nx + 1) v1 2 0 (yr c pre).length), (6, I a)]) (fun (a, pre, v1) => [.cells v0 29 [L p], .cells v1 103 ((yr c pre).flatMap Enc.enc)]) (fun s => p.length - s.1) (0, [], v1) [] (by simp) (by simp [yr]) (by simp [yr]) ?_)
 rintro ⟨a, pre, v1⟩ ⟨ha, hr⟩
 simp only at ha hr ⊢
 have hpn := hp.n
 (repeat apply za); refine pwn ?_; intros
 repeat apply za
 refine zn rfl (fun hc => ?_) (fun hc => ?_)
 ·simp at hc
  obtain ⟨d, tl, a1, a2, a3, e0⟩ := el1 rfl p a hc
  have hdm := List.mem_of_getElem? a1
  have hdl := hp.d d hdm
  rw [a2] at hr
  simp only [told] at hr
  refine ze (za (zh ?_))
  (repeat apply za); refine pwn ?_; intros
  repeat apply za
  refine zh (zr (fun s : Nat × List (Stop × Nat) × Nat => s.1 ≤ d.length ∧ told 0 p = s.2.1 ++ ((d.drop s.1).flatten.map (·, a) ++ told (a + 1) (p.drop (a + 1)))) (fun (b, pre, v1) => [(1, I c), (2, .ptr nx v0 0), (5, .sl (nx + 1) v1 2 0 (yr c pre).length), (6, I a), (7, I b)]) (fun (b, pre, v1) => [.cells v0 29 [L p], .cells v1 103 ((yr c pre).flatMap Enc.enc)]) (fun s => d.length - s.1) (0, pre, v1) [] (by simp [hr]) (by simp) (by simp) ?_)
  rintro ⟨b, pre, v1⟩ ⟨hb, hr⟩
  simp only at hb hr ⊢
  repeat apply za
  refine pwN [] (jn2 e0 hc) ?_
  intros
  repeat apply za
  refine zn rfl (fun hc2 => ?_) (fun hc2 => ?_)
  ·simp at hc2
   obtain ⟨t, tl2, b1, b2, b3, e2⟩ := el1 rfl d b hc2
   have htl := hp.t d hdm t (List.mem_of_getElem? b1)
   rw [b2] at hr
   simp only [List.flatten_cons, List.map_append, List.append_assoc] at hr
   refine ze (za (zh ?_))
   repeat apply za
   refine pwN [] (jn4 e0 hc e2 hc2) ?_
   intros
   (repeat apply za); refine pwn ?_; intros
   repeat apply za
   refine zh (zr (fun s : Nat × List (Stop × Nat) × Nat => s.1 ≤ t.length ∧ told 0 p = s.2.1 ++ ((t.drop s.1).map (·, a) ++ ((d.drop (b + 1)).flatten.map (·, a) ++ told (a + 1) (p.drop (a + 1))))) (fun (j, pre, v1) => [(1, I c), (2, .ptr nx v0 0), (5, .sl (nx + 1) v1 2 0 (yr c pre).length), (6, I a), (7, I b), (8, L t), (9, I j)]) (fun (j, pre, v1) => [.cells v0 29 [L p], .cells v1 103 ((yr c pre).flatMap Enc.enc)]) (fun s => t.length - s.1) (0, pre, v1) [] (by simp [hr]) (by simp) (by simp) ?_)
   rintro ⟨j, pre, v1⟩ ⟨hj, hr⟩
   simp only at hj hr ⊢
   (repeat apply za); refine pwn ?_; intros
   repeat apply za
   refine zn rfl (fun hc3 => ?_) (fun hc3 => ?_)
   ·simp at hc3
    obtain ⟨s, tl3, c1, c2, c3, e4, e3⟩ := el 2 rfl t j hc3
    have e31 := e4 1 (by omega)
    rw [c2] at hr
    simp only [List.map_cons, List.cons_append] at hr
    have hl := ol pre _ hr
    refine ze (za (zh ?_))
    by_cases h : s.c = c
    ·repeat apply za
     refine pwN [] (jn3 e3 hc3 h) ?_
     intros
     repeat apply za
     refine zi (by simp) ?_
     repeat apply za
     refine pwN [] (jn2 e31 hc3) ?_
     refine ⟨by omega, ?_⟩
     intros
     (repeat apply za); refine pwn ?_; intros
     exact zm (j + 1, pre ++ [(s, a)], v1 + 1) [] ⟨hc3, by simp [hr]⟩ (by simp; omega) (by simp [wrN j (by omega), Yt, QL, h]) rfl (by simp [Yt, QL, h])
    ·repeat apply za
     refine pwN [] (jn3 e3 hc3 h) ?_
     intros
     repeat apply za
     refine zk (by simp) ?_
     refine ze ?_
     (repeat apply za); refine pwn ?_; intros
     exact zm (j + 1, pre ++ [(s, a)], v1) [] ⟨hc3, by simp [hr]⟩ (by simp; omega) (by simp [wrN j (by omega), Yt, QL, h]) rfl (by simp [Yt, QL, h])
   ·simp at hc3
    obtain rfl : j = t.length := by omega
    simp only [List.drop_length, List.map_nil, List.nil_append] at hr
    refine zo ?_
    (repeat apply za); refine pwn ?_; intros
    exact zm (b + 1, pre, v1) [] ⟨hc2, hr⟩ (by simp; omega) (by simp [wrN b (by omega)]) rfl (by simp)
  ·simp at hc2
   obtain rfl : b = d.length := by omega
   simp only [List.drop_length, List.flatten_nil, List.map_nil, List.nil_append] at hr
   refine zo ?_
   (repeat apply za); refine pwn ?_; intros
   exact zm (a + 1, pre, v1) [] ⟨hc, hr⟩ (by simp; omega) (by simp [wrN a (by omega)]) rfl (by simp)
 ·simp at hc
  obtain rfl : a = p.length := by omega
  simp only [List.drop_length, told, List.append_nil] at hr
  refine zo ?_
  (repeat apply za); refine pwn ?_; intros
  refine zL 1 rfl ?_
  repeat apply za
  exact zb (zg hd (by simp; rfl) (by rw [hr]; simp [zj]))
open Go
theorem ZjC (n d : Nat) : ((n : Int).fdiv (2 ^ d)) = ((n / 2 ^ d : Nat) : Int) := by
 have h : (2 : Int) ^ d = ((2 ^ d : Nat) : Int) := by simp
 rw [h, Int.fdiv_eq_ediv_of_nonneg _ (Int.natCast_nonneg _)]
 rfl
set_option maxRecDepth 20000 in
theorem ZjD (n : Nat) (d : Int) (hn : n < 2 ^ 64) : Pure Tryz.prog 242 [U n, I d] (B (decide (0 ≤ d ∧ d < 64 ∧ yb n d.toNat = 1))) := by
 by_cases h : 0 ≤ d ∧ d < 64
 ·have h1 : ¬ d < 0 := by omega
  have h2 : min d.toNat 64 = d.toNat := by omega
  have hlt : n / 2 ^ d.toNat ≤ n := Nat.div_le_self _ _
  have h3 := ZjC n d.toNat
  have hb : yb n d.toNat = n / 2 ^ d.toNat % 2 := rfl
  generalize n / 2 ^ d.toNat = m at hlt h3 hb
  have h4 := and_one_u64 (m : Int) (by omega) (by omega)
  have h5 : IntKind.u64.wrap (m : Int) = (m : Int) := by
   simp only [IntKind.wrap, IntKind.bits, IntKind.signed]
   simp
   omega
  have h6 : ((m : Int) % 2 = 1) = (yb n d.toNat = 1) := by rw [hb]; exact propext ⟨fun q => by omega, fun q => by omega⟩
  refine pwe Tryz.func242 Tryz.ntmps242 Tryz.results242 fun S nx hd => ?_
  (repeat apply za); refine pwn ?_; intros
  repeat apply za
  refine zQ [(2, 7)] (by rfl) (by rfl) fun K Gc Gh hK hGc hGh X hX0 hX => ?_
  simp -implicitDefEqProofs [hX0, hX]
  try clear hX0 hX X
  refine hGc _ _ _ _ _ _ _ fun hsuf => ((XW d _).mono ?_).v
  rintro _ _ ⟨rfl, rfl⟩
  refine ⟨_, _, rfl, ?_⟩
  clear hGc hGh
  clear Gc Gh
  refine zH hsuf (D := [(2, 7)]) (by rfl) fun Gc Gh hGc hGh X hX0 hX => ?_
  simp -implicitDefEqProofs [hX0, hX, h, h1, h2, h3, h5, h4, IntKind.bits]
  try clear hX0 hX X
  intros
  refine hK _ _ _ ?_
  clear hK hGc hGh
  clear K Gc Gh
  repeat apply za
  exact zb (zg hd (by simp; rfl) (by simp [h, zj, h6]))
 ·refine pwe Tryz.func242 Tryz.ntmps242 Tryz.results242 fun S nx hd => ?_
  (repeat apply za); refine pwn ?_; intros
  repeat apply za
  refine pwN [(2, 7)] trivial ?_
  refine pwC [(2, 7)] (XW d) (jn2 h zp) ?_
  intros
  have h7 : ¬ (0 ≤ d ∧ d < 64 ∧ yb n d.toNat = 1) := fun q => h ⟨q.1, q.2.1⟩
  repeat apply za
  exact zb (zg hd (by simp; rfl) (by simp only [h7, zj, decide_false]))
def zS (n a k : Nat) : List Int := ((List.range k).filter fun i => decide (a ≤ i) && decide (yb n i = 1)).map fun (i : Nat) => (i : Int)
theorem vW (n a k : Nat) : (zS n a k).length ≤ k := by
 simp only [zS, List.length_map]
 exact Nat.le_trans (List.length_filter_le _ _) (by simp)
theorem ZbT (n a k : Nat) (h : a ≤ k) : zS n a (k + 1) = zS n a k ++ (if yb n k = 1 then [(k : Int)] else []) := by
 simp only [zS, List.range_succ, List.filter_append, List.map_append]
 by_cases q : yb n k = 1 <;> simp [q, h]
theorem X2 (n a k : Nat) (h : k ≤ a) : zS n a k = [] := by
 simp only [zS, List.map_eq_nil_iff, List.filter_eq_nil_iff, List.mem_range]
 intro i hi; simp; omega
set_option maxRecDepth 20000 in
theorem ZjE (n : Nat) (d : Int) (hn : n < 2 ^ 64) (hdl : d ≤ 1000) : Pure Tryz.prog 241 [.fn (.func 242) [U n] [], I d] (L (zS n d.toNat 64)) := by
 have hmax : jX d 0 = ((d.toNat : Nat) : Int) := by unfold jX; split <;> omega
 have h64 : zS n d.toNat (max d.toNat 64) = zS n d.toNat 64 := by
  by_cases q : d.toNat ≤ 64
  ·rw [Nat.max_eq_right q]
  ·rw [Nat.max_eq_left (by omega), X2 _ _ _ (Nat.le_refl _), X2 _ _ _ (by omega)]
 have ha : d.toNat ≤ 1000 := by omega
 have main : ∀ a : Nat, a ≤ 1000 → zS n a (max a 64) = zS n d.toNat 64 → jX d 0 = (a : Int) → Pure Tryz.prog 241 [.fn (.func 242) [U n] [], I d] (L (zS n d.toNat 64)) := by
  intro a ha h64 hmax
  refine pwe Tryz.func241 Tryz.ntmps241 Tryz.results241 fun S nx hd => ?_
  (repeat apply za); refine pwn ?_; intros
  (repeat apply za); refine pwn ?_; intros
  refine za (yK 5 3 1 rfl fun v1 => ?_)
  repeat apply za
  refine pwN [] hmax ?_
  intros
  repeat apply za
  refine zh (zr (fun s : Nat × List Int × Nat => a ≤ s.1 ∧ s.1 ≤ max a 64 ∧ s.2.1 = zS n a s.1) (fun (k, out, v1) => [(0, .fn (.func 242) [U n] []), (5, .sl nx v1 1 0 out.length), (6, I k)]) (fun (k, out, v1) => [.cells v1 3 (out.flatMap Enc.enc)]) (fun s => max a 64 - s.1) (a, [], v1) [] (by simp [X2]; omega) (by simp) (by simp) ?_)
  rintro ⟨k, out, v1⟩ ⟨hk0, hk, ho⟩
  simp only at hk0 hk ho ⊢
  have hol : out.length ≤ k := by rw [ho]; exact vW _ _ _
  (repeat apply za); refine pwn ?_; intros
  repeat apply za
  refine zn rfl (fun hc => ?_) (fun hc => ?_)
  ·simp at hc
   have hc' : k < 64 := by omega
   refine ze (za (zh ?_))
   repeat apply za
   refine pwn ?_
   refine pwc (ZjD n k hn) ?_
   intros
   have hs := ZbT n a k hk0
   repeat apply za
   refine zn rfl (fun hb => ?_) (fun hb => ?_)
   ·simp at hb
    repeat apply za
    refine pwn ?_
    refine ⟨by omega, ?_⟩
    intros
    (repeat apply za); refine pwn ?_; intros
    exact zm (k + 1, out ++ [(k : Int)], v1 + 1) [] ⟨by omega, by omega, by rw [hs, if_pos hb.2, ho]⟩ (by simp; omega) (by simp [wrN k (by omega)]) rfl (by simp)
   ·have hb' : ¬ yb n k = 1 := by simp at hb; exact hb (by omega)
    refine ze ?_
    (repeat apply za); refine pwn ?_; intros
    exact zm (k + 1, out, v1) [] ⟨by omega, by omega, by rw [hs, if_neg hb', ho]; simp⟩ (by simp; omega) (by simp [wrN k (by omega)]) rfl (by simp)
  ·simp at hc
   obtain rfl : k = max a 64 := by omega
   refine zo ?_
   (repeat apply za); refine pwn ?_; intros
   refine zL 0 rfl ?_
   repeat apply za
   exact zb (zg hd (by simp; rfl) (by simp [ho, h64, zj]))
 exact main d.toNat ha h64 hmax
def vq (n : Nat) (d : Int) : Int := (zS n d.toNat 64).headD (-1)
open Go
def zD (n lo hi : Int) : Bool := decide (lo ≤ n ∧ n ≤ hi)
def vX (c : Cust) (days : Int) : Bool := (c.pats.all fun p => decide (vq p days < 0)) && zD c.pats.length 1 64
def xK (c : Cust) : Bool := decide (c.rate = 0 ∧ c.size = 0 ∧ c.start = 0 ∧ c.rule = 0 ∧ c.hold = 0)
def wL (c : Cust) : Bool := decide (c.rule = 1 ∨ c.rule = 2)
def vr (c : Cust) : Bool := decide (c.pats.length = 0 ∧ c.demand = 0)
structure Must where
 f : FuncId
 b : Bool
instance : Enc Must := ⟨fun m => [.fn (.func m.f) [] []], 1, fun _ => rfl, fun _ => rfl⟩
@[simp] theorem ZnV (m : Must) : Enc.enc m = [.fn (.func m.f) [] []] := rfl
@[simp high] theorem ZnW (l : List Must) : (l.flatMap Enc.enc).length = l.length := (jp l).trans (Nat.mul_one _)
def jT (c : Cust) (d : Int) : Bool :=
 if c.kind = 1 then (zD c.demand 1 2147483648 && vX c d && xK c)
 else if c.kind = 2 then (zD c.rate 0 2147483648 && zD c.size 1 2147483648 && zD c.start 0 c.size && wL c && zD c.hold 0 1024 && vr c) else false
open Go
def wM (n : Nat) : Nat → List (List Int) → Bool
 | _, [] => true
 | a, row :: l => (decide (row.length = n) && decide (row.getD a 0 = 0) && row.all (zD · 0 2147483648)) && wM n (a + 1) l
def QQ (l : List (List Int)) (n : Nat) : Bool := decide (l.length = n) && wM n 0 l
def qC (x : Inst) : Bool :=
 zD x.days 1 64 && decide (x.cust.length ≤ 2000) && zD x.veh 0 2147483648 && zD x.cap 0 2147483648 && zD x.len 0 2147483648 && x.cust.all (jT · x.days) && QQ x.dist (x.cust.length + 1)
end Go.Proofs.YtaiplainginmaaaGreat.Pv
