/- A part of the proof of the statement that the last text of this claim proves; no condition is added. Packed by a program of the prover. -/
import Derived.Test.YtaiplainginmaaaGreatP4
namespace Go.Proofs.YtaiplainginmaaaGreat.Pv
open Go Go.Proofs
theorem Qa (id v : Nat) (cs : List PV) (d : Day) : (d.flatMap Enc.enc).map (zI id v cs) = (d.flatMap Enc.enc : List PV) := by
 induction d with
 | nil => rfl
 | cons l d ih => rw [List.flatMap_cons, List.map_append, ih]; rfl
theorem ZE (id v : Nat) (cs : List PV) (d : Day) (t : Nat) (p : PV) : ((d.flatMap Enc.enc).set t p).map (zI id v cs) = (d.flatMap Enc.enc : List PV).set t (zI id v cs p) := by
 rw [List.map_set, Qa]
theorem wy : ∀ (d : Day) (t : Nat) (l : zn), (d.flatMap Enc.enc : List PV).set t (L l) = (d.set t l).flatMap Enc.enc
 | [], t, l => rfl
 | m :: d, 0, l => rfl
 | m :: d, t + 1, l => by
  rw [List.set_cons_succ, List.flatMap_cons, List.flatMap_cons, ← wy d t l]
  rfl
theorem Zge {S : Store} {nx m : Nat} {obs : List Ob} (x y : Ob) (hm : m = nx + obs.length) : ((ext S nx obs).set (m + 3) x).set (m + 4) y = ext S nx (obs ++ [.dead, .dead, .dead, x, y]) := by
 subst hm
 rw [ve 3]
 have := qh (S := S) (nx := nx) (obs := obs ++ List.replicate 3 .dead ++ [x]) y
 simpa [Nat.add_assoc] using this
theorem Zgf (d : Day) (hd0 : d.length ≤ 1048576) (hd1 : ∀ l ∈ d, l.length ≤ 1048576) (S : Store) (nx : Nat) (hd : zF nx S) :
  Spec Tryz.prog 109 [.agg [L d]] S (fun p S' => ∃ v, p = .agg [.sl (nx + 3) v 1 0 d.length] ∧ S' = S.set (nx + 3) (.cells v 72 (d.flatMap Enc.enc))) := by
 refine (JH d d.length hd0 hd1 (by simp) S nx hd).mono ?_
 rintro _ _ ⟨v, ts, ob, ⟨h1, h2, -⟩, rfl, rfl⟩
 obtain ⟨rfl, rfl⟩ := h2 (Nat.le_refl _)
 rw [List.take_length]
 refine ⟨v, rfl, ?_⟩
 funext o
 by_cases h4 : o = nx + 4
 ·subst h4
  rw [Store.set_same, Store.set_other _ _ _ _ (by omega), hd _ (by omega)]
 ·rw [Store.set_other _ _ _ _ h4]
theorem V4 (cs : List PV) (i : Nat) (p q : PV) (h : i < cs.length) : zH (cs.set i p) i [q] = cs.set i q := by
 unfold zH
 rw [List.set_eq_take_append_cons_drop, if_pos h, List.set_eq_take_append_cons_drop, if_pos h]
 have hl : (cs.take i).length = i := by rw [List.length_take]; omega
 rw [List.take_append_of_le_length (by omega), List.take_of_length_le (by omega), List.drop_append, hl, List.drop_of_length_le (by rw [hl]; simp)]
 simp
theorem vl (id v sz k : Nat) (cs : List PV) (h : k * sz = cs.length) : zI id v cs (.sl id v sz 0 k) = .lst k cs := by simp [zI, h]
theorem Qb {α β : Type} {f : β → α → β} {b : β} {l : List α} {i : Nat} {a : α} (h : l[i]? = some a) : (l.take (i + 1)).foldl f b = f ((l.take i).foldl f b) a := by
 obtain ⟨hi, rfl⟩ := List.getElem?_eq_some_iff.1 h
 rw [List.take_succ_eq_append_getElem hi, List.foldl_append]; rfl
theorem Zgg {x : Inst} {d : Day} {s : Stop} {b : Spot} (h : b ∈ zX x d s) (hb : b.t ≠ d.length) : ∃ l, d[b.t]? = some l ∧ 0 < l.length ∧ b.p ≤ l.length := by
 obtain ⟨-, -, -, -, h⟩ := Zz h
 rcases h with ⟨l, hl, hi, ho, -⟩ | ⟨rfl, -⟩
 ·refine ⟨l, hl, ?_, hi⟩
  have hself : zp x l = 0 ∨ zp x l = 13 := by
   by_cases hf : zp x l = 13
   ·exact .inr hf
   ·rw [if_neg hf] at ho
    exact .inl (vk.1 (by omega) l (List.mem_of_getElem? hl))
  have hst : yo x l = true := by
   cases e : yo x l with
   | true => rfl
   | false => rw [JM e] at hself; rcases hself with h | h <;> cases h
  exact List.length_pos_iff.2 (Y2 hst)
 ·exact absurd rfl hb
theorem Zgh {x : Inst} {d : Day} {s : Stop} {b : Spot} (h : b ∈ zX x d s) : b.t ≤ d.length := by
 obtain ⟨-, -, -, -, h⟩ := Zz h
 rcases h with ⟨l, hl, -⟩ | ⟨rfl, -⟩
 ·exact Nat.le_of_lt (List.getElem?_eq_some_iff.1 hl).1
 ·exact Nat.le_refl _
set_option maxRecDepth 20000 in
set_option maxHeartbeats 1600000 in
theorem Zgi (x : Inst) (d : Day) (s : Stop) (hx : x.cust.length ≤ 1048576) (hdo : DayOk d) (hf : d.flatten.length ≤ 1000000) : Pure Tryz.prog 71 [.agg (zm x), .agg [L d], .agg [I s.c, I s.q]] (.tup [.agg [L (yZ x d s).1], B (yZ x d s).2]) := by
 have hit := V3 x d s hx hdo (by omega)
 have hsee := Vs x d hx hdo (by omega)
 have hmem := fun h => Y1 (l := zX x d s) h
 have hle : ∀ b ∈ zX x d s, b.t ≤ d.length := fun b hb => Zgh hb
 have htour : ∀ b ∈ zX x d s, b.t ≠ d.length → ∃ l, d[b.t]? = some l ∧ 0 < l.length ∧ b.p ≤ l.length := fun b hb => Zgg hb
 have hins : yZ x d s = bif (jV (zX x d s)).2 then (yR d (jV (zX x d s)).1 s, true) else (d, false) := rfl
 have hsF := Vp (xM x d) s rfl
 rw [hins]
 clear hins
 generalize zX x d s = xs at *
 generalize hlk : xM x d = lk at *
 have hdn := hdo.n
 have hd1 : ∀ l ∈ d, l.length ≤ 1000000 := fun l hl => Nat.le_trans (qC hl).length_le hf
 refine pwe Tryz.func71 Tryz.ntmps71 Tryz.results71 fun S nx hd => ?_
 repeat apply za
 refine pwn ?_
 intro v0 v1 v2 v3
 repeat apply za
 refine pwn ?_
 intro v4 v5
 repeat apply za
 refine pwY none (Row.pures [0, 1, 2, 3, 4] .done) mixed trivial ?_
 refine pwP (hsee) trivial ?_
 refine pwP (hsF) trivial ?_
 intros
 repeat apply za
 refine ze (Zm (xs := xs.map xN) (σ := Spot × Bool) (fun i st => st = (xs.take i).foldl xl (⟨0, 0, 0⟩, false)) [(3, .ptr nx v0 0), (4, .ptr (nx + 1) v1 0), (5, .ptr (nx + 2) v2 0), (6, .ptr (nx + 3) v3 0), (8, .ptr (nx + 4) v4 0), (9, .ptr (nx + 5) v5 0)] (fun _ => S)
  (fun (b, found) => [.cells v0 25 (zm x), .cells v1 66 [L d], .cells v2 50 [I s.c, I s.q], .cells v3 66 [zJ], .cells v4 145 [I b.t, I b.p, I b.m], .cells v5 4 [B found]]) (⟨0, 0, 0⟩, false)
  hit rfl (by intro x hx; obtain ⟨y, _, rfl⟩ := List.mem_map.1 hx; rfl) (by decide) (by simp) (by simp) rfl (by simp) (by simp) ?_ ?_)
 ·rintro l i ⟨b, found⟩ more y hst hy
  simp only at hst ⊢
  rw [List.getElem?_map] at hy
  obtain ⟨p, hp, rfl⟩ := Option.map_eq_some_iff.1 hy
  have hsucc := Qb (f := xl) (b := (⟨0, 0, 0⟩, false)) hp
  rw [← hst] at hsucc
  unfold xl at hsucc
  simp only at hsucc
  repeat apply za
  refine pwn ?_
  intro v6
  refine ze ?_
  cases found with
  | false =>
   rw [if_pos (.inl rfl)] at hsucc
   repeat apply za
   refine pwN [(2, 21)] zr ?_
   intros
   repeat apply za
   refine zj rfl ?_
   (repeat apply za); refine pwn ?_; intros
   simp only [yK]
   exact jN (p, true) [_] hsucc.symm rfl (by simp; rfl)
  | true =>
   by_cases hm : p.m < b.m
   ·rw [if_pos (.inr hm)] at hsucc
    repeat apply za
    refine pwN [(2, 21)] (jn2 hm zr) ?_
    intros
    repeat apply za
    refine zj rfl ?_
    (repeat apply za); refine pwn ?_; intros
    simp only [yK]
    exact jN (p, true) [_] hsucc.symm rfl (by simp; rfl)
   ·rw [if_neg (by simp [hm])] at hsucc
    repeat apply za
    refine pwN [(2, 21)] (jn2 hm zr) ?_
    intros
    repeat apply za
    refine zi rfl ?_
    refine zb ?_
    simp only [yK]
    exact jN (b, true) [_] hsucc.symm rfl (by simp; rfl)
 ·rintro ⟨b, found⟩ hst
  simp only [List.length_map, List.take_length] at hst ⊢
  have hbz : jV xs = (b, found) := hst.symm
  rw [hbz] at hmem ⊢
  simp only at hmem ⊢
  cases found with
  | false =>
   simp only [cond_false]
   repeat apply za
   refine pwn ?_
   refine pwc (Zfu d hdn (fun l hl => Nat.le_trans (hd1 l hl) (by decide))) ?_
   intros
   repeat apply za
   refine ze ?_
   (repeat apply za); refine pwn ?_; intros
   repeat apply za
   refine zj rfl ?_
   (repeat apply za); refine pwn ?_; intros
   repeat apply za
   exact zd (zg hd (by simp; rfl) (by simp [zl]))
  | true =>
   have hb := hmem rfl
   have hbl := hle b hb
   simp only [cond_true]
   by_cases hbt : b.t = d.length
   ·have hpd : yR d b s = d ++ [[s]] := by unfold yR; rw [if_pos hbt]
    rw [hpd]
    have hfl : (d.flatMap Enc.enc : List PV).length = d.length := yD d
    have htk : (d.flatMap Enc.enc : List PV).take d.length = d.flatMap Enc.enc := List.take_of_length_le (by omega)
    have hsn : ((d ++ [[s]]).flatMap Enc.enc : List PV) = d.flatMap Enc.enc ++ [L [s]] := by rw [List.flatMap_append]; rfl
    repeat apply za
    refine zM [] (by rfl) (by rfl) fun K Gc Gh hK hGc hGh X hX0 hX => ?_
    simp -implicitDefEqProofs [hX0, hX]
    try clear hX0 hX X
    refine hGc _ _ _ _ _ _ _ fun hsuf => ((Zgf d hdn (fun l hl => Nat.le_trans (hd1 l hl) (by decide)) _ _ qi).mono ?_).v
    rintro _ _ ⟨v7, rfl, rfl⟩
    refine ⟨_, _, ve 3 _, ?_⟩
    clear hGc hGh
    clear Gc Gh
    refine zK hsuf (D := []) (by rfl) fun Gc Gh hGc hGh X hX0 hX => ?_
    simp -implicitDefEqProofs [hX0, hX, Nat.add_assoc]
    clear hX0 hX X
    intros
    refine hK _ _ _ ?_
    clear hK hGc hGh
    clear K Gc Gh
    generalize hds : (d.flatMap Enc.enc : List PV) = ds at *
    repeat apply za
    refine ze ?_
    (repeat apply za); refine pwn ?_; intros
    repeat apply za
    refine zi rfl ?_
    (repeat apply za); refine pwn ?_; intros
    repeat apply za
    refine zj (by simp; omega) ?_
    repeat apply za
    refine pwY (some [nx + 2]) (Row.pures [0, 2, 3, 4] (.alt 1 (.alt 5 (Row.pures [6] (.alt 7 (.done) .stop)) .stop) .stop)) mixed (jn2 hfl htk) ?_
    refine pwP (Jm s) (jn2 hfl htk) ?_
    refine ⟨by omega, ?_⟩
    intros
    refine zC 9 rfl ?_
    (repeat apply za); refine pwn ?_; intros
    repeat apply za
    exact zd (zg hd (by simp; rfl) (by simp [zl, hfl, hds]))
   ·obtain ⟨l, hl, hl0, hp⟩ := htour b hb hbt
    have hblt : b.t < d.length := by omega
    have hpd : yR d b s = d.set b.t (yE l b.p s) := by unfold yR; rw [if_neg hbt, List.getD_eq_getElem?_getD, hl]; rfl
    have hl1 := hd1 l (List.mem_of_getElem? hl)
    rw [hpd]
    repeat apply za
    refine zM [] (by rfl) (by rfl) fun K Gc Gh hK hGc hGh X hX0 hX => ?_
    simp -implicitDefEqProofs [hX0, hX]
    try clear hX0 hX X
    refine hGc _ _ _ _ _ _ _ fun hsuf => ((Zfv d b.t l hdn (fun l hl => Nat.le_trans (hd1 l hl) (by decide)) hl hl0 _ _ qi).mono ?_).v
    rintro _ _ ⟨v7, w7, rfl, rfl⟩
    refine ⟨_, _, Zge _ _ rfl, ?_⟩
    clear hGc hGh
    clear Gc Gh
    refine zK hsuf (D := []) (by rfl) fun Gc Gh hGc hGh X hX0 hX => ?_
    simp -implicitDefEqProofs [hX0, hX, Nat.add_assoc]
    clear hX0 hX X
    intros
    refine hK _ _ _ ?_
    clear hK hGc hGh
    clear K Gc Gh
    repeat apply za
    refine ze ?_
    (repeat apply za); refine pwn ?_; intros
    repeat apply za
    refine zi rfl ?_
    (repeat apply za); refine pwn ?_; intros
    repeat apply za
    refine zi (by simp; omega) ?_
    repeat apply za
    refine pwN [] hblt ?_
    intros
    repeat apply za
    refine xH (some [nx + 4, nx + 2]) (Row.pures [0, 1, 2, 3, 5, 6, 7, 8] (.alt 4 (.alt 9 (Row.pures [10, 11] (.alt 12 (.done) .stop)) .stop) .stop)) mixed (by rfl) (by rfl) (by rfl) fun K Gp Gc Gh hK hGp hGc hGh X hX0 hX1 hX2 hX => ?_
    simp -implicitDefEqProofs [hX0, hX1, hX2, hX, hblt]
    try clear hX0 hX1 hX2 hX X
    refine hGc _ _ _ _ _ _ _ ?_
    refine ((Zfr l b.p s hp hl1 (by simp)).mono ?_).v
    rintro _ _ ⟨rfl, rfl⟩
    have hcl : ((yE l b.p s).flatMap Enc.enc : List PV).length = (l.length + 1) * 2 := by
     have e := (ZB l s b.p).length_eq
     rw [yq, e]; simp
    have hLi : L (yE l b.p s) = .lst (l.length + 1) ((yE l b.p s).flatMap Enc.enc) := by
     have e := (ZB l s b.p).length_eq
     show PV.lst _ _ = _
     rw [e]; rfl
    rw [show l.take b.p ++ s :: l.drop b.p = yE l b.p s from rfl]
    generalize hcs : ((yE l b.p s).flatMap Enc.enc : List PV) = cs at *
    rw [qg _ (by omega) (by simp), Nat.add_sub_cancel_left]
    refine ⟨by simp [zV], ?_⟩
    clear hGp hGc hGh
    clear Gp Gc Gh
    refine qQ fun Gp Gc Gh hGp hGc hGh X hX0 hX1 hX2 hX => ?_
    simp -implicitDefEqProofs [hX0, hX1, hX2, hX, hblt]
    try clear hX0 hX1 hX2 hX X
    refine ⟨by omega, ?_⟩
    refine hK _ _ _ ?_
    clear hK hGp hGc hGh
    clear K Gp Gc Gh
    rw [V4 _ _ _ _ (by rw [yD]; exact hblt)]
    have e10 : zI (nx + 10) (w7 + 1) cs (.sl (nx + 10) (w7 + 1) 2 0 (l.length + 1)) = L (yE l b.p s) := by
     rw [vl _ _ _ _ _ hcl.symm, hLi]
    have e9 : zI (nx + 9) v7 ((d.set b.t (yE l b.p s)).flatMap Enc.enc) (.sl (nx + 9) v7 1 0 d.length) = L (d.set b.t (yE l b.p s)) := by
     rw [vl _ _ _ _ _ (by rw [yD]; simp)]
     show _ = PV.lst _ _
     rw [List.length_set]
    have n9 : zI (nx + 10) (w7 + 1) cs (.sl (nx + 9) v7 1 0 d.length) = .sl (nx + 9) v7 1 0 d.length := by
     simp only [zI]; rw [if_neg (by omega)]
    refine zC 10 rfl ?_
    simp only [List.map_cons, List.map_nil, List.set_cons_succ, List.set_cons_zero, yW, ZE, e10, wy, n9]
    refine zC 9 rfl ?_
    simp only [List.map_cons, List.map_nil, List.set_cons_succ, List.set_cons_zero, yW, e9]
    repeat apply za
    refine pwN [] (jn2 e9 n9) ?_
    intros
    repeat apply za
    exact zd (zg hd (by simp; rfl) (by simp [zl]))
open Go Go.Proofs
theorem V5 {α : Type} (f : Nat → List α) (m : Nat) : ∀ n, (∀ t, t < n → (f t).length ≤ m) → ((List.range n).flatMap f).length ≤ n * m
 | 0, _ => by simp
 | n + 1, h => by
  rw [List.range_succ, List.flatMap_append, List.length_append]
  have h1 := V5 f m n fun t ht => h t (by omega)
  have h2 := h n (by omega)
  simp only [List.flatMap_cons, List.flatMap_nil, List.append_nil]
  rw [Nat.add_mul, Nat.one_mul]; omega
theorem Zgj {d : Day} (h1 : d.length ≤ 1000000) (h2 : d.flatten.length ≤ 1000000) : (qt d).length ≤ 1000001 * 1000001 := by
 unfold qt
 refine Nat.le_trans (V5 _ 1000001 _ fun t _ => ?_) (Nat.mul_le_mul_right _ (by omega))
 rw [List.length_map, List.length_range, List.getD_eq_getElem?_getD]
 cases hq : d[t]? with
 | none => simp
 | some l =>
  have := (qC (List.mem_of_getElem? hq)).length_le
  simp only [Option.getD_some]; omega
theorem Zgk {x : Inst} {d : Day} {s : Stop} (hd : zL x d = 0) (h1 : d.length ≤ 1000000) (h2 : d.flatten.length ≤ 1000000) : (zX x d s).length ≤ 1000001 * 1000001 := by
 rw [VR hd]; exact Nat.le_trans (List.length_filterMap_le _ _) (Zgj h1 h2)
theorem Zgl (cs : List PV) (v : PV) (h : 0 < cs.length) : zH cs (cs.length - 1) [v] = cs.set (cs.length - 1) v := by
 unfold zH
 rw [List.set_eq_take_append_cons_drop, if_pos (by omega)]; simp
theorem V6 : ∀ (l : List Int) (k : Nat) (v : Int), (l.flatMap Enc.enc : List PV).set k (I v) = (l.set k v).flatMap Enc.enc
 | [], k, v => rfl
 | a :: l, 0, v => rfl
 | a :: l, k + 1, v => by
  rw [List.set_cons_succ, List.flatMap_cons, List.flatMap_cons, ← V6 l k v]
  rfl
theorem Zgm (st : List Int × Int) (p : Spot) : (q9 st p).1.length ≤ st.1.length + 1 := by
 unfold q9; split <;> simp
def JT (st : List Int × Int) : Prop := st.2 = -1 ∨ 0 < st.1.length
theorem Zgn {st : List Int × Int} (h : JT st) (p : Spot) : JT (q9 st p) := by
 unfold q9
 split
 ·exact .inr (by simp)
 ·rename_i e
  rcases h with h | h
  ·exfalso; simp only [ne_eq] at e; omega
  ·exact .inr (by simpa using h)
set_option maxRecDepth 20000 in
set_option maxHeartbeats 1600000 in
theorem Zgo (x : Inst) (d : Day) (s : Stop) (hx : x.cust.length ≤ 1048576) (hdo : DayOk d) (h0 : zL x d = 0) (h1 : d.length ≤ 1000000) (h2 : d.flatten.length ≤ 1000000) : Pure Tryz.prog 266 [.agg (xM x d), .agg [I s.c, I s.q]] (L (ww x d s)) := by
 have hit := V3 x d s hx hdo (by omega)
 have hfold := ZfS (s := s) h0
 have hlen := Zgk (s := s) h0 h1 h2
 have hml := V1 x d s (d.length + 1)
 have hsF := Vp (xM x d) s rfl
 unfold ww
 rw [← hfold] at hml ⊢
 clear hfold
 generalize zX x d s = xs at *
 obtain ⟨on, tw, fs, bd, ls, ws, hlk⟩ : ∃ on tw fs bd ls ws, xM x d = xi x d on tw fs bd ls ws := ⟨_, _, _, _, _, _, rfl⟩
 rw [hlk] at hit hsF ⊢
 clear hlk
 refine pwe Tryz.func266 Tryz.ntmps266 Tryz.results266 fun S nx hd => ?_
 repeat apply za
 refine pwn ?_
 intro v0 v1
 repeat apply za
 refine pwn ?_
 intro v2
 repeat apply za
 refine pwn ?_
 intro v3
 repeat apply za
 refine pwn ?_
 refine pwc hsF ?_
 intros
 refine yN 2 0 3 1 rfl rfl fun v4 => ?_
 repeat apply za
 refine ze (Zm (xs := xs.map xN) (σ := (List Int × Int) × Nat) (fun i st => st.1 = (xs.take i).foldl q9 ([], -1) ∧ JT st.1 ∧ st.1.1.length ≤ i ∧ i ≤ xs.length) [(2, .ptr nx v0 0), (3, .ptr (nx + 1) v1 0), (5, .ptr (nx + 2) v2 0), (6, .ptr (nx + 3) v3 0)] (fun _ => S)
  (fun ((l, last), v4) => [.cells v0 149 (xi x d on tw fs bd ls ws), .cells v1 50 [I s.c, I s.q], .cells v2 54 [.sl (nx + 4) v4 1 0 l.length], .cells v3 3 [I last], .cells v4 3 (l.flatMap Enc.enc)]) (([], -1), v4)
  hit rfl (by intro x hx; obtain ⟨y, _, rfl⟩ := List.mem_map.1 hx; rfl) (by decide) (by simp) ⟨rfl, .inl rfl, by simp, by simp⟩ rfl (by simp) (by simp) ?_ ?_)
 ·rintro lp i ⟨⟨l, last⟩, v4⟩ more y ⟨hst, hok, hli, hi⟩ hy
  simp only at hst hok hli hi ⊢
  rw [List.getElem?_map] at hy
  obtain ⟨p, hp, rfl⟩ := Option.map_eq_some_iff.1 hy
  have hsucc := Qb (f := q9) (b := ([], -1)) hp
  rw [← hst] at hsucc
  have hok2 := Zgn hok p
  have hln2 := Zgm (l, last) p
  simp only at hln2
  have hil := (List.getElem?_eq_some_iff.1 hp).1
  have hdef : q9 (l, last) p = q9 (l, last) p := rfl
  conv at hdef => rhs; unfold q9
  simp only at hdef
  have hlf : (l.flatMap Enc.enc : List PV).length = l.length := qn l
  have hlt : (l.flatMap Enc.enc : List PV).take l.length = l.flatMap Enc.enc := List.take_of_length_le (by omega)
  repeat apply za
  refine pwn ?_
  intro v5
  refine ze ?_
  (repeat apply za); refine pwn ?_; intros
  by_cases hpl : (p.t : Int) = last
  ·have hl0 : 0 < l.length := by
    rcases hok with e | e
    ·simp only at e; omega
    ·exact e
   obtain ⟨m, hm⟩ : ∃ m, l.length = m + 1 := ⟨l.length - 1, by omega⟩
   obtain ⟨z, tz, z1, z2, z3, z0⟩ := el1 rfl l m (by omega)
   rw [if_neg (by simp [hpl])] at hdef
   have hgz : l.getD (l.length - 1) 0 = z := by rw [hm, Nat.add_sub_cancel, List.getD_eq_getElem?_getD, z1]; rfl
   rw [hgz] at hdef
   have wm : IntKind.i64.wrap ((l.length : Int) - 1) = (m : Int) := by rw [wr _ (by omega) (by omega)]; omega
   have hml1 : m < l.length := by omega
   have hml2 : 1 ≤ l.length - m := by omega
   have hsp := Zgl (l.flatMap Enc.enc) (I (if p.m < z then p.m else z)) (by omega)
   rw [hlf, V6] at hsp
   have hmin : vz z p.m = if p.m < z then p.m else z := rfl
   repeat apply za
   refine zi (by simp [hpl]) ?_
   refine zb ?_
   rw [show l.length - 1 = m by omega] at hsp
   repeat apply za
   refine pwY (some [nx + 2, nx + (more.length + 5)]) (Row.pures [0, 1, 2, 3, 4, 5, 6, 7, 8, 10, 11] (.alt 9 (Row.pures [12, 13] (.alt 14 (.done) .stop)) .stop)) mixed (jn6 wm hml1 hml2 z0 hmin hlf) ?_
   refine ⟨by omega, ?_⟩
   intros
   simp only [yK]
   rw [hm, Nat.add_sub_cancel] at hdef
   rw [hdef] at hsucc hok2
   refine jN ((l.set m (if p.m < z then p.m else z), last), v4) [_] ⟨hsucc.symm, hok2, by simp; omega, by omega⟩ rfl (by simp [hsp]; rfl)
  ·rw [if_pos hpl] at hdef
   rw [hdef] at hsucc hok2 hln2
   have w0 : IntKind.i64.wrap (l.length : Int) = (l.length : Int) := wr _ (by omega) (by omega)
   have w2 : (l.length : Int) < (l.length : Int) + 1 := by omega
   have hmin : vz p.m p.m = p.m := by unfold vz; split <;> rfl
   have hat : (l.flatMap Enc.enc ++ [I p.m] : List PV)[l.length]? = some (I p.m) := by rw [List.getElem?_append_right (by omega), hlf, Nat.sub_self]; rfl
   have hdl : (l.flatMap Enc.enc ++ [I p.m] : List PV).drop l.length = [I p.m] := by rw [← hlf, List.drop_left]
   have hspl : zH (l.flatMap Enc.enc ++ [I p.m] : List PV) l.length [I p.m] = l.flatMap Enc.enc ++ [I p.m] := by
    unfold zH
    rw [← hlf, List.take_left, List.drop_of_length_le (by simp)]; simp
   repeat apply za
   refine zj (by simp [hpl]) ?_
   repeat apply za
   refine pwY (some [nx + (more.length + 5)]) (Row.pures [1, 2, 3, 5, 6] (.alt 0 (.alt 4 (.alt 7 (.alt 8 (.done) .stop) .stop) .stop) .stop)) mixed (jn2 hlf hlt) ?_
   refine ⟨by omega, ?_⟩
   intros
   repeat apply za
   refine pwY (some [nx + 2, nx + (more.length + 5)]) (Row.pures [0, 1, 2, 3, 4, 5, 6, 7, 8, 10, 11] (.alt 9 (Row.pures [12, 13] (.alt 14 (.done) .stop)) .stop)) mixed (jn5 w0 w2 hmin hat hlf) ?_
   intros
   simp only [yK]
   refine jN ((l ++ [p.m], (p.t : Int)), v4 + 1) [_] ⟨hsucc.symm, hok2, by simp; omega, by omega⟩ rfl (by simp [hspl]; rfl)
 ·rintro ⟨⟨l, last⟩, v4⟩ ⟨hst, -⟩
  simp only [List.length_map, List.take_length] at hst ⊢
  rw [← hst] at hml ⊢
  simp only at hml ⊢
  have hz4 := wL l
  repeat apply za
  refine zM [] (by rfl) (by rfl) fun K Gc Gh hK hGc hGh X hX0 hX => ?_
  simp -implicitDefEqProofs [hX0, hX]
  try clear hX0 hX X
  refine hGc _ _ _ _ _ _ _ fun hsuf => ((YH l (by simp) (by omega)).mono ?_).v
  rintro _ _ rfl
  refine ⟨_, _, qg _ (by omega) (by simp), ?_⟩
  clear hGc hGh
  clear Gc Gh
  refine zK hsuf (D := []) (by rfl) fun Gc Gh hGc hGh X hX0 hX => ?_
  simp -implicitDefEqProofs [hX0, hX, (show nx + 4 - nx = 4 by omega)]
  clear hX0 hX X
  intros
  refine hK _ _ _ ?_
  clear hK hGc hGh
  clear K Gc Gh
  generalize zQ l = c at *
  rw [← hz4]
  refine zC 4 rfl ?_
  (repeat apply za); refine pwn ?_; intros
  repeat apply za
  exact zd (zg hd (by simp; rfl) rfl)
open Go Go.Proofs Go.Shelf Go.RowKit Go.Lib
theorem Zgp {P : Program} (b o : Nat) (vs : List Value) (w : World) (cur : Array Value) (t : TypeId) (hw : w.heap[b]? = some (.cells cur t (0, 0))) (hl : o + vs.length ≤ cur.size) (h1 : ∀ v ∈ vs, v.oneCell' = true) :
  w.setCells b o vs = w.setRow b (cur.toList.take o ++ vs ++ cur.toList.drop (o + vs.length)).toArray := by
 have a := run_storeCells_cells (P := P) b o vs 0 w (fun j hj => by simp [World.cell?, hw]; omega) (fun j _ => by simp [World.frozen?, hw]) h1
 have c := run_storeCells_at (P := P) b o t vs 0 cur w hw (by simpa using hl) h1
 rw [a] at c
 simpa using c
theorem Zgq (zc : Array Value) : (Builtin.zeroCells zc 1).toList = zc.toList := by
 apply List.ext_getElem
 ·simp [Builtin.zeroCells]
 ·intro i h1 h2
  simp [Builtin.zeroCells, Nat.mod_eq_of_lt (show i < zc.size by simpa using h2)]
  exact getElem!_pos zc i (by simpa using h2)
theorem Zgr {P : Program} (w : World) (t e ty : TypeId) (zc : Array Value) (ht : P.underlying t = some (.slice e)) (hv : ∀ w, (zeroValue e).run P w = .ok (.agg zc) w) (h1 : ∀ v ∈ zc.toList, v.oneCell' = true) (b o c : Nat) (cur : Array Value) (t' : TypeId) (hw : w.heap[b]? = some (.cells cur t' (0, 0))) (hl : o + zc.size ≤ cur.size) :
  (Builtin.clear_ #[t] ty #[.slice (some ⟨b, o, none⟩) 1 c]).run P w = .ok (.tuple #[]) (w.setRow b (cur.toList.take o ++ zc.toList ++ cur.toList.drop (o + zc.size)).toArray) := by
 have c := run_storeCells_at (P := P) b o t' zc.toList 0 cur w hw (by simpa using hl) h1
 simp only [Nat.add_zero, Array.length_toList] at c
 simp [Builtin.clear_, run_underlying ht, hv, Zgq, c]
set_option maxHeartbeats 4000000 in
set_option maxRecDepth 100000 in
theorem Zgs (b n c i : Nat) (V : List Value) (w : World) (i0 : TypeInfo) (hi0 : Tryz.prog.info? 50 = some i0) (hzs : i0.size = 2) (cur : Array Value) (hcur : w.heap[b]? = some (.cells cur 50 (0, 0))) (hcc : cur.size = c * 2)
  (hi : i < n) (hnc : n ≤ c) (hc63 : c ≤ 9223372036854775807) (hn : n ≤ 1048576) (hV : V.length = n * 2) (hcV : cur.toList.take (n * 2) = V) (h1 : ∀ v ∈ V, v.oneCell' = true) (R1 R2 : Array Value)
  (hR1 : R1 = (cur.toList.take (i * 2) ++ V.drop ((i + 1) * 2) ++ cur.toList.drop (i * 2 + (V.drop ((i + 1) * 2)).length)).toArray) (hR2 : R2 = (R1.toList.take ((i + (n - (i + 1))) * 2) ++ ([.int .i64 0, .int .i64 0] : List Value) ++ R1.toList.drop ((i + (n - (i + 1))) * 2 + 2)).toArray) :
  Calls Tryz.prog 248 #[.slice (some ⟨b, 0, none⟩) n c, .int .i64 i, .int .i64 ((i : Int) + 1)] w fun e w' =>
   e = .returned (.slice (some ⟨b, 0, none⟩) (i + (n - (i + 1))) c) ∧ w' = (w.drew.setRow b R1).setRow b R2 := by
 obtain ⟨news, hnews⟩ : ∃ news, news = V.drop ((i + 1) * 2) := ⟨_, rfl⟩
 have hlen : news.length = (n - (i + 1)) * 2 := by rw [hnews, List.length_drop, hV]; omega
 have hget : ∀ t u, news[t]? = some u → w.drew.cell? ⟨b, (i + 1) * 2 + t, none⟩ = some u := by
  intro t u hu
  rw [hnews, List.getElem?_drop, ← hcV, List.getElem?_take] at hu
  split at hu
  ·rw [Array.getElem?_toList] at hu
   show w.cell? _ = _
   simp [World.cell?, hcur, hu]
  ·cases hu
 obtain ⟨A, hA, hsrc⟩ : ∃ A : Addr, (if c = i + 1 then some (⟨b, 0, none⟩ : Addr) else some ⟨b, (i + 1) * 2, none⟩) = some A ∧ Hid (∀ t u, news[t]? = some u → w.drew.cell? (A.add t) = some u) := by
  by_cases h : c = i + 1
  ·refine ⟨⟨b, 0, none⟩, by simp [h], fun t u hu => ?_⟩
   have h0 : news.length = 0 := by rw [hlen]; omega
   rw [List.length_eq_zero_iff.1 h0] at hu
   simp at hu
  ·refine ⟨⟨b, (i + 1) * 2, none⟩, by simp [h], fun t u hu => ?_⟩
   rw [Addr.add_lit]
   exact hget t u hu
 have s1 : Hid (news.length = (n - (i + 1)) * 2) := hlen
 have s2 : Hid (∀ u ∈ news, u.oneCell' = true) := fun u hu => h1 u (by rw [hnews] at hu; exact List.mem_of_mem_drop hu)
 have s3 : Hid (∀ t, t < news.length → (w.drew.cell? ⟨b, 0 + i * 2 + t, none⟩).isSome = true ∧ w.drew.frozen? ⟨b, 0 + i * 2 + t, none⟩ = false) := by
  intro t ht
  rw [hlen] at ht
  refine ⟨?_, ?_⟩
  ·show (w.cell? _).isSome = true
   simp [World.cell?, hcur]; omega
  ·show w.frozen? _ = false
   simp [World.frozen?, hcur]
 obtain ⟨W1, hW1⟩ : ∃ W1, W1 = w.drew.setCells b (0 + i * 2) news := ⟨_, rfl⟩
 have hW1' : W1 = w.drew.setRow b R1 := by
  rw [hW1, Zgp (P := Tryz.prog) b (0 + i * 2) news w.drew cur 50 hcur (by rw [hlen, hcc]; omega) s2, hR1, hnews, Nat.zero_add]
 have hW1h : W1.heap[b]? = some (.cells R1 50 (0, 0)) := by rw [hW1']; exact setRow_heap _ _ _ _ _ _ hcur
 have hR1s : R1.size = c * 2 := by rw [hR1, ← hnews]; simp [hlen]; omega
 have hcl : ∀ ty, (Builtin.clear_ #[46] ty #[.slice (some ⟨b, (i + (n - (i + 1))) * 2, none⟩) (n - (i + (n - (i + 1)))) (c - (i + (n - (i + 1))))]).run Tryz.prog W1 = .ok (.tuple #[]) (W1.setRow b R2) := fun ty => by
  have := Zgr (P := Tryz.prog) W1 46 50 ty #[.int .i64 0, .int .i64 0] Tryz.underlying46 Tryz.zeroValue50 (by intro v hv; simp at hv; rcases hv with rfl | rfl <;> rfl) b ((i + (n - (i + 1))) * 2) (c - (i + (n - (i + 1)))) R1 50 hW1h (by simp; omega)
  rw [show n - (i + (n - (i + 1))) = 1 by omega, this, hR2]
  simp
 have hW : Hid (W1 = w.drew.setCells b (0 + i * 2) news) := hW1
 have hX : Hid (W1 = w.drew.setRow b R1) := hW1'
 clear hW1 hW1' hW1h hR1 hR2 hR1s hcur hcV hget hnews hlen h1 hV hcc
 have hic : i ≤ c := by omega
 have hjc : i + 1 ≤ c := by omega
 have hin : i ≤ n := by omega
 have hjn : i + 1 ≤ n := by omega
 have hne : ¬ (i : Int) = (i : Int) + 1 := by omega
 have hb1 : (0 : Int) ≤ (i : Int) + 1 := by omega
 have htn : ((i : Int) + 1).toNat = i + 1 := by omega
 have hb2 : (i : Int) + 1 ≤ (n : Int) := by omega
 have hb3 : (i : Int) ≤ (i : Int) + 1 := by omega
 have hcn : ¬ c = i + (n - (i + 1)) := by omega
 have hnn : i + (n - (i + 1)) ≤ n := by omega
 have mixed : Tryz.prog.follows .mixedOrders = true := by kernel_rfl
 go_enter Tryz.func248, Tryz.ntmps248
 go_wp2_with fail
 go_region_law_o (refine step_append_room rfl (.tmp 22) (.tmp 25) 46 rfl 50 i0 2 Tryz.underlying46 hi0 hzs b 0 i c (by simp [Act.eval, Act.put]) A (n - (i + 1)) (c - (i + 1)) news (by simp [Act.eval, Act.put]) s1.out hsrc.out s2.out (by omega) s3.out ?_; rw [← hW.out])
 go_wp2
 go_ret
 exact ⟨rfl, by rw [hX.out]⟩
theorem Zgt (l : List Stop) (i : Nat) (h : i < l.length) : zG (l.eraseIdx i) = (zG l).take (i * 2) ++ (zG l).drop ((i + 1) * 2) := by
 rw [List.eraseIdx_eq_take_drop_succ, YI, WG l i (by omega), WH l (i + 1) (by omega)]
theorem Zgu {S : Store} {id ver : Nat} (cs : List Stop) (i : Nat) (hi : i < cs.length) (hn : cs.length ≤ 1000000) (hid : S id = .cells ver 50 (cs.flatMap Enc.enc)) :
  Spec Tryz.prog 248 [.sl id ver 2 0 cs.length, I i, I ((i : Int) + 1)] S (fun p S' => p = .sl id (ver + 1) 2 0 (cs.eraseIdx i).length ∧ S' = S.set id (.cells (ver + 1) 50 ((cs.eraseIdx i).flatMap Enc.enc))) := by
 refine ⟨yG Tryz.func248 (by rfl) rfl, ?_⟩
 intro C w vs hS hl hr
 obtain ⟨u, v, x, rfl⟩ := WI hl
 obtain rfl := vO (hr 1 _ v rfl rfl)
 obtain rfl := vO (hr 2 _ x rfl rfl)
 have hu := hr 0 _ u rfl rfl
 have hvl : (zG cs).length = cs.length * 2 := uy cs
 have hel : (cs.eraseIdx i).length = i + (cs.length - (i + 1)) := by rw [List.length_eraseIdx_of_lt hi]; omega
 have hnew := Zgt cs i hi
 have hnl : (zG (cs.eraseIdx i)).length = (i + (cs.length - (i + 1))) * 2 := by rw [uy, hel]
 rw [WF] at hid ⊢
 rw [hel]
 generalize cs.eraseIdx i = es at *
 obtain ⟨i0, hi0⟩ := Option.isSome_iff_exists.1 i50
 have hc := c50
 simp only [Program.cellsOf, hi0, Option.map_some, Option.getD_some] at hc
 cases hu with
 | sl h1 h2 h3 =>
  obtain ⟨ad, cap, rfl, q1, q2, q3, q4⟩ := h1
  have hloc := (h3 ver (by rw [hid]; rfl)).2 rfl
  rcases hS.cells id ver _ _ hid with ⟨hno, hnil⟩ | ⟨b, k, c, g1, g2, g3, g4, g5, g6⟩
  ·have := congrArg List.length hnil
   simp [hvl] at this
   exfalso; omega
  rcases hloc with ⟨z1, _⟩ | ⟨b', k', ad', cap', z1, z2, z3, z4⟩
  ·rw [g1] at z1; cases z1
  rw [g1] at z1; cases z1; cases z2
  obtain ⟨rfl, hcap⟩ := z3 rfl
  rw [List.length_map, hvl] at g4
  have hcells : ∀ (j : Nat) v, (zG cs)[j]? = some v → c[j]? = some v := by
   intro j v hj
   have hjl := (List.getElem?_eq_some_iff.1 hj).1
   have e2 : c[j]? = some c[j] := Array.getElem?_eq_getElem (by omega)
   have := g6 j (.sc v) _ (by rw [List.getElem?_map, hj]; rfl) e2
   rw [e2]
   generalize c[j] = y at this
   cases this; rfl
  have hcur : c.toList.take (cs.length * 2) = zG cs := by
   apply List.ext_getElem?
   intro j
   by_cases hj : j < cs.length * 2
   ·rw [List.getElem?_take_of_lt hj, Array.getElem?_toList]
    have e : (zG cs)[j]? = some (zG cs)[j] := List.getElem?_eq_getElem (by omega)
    rw [e, hcells j _ e]
   ·rw [List.getElem?_eq_none (by simp; omega), List.getElem?_eq_none (by omega)]
  have hcsz : c.size = cap * 2 := g3.trans hcap.symm
  have hdl : ((zG cs).drop ((i + 1) * 2)).length = (cs.length - (i + 1)) * 2 := by rw [List.length_drop, hvl]; omega
  obtain ⟨R1, hR1⟩ : ∃ R1 : Array Value, R1 = (c.toList.take (i * 2) ++ (zG cs).drop ((i + 1) * 2) ++ c.toList.drop (i * 2 + ((zG cs).drop ((i + 1) * 2)).length)).toArray := ⟨_, rfl⟩
  obtain ⟨R2, hR2⟩ : ∃ R2 : Array Value, R2 = (R1.toList.take ((i + (cs.length - (i + 1))) * 2) ++ ([.int .i64 0, .int .i64 0] : List Value) ++ R1.toList.drop ((i + (cs.length - (i + 1))) * 2 + 2)).toArray := ⟨_, rfl⟩
  have htk : c.toList.take (i * 2) = (zG cs).take (i * 2) := by rw [← hcur, List.take_take, Nat.min_eq_left (by omega)]
  have hR1l : R1.toList.take ((i + (cs.length - (i + 1))) * 2) = zG es := by
   rw [hR1]
   simp only []
   rw [htk, ← hnew, ← hnl, List.take_left]
  have hR1s : R1.size = cap * 2 := by rw [hR1]; simp [hdl]; omega
  have hR2l : R2.toList = zG es ++ (([.int .i64 0, .int .i64 0] : List Value) ++ R1.toList.drop ((i + (cs.length - (i + 1))) * 2 + 2)) := by
   rw [hR2, hR1l]
   simp
  have hR2s : R2.size = cap * 2 := by
   rw [← Array.length_toList, hR2l]
   simp [hnl, hR1s]
   omega
  refine (Zgs b cs.length cap i (zG cs) w i0 hi0 hc c g2 hcsz hi q1 (by unfold maxLen at q3; omega) (by omega) hvl hcur (uz cs) R1 R2 hR1 hR2).mono ?_
  rintro e w' ⟨rfl, rfl⟩
  obtain ⟨r1, r2⟩ := Jf (C := C) (S := S) (w := w) hR2l (uz _)
  have hb1 := setRow_heap w.drew b c R1 _ _ g2
  obtain ⟨t1, t2⟩ := hS.turn (l := some (b, cap * 2)) (ver' := ver + 1) (cs' := (zG es).map .sc) hid (by omega) (fun h => absurd h (by omega)) (w' := (w.drew.setRow b R1).setRow b R2)
   (by
    rw [g1]
    refine ⟨⟨rfl, rfl, rfl, by simp [World.setRow], fun j hj hne => ?_⟩, Nat.le_succ _⟩
    have hjb : j ≠ b := fun e => hne (by rw [e]; rfl)
    rw [setRow_other _ _ _ _ hjb, setRow_other _ _ _ _ hjb]; rfl)
   (.inr ⟨b, cap * 2, R2, rfl, .inr (by rw [g1]; rfl), setRow_heap _ _ _ _ _ _ hb1, hR2s, by rw [List.length_map, hnl]; omega, r1, r2⟩)
  refine ⟨_, _, _, _, rfl, ⟨rfl, rfl⟩, ?_, t1, t2⟩
  refine .sl ⟨_, _, rfl, by omega, by unfold qz; omega, q3, fun _ => ⟨_, _, rfl⟩⟩ ⟨h2.1, by simp only [Ctx.at]; omega⟩ fun v0 hv0 => ?_
  rw [Store.set_same] at hv0; cases hv0
  exact ⟨Nat.le_refl _, fun _ => .inr ⟨b, _, _, _, by simp [Ctx.at], rfl, fun _ => ⟨rfl, rfl⟩, fun _ => rfl⟩⟩
open Go Go.Proofs
def uc (c : Int) (l : List Stop) : Int := ((l.filter fun s => decide (s.c = c)).map (·.q)).sum
theorem Zgv (c : Int) (d : Day) : VH c d = W (uc c d.flatten) := rfl
theorem Zgw (c : Int) (l : List Stop) (s : Stop) : uc c (l ++ [s]) = uc c l + if s.c = c then s.q else 0 := by
 unfold uc
 rw [List.filter_append, List.map_append, List.sum_append]
 by_cases h : s.c = c <;> simp [h]
theorem Zgx (c : Int) (l : List Stop) (s : Stop) : q8 c (l ++ [s]) = q8 c l ++ if s.c = c then [] else [s] := by
 unfold q8
 rw [List.filter_append]
 by_cases h : s.c = c <;> simp [h]
theorem Zgy (c : Int) (d : Day) (t : zn) : qT c (d ++ [t]) = qT c d ++ if (q8 c t).length = 0 then [] else [q8 c t] := by
 rw [ZfG]
 congr 1
 unfold qT
 rw [List.map_cons, List.map_nil]
 generalize q8 c t = u
 cases u <;> simp
theorem V7 (c : Int) (t : zn) : (q8 c t).length ≤ t.length := List.length_filter_le _ _
theorem Zgz (c : Int) (d : Day) : (qT c d).length ≤ d.length := by
 unfold qT
 exact Nat.le_trans (List.length_filter_le _ _) (by simp)
set_option maxRecDepth 20000 in
set_option maxHeartbeats 1600000 in
theorem ZgA (d : Day) (c : Int) (hdn : d.length ≤ 1048576) (hdt : ∀ t ∈ d, t.length ≤ 1048576) : Pure Tryz.prog 68 [.agg [L d], I c] (.tup [.agg [L (qT c d)], I (VH c d)]) := by
 rw [Zgv]
 refine pwe Tryz.func68 Tryz.ntmps68 Tryz.results68 fun S nx hd => ?_
 repeat apply za
 refine pwn ?_
 intro v0 v1
 repeat apply za
 refine pwn ?_
 intro v2
 refine yN 2 0 72 1 rfl rfl fun v3 => ?_
 (repeat apply za); refine pwn ?_; intros
 (repeat apply za); refine pwn ?_; intros
 repeat apply za
 refine ze (zq (fun (s : Nat × Nat) => s.1 ≤ d.length) (fun (k, v3) => [(1, I c), (4, .ptr (nx + 1) v1 0), (6, .ptr (nx + 2) v2 0), (7, I (W (uc c (d.take k).flatten))), (14, L d), (15, I d.length), (16, I k)]) (fun (k, v3) => [.cells v0 66 [L d], .cells v1 66 [zJ], .cells v2 66 [.sl (nx + 3) v3 1 0 (qT c (d.take k)).length], .cells v3 72 ((qT c (d.take k)).flatMap Enc.enc)]) (fun s => d.length - s.1) (0, v3) [] (by simp) (by simp [uc]) (by simp [qT]) ?_)
 rintro ⟨k, v3⟩ hk
 simp only at hk ⊢
 (repeat apply za); refine pwn ?_; intros
 repeat apply za
 refine zk rfl (fun hc => ?_) (fun hc => ?_)
 ·simp at hc
  obtain ⟨t, tl, a1, a2, a3, e0⟩ := el1 rfl d k hc
  have hk1 : 1 ≤ d.length - k := by omega
  have htm := List.mem_of_getElem? a1
  have htn := hdt t htm
  have hrd := Zgy c (d.take k) t
  rw [← a3] at hrd
  have hfl : (d.take (k + 1)).flatten = (d.take k).flatten ++ t := by rw [a3, List.flatten_append]; simp
  generalize (d.take k).flatten = pre at *
  have hrl : (qT c (d.take k)).length ≤ 1048576 := Nat.le_trans (Zgz _ _) (by rw [List.length_take]; omega)
  refine zb (za (ze ?_))
  generalize hrk : qT c (d.take k) = rk at *
  have hfz : ∀ id v cs, (rk.flatMap Enc.enc).map (zI id v cs) = (rk.flatMap Enc.enc : List PV) := fun id v cs => Qa id v cs rk
  have hrf : (rk.flatMap Enc.enc : List PV).length = rk.length := yD rk
  have hrt : (rk.flatMap Enc.enc : List PV).take rk.length = rk.flatMap Enc.enc := List.take_of_length_le (by omega)
  repeat apply za
  refine pwN [] (jn3 hc e0 hk1) ?_
  intro v4
  (repeat apply za); refine pwn ?_; intros
  refine qm 10 50 2 rfl fun v5 => ?_
  (repeat apply za); refine pwn ?_; intros
  repeat apply za
  refine ze (zq (fun (s : Nat × Nat) => s.1 ≤ t.length) (fun (j, v5) => [(1, I c), (4, .ptr (nx + 1) v1 0), (6, .ptr (nx + 2) v2 0), (7, I (W (uc c (pre ++ t.take j)))), (10, .sl (nx + 5) v5 2 0 (q8 c (t.take j)).length), (14, L d), (15, I d.length), (16, I k), (21, L t), (22, I t.length), (23, I j)]) (fun (j, v5) => [.cells v0 66 [L d], .cells v1 66 [zJ], .cells v2 66 [.sl (nx + 3) v3 1 0 rk.length], .cells v3 72 (rk.flatMap Enc.enc), .cells v4 72 [L t], .cells v5 50 ((q8 c (t.take j)).flatMap Enc.enc)]) (fun s => t.length - s.1) (0, v5) [] (by simp) (by simp [q8]) (by simp [q8]) ?_)
  rintro ⟨j, v5⟩ hj
  simp only at hj ⊢
  (repeat apply za); refine pwn ?_; intros
  repeat apply za
  refine zk rfl (fun hcj => ?_) (fun hcj => ?_)
  ·simp at hcj
   obtain ⟨s, ts, b1, b2, b3, b4, b5⟩ := el 2 rfl t j hcj
   have hj2 : 2 ≤ t.length * 2 - j * 2 := by omega
   have hsum := Zgw c (pre ++ t.take j) s
   rw [List.append_assoc, ← b3] at hsum
   have hrs := Zgx c (t.take j) s
   rw [← b3] at hrs
   have hul : (q8 c (t.take j)).length ≤ 1048576 := Nat.le_trans (V7 _ _) (by rw [List.length_take]; omega)
   generalize q8 c (t.take j) = u at *
   have huf : (u.flatMap Enc.enc : List PV).length = u.length * 2 := yq u
   have hut : (u.flatMap Enc.enc : List PV).take (u.length * 2) = u.flatMap Enc.enc := List.take_of_length_le (by omega)
   refine zb (za (ze ?_))
   repeat apply za
   refine pwN [] (jn3 hcj b5 hj2) ?_
   intro v6
   (repeat apply za); refine pwn ?_; intros
   repeat apply za
   refine zk rfl (fun hq => ?_) (fun hq => ?_)
   ·simp at hq
    rw [if_pos hq] at hsum hrs
    rw [List.append_nil] at hrs
    (repeat apply za); refine pwn ?_; intros
    (repeat apply za); refine pwn ?_; intros
    exact zh (j + 1, v5) [_] (by simp; omega) (by simp; omega) (by simp [wrN j (by omega), hsum, x6, hrs]) rfl (by simp [hrs]; rfl)
   ·simp at hq
    rw [if_neg hq] at hsum hrs
    rw [Int.add_zero] at hsum
    have hul' : ((q8 c (t.take (j + 1))).flatMap Enc.enc : List PV) = u.flatMap Enc.enc ++ [I s.c, I s.q] := by rw [hrs, List.flatMap_append]; rfl
    repeat apply za
    refine pwN [] (jn2 huf hut) ?_
    refine ⟨by omega, ?_⟩
    intros
    (repeat apply za); refine pwn ?_; intros
    exact zh (j + 1, v5 + 1) [_] (by simp; omega) (by simp; omega) (by simp [wrN j (by omega), hsum, hrs]) rfl (by simp [hul']; rfl)
  ·simp at hcj
   obtain rfl : j = t.length := by omega
   refine zo ?_
   rw [List.take_length]
   have hul : (q8 c t).length ≤ 1048576 := Nat.le_trans (V7 _ _) htn
   generalize q8 c t = u at *
   have huf : (u.flatMap Enc.enc : List PV).length = u.length * 2 := yq u
   refine zC 5 rfl ?_
   simp only [List.map_cons, List.map_nil, List.set_cons_succ, List.set_cons_zero, yW, hfz]
   (repeat apply za); refine pwn ?_; intros
   repeat apply za
   refine zk rfl (fun hq => ?_) (fun hq => ?_)
   ·simp at hq
    rw [if_neg (by omega)] at hrd
    have hrl' : ((rk ++ [u]).flatMap Enc.enc : List PV) = rk.flatMap Enc.enc ++ [L u] := by rw [List.flatMap_append]; rfl
    repeat apply za
    refine pwN [] (jn2 hrf hrt) ?_
    refine ⟨by omega, ?_⟩
    intros
    (repeat apply za); refine pwn ?_; intros
    exact zh (k + 1, v3 + 1) [_, _] (by simp; omega) (by simp; omega) (by simp [wrN k (by omega), hfl]) rfl (by simp [hrd, hrl']; exact ⟨rfl, rfl⟩)
   ·simp at hq
    rw [if_pos (by rw [hq]; rfl), List.append_nil] at hrd
    refine zb ?_
    (repeat apply za); refine pwn ?_; intros
    exact zh (k + 1, v3) [_, _] (by simp; omega) (by simp; omega) (by simp [wrN k (by omega), hfl]) rfl (by simp [hrd]; exact ⟨rfl, rfl⟩)
 ·simp at hc
  obtain rfl : k = d.length := by omega
  refine zo ?_
  refine zC 3 rfl ?_
  have g1 : d.take d.length = d := List.take_length
  (repeat apply za); refine pwn ?_; intros
  repeat apply za
  exact zd (zg hd (by simp; rfl) (by simp [zl, g1]))
open Go Hp
theorem V8 {x : Inst} (h : ∀ row ∈ x.dist, ∀ d ∈ row, 0 ≤ d ∧ d ≤ 2147483648) : ye x := by
 intro a b
 unfold arc
 split
 ·omega
 ·rw [List.getD_eq_getElem?_getD, List.getD_eq_getElem?_getD]
  cases hr : x.dist[a.toNat]? with
  | none => simp
  | some row =>
   simp only [Option.getD_some]
   cases hd : row[b.toNat]? with
   | none => simp
   | some d => exact h row (List.mem_of_getElem? hr) d (List.mem_of_getElem? hd)
open Go Go.Proofs
theorem uJ {α : Type} {a b : List α} {k : Nat} {x y : α} (hx : a[k]? = some x) (hy : b[k]? = some y) (h : x ≠ y) : a ≠ b := by
 rintro rfl; rw [hx] at hy; cases hy; exact h rfl
theorem ZgB {x : Inst} {d : Day} {s : Stop} (hx : x.cust.length ≤ 1048576) (hdo : DayOk d) (hd1 : d.length ≤ 1000000) (hf : d.flatten.length ≤ 1000000) : DayOk (yZ x d s).1 := by
 unfold yZ
 cases hb : (jV (zX x d s)).2 with
 | false => exact hdo
 | true =>
  have hm := Y1 hb
  have hp := JL hm
  have hs := V2 hx (Zz hm).1
  simp only [cond_true]
  have hfl : (yR d (jV (zX x d s)).1 s).flatten.length ≤ 1000001 := by rw [hp.length_eq, List.length_cons]; omega
  refine ⟨?_, fun t ht => ?_, fun t ht a ha => ?_⟩
  ·unfold yR; split
   ·simp; omega
   ·simp; omega
  ·have := (qC ht).length_le; omega
  ·have := hp.subset ((qC ht).subset ha)
   rw [List.mem_cons] at this
   rcases this with rfl | h
   ·exact hs
   ·obtain ⟨u, hu, hau⟩ := List.mem_flatten.1 h
    exact hdo.s u hu a hau
open Go Go.Proofs
def jd (l : List Int) : Int := if 1 < l.length then W (l.getD 1 0 - l.getD 0 0) else 1099511627776
def je (c : Stop → List Int) : List Stop → Nat → Int → Int → Int
 | [], _, place, _ => place
 | s :: l, i, place, most => if (c s).length = 0 then (i : Int) else if place < 0 ∨ most < jd (c s) then je c l (i + 1) (i : Int) (jd (c s)) else je c l (i + 1) place most
def wz (x : Inst) (d : Day) (l : List Stop) : Int := je (ww x d) l 0 (-1) 0
theorem JU (c : Stop → List Int) : ∀ (l : List Stop) (i : Nat) (place most : Int), (l ≠ [] ∨ 0 ≤ place) → place < i → 0 ≤ je c l i place most ∧ je c l i place most < (i + l.length : Nat)
 | [], i, place, most, h, hp => by
  rcases h with h | h
  ·exact absurd rfl h
  ·simp only [je, List.length_nil]; omega
 | s :: l, i, place, most, _, hp => by
  unfold je
  split
  ·simp only [List.length_cons]; omega
  ·split
   ·have := JU c l (i + 1) i (jd (c s)) (.inr (by omega)) (by omega)
    simp only [List.length_cons]; omega
   ·rename_i hc
    have := JU c l (i + 1) place most (.inr (by omega)) (by omega)
    simp only [List.length_cons]; omega
theorem JV {x : Inst} {d : Day} {l : List Stop} (h : l ≠ []) : ∃ k : Nat, wz x d l = k ∧ k < l.length := by
 have := JU (ww x d) l 0 (-1) 0 (.inl h) (by omega)
 exact ⟨(wz x d l).toNat, by unfold wz; omega, by unfold wz; omega⟩
def jf (x : Inst) : Nat → Day → List Stop → Day × Bool
 | 0, d, _ => (d, true)
 | n + 1, d, l => bif (yZ x d (l.getD (wz x d l).toNat default)).2 then jf x n (yZ x d (l.getD (wz x d l).toNat default)).1 (l.eraseIdx (wz x d l).toNat) else (d, false)
def zT (x : Inst) (l : List Stop) : Day × Bool := jf x l.length [] l
structure RgOk (x : Inst) (d : Day) (l : List Stop) : Prop where
 ok : DayOk d
 may : zL x d = 0
 len : d.flatten.length + l.length ≤ 1000
theorem RgOk.dl {x : Inst} {d : Day} {l : List Stop} (h : RgOk x d l) : d.length ≤ 1000 := by
 have h1 := uF d (Y6 h.may)
 have h2 := h.len
 omega
theorem RgOk.step {x : Inst} {d : Day} {l : List Stop} (hx : x.cust.length ≤ 1048576) (h : RgOk x d l) {i : Nat} (hi : i < l.length) {s : Stop} (hs : (yZ x d s).2 = true) : RgOk x (yZ x d s).1 (l.eraseIdx i) := by
 have hf := h.len
 have hl := h.dl
 refine ⟨ZgB hx h.ok (by omega) (by omega), ?_, ?_⟩
 ·unfold yZ at hs ⊢
  cases hb : (jV (zX x d s)).2 with
  | false => rw [hb] at hs; cases hs
  | true => exact JN (Y1 hb)
 ·rw [(VF hs).length_eq, List.length_cons, List.length_eraseIdx_of_lt hi]; omega
theorem JW {x : Inst} (hv : 0 ≤ x.veh) {l : List Stop} (hl : l.length ≤ 1000) : RgOk x [] l :=
 ⟨⟨by simp, by simp, by simp⟩, (xk x []).2 ⟨by simp, by simp, by simpa using hv⟩, by simpa using hl⟩
theorem V9 {c : Stop → List Int} {l : List Stop} {k : Nat} {s : Stop} {place most : Int} (hd : l.drop k = s :: l.drop (k + 1)) :
  je c (l.drop k) k place most = if (c s).length = 0 then (k : Int) else if place < 0 ∨ most < jd (c s) then je c (l.drop (k + 1)) (k + 1) (k : Int) (jd (c s)) else je c (l.drop (k + 1)) (k + 1) place most := by
 rw [hd]; rfl
set_option maxRecDepth 20000 in
set_option maxHeartbeats 1600000 in
theorem ZgC (x : Inst) (d : Day) (l : List Stop) (hx : x.cust.length ≤ 1048576) (h : RgOk x d l) {S : Store} {id ver : Nat} (hid : S id = .cells ver 50 (l.flatMap Enc.enc)) :
  Spec Tryz.prog 247 [.agg (xM x d), .sl id ver 2 0 l.length] S (fun p S' => p = I (wz x d l) ∧ S' = S) := by
 have hf := h.len
 have hl := h.dl
 have hco := fun s => Zgo x d s hx h.ok h.may (by omega) (by omega)
 have hu : wz x d l = je (ww x d) (l.drop 0) 0 (-1) 0 := rfl
 rw [hu]
 clear hu
 obtain ⟨on, tw, fs, bd, ls, ws, hlk⟩ : ∃ on tw fs bd ls ws, xM x d = xi x d on tw fs bd ls ws := ⟨_, _, _, _, _, _, rfl⟩
 rw [hlk] at hco ⊢
 clear hlk
 generalize hcz : ww x d = cz at *
 refine jm Tryz.func247 Tryz.ntmps247 Tryz.results247 fun nx hd => ?_
 have hlt : id < nx := yO hd hid (by simp)
 have xid := fun obs => zx (S := S) (obs := obs) hlt
 repeat apply za
 refine pwn ?_
 intro v0
 (repeat apply za); refine pwn ?_; intros
 (repeat apply za); refine pwn ?_; intros
 repeat apply za
 refine ze (zq (fun s' : Nat × Int × Int => s'.1 ≤ l.length ∧ je cz (l.drop s'.1) s'.1 s'.2.1 s'.2.2 = je cz (l.drop 0) 0 (-1) 0) (fun (k, place, most) => [(2, .ptr nx v0 0), (5, I place), (6, I most), (11, .sl id ver 2 0 l.length), (12, I l.length), (13, I k)]) (fun _ => [.cells v0 149 (xi x d on tw fs bd ls ws)]) (fun s' => l.length - s'.1) (0, -1, 0) [] ⟨by simp, rfl⟩ (by simp) (by simp) ?_)
 rintro ⟨k, place, most⟩ ⟨hk, hg⟩
 simp only at hk hg ⊢
 rw [← hg]
 (repeat apply za); refine pwn ?_; intros
 repeat apply za
 refine zk rfl (fun hc => ?_) (fun hc => ?_)
 ·simp at hc
  obtain ⟨s, tl, a1, a2, a3, e1, e0⟩ := el 2 rfl l k hc
  have hk2 : 2 ≤ l.length * 2 - k * 2 := by omega
  have hun := V9 (c := cz) (place := place) (most := most) a2
  have hcs := hco s
  generalize hc0 : cz s = c at *
  have wk := wrN k (by omega)
  refine zb (za (ze ?_))
  repeat apply za
  refine pwN [] (jn5 xid hid e0 hc hk2) ?_
  intro v1
  repeat apply za
  refine pwn ?_
  refine pwc hcs ?_
  intros
  by_cases h0 : c.length = 0
  ·rw [if_pos h0] at hun
   repeat apply za
   refine pwN [] h0 ?_
   intros
   repeat apply za
   refine zj rfl ?_
   (repeat apply za); refine pwn ?_; intros
   repeat apply za
   exact zd ⟨_, S, (by simp; rfl), ⟨by simp [zl, hun], rfl⟩, yg hd⟩
  rw [if_neg h0] at hun
  (repeat apply za); refine pwn ?_; intros
  repeat apply za
  refine zi (by simp; exact fun e => h0 (by rw [e]; rfl)) ?_
  refine zb ?_
  (repeat apply za); refine pwn ?_; intros
  repeat apply za
  refine yc (nx := nx) (fun _ : Unit => True) (fun _ => [(2, .ptr nx v0 0), (5, I place), (6, I most), (7, I k), (10, I (jd c)), (11, .sl id ver 2 0 l.length), (12, I l.length), (13, I k)]) (fun _ => S) (fun _ => [.cells v0 149 (xi x d on tw fs bd ls ws)]) ?_ ?_
  ·by_cases h1 : 1 < c.length
   ·obtain ⟨a, ta, q1, -, -, q0⟩ := el1 rfl c 1 h1
    obtain ⟨b, tb, r1, -, -, r0⟩ := el1 rfl c 0 (by omega)
    have hab : jd c = W (a - b) := by unfold jd; rw [if_pos h1, List.getD_eq_getElem?_getD, List.getD_eq_getElem?_getD, q1, r1]; rfl
    have g1 : 1 ≤ c.length - 1 := by omega
    have g2 : 0 < c.length := by omega
    have g3 : 1 ≤ c.length := by omega
    have r0' : (c.flatMap Enc.enc : List PV) = Enc.enc b ++ tb := by simpa using r0
    have h1' : (1 : Int) < c.length := by omega
    repeat apply za
    refine zj (by simp; omega) ?_
    rw [r0'] at q0
    have htb : tb = I a :: ta := by simpa using q0
    rw [htb] at r0'
    repeat apply za
    refine pwY none (Row.pures [0, 1, 2, 3, 4, 5, 6, 7] .done) mixed (jn6 r0' h1 h1' g1 g2 g3) ?_
    intros
    exact zu () [_] trivial (by simp [hab]) rfl (by simp; rfl)
   ·have hab : jd c = 1099511627776 := by unfold jd; rw [if_neg h1]
    repeat apply za
    refine zi (by simp; omega) ?_
    refine zb ?_
    exact zu () [_] trivial (by simp [hab]) rfl (by simp; rfl)
  ·rintro ⟨⟩ -
   generalize jd c = ab at *
   by_cases hq : place < 0
   ·rw [if_pos (.inl hq)] at hun
    repeat apply za
    refine pwN [(2, 37)] (jn2 hq zr) ?_
    intros
    repeat apply za
    refine zj rfl ?_
    (repeat apply za); refine pwn ?_; intros
    (repeat apply za); refine pwn ?_; intros
    exact zh (k + 1, (k : Int), ab) [] ⟨hc, by rw [← hun, hg]⟩ (by simp; omega) (by simp [wk]) rfl (by simp)
   ·by_cases hq2 : most < ab
    ·rw [if_pos (.inr hq2)] at hun
     repeat apply za
     refine pwN [(2, 37)] (jn2 hq hq2) ?_
     intros
     repeat apply za
     refine zj rfl ?_
     (repeat apply za); refine pwn ?_; intros
     (repeat apply za); refine pwn ?_; intros
     exact zh (k + 1, (k : Int), ab) [] ⟨hc, by rw [← hun, hg]⟩ (by simp; omega) (by simp [wk]) rfl (by simp)
    ·rw [if_neg (by rintro (q | q); exact hq q; exact hq2 q)] at hun
     repeat apply za
     refine pwN [(2, 37)] (jn2 hq hq2) ?_
     intros
     repeat apply za
     refine zi rfl ?_
     refine zb ?_
     (repeat apply za); refine pwn ?_; intros
     exact zh (k + 1, place, most) [] ⟨hc, by rw [← hun, hg]⟩ (by simp; omega) (by simp [wk]) rfl (by simp)
 ·simp at hc
  obtain rfl : k = l.length := by omega
  refine zo ?_
  have hgl : je cz (l.drop l.length) l.length place most = place := by rw [List.drop_length]; rfl
  (repeat apply za); refine pwn ?_; intros
  repeat apply za
  exact zd ⟨_, S, (by simp; rfl), ⟨by simp [zl]; rfl, rfl⟩, yg hd⟩
open Go Go.Proofs
theorem Zaa {x : Inst} {d : Day} {l : List Stop} {k : Nat} {s : Stop} (hu : wz x d l = k) (hk : l[k]? = some s) :
  jf x l.length d l = bif (yZ x d s).2 then jf x (l.eraseIdx k).length (yZ x d s).1 (l.eraseIdx k) else (d, false) := by
 have hlt := (List.getElem?_eq_some_iff.1 hk).1
 obtain ⟨n, hn⟩ : ∃ n, l.length = n + 1 := ⟨l.length - 1, by omega⟩
 have he : (l.eraseIdx k).length = n := by rw [List.length_eraseIdx_of_lt hlt]; omega
 have hg : l.getD k default = s := by rw [List.getD_eq_getElem?_getD, hk]; rfl
 rw [hn, he, jf, hu, Int.toNat_natCast, hg]
theorem Zab {x : Inst} {d : Day} {l : List Stop} (h : RgOk x d l) : d.length ≤ 1000 ∧ d.flatten.length ≤ 1000 ∧ l.length ≤ 1000 := by
 have h1 := h.dl
 have h2 := h.len
 omega
set_option maxRecDepth 20000 in
set_option maxHeartbeats 1600000 in
theorem ZgD (x : Inst) (l : List Stop) (hx : x.cust.length ≤ 1048576) (hv : 0 ≤ x.veh) (hl : l.length ≤ 1000) : Pure Tryz.prog 221 [.agg (zm x), L l] (.tup [.agg [L (zT x l).1], B (zT x l).2]) := by
 have hb := JW hv hl
 unfold zT
 by_cases h0 : 0 < l.length
 case neg =>
  obtain rfl : l = [] := List.eq_nil_of_length_eq_zero (by omega)
  have hcl := YY [] (by simp)
  refine pwe Tryz.func221 Tryz.ntmps221 Tryz.results221 fun S nx hd => ?_
  repeat apply za
  refine pwn ?_
  intro v0 v1
  repeat apply za
  refine pwn ?_
  intro v2
  refine xI 2 0 rfl rfl ?_
  repeat apply za
  refine pwn ?_
  refine pwc hcl ?_
  intros
  repeat apply za
  refine ze (zq (fun _ : Nat => True) (fun _ => [(2, .ptr nx v0 0), (4, .ptr (nx + 1) v1 0), (6, .ptr (nx + 2) v2 0), (7, L ([] : List Stop))]) (fun _ => [.cells v0 25 (zm x), .cells v1 66 [zJ], .cells v2 66 [L ([] : Day)]]) (fun k => k) 0 [] trivial (by simp) (by simp) ?_)
  rintro k -
  (repeat apply za); refine pwn ?_; intros
  repeat apply za
  refine zi rfl ?_
  refine zo ?_
  (repeat apply za); refine pwn ?_; intros
  repeat apply za
  exact zd (zg hd (by simp; rfl) (by simp [zl, jf]))
 refine pwe Tryz.func221 Tryz.ntmps221 Tryz.results221 fun S nx hd => ?_
 repeat apply za
 refine pwn ?_
 intro v0 v1
 repeat apply za
 refine pwn ?_
 intro v2
 refine xI 2 0 rfl rfl ?_
 repeat apply za
 refine zM [] (by rfl) (by rfl) fun K Gc Gh hK hGc hGh X hX0 hX => ?_
 simp -implicitDefEqProofs [hX0, hX]
 try clear hX0 hX X
 refine hGc _ _ _ _ _ _ _ fun hsuf => ((JG l h0 (by omega) _ _ x4).mono ?_).v
 rintro _ _ ⟨v3, rfl, rfl⟩
 refine ⟨_, _, qh _, ?_⟩
 clear hGc hGh
 clear Gc Gh
 refine zK hsuf (D := []) (by rfl) fun Gc Gh hGc hGh X hX0 hX => ?_
 simp -implicitDefEqProofs [hX0, hX]
 clear hX0 hX X
 intros
 refine hK _ _ _ ?_
 clear hK hGc hGh
 clear K Gc Gh
 repeat apply za
 refine ze (zq (fun s' : Day × List Stop × Nat => jf x s'.2.1.length s'.1 s'.2.1 = jf x l.length [] l ∧ RgOk x s'.1 s'.2.1) (fun (d, m, v3) => [(2, .ptr nx v0 0), (4, .ptr (nx + 1) v1 0), (6, .ptr (nx + 2) v2 0), (7, .sl (nx + 3) v3 2 0 m.length)]) (fun (d, m, v3) => [.cells v0 25 (zm x), .cells v1 66 [zJ], .cells v2 66 [L d], .cells v3 50 (m.flatMap Enc.enc)]) (fun s' => s'.2.1.length) ([], l, v3) [] ⟨rfl, hb⟩ (by simp) (by simp) ?_)
 rintro ⟨d, m, v3⟩ ⟨hr, hok⟩
 simp only at hr hok ⊢
 rw [← hr]
 by_cases hm : m = []
 ·subst hm
  (repeat apply za); refine pwn ?_; intros
  repeat apply za
  refine zi rfl ?_
  refine zo ?_
  (repeat apply za); refine pwn ?_; intros
  repeat apply za
  exact zd (zg hd (by simp; rfl) (by simp [zl, jf]))
 ·have hm0 : 0 < m.length := List.length_pos_iff.2 hm
  obtain ⟨k, hu, hk⟩ := JV (x := x) (d := d) hm
  obtain ⟨s, tl, a1, a2, a3, e1, e0⟩ := el 2 rfl m k hk
  have hk2 : 2 ≤ m.length * 2 - k * 2 := by omega
  have hst := Zaa hu a1
  obtain ⟨b1, b2, b3⟩ := Zab hok
  have hsee := Vs x d hx hok.ok (by omega)
  have hins := Zgi x d s hx hok.ok (by omega)
  have hnx := fun h => hok.step hx hk (s := s) h
  have hurg := fun (S : Store) (id ver : Nat) h => ZgC x d m hx hok (S := S) (id := id) (ver := ver) h
  rw [hu] at hurg
  obtain ⟨on, tw, fs, bd, ls, ws, hlk⟩ : ∃ on tw fs bd ls ws, xM x d = xi x d on tw fs bd ls ws := ⟨_, _, _, _, _, _, rfl⟩
  rw [hlk] at hsee hurg
  clear hlk
  have hno := ZfE (x := x) (d := d) (s := s)
  generalize hi : yZ x d s = r at *
  obtain ⟨d2, ok⟩ := r
  simp only at hst hnx hno
  have wk := wrN k (by omega)
  have hm0' : (0 : Int) < m.length := by omega
  repeat apply za
  refine pwN [] hm0' ?_
  intros
  repeat apply za
  refine zj (by simp; exact hm0) ?_
  refine zb (ze ?_)
  repeat apply za
  refine zM [] (by rfl) (by rfl) fun K Gc Gh hK hGc hGh X hX0 hX => ?_
  simp -implicitDefEqProofs [hX0, hX]
  try clear hX0 hX X
  refine hGc _ _ _ _ _ _ _ fun hsuf => ((hsee _).mono ?_).v
  rintro _ _ ⟨rfl, rfl⟩
  refine ⟨_, _, rfl, ?_⟩
  clear hGc hGh
  clear Gc Gh
  refine zK hsuf (D := []) (by rfl) fun Gc Gh hGc hGh X hX0 hX => ?_
  simp -implicitDefEqProofs [hX0, hX]
  clear hX0 hX X
  refine hGc _ _ _ _ _ _ _ fun hsuf => ((hurg _ _ _ (by rw [yM]; rfl)).mono ?_).v
  rintro _ _ ⟨rfl, rfl⟩
  refine ⟨_, _, rfl, ?_⟩
  clear hGc hGh
  clear Gc Gh
  refine zK hsuf (D := []) (by rfl) fun Gc Gh hGc hGh X hX0 hX => ?_
  simp -implicitDefEqProofs [hX0, hX]
  clear hX0 hX X
  intros
  refine hK _ _ _ ?_
  clear hK hGc hGh
  clear K Gc Gh
  repeat apply za
  refine pwY (some [nx, nx + 2, nx + 3]) (Row.pures [0, 1, 2, 3, 4, 5, 6, 7, 8, 9] (.alt 10 (.alt 11 (Row.pures [12] .done) .stop) .stop)) mixed (jn3 e0 hk hk2) ?_
  refine pwP (hins) trivial ?_
  intro v4
  intros
  (repeat apply za); refine pwn ?_; intros
  cases ok with
  | false =>
   simp only [cond_false] at hst
   repeat apply za
   refine zj rfl ?_
   (repeat apply za); refine pwn ?_; intros
   repeat apply za
   exact zd (zg hd (by simp; rfl) (by simp [zl, hst]))
  | true =>
   simp only [cond_true] at hst
   repeat apply za
   refine zi rfl ?_
   refine zb ?_
   have hkl := List.length_eraseIdx_of_lt hk
   repeat apply za
   refine xH (some [nx + 4]) (Row.pures [0, 1, 2, 3, 4] (.alt 5 (.alt 6 (Row.pures [7] .done) .stop) .stop)) mixed (by rfl) (by rfl) (by rfl) fun K Gp Gc Gh hK hGp hGc hGh X hX0 hX1 hX2 hX => ?_
   simp -implicitDefEqProofs [hX0, hX1, hX2, hX, wk]
   try clear hX0 hX1 hX2 hX X
   refine hGc _ _ _ _ _ _ _ ?_
   refine ((Zgu m k hk (by omega) (by rw [yM]; rfl)).mono ?_).v
   rintro _ _ ⟨rfl, rfl⟩
   rw [qg _ (by omega) (by simp), Nat.add_sub_cancel_left]
   refine ⟨by simp [zV], ?_⟩
   clear hGp hGc hGh
   clear Gp Gc Gh
   refine qQ fun Gp Gc Gh hGp hGc hGh X hX0 hX1 hX2 hX => ?_
   simp -implicitDefEqProofs [hX0, hX1, hX2, hX]
   try clear hX0 hX1 hX2 hX X
   refine hK _ _ _ ?_
   clear hK hGp hGc hGh
   clear K Gp Gc Gh
   exact zh (d2, m.eraseIdx k, v3 + 1) [_] ⟨hst.symm, hnx rfl⟩ (by simp only; omega) (by simp) rfl (by simp; rfl)
set_option maxRecDepth 20000 in
set_option maxHeartbeats 1600000 in
theorem ZgE (x : Inst) (l : List Stop) (hx : x.cust.length ≤ 1048576) (ha : ye x) (hv : 0 ≤ x.veh) (hl : l.length ≤ 1000) : Pure Tryz.prog 106 [.agg (zm x), L l] (.tup [.agg [L (zT x l).1], B (zT x l).2]) := by
 have hb := JW hv hl
 unfold zT
 refine pwe Tryz.func106 Tryz.ntmps106 Tryz.results106 fun S nx hd => ?_
 repeat apply za
 refine pwn ?_
 intro v0 v1
 repeat apply za
 refine pwn ?_
 intro v2
 refine xI 2 0 rfl rfl ?_
 repeat apply za
 refine pwn ?_
 refine ⟨by omega, ?_⟩
 intro v3
 intros
 repeat apply za
 refine ze (zq (fun s' : Day × List Stop × Nat => jf x s'.2.1.length s'.1 s'.2.1 = jf x l.length [] l ∧ RgOk x s'.1 s'.2.1) (fun (d, m, v3) => [(2, .ptr nx v0 0), (4, .ptr (nx + 1) v1 0), (6, .ptr (nx + 2) v2 0), (7, .sl (nx + 3) v3 2 0 m.length)]) (fun (d, m, v3) => [.cells v0 25 (zm x), .cells v1 66 [zJ], .cells v2 66 [L d], .cells v3 50 (m.flatMap Enc.enc)]) (fun s' => s'.2.1.length) ([], l, v3) [] ⟨rfl, hb⟩ (by simp) (by simp) ?_)
 rintro ⟨d, m, v3⟩ ⟨hr, hok⟩
 simp only at hr hok ⊢
 rw [← hr]
 by_cases hm : m = []
 ·subst hm
  (repeat apply za); refine pwn ?_; intros
  repeat apply za
  refine zi rfl ?_
  refine zo ?_
  (repeat apply za); refine pwn ?_; intros
  repeat apply za
  exact zd (zg hd (by simp; rfl) (by simp [zl, jf]))
 ·have hm0 : 0 < m.length := List.length_pos_iff.2 hm
  obtain ⟨k, hu, hk⟩ := JV (x := x) (d := d) hm
  obtain ⟨s, tl, a1, a2, a3, e1, e0⟩ := el 2 rfl m k hk
  have hk2 : 2 ≤ m.length * 2 - k * 2 := by omega
  have hst := Zaa hu a1
  obtain ⟨b1, b2, b3⟩ := Zab hok
  have hins := Zf3 x d s hx (by omega) (by omega)
  rw [ZfN ha hok.may (by omega) (by omega)] at hins
  have hnx := fun h => hok.step hx hk (s := s) h
  have hco := fun s => Zf9 x d s hx ha hok.ok hok.may (by omega) (by omega)
  have hug : je (ww x d) (m.drop 0) 0 (-1) 0 = k := hu
  generalize hcz : ww x d = cz at *
  generalize hi : yZ x d s = r at *
  obtain ⟨d2, ok⟩ := r
  simp only at hst hnx
  have wk := wrN k (by omega)
  have hm0' : (0 : Int) < m.length := by omega
  repeat apply za
  refine pwN [] hm0' ?_
  intros
  repeat apply za
  refine zj (by simp; exact hm0) ?_
  refine zb (ze ?_)
  (repeat apply za); refine pwn ?_; intros
  (repeat apply za); refine pwn ?_; intros
  (repeat apply za); refine pwn ?_; intros
  repeat apply za
  refine yc (nx := nx) (fun _ : Unit => True) (fun _ => [(2, .ptr nx v0 0), (4, .ptr (nx + 1) v1 0), (6, .ptr (nx + 2) v2 0), (7, .sl (nx + 3) v3 2 0 m.length), (8, I k)]) (fun _ => S) (fun _ => [.cells v0 25 (zm x), .cells v1 66 [zJ], .cells v2 66 [L d], .cells v3 50 (m.flatMap Enc.enc)]) ?_ ?_
  ·refine ze (zq (fun s' : Nat × Int × Int => s'.1 ≤ m.length ∧ je cz (m.drop s'.1) s'.1 s'.2.1 s'.2.2 = k) (fun (i, at_, most) => [(2, .ptr nx v0 0), (4, .ptr (nx + 1) v1 0), (6, .ptr (nx + 2) v2 0), (7, .sl (nx + 3) v3 2 0 m.length), (8, I at_), (9, I most), (10, I i)]) (fun _ => [.cells v0 25 (zm x), .cells v1 66 [zJ], .cells v2 66 [L d], .cells v3 50 (m.flatMap Enc.enc)]) (fun s' => m.length - s'.1) (0, -1, 0) [] ⟨by simp, hug⟩ (by simp) (by simp) ?_)
   rintro ⟨i, at_, most⟩ ⟨hik, hg⟩
   simp only at hik hg ⊢
   (repeat apply za); refine pwn ?_; intros
   repeat apply za
   refine zk rfl (fun hc => ?_) (fun hc => ?_)
   ·simp at hc
    obtain ⟨u, tu, c1, c2, c3, f1, f0⟩ := el 2 rfl m i hc
    have hi2 : 2 ≤ m.length * 2 - i * 2 := by omega
    have hun := V9 (c := cz) (place := at_) (most := most) c2
    rw [hg] at hun
    have hcs := hco u
    generalize hc0 : cz u = c at *
    have wi := wrN i (by omega)
    refine zb (za (ze ?_))
    repeat apply za
    refine pwY (some [nx, nx + 2, nx + 3]) (Row.pures [0, 1, 2, 3, 4, 5, 6, 7] .done) mixed (jn3 f0 hc hi2) ?_
    refine pwP (hcs) trivial ?_
    intros
    by_cases h0 : c.length = 0
    ·rw [if_pos h0] at hun
     repeat apply za
     refine pwN [] h0 ?_
     intros
     repeat apply za
     refine zj rfl ?_
     (repeat apply za); refine pwn ?_; intros
     refine zo ?_
     exact zu () [] trivial (by simp [hun]) rfl (by simp)
    rw [if_neg h0] at hun
    (repeat apply za); refine pwn ?_; intros
    repeat apply za
    refine zi (by simp; exact fun e => h0 (by rw [e]; rfl)) ?_
    refine zb ?_
    (repeat apply za); refine pwn ?_; intros
    (repeat apply za); refine pwn ?_; intros
    repeat apply za
    refine yc (nx := nx) (fun _ : Unit => True) (fun _ => [(2, .ptr nx v0 0), (4, .ptr (nx + 1) v1 0), (6, .ptr (nx + 2) v2 0), (7, .sl (nx + 3) v3 2 0 m.length), (8, I at_), (9, I most), (10, I i), (12, I (jd c))]) (fun _ => S) (fun _ => [.cells v0 25 (zm x), .cells v1 66 [zJ], .cells v2 66 [L d], .cells v3 50 (m.flatMap Enc.enc)]) ?_ ?_
    ·by_cases h1 : 1 < c.length
     ·obtain ⟨a, ta, q1, -, -, q0⟩ := el1 rfl c 1 h1
      obtain ⟨b, tb, r1, -, -, r0⟩ := el1 rfl c 0 (by omega)
      have hab : jd c = W (a - b) := by unfold jd; rw [if_pos h1, List.getD_eq_getElem?_getD, List.getD_eq_getElem?_getD, q1, r1]; rfl
      have g1 : 1 ≤ c.length - 1 := by omega
      have g2 : 0 < c.length := by omega
      have g3 : 1 ≤ c.length := by omega
      have r0' : (c.flatMap Enc.enc : List PV) = Enc.enc b ++ tb := by simpa using r0
      have h1' : (1 : Int) < c.length := by omega
      rw [r0'] at q0
      have htb : tb = I a :: ta := by simpa using q0
      rw [htb] at r0'
      repeat apply za
      refine zj (by simp; omega) ?_
      repeat apply za
      refine pwY none (Row.pures [0, 1, 2, 3, 4, 5, 6, 7] .done) mixed (jn6 r0' h1 h1' g1 g2 g3) ?_
      intros
      exact zu () [] trivial (by simp [hab]) rfl (by simp)
     ·have hab : jd c = 1099511627776 := by unfold jd; rw [if_neg h1]
      repeat apply za
      refine zi (by simp; omega) ?_
      refine zb ?_
      exact zu () [] trivial (by simp [hab]) rfl (by simp)
    ·rintro ⟨⟩ -
     generalize jd c = ab at *
     by_cases hq : at_ < 0
     ·rw [if_pos (.inl hq)] at hun
      repeat apply za
      refine pwN [(2, 49)] (jn2 hq zr) ?_
      intros
      repeat apply za
      refine zj rfl ?_
      (repeat apply za); refine pwn ?_; intros
      (repeat apply za); refine pwn ?_; intros
      (repeat apply za); refine pwn ?_; intros
      exact zh (i + 1, (i : Int), ab) [] ⟨hc, hun.symm⟩ (by simp; omega) (by simp [wi]) rfl (by simp)
     ·by_cases hq2 : most < ab
      ·rw [if_pos (.inr hq2)] at hun
       repeat apply za
       refine pwN [(2, 49)] (jn2 hq hq2) ?_
       intros
       repeat apply za
       refine zj rfl ?_
       (repeat apply za); refine pwn ?_; intros
       (repeat apply za); refine pwn ?_; intros
       (repeat apply za); refine pwn ?_; intros
       exact zh (i + 1, (i : Int), ab) [] ⟨hc, hun.symm⟩ (by simp; omega) (by simp [wi]) rfl (by simp)
      ·rw [if_neg (by rintro (q | q); exact hq q; exact hq2 q)] at hun
       repeat apply za
       refine pwN [(2, 49)] (jn2 hq hq2) ?_
       intros
       repeat apply za
       refine zi rfl ?_
       refine zb ?_
       (repeat apply za); refine pwn ?_; intros
       exact zh (i + 1, at_, most) [] ⟨hc, hun.symm⟩ (by simp; omega) (by simp [wi]) rfl (by simp)
   ·simp at hc
    obtain rfl : i = m.length := by omega
    have hgl : je cz (m.drop m.length) m.length at_ most = at_ := by rw [List.drop_length]; rfl
    rw [hgl] at hg
    refine zo ?_
    exact zu () [] trivial (by simp [hg]) rfl (by simp)
  ·rintro ⟨⟩ -
   repeat apply za
   refine pwY (some [nx, nx + 2, nx + 3]) (Row.pures [0, 1, 2, 3, 4, 5, 6, 7, 8, 9] (.alt 10 (.alt 11 (Row.pures [12] .done) .stop) .stop)) mixed (jn3 e0 hk hk2) ?_
   refine pwP (hins) trivial ?_
   intro v4
   intros
   (repeat apply za); refine pwn ?_; intros
   cases ok with
   | false =>
    simp only [cond_false] at hst
    repeat apply za
    refine zj rfl ?_
    (repeat apply za); refine pwn ?_; intros
    repeat apply za
    exact zd (zg hd (by simp; rfl) (by simp [zl, hst]))
   | true =>
    simp only [cond_true] at hst
    repeat apply za
    refine zi rfl ?_
    refine zb ?_
    (repeat apply za); refine pwn ?_; intros
    have hkl := List.length_eraseIdx_of_lt hk
    have hec : ((m.eraseIdx k).flatMap Enc.enc : List PV) = (m.flatMap Enc.enc).take (k * 2) ++ ((m.flatMap Enc.enc).drop ((k + 1) * 2)).take ((m.length - (k + 1)) * 2) := by
     rw [List.eraseIdx_eq_take_drop_succ, List.flatMap_append, ← jM Enc.enc 2 (fun _ => rfl) m k, ← j6 Enc.enc 2 (fun _ => rfl) m (k + 1)]
     congr 1
     rw [List.take_of_length_le]
     rw [List.length_drop, yq]; omega
    have hml : (m.flatMap Enc.enc : List PV).length = m.length * 2 := yq m
    have n1 : k ≤ m.length := by omega
    have n2 : k + 1 ≤ m.length := by omega
    have n3 : (k : Int) ≤ m.length := by omega
    have n4 : (k : Int) + 1 ≤ m.length := by omega
    have n5 : (0 : Int) ≤ (k : Int) + 1 := by omega
    have n6 : ((k : Int) + 1).toNat = k + 1 := by omega
    have wk' : IntKind.i64.wrap ((k : Int) + 1) = (k : Int) + 1 := wr _ (by omega) (by omega)
    have n7 : (k + 1) * 2 + (m.length - (k + 1)) * 2 ≤ m.length * 2 := by omega
    repeat apply za
    refine pwY (some []) (Row.pures [0, 1, 2, 3, 4, 5, 6] (.alt 7 (Row.pures [8] .done) .stop)) mixed (jn6 wk' hml n1 n2 n3 (jn4 n4 n5 n6 n7)) ?_
    refine ⟨⟨by omega, by omega⟩, ?_⟩
    intros
    have hkl' : (m.eraseIdx k).length = k + (m.length - (k + 1)) := by omega
    exact zh (d2, m.eraseIdx k, v3 + 1) [_] ⟨hst.symm, hnx rfl⟩ (by simp only; omega) (by simp [hkl']) rfl (by simp [hec]; rfl)
open Go Go.Proofs
def yH (step : Day → Option Day) : Nat → Day → Day
 | 0, d => d
 | n + 1, d => match step d with
  | none => d
  | some e => yH step n e
def xR (step : Day → Option Day) : Nat → Day → Nat
 | 0, _ => 0
 | n + 1, d => match step d with
  | none => 0
  | some e => xR step n e + 1
def Zac (x : Inst) (step : Day → Option Day) (G : Day → Prop) : Prop := ∀ d, G d → ∃ mk ma mb mi mj least, Pure Tryz.prog 115 [.agg (zm x), .agg [L d]] (.tup [.agg [I mk, I ma, I mb, I mi, I mj], I least, B (step d).isSome]) ∧
 ∀ e, step d = some e → Pure Tryz.prog 116 [.agg (zm x), .agg [L d], .agg [I mk, I ma, I mb, I mi, I mj]] (.tup [.agg [L e], I 0]) ∧ G e
def Zad (x : Inst) (step : Day → Option Day) (G : Day → Prop) : Prop := ∀ d, G d → ∃ mk ma mb mi mj least, Pure Tryz.prog 138 [.agg (zm x), .agg [L d]] (.tup [.agg [I mk, I ma, I mb, I mi, I mj], I least, B (step d).isSome]) ∧
 ∀ e, step d = some e → Pure Tryz.prog 139 [.agg [L d], .agg [I mk, I ma, I mb, I mi, I mj]] (.agg [L e]) ∧ G e
set_option maxRecDepth 20000 in
set_option maxHeartbeats 1600000 in
theorem ZgF (x : Inst) (d : Day) (b : Int) (step : Day → Option Day) (G : Day → Prop) (hb : b ≤ 9223372036854775807) (hd' : 0 < b → G d) (hs : Zad x step G) : Pure Tryz.prog 104 [.agg (zm x), .agg [L d], I b] (.agg [L (yH step b.toNat d)]) := by
 refine pwe Tryz.func104 Tryz.ntmps104 Tryz.results104 fun S nx hd => ?_
 repeat apply za
 refine pwn ?_
 intro v0 v1 v2
 (repeat apply za); refine pwn ?_; intros
 repeat apply za
 refine ze (zq (fun s' : Nat × Day => s'.1 ≤ b.toNat ∧ (0 < b → G s'.2) ∧ yH step (b.toNat - s'.1) s'.2 = yH step b.toNat d) (fun (k, e) => [(2, I b), (3, .ptr nx v0 0), (4, .ptr (nx + 1) v1 0), (6, .ptr (nx + 2) v2 0), (7, I k)]) (fun (k, e) => [.cells v0 25 (zm x), .cells v1 66 [L e], .cells v2 66 [zJ]]) (fun s' => b.toNat - s'.1) (0, d) [] ⟨by simp, hd', by simp⟩ (by simp) (by simp) ?_)
 rintro ⟨k, e⟩ ⟨hk, hG, hi⟩
 simp only at hk hG hi ⊢
 rw [← hi]
 (repeat apply za); refine pwn ?_; intros
 repeat apply za
 refine zk rfl (fun hc => ?_) (fun hc => ?_)
 ·simp at hc
  obtain ⟨mk, ma, mb, mi, mj, least, hB, hM⟩ := hs e (hG (by omega))
  obtain ⟨n, hn⟩ : ∃ n, b.toNat - k = n + 1 := ⟨b.toNat - k - 1, by omega⟩
  refine zb (za (ze ?_))
  repeat apply za
  refine pwn ?_
  refine pwc hB ?_
  intro v3
  intros
  (repeat apply za); refine pwn ?_; intros
  cases hst : step e with
  | none =>
   have hr : yH step (b.toNat - k) e = e := by rw [hn]; unfold yH; rw [hst]
   rw [hr]
   repeat apply za
   refine zj rfl ?_
   (repeat apply za); refine pwn ?_; intros
   repeat apply za
   exact zd (zg hd (by simp; rfl) (by simp [zl]))
  | some e2 =>
   have hr : yH step (b.toNat - k) e = yH step (b.toNat - (k + 1)) e2 := by rw [hn, show b.toNat - (k + 1) = n by omega]; conv => lhs; unfold yH; rw [hst]
   obtain ⟨hM1, hG2⟩ := hM e2 hst
   repeat apply za
   refine zi rfl ?_
   refine zb ?_
   repeat apply za
   refine pwn ?_
   refine pwc hM1 ?_
   intros
   (repeat apply za); refine pwn ?_; intros
   exact zh (k + 1, e2) [_] ⟨by simp; omega, fun _ => hG2, hr.symm⟩ (by simp; omega) (by simp [wrN k (by omega)]) rfl (by simp; rfl)
 ·simp at hc
  have hz : b.toNat - k = 0 := by omega
  rw [hz]
  refine zo ?_
  (repeat apply za); refine pwn ?_; intros
  repeat apply za
  exact zd (zg hd (by simp; rfl) (by simp [zl, yH]))
set_option maxRecDepth 20000 in
set_option maxHeartbeats 1600000 in
theorem ZgG (x : Inst) (d : Day) (b : Int) (step : Day → Option Day) (G : Day → Prop) (hb : b ≤ 9223372036854775807) (hdn : d.length ≤ 1048576) (hdt : ∀ t ∈ d, t.length ≤ 1048576) (hd' : 0 < b → G d) (hs : Zac x step G) : Pure Tryz.prog 76 [.agg (zm x), .agg [L d], I b] (.tup [.agg [L (yH step b.toNat d)], I (if xR step b.toNat d < b.toNat then (xR step b.toNat d : Int) else uj b 0)]) := by
 refine pwe Tryz.func76 Tryz.ntmps76 Tryz.results76 fun S nx hd => ?_
 repeat apply za
 refine pwn ?_
 intro v0 v1 v2
 repeat apply za
 refine pwn ?_
 intro v3
 refine yN 3 0 72 1 rfl rfl fun v4 => ?_
 (repeat apply za); refine pwn ?_; intros
 repeat apply za
 refine ze (zq (fun s' : Nat × Nat => s'.1 ≤ d.length) (fun (k, v4) => [(2, I b), (3, .ptr nx v0 0), (6, .ptr (nx + 2) v2 0), (7, I 0), (8, .ptr (nx + 3) v3 0), (16, L d), (17, I d.length), (18, I k)]) (fun (k, v4) => [.cells v0 25 (zm x), .cells v1 66 [L d], .cells v2 66 [zJ], .cells v3 66 [.sl (nx + 4) v4 1 0 k], .cells v4 72 ((d.take k).flatMap Enc.enc)]) (fun s' => d.length - s'.1) (0, v4) [] (by simp) (by simp) (by simp) ?_)
 rintro ⟨k, v4⟩ hk
 simp only at hk ⊢
 (repeat apply za); refine pwn ?_; intros
 repeat apply za
 refine zk rfl (fun hc => ?_) (fun hc => ?_)
 ·simp at hc
  obtain ⟨t, tl, a1, a2, a3, e0⟩ := el1 rfl d k hc
  have hk1 : 1 ≤ d.length - k := by omega
  have hcl := YY t (hdt t (List.mem_of_getElem? a1))
  have hcl' : ((d.take k).flatMap Enc.enc : List PV).length = k := by rw [yD, List.length_take]; omega
  have hct : ((d.take k).flatMap Enc.enc : List PV).take k = (d.take k).flatMap Enc.enc := List.take_of_length_le (by omega)
  have hcn : ((d.take (k + 1)).flatMap Enc.enc : List PV) = (d.take k).flatMap Enc.enc ++ [L t] := by rw [a3, List.flatMap_append]; rfl
  generalize ((d.take k).flatMap Enc.enc : List PV) = cs at *
  refine zb (za (ze ?_))
  repeat apply za
  refine pwN [] (jn3 e0 hc hk1) ?_
  intro v5
  repeat apply za
  refine pwY (some [nx + 5]) (Row.pures [0, 2, 3, 4, 5, 6] (.alt 1 (.alt 7 (Row.pures [8] (.alt 9 (.done) .stop)) .stop) .stop)) mixed (jn2 hcl' hct) ?_
  refine pwP (hcl) (jn2 hcl' hct) ?_
  refine ⟨by omega, ?_⟩
  intros
  (repeat apply za); refine pwn ?_; intros
  exact zh (k + 1, v4 + 1) [_] hc (by simp; omega) (by simp [wrN k (by omega)]) rfl (by simp [hcn]; rfl)
 ·simp at hc
  obtain rfl : k = d.length := by omega
  have g1 : d.take d.length = d := List.take_length
  refine zo ?_
  rw [g1]
  refine zC 4 rfl ?_
  (repeat apply za); refine pwn ?_; intros
  clear hk hc g1
  repeat apply za
  refine ze (zq (fun s' : Nat × Day => s'.1 ≤ b.toNat ∧ (0 < b → G s'.2) ∧ yH step (b.toNat - s'.1) s'.2 = yH step b.toNat d ∧ s'.1 + xR step (b.toNat - s'.1) s'.2 = xR step b.toNat d) (fun (k, e) => [(2, I b), (3, .ptr nx v0 0), (6, .ptr (nx + 2) v2 0), (8, .ptr (nx + 3) v3 0), (11, I k)]) (fun (k, e) => [.cells v0 25 (zm x), .cells v1 66 [L d], .cells v2 66 [zJ], .cells v3 66 [L e]]) (fun s' => b.toNat - s'.1) (0, d) [.dead] ⟨by simp, hd', by simp, by simp⟩ (by simp) (by simp) ?_)
  rintro ⟨k, e⟩ ⟨hk, hG, hi, hco⟩
  simp only at hk hG hi hco ⊢
  rw [← hi]
  (repeat apply za); refine pwn ?_; intros
  repeat apply za
  refine zk rfl (fun hc => ?_) (fun hc => ?_)
  ·simp at hc
   obtain ⟨mk, ma, mb, mi, mj, least, hB, hM⟩ := hs e (hG (by omega))
   obtain ⟨n, hn⟩ : ∃ n, b.toNat - k = n + 1 := ⟨b.toNat - k - 1, by omega⟩
   refine zb (za (ze ?_))
   repeat apply za
   refine pwn ?_
   refine pwc hB ?_
   intro v5
   intros
   (repeat apply za); refine pwn ?_; intros
   cases hst : step e with
   | none =>
    have hr : yH step (b.toNat - k) e = e := by rw [hn]; unfold yH; rw [hst]
    have hr2 : xR step (b.toNat - k) e = 0 := by rw [hn]; unfold xR; rw [hst]
    rw [hr2] at hco
    rw [hr, ← hco, if_pos (by omega)]
    repeat apply za
    refine zj rfl ?_
    (repeat apply za); refine pwn ?_; intros
    repeat apply za
    exact zd (zg hd (by simp; rfl) (by simp [zl]))
   | some e2 =>
    have hr : yH step (b.toNat - k) e = yH step (b.toNat - (k + 1)) e2 := by rw [hn, show b.toNat - (k + 1) = n by omega]; conv => lhs; unfold yH; rw [hst]
    have hr2 : xR step (b.toNat - k) e = xR step (b.toNat - (k + 1)) e2 + 1 := by rw [hn, show b.toNat - (k + 1) = n by omega]; conv => lhs; unfold xR; rw [hst]
    obtain ⟨hM1, hG2⟩ := hM e2 hst
    repeat apply za
    refine zi rfl ?_
    refine zb ?_
    repeat apply za
    refine pwn ?_
    refine pwc hM1 ?_
    intros
    (repeat apply za); refine pwn ?_; intros
    exact zh (k + 1, e2) [_] ⟨by simp; omega, fun _ => hG2, hr.symm, by simp only; omega⟩ (by simp; omega) (by simp [wrN k (by omega)]) rfl (by simp; rfl)
  ·simp at hc
   have hz : b.toNat - k = 0 := by omega
   rw [hz] at hco ⊢
   have hco' : xR step b.toNat d = k := by rw [← hco]; rfl
   rw [hco', if_neg (by omega)]
   refine zo ?_
   (repeat apply za); refine pwn ?_; intros
   repeat apply za
   exact zd (zg hd (by simp; rfl) (by simp [zl, yH]))
open Go Go.Proofs
structure Pc where
 t : Nat
 f : Nat
 o : Nat
 b : Bool
 deriving DecidableEq
def pc0 : Pc := ⟨0, 0, 0, false⟩
abbrev pcL (p : Pc) : List PV := [I p.t, I p.f, I p.o, B p.b]
structure Rw5 where
 a : Pc
 b : Pc
 c : Pc
 d : Pc
 e : Pc
abbrev rwL (r : Rw5) : List PV := [I r.a.t, I r.a.f, I r.a.o, B r.a.b, I r.b.t, I r.b.f, I r.b.o, B r.b.b, I r.c.t, I r.c.f, I r.c.o, B r.c.b, I r.d.t, I r.d.f, I r.d.o, B r.d.b, I r.e.t, I r.e.f, I r.e.o, B r.e.b]
def Rw5.l (r : Rw5) : List Pc := [r.a, r.b, r.c, r.d, r.e]
def rw0 : Rw5 := ⟨pc0, pc0, pc0, pc0, pc0⟩
structure Mv where
 k : Nat
 a : Nat
 b : Nat
 i : Nat
 j : Nat
 deriving DecidableEq
abbrev mvL (m : Mv) : List PV := [I m.k, I m.a, I m.b, I m.i, I m.j]
abbrev vwL (m : Mv) (la lb : Nat) : List PV := [I m.k, I m.a, I m.b, I m.i, I m.j, I la, I lb]
def qD (m : Mv) (la lb : Nat) : Bool :=
 if m.k = 0 then decide (m.b = m.a ∧ m.i < m.j ∧ m.j < la)
 else if m.k = 1 then decide (m.i < la ∧ (if m.a = m.b then m.j < lb else m.j ≤ lb))
 else if m.k = 2 then decide (¬ (m.b < m.a ∨ m.a = m.b ∧ m.j ≤ m.i) ∧ m.i < la ∧ m.j < lb)
 else decide (m.a < m.b ∧ m.i ≤ la ∧ m.j ≤ lb)
def qu (m : Mv) (la lb : Nat) : Rw5 × Rw5 :=
 if m.k = 0 then (⟨⟨m.a, 0, m.i, false⟩, ⟨m.a, m.i, m.j + 1, true⟩, ⟨m.a, m.j + 1, la, false⟩, pc0, pc0⟩, rw0)
 else if m.k = 1 then
  (if m.a ≠ m.b then (⟨⟨m.a, 0, m.i, false⟩, ⟨m.a, m.i + 1, la, false⟩, pc0, pc0, pc0⟩, ⟨⟨m.b, 0, m.j, false⟩, ⟨m.a, m.i, m.i + 1, false⟩, ⟨m.b, m.j, lb, false⟩, pc0, pc0⟩)
  else if m.i < m.j then (⟨⟨m.a, 0, m.i, false⟩, ⟨m.a, m.i + 1, m.j + 1, false⟩, ⟨m.a, m.i, m.i + 1, false⟩, ⟨m.a, m.j + 1, la, false⟩, pc0⟩, rw0)
  else (⟨⟨m.a, 0, m.j, false⟩, ⟨m.a, m.i, m.i + 1, false⟩, ⟨m.a, m.j, m.i, false⟩, ⟨m.a, m.i + 1, la, false⟩, pc0⟩, rw0))
 else if m.k = 2 then
  (if m.a = m.b then (⟨⟨m.a, 0, m.i, false⟩, ⟨m.b, m.j, m.j + 1, false⟩, ⟨m.a, m.i + 1, m.j, false⟩, ⟨m.a, m.i, m.i + 1, false⟩, ⟨m.a, m.j + 1, la, false⟩⟩, rw0)
  else (⟨⟨m.a, 0, m.i, false⟩, ⟨m.b, m.j, m.j + 1, false⟩, ⟨m.a, m.i + 1, la, false⟩, pc0, pc0⟩, ⟨⟨m.b, 0, m.j, false⟩, ⟨m.a, m.i, m.i + 1, false⟩, ⟨m.b, m.j + 1, lb, false⟩, pc0, pc0⟩))
 else (⟨⟨m.a, 0, m.i, false⟩, ⟨m.b, m.j, lb, false⟩, pc0, pc0, pc0⟩, ⟨⟨m.b, 0, m.j, false⟩, ⟨m.a, m.i, la, false⟩, pc0, pc0, pc0⟩)
set_option maxRecDepth 20000 in
theorem ZgH (m : Mv) (la lb : Nat) (hk : m.k = 0) : Pure Tryz.prog 231 [.agg (vwL m la lb)] (B (qD m la lb)) := by
 unfold qD
 rw [if_pos hk]
 refine pwe Tryz.func231 Tryz.ntmps231 Tryz.results231 fun S nx hd => ?_
 repeat apply za
 refine pwn ?_
 intro v0
 by_cases h1 : m.b = m.a
 case neg =>
  have h1' : ¬ (m.b : Int) = m.a := by omega
  repeat apply za
  refine pwN [(7, 10), (13, 16), (22, 25)] (jn2 h1' zr) ?_
  intros
  repeat apply za
  exact zd (zg hd rfl (by simp [h1, zl]))
 have h1' : (m.b : Int) = m.a := by omega
 by_cases h2 : m.i < m.j
 case neg =>
  have h2' : ¬ (m.i : Int) < m.j := by omega
  repeat apply za
  refine pwN [(7, 10), (13, 16), (22, 25)] (jn3 h1' h2 zr) ?_
  intros
  repeat apply za
  exact zd (zg hd rfl (by simp [h2, zl]))
 by_cases h3 : m.j < la
 case neg =>
  repeat apply za
  refine pwN [(7, 10), (13, 16), (22, 25)] (jn4 h1' h2 h3 zr) ?_
  intros
  repeat apply za
  exact zd (zg hd rfl (by simp [h3, zl]))
 repeat apply za
 refine pwN [(7, 10), (13, 16), (22, 25)] (jn3 h1' h2 h3) ?_
 intros
 repeat apply za
 exact zd (zg hd rfl (by simp [h1, h2, h3, zl]))
set_option maxRecDepth 20000 in
theorem ZgI (m : Mv) (la lb : Nat) (hk : m.k = 1) (hlb : lb ≤ 1048576) : Pure Tryz.prog 233 [.agg (vwL m la lb)] (B (qD m la lb)) := by
 unfold qD
 rw [if_neg (by omega), if_pos hk]
 refine pwe Tryz.func233 Tryz.ntmps233 Tryz.results233 fun S nx hd => ?_
 repeat apply za
 refine pwn ?_
 intro v0
 (repeat apply za); refine pwn ?_; intros
 refine za ?_
 refine yc (nx := nx) (fun z : Int => (m.j : Int) ≤ z ↔ (if m.a = m.b then m.j < lb else m.j ≤ lb)) (fun z => [(1, .ptr nx v0 0), (3, I z)]) (fun _ => S) (fun _ => [.cells v0 265 (vwL m la lb)]) ?_ ?_
 ·by_cases h1 : m.a = m.b
  ·have h1' : (m.a : Int) = m.b := by omega
   have w1 : IntKind.i64.wrap ((lb : Int) - 1) = (lb : Int) - 1 := wr _ (by omega) (by omega)
   repeat apply za
   refine pwN [] h1' ?_
   intros
   repeat apply za
   refine zj rfl ?_
   repeat apply za
   refine pwN [] w1 ?_
   intros
   exact zu ((lb : Int) - 1) [] (by rw [if_pos h1]; omega) (by simp) rfl (by simp)
  ·have h1' : ¬ (m.a : Int) = m.b := by omega
   repeat apply za
   refine pwN [] h1' ?_
   intros
   repeat apply za
   refine zi rfl ?_
   refine zb ?_
   exact zu (lb : Int) [] (by rw [if_neg h1]; omega) (by simp) rfl (by simp)
 ·intro z hz
  by_cases h2 : m.i < la
  case neg =>
   repeat apply za
   refine pwN [(4, 19), (12, 27), (18, 33)] (jn2 h2 zr) ?_
   intros
   repeat apply za
   exact zd (zg hd rfl (by simp [h2, zl]))
  by_cases h3 : (m.j : Int) ≤ z
  case neg =>
   have h4 := (not_congr hz).1 h3
   repeat apply za
   refine pwN [(4, 19), (12, 27), (18, 33)] (jn2 h2 h3) ?_
   intros
   repeat apply za
   exact zd (zg hd rfl (by simp [h2, h4, zl]))
  have h4 := hz.1 h3
  repeat apply za
  refine pwN [(4, 19), (12, 27), (18, 33)] (jn2 h2 h3) ?_
  intros
  repeat apply za
  exact zd (zg hd rfl (by simp [h2, h4, zl]))
set_option maxRecDepth 20000 in
theorem ZgJ (m : Mv) (la lb : Nat) (hk : m.k = 2) : Pure Tryz.prog 235 [.agg (vwL m la lb)] (B (qD m la lb)) := by
 unfold qD
 rw [if_neg (by omega), if_neg (by omega), if_pos hk]
 refine pwe Tryz.func235 Tryz.ntmps235 Tryz.results235 fun S nx hd => ?_
 repeat apply za
 refine pwn ?_
 intro v0
 have rest : ∀ (P : Prop), (m.i < la → m.j < lb → P) → (¬ (m.i < la ∧ m.j < lb) → P) → P := fun P a b => by
  by_cases q : m.i < la ∧ m.j < lb
  ·exact a q.1 q.2
  ·exact b q
 by_cases h1 : m.b < m.a
 ·repeat apply za
  refine pwN [(7, 10), (15, 18)] (jn2 h1 zr) ?_
  intros
  repeat apply za
  refine zj rfl ?_
  (repeat apply za); refine pwn ?_; intros
  repeat apply za
  exact zd (zg hd rfl (by simp [h1, zl]))
 by_cases h2 : m.a = m.b
 ·have h2' : (m.a : Int) = m.b := by omega
  by_cases h3 : m.j ≤ m.i
  ·have h1' : ¬ m.b < m.b := by omega
   repeat apply za
   refine pwN [(7, 10), (15, 18)] (jn3 h2' h1' h3) ?_
   intros
   repeat apply za
   refine zj rfl ?_
   (repeat apply za); refine pwn ?_; intros
   repeat apply za
   exact zd (zg hd rfl (by simp [h2, h3, zl]))
  ·have h1' : ¬ m.b < m.b := by omega
   have h0 : ¬ (m.b < m.a ∨ m.a = m.b ∧ m.j ≤ m.i) := by omega
   repeat apply za
   refine pwN [(7, 10), (15, 18)] (jn3 h2' h1' h3) ?_
   intros
   repeat apply za
   refine zi rfl ?_
   refine zb ?_
   by_cases h4 : m.i < la
   case neg =>
    repeat apply za
    refine pwN [(4, 32), (12, 40), (18, 46)] (jn2 h4 zr) ?_
    intros
    repeat apply za
    exact zd (zg hd rfl (by simp [h4, zl]))
   by_cases h5 : m.j < lb
   case neg =>
    repeat apply za
    refine pwN [(4, 32), (12, 40), (18, 46)] (jn2 h4 h5) ?_
    intros
    repeat apply za
    exact zd (zg hd rfl (by simp [h5, zl]))
   repeat apply za
   refine pwN [(4, 32), (12, 40), (18, 46)] (jn2 h4 h5) ?_
   intros
   repeat apply za
   exact zd (zg hd rfl (by simp [h0, h4, h5, zl]))
 ·have h2' : ¬ (m.a : Int) = m.b := by omega
  have h0 : ¬ (m.b < m.a ∨ m.a = m.b ∧ m.j ≤ m.i) := by omega
  repeat apply za
  refine pwN [(7, 10), (15, 18)] (jn3 h1 h2' zr) ?_
  intros
  repeat apply za
  refine zi rfl ?_
  refine zb ?_
  by_cases h4 : m.i < la
  case neg =>
   repeat apply za
   refine pwN [(4, 32), (12, 40), (18, 46)] (jn2 h4 zr) ?_
   intros
   repeat apply za
   exact zd (zg hd rfl (by simp [h4, zl]))
  by_cases h5 : m.j < lb
  case neg =>
   repeat apply za
   refine pwN [(4, 32), (12, 40), (18, 46)] (jn2 h4 h5) ?_
   intros
   repeat apply za
   exact zd (zg hd rfl (by simp [h5, zl]))
  repeat apply za
  refine pwN [(4, 32), (12, 40), (18, 46)] (jn2 h4 h5) ?_
  intros
  repeat apply za
  exact zd (zg hd rfl (by simp [h0, h4, h5, zl]))
set_option maxRecDepth 20000 in
theorem ZgK (m : Mv) (la lb : Nat) (hk : 3 ≤ m.k) : Pure Tryz.prog 237 [.agg (vwL m la lb)] (B (qD m la lb)) := by
 unfold qD
 rw [if_neg (by omega), if_neg (by omega), if_neg (by omega)]
 refine pwe Tryz.func237 Tryz.ntmps237 Tryz.results237 fun S nx hd => ?_
 repeat apply za
 refine pwn ?_
 intro v0
 by_cases h1 : m.a < m.b
 case neg =>
  repeat apply za
  refine pwN [(7, 10), (13, 16), (21, 24), (27, 30)] (jn2 h1 zr) ?_
  intros
  repeat apply za
  exact zd (zg hd rfl (by simp [h1, zl]))
 by_cases h2 : m.i ≤ la
 case neg =>
  repeat apply za
  refine pwN [(7, 10), (13, 16), (21, 24), (27, 30)] (jn3 h1 h2 zr) ?_
  intros
  repeat apply za
  exact zd (zg hd rfl (by simp [h2, zl]))
 by_cases h3 : m.j ≤ lb
 case neg =>
  repeat apply za
  refine pwN [(7, 10), (13, 16), (21, 24), (27, 30)] (jn3 h1 h2 h3) ?_
  intros
  repeat apply za
  exact zd (zg hd rfl (by simp [h3, zl]))
 repeat apply za
 refine pwN [(7, 10), (13, 16), (21, 24), (27, 30)] (jn3 h1 h2 h3) ?_
 intros
 repeat apply za
 exact zd (zg hd rfl (by simp [h1, h2, h3, zl]))
set_option maxRecDepth 20000 in
theorem ZgL (m : Mv) (la lb : Nat) (hk : m.k = 0) (hi : m.i ≤ 1048576) (hj : m.j ≤ 1048576) : Pure Tryz.prog 232 [.agg (vwL m la lb)] (.tup [.agg (rwL (qu m la lb).1), .agg (rwL (qu m la lb).2)]) := by
 have wi := wrN m.i (by omega)
 have wj := wrN m.j (by omega)
 unfold qu
 rw [if_pos hk]
 refine pwe Tryz.func232 Tryz.ntmps232 Tryz.results232 fun S nx hd => ?_
 repeat apply za
 refine pwn ?_
 intro v0 v1 v2
 repeat apply za
 refine pwY (some [nx]) (Row.pures [0, 1, 2, 3, 4, 5, 6, 7, 8, 9, 10, 11] .done) mixed trivial ?_
 intros
 repeat apply za
 refine pwN [] wj ?_
 intros
 repeat apply za
 exact zd (zg hd (by simp; rfl) (by simp [zl, rw0, pc0]))
set_option maxRecDepth 20000 in
theorem ZgM (m : Mv) (la lb : Nat) (hk : 3 ≤ m.k) : Pure Tryz.prog 238 [.agg (vwL m la lb)] (.tup [.agg (rwL (qu m la lb).1), .agg (rwL (qu m la lb).2)]) := by
 unfold qu
 rw [if_neg (by omega), if_neg (by omega), if_neg (by omega)]
 refine pwe Tryz.func238 Tryz.ntmps238 Tryz.results238 fun S nx hd => ?_
 repeat apply za
 refine pwn ?_
 intro v0 v1 v2
 repeat apply za
 refine pwY (some [nx]) (Row.pures [0, 1, 2, 3, 4, 5, 6, 7, 8, 9, 10, 11, 12, 13, 14, 15] .done) mixed trivial ?_
 intros
 repeat apply za
 refine pwY (some [nx]) (Row.pures [0, 1, 2, 3, 4, 5, 6, 7, 8, 9, 10, 11, 12, 13, 14, 15, 16, 17] (.alt 18 (.alt 19 (.done) .stop) .stop)) mixed trivial ?_
 intros
 repeat apply za
 exact zd (zg hd (by simp; rfl) (by simp [zl, rw0, pc0]))
set_option maxRecDepth 20000 in
theorem ZgN (m : Mv) (la lb : Nat) (hk : m.k = 1) (hi : m.i ≤ 1048576) (hj : m.j ≤ 1048576) : Pure Tryz.prog 234 [.agg (vwL m la lb)] (.tup [.agg (rwL (qu m la lb).1), .agg (rwL (qu m la lb).2)]) := by
 have wi := wrN m.i (by omega)
 have wj := wrN m.j (by omega)
 unfold qu
 rw [if_neg (by omega), if_pos hk]
 refine pwe Tryz.func234 Tryz.ntmps234 Tryz.results234 fun S nx hd => ?_
 repeat apply za
 refine pwn ?_
 intro v0 v1 v2
 repeat apply za
 refine pwY (some [nx]) (Row.pures [0, 1, 2, 3, 4, 5, 6, 7, 8, 9, 10, 11, 12, 13, 14, 15] .done) mixed trivial ?_
 intros
 repeat apply za
 refine pwN [] wi ?_
 intro v3
 refine za (ze ?_)
 by_cases h1 : m.a = m.b
 case neg =>
  have h1' : ¬ (m.a : Int) = m.b := by omega
  rw [if_pos h1]
  repeat apply za
  refine pwN [] h1' ?_
  intros
  repeat apply za
  refine zj rfl ?_
  repeat apply za
  refine pwY (some [nx, nx + 3]) (Row.pures [0, 1, 2, 3, 4, 5, 6, 7, 8, 9, 10, 11, 12, 13, 14, 15, 16, 17, 18, 19] (.alt 20 (.alt 21 (.done) .stop) .stop)) mixed wi ?_
  intros
  repeat apply za
  exact zd (zg hd (by simp; rfl) (by simp [zl, rw0, pc0]))
 have h1' : (m.a : Int) = m.b := by omega
 rw [if_neg (by simpa using h1)]
 repeat apply za
 refine pwN [] h1' ?_
 intros
 repeat apply za
 refine zi rfl ?_
 by_cases h2 : m.i < m.j
 ·rw [if_pos h2]
  repeat apply za
  refine pwN [] h2 ?_
  intros
  repeat apply za
  refine zj rfl ?_
  repeat apply za
  refine pwN [] (jn2 wi wj) ?_
  intros
  repeat apply za
  exact zd (zg hd (by simp; rfl) (by simp [zl, rw0, pc0, h1]))
 ·rw [if_neg h2]
  repeat apply za
  refine pwN [] h2 ?_
  intros
  repeat apply za
  refine zi rfl ?_
  refine zb ?_
  repeat apply za
  refine pwN [] (jn2 wi wj) ?_
  intros
  repeat apply za
  exact zd (zg hd (by simp; rfl) (by simp [zl, rw0, pc0, h1]))
set_option maxRecDepth 20000 in
theorem ZgO (m : Mv) (la lb : Nat) (hk : m.k = 2) (hi : m.i ≤ 1048576) (hj : m.j ≤ 1048576) : Pure Tryz.prog 236 [.agg (vwL m la lb)] (.tup [.agg (rwL (qu m la lb).1), .agg (rwL (qu m la lb).2)]) := by
 have wi := wrN m.i (by omega)
 have wj := wrN m.j (by omega)
 unfold qu
 rw [if_neg (by omega), if_neg (by omega), if_pos hk]
 refine pwe Tryz.func236 Tryz.ntmps236 Tryz.results236 fun S nx hd => ?_
 repeat apply za
 refine pwn ?_
 intro v0 v1 v2
 repeat apply za
 refine pwY (some [nx]) (Row.pures [0, 1, 2, 3, 4, 5, 6, 7, 8, 9, 10, 11, 12, 13, 14, 15] .done) mixed trivial ?_
 intros
 repeat apply za
 refine pwN [] (jn2 wi wj) ?_
 intro v3 v4
 by_cases h1 : m.a = m.b
 ·have h1' : (m.a : Int) = m.b := by omega
  rw [if_pos h1]
  repeat apply za
  refine pwN [] h1' ?_
  intros
  repeat apply za
  refine zj rfl ?_
  repeat apply za
  refine pwN [] (jn2 wi wj) ?_
  intros
  repeat apply za
  exact zd (zg hd (by simp; rfl) (by simp [zl, rw0, pc0, h1]))
 ·have h1' : ¬ (m.a : Int) = m.b := by omega
  rw [if_neg h1]
  repeat apply za
  refine pwN [] h1' ?_
  intros
  repeat apply za
  refine zi rfl ?_
  refine zb ?_
  repeat apply za
  refine pwY (some [nx, nx + 3, nx + 4]) (Row.pures [0, 1, 2, 3, 4, 5, 6, 7, 8, 9, 10, 11, 12, 13, 14, 15, 16, 17, 18, 19, 20, 21] (.alt 22 (.alt 23 (.done) .stop) .stop)) mixed (jn2 wi wj) ?_
  intros
  repeat apply za
  exact zd (zg hd (by simp; rfl) (by simp [zl, rw0, pc0]))
open Go Go.Proofs
abbrev Qc : List PV := [.fn (.func 231) [] [], .fn (.func 232) [] [], .fn (.func 233) [] [], .fn (.func 234) [] [], .fn (.func 235) [] [], .fn (.func 236) [] [], .fn (.func 237) [] [], .fn (.func 238) [] []]
set_option maxRecDepth 20000 in
theorem Zae : Pure Tryz.prog 197 [] (.agg Qc) := by
 refine pwe Tryz.func197 Tryz.ntmps197 Tryz.results197 fun S nx hd => ?_
 repeat apply za
 refine pwn ?_
 intro v0
 (repeat apply za); refine pwn ?_; intros
 repeat apply za
 exact zd (zg hd (by simp; rfl) rfl)
def tlen (d : Day) (t : Nat) : Nat := (d.getD t []).length
def yv (d : Day) (m : Mv) : Bool := decide (m.k ≤ 3 ∧ m.a < d.length ∧ m.b < d.length) && qD m (tlen d m.a) (tlen d m.b)
def zz (d : Day) (m : Mv) : Rw5 × Rw5 := qu m (tlen d m.a) (tlen d m.b)
def wA (d : Day) (m : Mv) : Rw5 × Rw5 × Bool := if yv d m = true then ((zz d m).1, (zz d m).2, true) else (rw0, rw0, false)
set_option maxRecDepth 20000 in
set_option maxHeartbeats 1600000 in
theorem JX (d : Day) (m : Mv) (hdn : d.length ≤ 1048576) (hdt : ∀ t ∈ d, t.length ≤ 1048576) (hk : m.k ≤ 3) (ha : m.a < d.length) (hb : m.b < d.length) (hi : m.i ≤ 1048576) (hj : m.j ≤ 1048576) : Pure Tryz.prog 155 [.agg [L d], .agg (mvL m)]
  (.tup [.agg (rwL (wA d m).1), .agg (rwL (wA d m).2.1), B (wA d m).2.2]) := by
 obtain ⟨ta, xa, a1, -, -, a0⟩ := el1 rfl d m.a ha
 obtain ⟨tb, xb, b1, -, -, b0⟩ := el1 rfl d m.b hb
 have ha1 : 1 ≤ d.length - m.a := by omega
 have hb1 : 1 ≤ d.length - m.b := by omega
 have la : tlen d m.a = ta.length := by unfold tlen; rw [List.getD_eq_getElem?_getD, a1]; rfl
 have lb : tlen d m.b = tb.length := by unfold tlen; rw [List.getD_eq_getElem?_getD, b1]; rfl
 have hbl := hdt tb (List.mem_of_getElem? b1)
 have hmay : yv d m = qD m ta.length tb.length := by unfold yv; rw [la, lb, decide_eq_true ⟨hk, ha, hb⟩]; rfl
 have hcut : zz d m = qu m ta.length tb.length := by unfold zz; rw [la, lb]
 unfold wA
 rw [hmay, hcut]
 clear hmay hcut la lb
 have call : ∀ f g : Nat, m.k = m.k → True := fun _ _ _ => trivial
 clear call
 have g1 : ¬ (m.k : Int) < 0 := by omega
 have g2 : ¬ (3 : Int) < m.k := by omega
 have g3 : ¬ (m.a : Int) < 0 := by omega
 have g4 : ¬ d.length ≤ m.a := by omega
 have g5 : ¬ (m.b : Int) < 0 := by omega
 have g6 : ¬ d.length ≤ m.b := by omega
 refine pwe Tryz.func155 Tryz.ntmps155 Tryz.results155 fun S nx hd => ?_
 repeat apply za
 refine pwn ?_
 intro v0 v1 v2 v3
 (repeat apply za); refine pwn ?_; intros
 repeat apply za
 refine pwN [(3, 18), (8, 23), (13, 28), (19, 34), (24, 39)] (jn6 g1 g2 g3 g4 g5 g6) ?_
 intros
 repeat apply za
 refine zi rfl ?_
 refine zb ?_
 repeat apply za
 refine pwY (some [nx, nx + 1]) (Row.pures [0, 1, 2, 3, 4, 5, 6, 7, 8, 9, 10, 11, 12, 13, 14, 15, 16, 17] (.alt 18 (.alt 19 (.done) .stop) .stop)) mixed (jn6 a0 b0 ha hb ha1 hb1) ?_
 intro v4
 obtain ⟨mf, cf, hmf, hcf, hidx⟩ : ∃ mf cf : Nat, Pure Tryz.prog mf [.agg (vwL m ta.length tb.length)] (B (qD m ta.length tb.length)) ∧ Pure Tryz.prog cf [.agg (vwL m ta.length tb.length)] (.tup [.agg (rwL (qu m ta.length tb.length).1), .agg (rwL (qu m ta.length tb.length).2)]) ∧
   ∃ k : Nat, (k : Int) = m.k ∧ k < 4 ∧ (Qc.drop (k * 2)).take 2 = [.fn (.func mf) [] [], .fn (.func cf) [] []] := by
  have h4 : m.k = 0 ∨ m.k = 1 ∨ m.k = 2 ∨ m.k = 3 := by omega
  rcases h4 with h | h | h | h
  ·exact ⟨_, _, ZgH m _ _ h, ZgL m _ _ h hi hj, 0, by omega, by omega, rfl⟩
  ·exact ⟨_, _, ZgI m _ _ h hbl, ZgN m _ _ h hi hj, 1, by omega, by omega, rfl⟩
  ·exact ⟨_, _, ZgJ m _ _ h, ZgO m _ _ h hi hj, 2, by omega, by omega, rfl⟩
  ·exact ⟨_, _, ZgK m _ _ (by omega), ZgM m _ _ (by omega), 3, by omega, by omega, rfl⟩
 obtain ⟨k, hkk, hk4, hkt⟩ := hidx
 obtain rfl : k = m.k := by omega
 have hk4' : (m.k : Int) < 4 := by omega
 have hk5 : 2 ≤ 8 - m.k * 2 := by omega
 generalize hmz : qD m ta.length tb.length = mz at *
 generalize hcz : qu m ta.length tb.length = cz at *
 obtain ⟨r1, r2⟩ := cz
 generalize hkl : Qc = kl at hkt
 have hkinds := Zae
 rw [hkl] at hkinds
 have hkll : kl.length = 8 := by rw [← hkl]; rfl
 clear hkl
 repeat apply za
 refine pwY (some [nx + 1]) (Row.pures [0, 1, 2, 3] (.alt 4 (.alt 5 (.done) .stop) .stop)) mixed (jn5 hkt hk4 hk4' hkll hk5) ?_
 refine pwP (hkinds) (jn5 hkt hk4 hk4' hkll hk5) ?_
 intro v5
 intros
 repeat apply za
 refine pwn ?_
 refine pwc hmf ?_
 intros
 cases mz with
 | false =>
  repeat apply za
  refine zj rfl ?_
  (repeat apply za); refine pwn ?_; intros
  repeat apply za
  exact zd (zg hd (by simp; rfl) (by simp [zl, rw0, pc0]))
 | true =>
  repeat apply za
  refine zi rfl ?_
  refine zb ?_
  repeat apply za
  refine pwn ?_
  refine pwc hcf ?_
  intro v6 v7
  intros
  repeat apply za
  refine pwY (some [nx + 6, nx + 7]) (Row.pures [0, 1] (.alt 2 (.alt 3 (Row.pures [4] .done) .stop) .stop)) mixed trivial ?_
  intros
  repeat apply za
  exact zd (zg hd (by simp; rfl) (by simp [zl]))
open Go Go.Proofs
theorem uK (l : List Stop) (k : Nat) (s : Stop) (h : k < l.length) : zH (l.flatMap Enc.enc) (k * 2) [I s.c, I s.q] = (l.set k s).flatMap Enc.enc := by
 unfold zH
 rw [List.set_eq_take_append_cons_drop, if_pos h, List.flatMap_append, List.flatMap_cons, ← jM Enc.enc 2 (fun _ => rfl) l k, ← j6 Enc.enc 2 (fun _ => rfl) l (k + 1)]
 simp [show k * 2 + 2 = (k + 1) * 2 by omega]
def yS (l : List Stop) (k : Nat) : List Stop := (List.range l.length).map fun q => if q < k ∨ l.length - 1 - q < k then l.getD (l.length - 1 - q) default else l.getD q default
theorem xp (l : List Stop) (k : Nat) : (yS l k).length = l.length := by simp [yS]
theorem uL {l : List Stop} {k q : Nat} (hq : q < l.length) : (yS l k)[q]? = some (if q < k ∨ l.length - 1 - q < k then l.getD (l.length - 1 - q) default else l.getD q default) := by
 unfold yS; rw [List.getElem?_map, List.getElem?_range hq]; rfl
theorem ZgP (l : List Stop) : yS l 0 = l := by
 apply List.ext_getElem?
 intro q
 by_cases h : q < l.length
 ·rw [uL h, if_neg (by omega), List.getD_eq_getElem?_getD, List.getElem?_eq_getElem h]; rfl
 ·rw [List.getElem?_eq_none (by rw [xp]; omega), List.getElem?_eq_none (by omega)]
theorem ZgQ {l : List Stop} {k : Nat} (hk : l.length - 1 ≤ k + k) : yS l k = l.reverse := by
 apply List.ext_getElem?
 intro q
 by_cases h : q < l.length
 ·rw [uL h, List.getElem?_reverse h]
  by_cases h1 : q < k ∨ l.length - 1 - q < k
  ·rw [if_pos h1, List.getD_eq_getElem?_getD, List.getElem?_eq_getElem (by omega)]; rfl
  ·rw [if_neg h1, List.getD_eq_getElem?_getD]
   have : q = l.length - 1 - q := by omega
   rw [← this, List.getElem?_eq_getElem h]; rfl
 ·rw [List.getElem?_eq_none (by rw [xp]; omega), List.getElem?_eq_none (by simp; omega)]
theorem ZgR {l : List Stop} {k : Nat} (h : k < l.length - 1 - k) {a b : Stop} (ha : (yS l k)[k]? = some a) (hb : (yS l k)[l.length - 1 - k]? = some b) : ((yS l k).set k b).set (l.length - 1 - k) a = yS l (k + 1) := by
 rw [uL (by omega), if_neg (by omega)] at ha
 rw [uL (by omega), if_neg (by omega)] at hb
 cases ha; cases hb
 apply List.ext_getElem?
 intro q
 by_cases hq : q < l.length
 ·rw [uL hq, List.getElem?_set, List.getElem?_set]
  by_cases e1 : l.length - 1 - k = q
  ·rw [if_pos e1, if_pos (by rw [List.length_set, xp]; omega), if_pos (by omega)]
   congr 2; omega
  ·rw [if_neg e1]
   by_cases e2 : k = q
   ·subst e2
    rw [if_pos rfl, if_pos (by rw [xp]; exact hq), if_pos (by omega)]
   ·rw [if_neg e2, uL hq]
    by_cases h1 : q < k ∨ l.length - 1 - q < k
    ·rw [if_pos h1, if_pos (by omega)]
    ·rw [if_neg h1, if_neg (by omega)]
 ·rw [List.getElem?_eq_none (by rw [List.length_set, List.length_set, xp]; omega), List.getElem?_eq_none (by rw [xp]; omega)]
theorem Qd (S : Store) (i : Nat) (a b : Ob) : (S.set i a).set i b = S.set i b := by
 funext o
 by_cases h : o = i
 ·subst h; rw [Store.set_same, Store.set_same]
 ·rw [Store.set_other _ _ _ _ h, Store.set_other _ _ _ _ h, Store.set_other _ _ _ _ h]
set_option maxRecDepth 20000 in
set_option maxHeartbeats 1600000 in
theorem ZgS {S : Store} {id ver : Nat} (pre l : List Stop) (hn : (pre ++ l).length ≤ 1048576) (hid : S id = .cells ver 50 ((pre ++ l).flatMap Enc.enc)) :
  Spec Tryz.prog 201 [.sl id ver 2 (pre.length * 2) l.length] S (fun _ S' => S' = S.set id (.cells ver 50 ((pre ++ l.reverse).flatMap Enc.enc))) := by
 refine jm Tryz.func201 Tryz.ntmps201 Tryz.results201 fun nx hd => ?_
 have hlt : id < nx := yO hd hid (by simp)
 simp only [List.length_append] at hn
 have w0 : IntKind.i64.wrap ((l.length : Int) - 1) = (l.length : Int) - 1 := wr _ (by omega) (by omega)
 repeat apply za
 refine pwN [] w0 ?_
 intros
 repeat apply za
 refine ze (qS (σ := Nat) (fun k => k ≤ l.length) (fun k => [(0, .sl id ver 2 (pre.length * 2) l.length), (2, I k), (3, I ((l.length : Int) - 1 - k))]) (fun k => S.set id (.cells ver 50 ((pre ++ yS l k).flatMap Enc.enc))) (fun _ => []) (fun k => l.length - k) (zu 0 [] (by simp) (by simp) (by rw [ZgP]; exact ux S id _ hid) (by simp)) ?_)
 rintro k hk
 show PW _ _ _ _ _ _ _ (ext (S.set id (.cells ver 50 ((pre ++ yS l k).flatMap Enc.enc))) nx [])
 obtain ⟨T, hT⟩ : ∃ T, T = S.set id (.cells ver 50 ((pre ++ yS l k).flatMap Enc.enc)) := ⟨_, rfl⟩
 rw [← hT]
 (repeat apply za); refine pwn ?_; intros
 repeat apply za
 refine zk rfl (fun hc => ?_) (fun hc => ?_)
 ·simp at hc
  have h1 : k < l.length - 1 - k := by omega
  have x1 := xp l k
  obtain ⟨a, ta, a1, -, -, -, a0⟩ := el 2 rfl (pre ++ yS l k) (pre.length + k) (by simp [xp]; omega)
  obtain ⟨b, tb, b1, -, -, -, b0⟩ := el 2 rfl (pre ++ yS l k) (pre.length + (l.length - 1 - k)) (by simp [xp]; omega)
  have hst := ZgR h1 (a := a) (b := b) (by rw [← a1, List.getElem?_append_right (by omega), Nat.add_sub_cancel_left]) (by rw [← b1, List.getElem?_append_right (by omega), Nat.add_sub_cancel_left])
  have sp1 := uK (pre ++ yS l k) (pre.length + k) b (by simp [xp]; omega)
  have sp2 := uK ((pre ++ yS l k).set (pre.length + k) b) (pre.length + (l.length - 1 - k)) a (by simp [xp]; omega)
  have hs2 : ((pre ++ yS l k).set (pre.length + k) b).set (pre.length + (l.length - 1 - k)) a = pre ++ yS l (k + 1) := by
   rw [List.set_append_right _ _ (by omega), List.set_append_right _ _ (by omega), Nat.add_sub_cancel_left, Nat.add_sub_cancel_left, hst]
  rw [hs2] at sp2
  have hjj : (l.length : Int) - 1 - k = ((l.length - 1 - k : Nat) : Int) := by omega
  generalize l.length - 1 - k = j at *
  generalize hw0 : ((pre ++ yS l k).flatMap Enc.enc : List PV) = c0 at *
  generalize hw1 : (((pre ++ yS l k).set (pre.length + k) b).flatMap Enc.enc : List PV) = c1 at *
  have l0 : c0.length = (pre.length + l.length) * 2 := by rw [← hw0, yq]; simp [xp]
  have l1 : c1.length = (pre.length + l.length) * 2 := by rw [← hw1, yq]; simp [xp]
  have hTid : T id = .cells ver 50 c0 := by rw [hT]; exact Store.set_same _ _ _
  have xid := fun obs => zx (S := T) (obs := obs) hlt
  have xid1 := fun obs => zx (S := T.set id (.cells ver 50 c1)) (obs := obs) hlt
  have hs1 : (T.set id (.cells ver 50 c1)) id = .cells ver 50 c1 := Store.set_same _ _ _
  have hq1 : k + 1 ≤ l.length := by omega
  have q1 : pre.length * 2 + k * 2 = (pre.length + k) * 2 := by omega
  have q2 : pre.length * 2 + j * 2 = (pre.length + j) * 2 := by omega
  have q3 : j < l.length := by omega
  have q4 : k < l.length := by omega
  have q5 : ¬ nx ≤ id := by omega
  refine zb (za (ze ?_))
  rw [hjj]
  repeat apply za
  refine pwY (some []) (Row.pures [0, 1, 2, 3, 4, 5, 6, 8, 9, 10] (.alt 7 (.alt 11 (Row.pures [12] (.alt 13 (Row.pures [14] (.alt 15 (.done) .stop)) .stop)) .stop) (.alt 11 (.alt 7 (Row.pures [12] (.alt 13 (Row.pures [14] (.alt 15 (.done) .stop)) .stop)) .stop) .stop))) mixed (jn6 xid hTid q1 q2 a0 (jn2 (jn6 b0 q3 q4 q5 l0 sp1) (jn4 hs1 xid1 sp2 l1))) ?_
  have wj : IntKind.i64.wrap ((j : Int) - 1) = (l.length : Int) - 1 - ((k + 1 : Nat) : Int) := by rw [wr _ (by omega) (by omega)]; omega
  have wk := wrN k (by omega)
  have hfin : S.set id (.cells ver 50 ((pre ++ yS l (k + 1)).flatMap Enc.enc)) = (T.set id (.cells ver 50 c1)).set id (.cells ver 50 ((pre ++ yS l (k + 1)).flatMap Enc.enc)) := by rw [hT, Qd, Qd]
  have happ : ((pre ++ yS l (k + 1)).flatMap Enc.enc : List PV) = pre.flatMap Enc.enc ++ (yS l (k + 1)).flatMap Enc.enc := by rw [List.flatMap_append]
  rw [happ] at hfin
  refine ⟨?_, ?_⟩
  ·refine ⟨by omega, by omega, ?_⟩
   intros
   repeat apply za
   refine pwN [] (jn2 wk wj) ?_
   intros
   exact zh (k + 1) [] hq1 (by omega) (by simp) (by rw [happ, hT]; simp only [Qd]) (by simp)
  ·refine ⟨by omega, by omega, ?_⟩
   intros
   repeat apply za
   refine pwN [] (jn2 wk wj) ?_
   intros
   exact zh (k + 1) [] hq1 (by omega) (by simp) (by rw [happ, hT]; simp only [Qd]) (by simp)
 ·simp at hc
  refine zo ?_
  refine ⟨[], T, rfl, ?_, yg ?_⟩
  ·rw [hT, ZgQ (by omega)]
  ·rw [hT]
   intro i hi
   rw [Store.set_other _ _ _ _ (by omega)]; exact hd i hi
open Go Go.Proofs
def zP (d : Day) (p : Pc) : List Stop := if p.f < p.o then (bif p.b then (((d.getD p.t []).drop p.f).take (p.o - p.f)).reverse else ((d.getD p.t []).drop p.f).take (p.o - p.f)) else []
def zO (d : Day) (r : Rw5) : List Stop := r.l.flatMap (zP d)
def uM (d : Day) (p : Pc) : Prop := p.f < p.o → p.t < d.length ∧ p.o ≤ tlen d p.t
def xq (d : Day) (r : Rw5) : Prop := ∀ p ∈ r.l, uM d p
theorem ZgT (d : Day) : xq d rw0 := by
 intro p hp h
 simp [Rw5.l, rw0] at hp
 subst hp
 exact absurd h (by decide)
theorem Qe (r : Rw5) {k : Nat} (h : k < 5) : ∃ p, r.l[k]? = some p ∧ ((rwL r).drop (k * 4)).take 4 = pcL p ∧ r.l.take (k + 1) = r.l.take k ++ [p] := by
 have h5 : k = 0 ∨ k = 1 ∨ k = 2 ∨ k = 3 ∨ k = 4 := by omega
 rcases h5 with rfl | rfl | rfl | rfl | rfl <;> exact ⟨_, rfl, rfl, rfl⟩
theorem Zaf {d : Day} {p : Pc} {m : Nat} (h : ∀ t ∈ d, t.length ≤ m) : (zP d p).length ≤ m := by
 have hg : (d.getD p.t []).length ≤ m := by
  rw [List.getD_eq_getElem?_getD]
  cases hq : d[p.t]? with
  | none => simp
  | some l => exact h l (List.mem_of_getElem? hq)
 unfold zP
 generalize d.getD p.t [] = l at *
 split
 ·cases p.b <;> simp <;> omega
 ·simp
set_option maxRecDepth 20000 in
set_option maxHeartbeats 1600000 in
theorem Zag (d : Day) (r : Rw5) (hdn : d.length ≤ 1048576) (hdt : ∀ t ∈ d, t.length ≤ 1000) (hr : xq d r) : Pure Tryz.prog 158 [.agg [L d], .agg (rwL r)] (L (zO d r)) := by
 have hat := fun k (h : k < 5) => Qe r h
 have hz : zO d r = (r.l.take 5).flatMap (zP d) := by unfold zO; rw [List.take_of_length_le (by simp [Rw5.l])]
 rw [hz]
 clear hz
 have hcl : (rwL r).length = 20 := rfl
 have hct : (rwL r).take 20 = rwL r := rfl
 have hpl := fun p => Zaf (d := d) (p := p) hdt
 have hgl : ∀ k, ((r.l.take k).flatMap (zP d)).length ≤ 1000 * k := by
  intro k
  induction k with
  | zero => simp
  | succ k ih =>
   by_cases hk : k < 5
   ·obtain ⟨p, -, -, e⟩ := hat k hk
    rw [e, List.flatMap_append, List.length_append]
    have := hpl p
    simp only [List.flatMap_cons, List.flatMap_nil, List.append_nil]; omega
   ·rw [List.take_of_length_le (by simp [Rw5.l]; omega)] at ih ⊢; omega
 have hrl : r.l.length = 5 := rfl
 generalize hrc : rwL r = rc at *
 refine pwe Tryz.func158 Tryz.ntmps158 Tryz.results158 fun S nx hd => ?_
 repeat apply za
 refine pwn ?_
 intro v0 v1
 (repeat apply za); refine pwn ?_; intros
 refine za (qm 5 50 2 rfl fun v2 => ?_)
 repeat apply za
 refine pwN [] (jn2 hcl hct) ?_
 intros
 repeat apply za
 refine ze (zq (fun s' : Nat × Nat => s'.1 ≤ 5) (fun (k, v2) => [(2, .ptr nx v0 0), (3, .ptr (nx + 1) v1 0), (5, .sl (nx + 2) v2 2 0 ((r.l.take k).flatMap (zP d)).length), (9, .agg rc), (10, I k)]) (fun (k, v2) => [.cells v0 66 [L d], .cells v1 202 rc, .cells v2 50 (((r.l.take k).flatMap (zP d)).flatMap Enc.enc)]) (fun s' => 5 - s'.1) (0, v2) [] (by simp) (by simp) (by simp) ?_)
 rintro ⟨k, v2⟩ hk
 simp only at hk ⊢
 by_cases hk5 : k < 5
 ·obtain ⟨p, hp1, hp2, hp3⟩ := hat k hk5
  have hk5' : (k : Int) < 5 := by omega
  have hk6 : 4 ≤ 20 - k * 4 := by omega
  have hok := hr p (List.mem_of_getElem? hp1)
  have hol := hgl k
  have hnx : (r.l.take (k + 1)).flatMap (zP d) = (r.l.take k).flatMap (zP d) ++ zP d p := by rw [hp3, List.flatMap_append]; simp
  have hol2 := hpl p
  generalize (r.l.take k).flatMap (zP d) = out at *
  have wk := wrN k (by omega)
  repeat apply za
  refine pwN [] hk5' ?_
  intros
  repeat apply za
  refine zj rfl ?_
  refine zb (za (ze ?_))
  repeat apply za
  refine pwN [] (jn5 hp2 hk5 hk5' hcl hk6) ?_
  intro v3
  by_cases hfo : p.f < p.o
  case neg =>
   have hpz : zP d p = [] := by unfold zP; rw [if_neg hfo]
   have hfo' : p.o ≤ p.f := by omega
   repeat apply za
   refine pwN [] hfo' ?_
   intros
   repeat apply za
   refine zj (by simp [hfo']) ?_
   refine zo ?_
   (repeat apply za); refine pwn ?_; intros
   exact zh (k + 1, v2) [_] (by simp; omega) (by simp; omega) (by simp [wk, hnx, hpz]) rfl (by simp [hnx, hpz]; rfl)
  obtain ⟨ht, ho⟩ := hok hfo
  obtain ⟨t, tt, t1, -, -, t0⟩ := el1 rfl d p.t ht
  have ht1 : 1 ≤ d.length - p.t := by omega
  have htg : d.getD p.t [] = t := by rw [List.getD_eq_getElem?_getD, t1]; rfl
  unfold tlen at ho
  rw [htg] at ho
  have hpz : zP d p = bif p.b then ((t.drop p.f).take (p.o - p.f)).reverse else (t.drop p.f).take (p.o - p.f) := by unfold zP; rw [if_pos hfo, htg]
  have hfo' : ¬ p.o ≤ p.f := by omega
  have hsl : ((t.flatMap Enc.enc : List PV).drop (p.f * 2)).take ((p.o - p.f) * 2) = ((t.drop p.f).take (p.o - p.f)).flatMap Enc.enc := by rw [j6 Enc.enc 2 (fun _ => rfl) t p.f, jM Enc.enc 2 (fun _ => rfl) (t.drop p.f) (p.o - p.f)]
  have hsl2 : ((t.drop p.f).take (p.o - p.f)).length = p.o - p.f := by simp; omega
  have hsl3 : (((t.drop p.f).take (p.o - p.f)).flatMap Enc.enc : List PV).length = (p.o - p.f) * 2 := by rw [yq, hsl2]
  generalize (t.drop p.f).take (p.o - p.f) = sg at *
  have hof : (out.flatMap Enc.enc : List PV).length = out.length * 2 := yq out
  have hot : (out.flatMap Enc.enc : List PV).take (out.length * 2) = out.flatMap Enc.enc := List.take_of_length_le (by omega)
  have q1 : p.f ≤ p.o := by omega
  have htl := hdt t (List.mem_of_getElem? t1)
  repeat apply za
  refine pwN [] hfo' ?_
  intros
  repeat apply za
  refine zi (by simp [hfo']) ?_
  refine zb ?_
  (repeat apply za); refine pwn ?_; intros
  repeat apply za
  refine pwY (some [nx, nx + 3]) (Row.pures [0, 1, 2, 3, 4, 5, 6, 7, 8, 9, 10, 11, 12] (.alt 13 (Row.pures [14] .done) .stop)) mixed (jn6 t0 ht ht1 hof hot (jn4 hsl hsl2 q1 ho)) ?_
  refine ⟨by omega, ?_⟩
  intros
  have hsgl : sg.length ≤ 1000 := by
   have h1 := hdt t (List.mem_of_getElem? t1)
   omega
  cases hpb : p.b with
  | false =>
   rw [hpb] at hpz
   simp only [cond_false] at hpz
   repeat apply za
   refine pwN [] hpb ?_
   intros
   repeat apply za
   refine zi rfl ?_
   refine zb ?_
   (repeat apply za); refine pwn ?_; intros
   exact zh (k + 1, v2 + 1) [_] (by simp; omega) (by simp; omega) (by simp [wk, hnx, hpz, hsl2]) rfl (by simp [hnx, hpz]; rfl)
  | true =>
   rw [hpb] at hpz
   simp only [cond_true] at hpz
   have hrev := fun (S : Store) (id ver : Nat) h => ZgS (S := S) (id := id) (ver := ver) out sg (by simp; omega) h
   rw [hsl2] at hrev
   repeat apply za
   refine pwN [] hpb ?_
   intros
   repeat apply za
   refine zj rfl ?_
   repeat apply za
   refine zM [] (by rfl) (by rfl) fun K Gc Gh hK hGc hGh X hX0 hX => ?_
   simp -implicitDefEqProofs [hX0, hX]
   try clear hX0 hX X
   refine hGc _ _ _ _ _ _ _ fun hsuf => ((hrev _ _ _ (by rw [yM, List.flatMap_append]; rfl)).mono ?_).v
   rintro _ _ rfl
   refine ⟨_, _, qg _ (by omega) (by simp), ?_⟩
   clear hGc hGh
   clear Gc Gh
   refine zK hsuf (D := []) (by rfl) fun Gc Gh hGc hGh X hX0 hX => ?_
   simp -implicitDefEqProofs [hX0, hX, (show nx + 2 - nx = 2 by omega)]
   clear hX0 hX X
   intros
   refine hK _ _ _ ?_
   clear hK hGc hGh
   clear K Gc Gh
   (repeat apply za); refine pwn ?_; intros
   exact zh (k + 1, v2 + 1) [_] (by simp; omega) (by simp; omega) (by simp [wk, hnx, hpz, hsl2]) rfl (by simp [hnx, hpz]; rfl)
 ·obtain rfl : k = 5 := by omega
  generalize (r.l.take 5).flatMap (zP d) = out at *
  (repeat apply za); refine pwn ?_; intros
  repeat apply za
  refine zi rfl ?_
  refine zo ?_
  refine zC 2 rfl ?_
  (repeat apply za); refine pwn ?_; intros
  repeat apply za
  exact zd (zg hd (by simp; rfl) (by simp [zl]))
open Go Hp
theorem Zah {α : Type} {d : List α} (hn : d.Nodup) {i j : Nat} {t : α} (hi : d[i]? = some t) (hj : d[j]? = some t) : i = j := by
 obtain ⟨g1, g2⟩ := List.getElem?_eq_some_iff.1 hi
 obtain ⟨g3, g4⟩ := List.getElem?_eq_some_iff.1 hj
 have hp := List.pairwise_iff_getElem.1 hn
 rcases Nat.lt_trichotomy i j with h | h | h
 ·exact absurd (g2.trans g4.symm) (hp i j g1 g3 h)
 ·exact h
 ·exact absurd (g4.trans g2.symm) (hp j i g3 g1 h)
def yh (f : zn → Bool) : Day → Int
 | [] => -1
 | t :: d => if 0 ≤ yh f d then yh f d + 1 else if f t then 0 else -1
theorem JY (f : zn → Bool) (t : zn) : ∀ d : Day, yh f (d ++ [t]) = if f t then (d.length : Int) else yh f d
 | [] => by simp [yh]
 | u :: d => by
  rw [List.cons_append]
  unfold yh
  rw [JY f t d]
  by_cases h : f t = true
  ·simp only [h, if_true]; rw [if_pos (by omega)]; simp
  ·simp only [h, if_false, Bool.false_eq_true]
theorem Qf (f : zn → Bool) : ∀ d : Day, (yh f d = -1 ∧ ∀ t ∈ d, f t = false) ∨ ∃ (k : Nat) (t : zn), d[k]? = some t ∧ f t = true ∧ yh f d = k
 | [] => .inl ⟨rfl, fun t h => by cases h⟩
 | u :: d => by
  unfold yh
  rcases Qf f d with ⟨h1, h2⟩ | ⟨k, t, h1, h2, h3⟩
  ·rw [h1, if_neg (by omega)]
   cases hu : f u with
   | true => exact .inr ⟨0, u, rfl, hu, by simp⟩
   | false =>
    refine .inl ⟨by simp, fun t ht => ?_⟩
    rcases List.mem_cons.1 ht with rfl | ht
    ·exact hu
    ·exact h2 t ht
  ·rw [h3, if_pos (by omega)]
   exact .inr ⟨k + 1, t, by simpa using h1, h2, by simp⟩
def jg (d : Day) (a b : Nat) (t : zn) (k : Nat) : Day := (List.range k).flatMap fun j => if j = a then [t] else if j = b then [] else [d.getD j []]
theorem Zai (d : Day) (a b : Nat) (t : zn) (k : Nat) : jg d a b t (k + 1) = jg d a b t k ++ (if k = a then [t] else if k = b then [] else [d.getD k []]) := by
 unfold jg; rw [List.range_succ, List.flatMap_append]; simp
theorem Zaj (d : Day) (a b : Nat) (t : zn) : ∀ k, (jg d a b t k).length ≤ k
 | 0 => by simp [jg]
 | k + 1 => by
  have := Zaj d a b t k
  rw [Zai, List.length_append]
  split
  ·simp; omega
  ·split <;> simp <;> omega
def jt (c : Int) (t : zn) : Bool := decide (wu t = some c)
def ju (c : Int) (t : zn) : Bool := decide (wN t = some c)
def qE (x : Inst) (d : Day) (p : Pr) : Day :=
 if yh (jt p.a) d < 0 ∨ yh (ju p.b) d < 0 ∨ yh (jt p.a) d = yh (ju p.b) d ∨ (p.s ≤ 0 ∧ (d.length : Int) ≤ x.veh) then d
 else if zp x (d.getD (yh (jt p.a) d).toNat [] ++ d.getD (yh (ju p.b) d).toNat []) = 0 then
  jg d (yh (jt p.a) d).toNat (yh (ju p.b) d).toNat (d.getD (yh (jt p.a) d).toNat [] ++ d.getD (yh (ju p.b) d).toNat []) d.length
 else d
theorem JZ {α β γ : Type} {f : α → List γ} {g : β → List γ} : ∀ (A : List α) (B : List β), A.length = B.length → (∀ (j : Nat) a b, A[j]? = some a → B[j]? = some b → f a = g b) → A.flatMap f = B.flatMap g
 | [], [], _, _ => rfl
 | a :: A, b :: B, hl, h => by
  rw [List.flatMap_cons, List.flatMap_cons, h 0 a b rfl rfl, JZ A B (by simpa using hl) fun j a b ha hb => h (j + 1) a b (by simpa using ha) (by simpa using hb)]
 | [], _ :: _, hl, _ => by simp at hl
 | _ :: _, [], hl, _ => by simp at hl
theorem J0 {α : Type} (p : α → Bool) : ∀ l : List α, l.filter p = l.flatMap fun a => if p a then [a] else []
 | [] => rfl
 | a :: l => by
  rw [List.flatMap_cons, ← J0 p l, List.filter_cons]
  cases p a <;> simp
structure Apt (T : Day) : Prop where
 u : ∀ (i j : Nat) t s s', T[i]? = some t → s ∈ t → ∀ t', T[j]? = some t' → s' ∈ t' → s.c = s'.c → i = j
theorem JI.apt {ss : List Stop} {T : Day} {g : Int → Option Int} (h : JI ss T g) : Apt T := ⟨fun i j t s s' hi hs t' hj hs' e => by
 have e1 := h.g i t s hi hs
 have e2 := h.g j t' s' hj hs'
 rw [e, e2] at e1
 have := Option.some.inj e1
 omega⟩
abbrev ne (t : zn) : Bool := !t.isEmpty
theorem ZF {t : zn} (h : ne t = true) : ∃ s, s ∈ t := by
 cases t with
 | nil => cases h
 | cons s t => exact ⟨s, by simp⟩
theorem ZG {t : zn} {s : Stop} (h : s ∈ t) : ne t = true := by
 cases t with
 | nil => cases h
 | cons s t => rfl
def uN (ta tb u : zn) : Day := if u = ta then [ta ++ tb] else if u = tb then [] else [u]
theorem ZgU {T : Day} (hA : Apt T) {i k : Nat} {ta tb : zn} (hi : T[i]? = some ta) (hk : T[k]? = some tb) (hik : i ≠ k) (ha : ne ta = true) (hb : ne tb = true) :
  ((T.set i (ta ++ tb)).set k []).filter ne = (T.filter ne).flatMap (uN ta tb) := by
 rw [J0 ne T, List.flatMap_assoc, J0]
 refine JZ _ _ (by simp) fun j u v hu hv => ?_
 obtain ⟨sa, hsa⟩ := ZF ha
 obtain ⟨sb, hsb⟩ := ZF hb
 have hjl := (List.getElem?_eq_some_iff.1 hv).1
 by_cases h1 : k = j
 ·subst h1
  rw [List.getElem?_set_self (by simpa using hjl)] at hu
  cases hu
  obtain rfl : tb = v := by rw [hk] at hv; exact Option.some.inj hv
  have hne : tb ≠ ta := by
   rintro rfl
   exact hik (hA.u i k tb sb sb hi hsb tb hk hsb rfl)
  rw [if_pos hb]
  simp [uN, hne]
 ·rw [List.getElem?_set_ne h1] at hu
  by_cases h2 : i = j
  ·subst h2
   rw [List.getElem?_set_self hjl] at hu
   cases hu
   obtain rfl : ta = v := by rw [hi] at hv; exact Option.some.inj hv
   rw [if_pos ha, if_pos (ZG (s := sa) (by simp [hsa]))]
   simp [uN]
  ·rw [List.getElem?_set_ne h2] at hu
   obtain rfl : u = v := by rw [hv] at hu; exact (Option.some.inj hu).symm
   cases hn : ne u with
   | false => simp
   | true =>
    obtain ⟨su, hsu⟩ := ZF hn
    have n1 : u ≠ ta := by rintro rfl; exact h2 (hA.u i j u su su hi hsu u hv hsu rfl)
    have n2 : u ≠ tb := by rintro rfl; exact h1 (hA.u k j u su su hk hsu u hv hsu rfl)
    simp [uN, n1, n2]
theorem ZgV {T : Day} (hA : Apt T) : (T.filter ne).Nodup := by
 rw [List.nodup_iff_pairwise_ne, List.pairwise_filter, List.pairwise_iff_getElem]
 intro i j hi hj hij h1 h2 e
 obtain ⟨s, hs⟩ := ZF h1
 have := hA.u i j T[i] s s (List.getElem?_eq_getElem hi) hs T[j] (List.getElem?_eq_getElem hj) (e ▸ hs) rfl
 omega
theorem ZgW {d : Day} (hn : d.Nodup) {a b : Nat} {ta tb : zn} (ha : d[a]? = some ta) (hb : d[b]? = some tb) : jg d a b (ta ++ tb) d.length = d.flatMap (uN ta tb) := by
 unfold jg
 refine JZ _ _ (by simp) fun j n u hj hu => ?_
 rw [List.getElem?_range (List.getElem?_eq_some_iff.1 hu).1] at hj
 cases hj
 have same : ∀ {k : Nat} {t : zn}, d[k]? = some t → (j = k ↔ u = t) := by
  intro k t hk
  constructor
  ·rintro rfl; rw [hu] at hk; exact Option.some.inj hk
  ·rintro rfl; exact Zah hn hu hk
 have e1 := same ha
 have e2 := same hb
 have hg : d.getD j [] = u := by rw [List.getD_eq_getElem?_getD, hu]; rfl
 unfold uN
 by_cases h1 : j = a
 ·rw [if_pos h1, if_pos (e1.1 h1)]
 ·rw [if_neg h1, if_neg fun e => h1 (e1.2 e)]
  by_cases h2 : j = b
  ·rw [if_pos h2, if_pos (e2.1 h2)]
  ·rw [if_neg h2, if_neg fun e => h2 (e2.2 e), hg]
theorem Zak {T : Day} (hA : Apt T) {i : Nat} {t : zn} {s : Stop} (hi : T[i]? = some t) (hs : s ∈ t) (f : zn → Bool) (hf : ∀ u, f u = true → ∃ s' ∈ u, s'.c = s.c) :
  (f t = false ∧ yh f (T.filter ne) = -1) ∨ (f t = true ∧ ∃ k : Nat, (T.filter ne)[k]? = some t ∧ yh f (T.filter ne) = k) := by
 have uniq : ∀ u ∈ T.filter ne, f u = true → u = t := by
  intro u hu hfu
  obtain ⟨s', hs', e⟩ := hf u hfu
  obtain ⟨j, hj⟩ := List.mem_iff_getElem?.1 (List.mem_filter.1 hu).1
  have := hA.u i j t s s' hi hs u hj hs' e.symm
  subst this
  rw [hi] at hj; exact (Option.some.inj hj).symm
 have ht : t ∈ T.filter ne := List.mem_filter.2 ⟨List.mem_of_getElem? hi, ZG hs⟩
 rcases Qf f (T.filter ne) with ⟨h1, h2⟩ | ⟨k, u, h1, h2, h3⟩
 ·exact .inl ⟨h2 t ht, h1⟩
 ·have := uniq u (List.mem_of_getElem? h1) h2
  subst this
  exact .inr ⟨h2, k, h1, h3⟩
theorem ZgX {c : Int} {t : zn} (h : jt c t = true) : ∃ s ∈ t, s.c = c := by
 have h : wu t = some c := of_decide_eq_true h
 unfold wu at h
 obtain ⟨s, h1, h2⟩ := Option.map_eq_some_iff.1 h
 exact ⟨s, List.mem_of_getElem? h1, h2⟩
theorem ZgY {c : Int} {t : zn} (h : ju c t = true) : ∃ s ∈ t, s.c = c := by
 have h : wN t = some c := of_decide_eq_true h
 unfold wN at h
 obtain ⟨s, h1, h2⟩ := Option.map_eq_some_iff.1 h
 exact ⟨s, List.mem_of_getElem? h1, h2⟩
theorem J1 (p : zn → Bool) : ∀ T : Day, ((T.filter p).length : Int) = (T.map fun t => if p t then (1 : Int) else 0).sum
 | [] => rfl
 | t :: T => by
  rw [List.filter_cons, List.map_cons, List.sum_cons, ← J1 p T]
  cases p t <;> simp <;> omega
theorem ZgZ {T : Day} {i k : Nat} {ta tb : zn} (hi : T[i]? = some ta) (hk : T[k]? = some tb) (hik : i ≠ k) (ha : ne ta = true) (hb : ne tb = true) :
  ((((T.set i (ta ++ tb)).set k []).filter ne).length : Int) = ((T.filter ne).length : Int) - 1 := by
 obtain ⟨sa, hsa⟩ := ZF ha
 rw [J1, J1, uG _ _ k tb [] (by rw [List.getElem?_set_ne hik]; exact hk), uG _ _ i ta (ta ++ tb) hi]
 have hn : ne (ta ++ tb) = true := ZG (s := sa) (by simp [hsa])
 simp only [ha, hb, hn, if_true]
 simp
theorem J2 {x : Inst} {ss : List Stop} {st : Day × Int} {g : Int → Option Int} (h : JI ss st.1 g) (hnum : st.2 = ((st.1.filter ne).length : Int)) {p : Pr} (hpa : p.a ∈ ss.map (·.c)) (hpb : p.b ∈ ss.map (·.c)) :
  qE x (st.1.filter ne) p = (yu x st p).1.filter ne ∧ (yu x st p).2 = (((yu x st p).1.filter ne).length : Int) ∧ ∃ g', JI ss (yu x st p).1 g' := by
 obtain ⟨i, a, sa, hia, hsa, hsac, hga, hpi⟩ := h.there hpa
 obtain ⟨k, b, sb, hkb, hsb, hsbc, hgb, hpk⟩ := h.there hpb
 have hgi : st.1.getD i [] = a := by rw [List.getD_eq_getElem?_getD, hia]; rfl
 have hgk : st.1.getD k [] = b := by rw [List.getD_eq_getElem?_getD, hkb]; rfl
 have hdef : yu x st p = bif yf x st.2 p i k a b then ((st.1.set i (a ++ b)).set k [], st.2 - 1) else st := by
  unfold yu uC
  simp only [hpi, hpk, hgi, hgk]
 have hA := h.apt
 have hna := ZG hsa
 have hnb := ZG hsb
 have hnd := ZgV hA
 rw [hdef]
 have stay : yf x st.2 p i k a b = false → qE x (st.1.filter ne) p = st.1.filter ne → qE x (st.1.filter ne) p = (bif yf x st.2 p i k a b then ((st.1.set i (a ++ b)).set k [], st.2 - 1) else st).1.filter ne ∧ (bif yf x st.2 p i k a b then ((st.1.set i (a ++ b)).set k [], st.2 - 1) else st).2 = (((bif yf x st.2 p i k a b then ((st.1.set i (a ++ b)).set k [], st.2 - 1) else st).1.filter ne).length : Int) ∧ ∃ g', JI ss (bif yf x st.2 p i k a b then ((st.1.set i (a ++ b)).set k [], st.2 - 1) else st).1 g' := by
  intro e1 e2
  rw [e1]
  exact ⟨e2, hnum, g, h⟩
 rcases Zak hA hia hsa (jt p.a) (fun u hu => by rw [hsac]; exact ZgX hu) with ⟨fa, la⟩ | ⟨fa, ka, ha1, la⟩
 ·have e1 : wu a ≠ some p.a := of_decide_eq_false fa
  refine stay (by simp [yf, e1]) ?_
  unfold qE; rw [if_pos (.inl (by omega))]
 rcases Zak hA hkb hsb (ju p.b) (fun u hu => by rw [hsbc]; exact ZgY hu) with ⟨fb, lb⟩ | ⟨fb, kb, hb1, lb⟩
 ·have e1 : wN b ≠ some p.b := of_decide_eq_false fb
  refine stay (by simp [yf, e1]) ?_
  unfold qE; rw [if_pos (.inr (.inl (by omega)))]
 have e1 : wu a = some p.a := of_decide_eq_true fa
 have e2 : wN b = some p.b := of_decide_eq_true fb
 have hab : ka = kb ↔ i = k := by
  constructor
  ·rintro rfl
   obtain rfl : a = b := by rw [ha1] at hb1; exact Option.some.inj hb1
   exact hA.u i k a sa sa hia hsa a hkb hsa rfl
  ·rintro rfl
   obtain rfl : a = b := by rw [hia] at hkb; exact Option.some.inj hkb
   exact Zah hnd ha1 hb1
 have ga : (st.1.filter ne).getD (ka : Int).toNat [] = a := by rw [Int.toNat_natCast, List.getD_eq_getElem?_getD, ha1]; rfl
 have gb : (st.1.filter ne).getD (kb : Int).toNat [] = b := by rw [Int.toNat_natCast, List.getD_eq_getElem?_getD, hb1]; rfl
 by_cases hik : i = k
 ·refine stay (by simp [yf, hik]) ?_
  unfold qE; rw [if_pos (.inr (.inr (.inl (by rw [la, lb, hab.2 hik]))))]
 by_cases hfew : p.s ≤ 0 ∧ st.2 ≤ x.veh
 ·refine stay (by simp [yf, hfew.1, hfew.2]) ?_
  unfold qE; rw [if_pos (.inr (.inr (.inr ⟨hfew.1, by omega⟩)))]
 have hcond : ¬ (yh (jt p.a) (st.1.filter ne) < 0 ∨ yh (ju p.b) (st.1.filter ne) < 0 ∨ yh (jt p.a) (st.1.filter ne) = yh (ju p.b) (st.1.filter ne) ∨ (p.s ≤ 0 ∧ ((st.1.filter ne).length : Int) ≤ x.veh)) := by
  rw [la, lb]
  rintro (q | q | q | q)
  ·omega
  ·omega
  ·exact hik (hab.1 (by omega))
  ·exact hfew ⟨q.1, by omega⟩
 by_cases hmay : zp x (a ++ b) = 0
 ·have hc : yf x st.2 p i k a b = true := by
   unfold yf
   simp only [hik, e1, e2, hmay, Bool.and_eq_true, decide_eq_true_eq, ne_eq, not_false_eq_true, Bool.not_eq_true', Bool.and_eq_false_iff, decide_eq_false_iff_not, and_true, true_and]
   by_cases q : p.s ≤ 0
   ·exact .inr fun e => hfew ⟨q, e⟩
   ·exact .inl q
  rw [hc]
  simp only [cond_true]
  refine ⟨?_, ?_, _, h.join hia hkb hik⟩
  ·unfold qE
   rw [if_neg hcond, la, lb, ga, gb, if_pos hmay, ZgU hA hia hkb hik hna hnb, ← ZgW hnd ha1 hb1]
   rfl
  ·rw [ZgZ hia hkb hik hna hnb, hnum]
 ·refine stay (by simp [yf, hmay]) ?_
  unfold qE
  rw [if_neg hcond, la, lb, ga, gb, if_neg hmay]
theorem Zal {x : Inst} {ss : List Stop} : ∀ (l : List Pr) (st : Day × Int), (∃ g, JI ss st.1 g) → st.2 = ((st.1.filter ne).length : Int) → (∀ p ∈ l, p.a ∈ ss.map (·.c) ∧ p.b ∈ ss.map (·.c)) →
  l.foldl (qE x) (st.1.filter ne) = (l.foldl (yu x) st).1.filter ne
 | [], _, _, _, _ => rfl
 | p :: l, st, ⟨g, h⟩, hn, hl => by
  obtain ⟨h1, h2⟩ := hl p (by simp)
  obtain ⟨e1, e2, e3⟩ := J2 (x := x) h hn h1 h2
  rw [List.foldl_cons, List.foldl_cons, e1]
  exact Zal l _ e3 e2 fun q hq => hl q (by simp [hq])
theorem Qg (ss : List Stop) : (ss.map fun s => [s]).filter ne = zE ss := by
 unfold zE; rw [List.filter_eq_self]; intro t ht; obtain ⟨s, _, rfl⟩ := List.mem_map.1 ht; rfl
theorem Zg0 {x : Inst} {ss : List Stop} (hn : (ss.map (·.c)).Nodup) : (yd x (ss.map (·.c))).foldl (qE x) (zE ss) = qq x ss := by
 obtain ⟨g, hg⟩ := JI.begin ss [] [] _ JI.nil (by simpa using hn)
 have := Zal (x := x) (ss := ss) (yd x (ss.map (·.c))) (ss.map fun s => [s], (ss.length : Int)) ⟨g, by simpa using hg⟩ (by rw [Qg]; simp [zE]) fun p hp => by
  have := vU.1 ((wh x _).subset hp)
  exact ⟨this.1, this.2.1⟩
 rw [← Qg]
 exact this
open Go Hp
theorem Zam (l : List Stop) (s : Stop) : zE (l ++ [s]) = zE l ++ [[s]] := by simp [zE]
theorem vn (l : List Stop) : (zE l).length = l.length := by simp [zE]
theorem Zan {x : Inst} {ss : List Stop} {T : Day} {g : Int → Option Int} (h : JI ss T g) (hss : ss.length ≤ 1000) : (T.filter ne).length ≤ 1000 ∧ (T.filter ne).flatten.length ≤ 1000 ∧ ∀ t ∈ T.filter ne, t ≠ [] := by
 have hf : (T.filter ne).flatten = T.flatten := by
  induction T with
  | nil => rfl
  | cons t T ih =>
   clear h
   have key : ∀ T : Day, (T.filter ne).flatten = T.flatten := by
    intro T
    induction T with
    | nil => rfl
    | cons t T ih =>
     rw [List.filter_cons]
     cases t with
     | nil => simpa using ih
     | cons s t => simp [ih]
   exact key _
 have hne : ∀ t ∈ T.filter ne, t ≠ [] := fun t ht e => by
  have := (List.mem_filter.1 ht).2
  rw [e] at this; cases this
 have hl := h.perm.length_eq
 have h1 := uF (T.filter ne) hne
 rw [hf] at h1
 exact ⟨by omega, by rw [hf]; omega, hne⟩
set_option maxRecDepth 20000 in
theorem Zg1 (l : List Stop) (hl : l.length ≤ 1048576) : Pure Tryz.prog 103 [L l] (.agg [L (zE l)]) := by
 refine pwe Tryz.func103 Tryz.ntmps103 Tryz.results103 fun S nx hd => ?_
 repeat apply za
 refine pwn ?_
 intro v0
 repeat apply za
 refine pwn ?_
 intro v1
 refine yN 1 0 72 1 rfl rfl fun v2 => ?_
 (repeat apply za); refine pwn ?_; intros
 repeat apply za
 refine ze (zq (fun s : Nat × Nat => s.1 ≤ l.length) (fun (k, v2) => [(0, L l), (2, .ptr nx v0 0), (3, .ptr (nx + 1) v1 0), (4, I k)]) (fun (k, v2) => [.cells v0 66 [zJ], .cells v1 66 [.sl (nx + 2) v2 1 0 k], .cells v2 72 ((zE (l.take k)).flatMap Enc.enc)]) (fun s => l.length - s.1) (0, v2) [] (by simp) (by simp) (by simp [zE]) ?_)
 rintro ⟨k, v2⟩ hk
 simp only at hk ⊢
 (repeat apply za); refine pwn ?_; intros
 repeat apply za
 refine zk rfl (fun hc => ?_) (fun hc => ?_)
 ·simp at hc
  obtain ⟨s, tl, a1, a2, a3, e1, e0⟩ := el 2 rfl l k hc
  have htl : ((zE (l.take k)).flatMap Enc.enc : List PV).length = k := by rw [yD, vn, List.length_take]; omega
  have htk : ((zE (l.take k)).flatMap Enc.enc : List PV).take k = (zE (l.take k)).flatMap Enc.enc := List.take_of_length_le (by omega)
  have hsn : ((zE (l.take (k + 1))).flatMap Enc.enc : List PV) = (zE (l.take k)).flatMap Enc.enc ++ [L [s]] := by rw [a3, Zam, List.flatMap_append]; rfl
  have g1 : 2 ≤ l.length * 2 - k * 2 := by omega
  generalize ((zE (l.take k)).flatMap Enc.enc : List PV) = cs at *
  refine zb (za (ze ?_))
  repeat apply za
  refine pwY (some []) (Row.pures [0, 2, 3, 4, 5, 6, 7, 8] (.alt 1 (.alt 9 (Row.pures [10] (.alt 11 (.done) .stop)) .stop) .stop)) mixed (jn5 htl htk e0 hc g1) ?_
  refine ⟨by omega, ?_⟩
  intros
  (repeat apply za); refine pwn ?_; intros
  exact zh (k + 1, v2 + 1) [] hc (by simp; omega) (by simp [wrN k (by omega)]) rfl (by simp [hsn])
 ·simp at hc
  obtain rfl : k = l.length := by omega
  have g1 : l.take l.length = l := List.take_length
  refine zo ?_
  refine zC 2 rfl ?_
  (repeat apply za); refine pwn ?_; intros
  repeat apply za
  exact zd (zg hd (by simp; rfl) (by simp [zl, g1, vn]))
set_option maxRecDepth 20000 in
set_option maxHeartbeats 1600000 in
theorem Zg2 (x : Inst) (ss : List Stop) (hx : ye x) (hxc : x.cust.length ≤ 1048576) (hss : ss.length ≤ 1000) (hs : ∀ s ∈ ss, small s.c) (hnd : (ss.map (·.c)).Nodup) : Pure Tryz.prog 105 [.agg (zm x), L ss] (.agg [L (qq x ss)]) := by
 have hpl := JE (x := x) hnd (by simpa using hss)
 have hpr := Zfc x ss hx hss hs hnd
 have hmem : ∀ p ∈ yd x (ss.map (·.c)), p.a ∈ ss.map (·.c) ∧ p.b ∈ ss.map (·.c) := fun p hp => by
  have := vU.1 ((wh x _).subset hp)
  exact ⟨this.1, this.2.1⟩
 rw [← Zg0 hnd]
 generalize hps : yd x (ss.map (·.c)) = ps at *
 refine pwe Tryz.func105 Tryz.ntmps105 Tryz.results105 fun S nx hd => ?_
 repeat apply za
 refine pwn ?_
 intro v0 v1
 repeat apply za
 refine pwn ?_
 intro v2
 refine yN 2 0 72 1 rfl rfl fun v3 => ?_
 (repeat apply za); refine pwn ?_; intros
 repeat apply za
 refine ze (zq (fun s : Nat × Nat => s.1 ≤ ss.length) (fun (k, v3) => [(1, L ss), (2, .ptr nx v0 0), (4, .ptr (nx + 1) v1 0), (5, .ptr (nx + 2) v2 0), (6, I k)]) (fun (k, v3) => [.cells v0 25 (zm x), .cells v1 66 [zJ], .cells v2 66 [.sl (nx + 3) v3 1 0 k], .cells v3 72 ((zE (ss.take k)).flatMap Enc.enc)]) (fun s => ss.length - s.1) (0, v3) [] (by simp) (by simp) (by simp [zE]) ?_)
 rintro ⟨k, v3⟩ hk
 simp only at hk ⊢
 (repeat apply za); refine pwn ?_; intros
 repeat apply za
 refine zk rfl (fun hc => ?_) (fun hc => ?_)
 ·simp at hc
  obtain ⟨s, tl, a1, a2, a3, e1, e0⟩ := el 2 rfl ss k hc
  have htl : ((zE (ss.take k)).flatMap Enc.enc : List PV).length = k := by rw [yD, vn, List.length_take]; omega
  have htk : ((zE (ss.take k)).flatMap Enc.enc : List PV).take k = (zE (ss.take k)).flatMap Enc.enc := List.take_of_length_le (by omega)
  have hsn : ((zE (ss.take (k + 1))).flatMap Enc.enc : List PV) = (zE (ss.take k)).flatMap Enc.enc ++ [L [s]] := by rw [a3, Zam, List.flatMap_append]; rfl
  have g1 : 2 ≤ ss.length * 2 - k * 2 := by omega
  generalize ((zE (ss.take k)).flatMap Enc.enc : List PV) = cs at *
  refine zb (za (ze ?_))
  repeat apply za
  refine pwY (some []) (Row.pures [0, 2, 3, 4, 5, 6, 7, 8] (.alt 1 (.alt 9 (Row.pures [10] (.alt 11 (.done) .stop)) .stop) .stop)) mixed (jn5 htl htk e0 hc g1) ?_
  refine ⟨by omega, ?_⟩
  intros
  (repeat apply za); refine pwn ?_; intros
  exact zh (k + 1, v3 + 1) [] hc (by simp; omega) (by simp [wrN k (by omega)]) rfl (by simp [hsn])
 ·simp at hc
  obtain rfl : k = ss.length := by omega
  have g1 : ss.take ss.length = ss := List.take_length
  refine zo ?_
  rw [g1]
  refine zC 3 rfl ?_
  have g2 : (PV.lst ss.length ((zE ss).flatMap Enc.enc)) = L (zE ss) := by rw [← vn ss]
  repeat apply za
  refine pwn ?_
  refine pwc hpr ?_
  intros
  (repeat apply za); refine pwn ?_; intros
  repeat apply za
  refine ze (zq (fun s : Nat × Day => s.1 ≤ ps.length ∧ s.2 = (ps.take s.1).foldl (qE x) (zE ss) ∧ ∃ T g, JI ss T g ∧ s.2 = T.filter ne ∧ ((T, ((T.filter ne).length : Int)) : Day × Int).1 = T) (fun (k, d) => [(2, .ptr nx v0 0), (4, .ptr (nx + 1) v1 0), (5, .ptr (nx + 2) v2 0), (7, L ps), (8, I k)]) (fun (k, d) => [.cells v0 25 (zm x), .cells v1 66 [zJ], .cells v2 66 [L d]]) (fun s => ps.length - s.1) (0, zE ss) [.dead] ⟨by simp, by simp, (by
   obtain ⟨g, hg⟩ := JI.begin ss [] [] _ JI.nil (by simpa using hnd)
   exact ⟨_, g, by simpa using hg, (Qg ss).symm, rfl⟩)⟩ (by simp) (by simp [g2, vn]) ?_)
  clear hk hc
  rintro ⟨k, d⟩ ⟨hk, hd', T, g, hI, hT, -⟩
  simp only at hk hd' hT ⊢
  obtain ⟨hdl, hdf, hdne⟩ := Zan (x := x) hI hss
  rw [← hT] at hdl hdf hdne
  (repeat apply za); refine pwn ?_; intros
  repeat apply za
  refine zk rfl (fun hc => ?_) (fun hc => ?_)
  ·simp at hc
   obtain ⟨p, tl, a1, a2, a3, e1, e0⟩ := el 3 rfl ps k hc
   have hstep := J2 (x := x) (st := (T, ((T.filter ne).length : Int))) hI rfl (hmem p (List.mem_of_getElem? a1)).1 (hmem p (List.mem_of_getElem? a1)).2
   simp only at hstep
   rw [← hT] at hstep
   obtain ⟨s1, -, g', s3⟩ := hstep
   have hnx : (ps.take (k + 1)).foldl (qE x) (zE ss) = qE x d p := by rw [a3, List.foldl_append, ← hd']; rfl
   have hgo : k + 1 ≤ ps.length ∧ qE x d p = (ps.take (k + 1)).foldl (qE x) (zE ss) ∧ ∃ T g, JI ss T g ∧ qE x d p = T.filter ne ∧ ((T, ((T.filter ne).length : Int)) : Day × Int).1 = T := ⟨hc, hnx.symm, _, _, s3, s1, rfl⟩
   clear s3 s1 hnx hd' hI hT T g g'
   have gp : 3 ≤ ps.length * 3 - k * 3 := by omega
   refine zb (za (ze ?_))
   (repeat apply za); refine pwn ?_; intros
   (repeat apply za); refine pwn ?_; intros
   (repeat apply za); refine pwn ?_; intros
   repeat apply za
   refine ze (zq (fun j : Nat => j ≤ d.length) (fun j => [(2, .ptr nx v0 0), (4, .ptr (nx + 1) v1 0), (5, .ptr (nx + 2) v2 0), (7, L ps), (8, I k), (9, I (yh (jt p.a) (d.take j))), (10, I (yh (ju p.b) (d.take j))), (11, I j)]) (fun j => [.cells v0 25 (zm x), .cells v1 66 [zJ], .cells v2 66 [L d]]) (fun j => d.length - j) 0 [] (by simp) (by simp [yh]) (by simp) ?_)
   rintro j hj
   (repeat apply za); refine pwn ?_; intros
   repeat apply za
   refine zk rfl (fun hcj => ?_) (fun hcj => ?_)
   ·simp at hcj
    obtain ⟨t, tt, b1, b2, b3, f0⟩ := el1 rfl d j hcj
    have hj1 : 1 ≤ d.length - j := by omega
    have htn := hdne t (List.mem_of_getElem? b1)
    have htl : t.length ≤ 1000 := Nat.le_trans (qC (List.mem_of_getElem? b1)).length_le hdf
    obtain ⟨m, hm⟩ : ∃ m, t.length = m + 1 := ⟨t.length - 1, by have : t.length ≠ 0 := fun e => htn (List.eq_nil_of_length_eq_zero e); omega⟩
    obtain ⟨la, tla, la1, la2, la3, la4, la5⟩ := el 2 rfl t m (by omega)
    obtain ⟨ha, tha, ha1, ha2, ha3, ha4, ha5⟩ := el 2 rfl t 0 (by omega)
    have w1 : IntKind.i64.wrap ((t.length : Int) - 1) = (m : Int) := by rw [wr _ (by omega) (by omega)]; omega
    have q1 : m < t.length := by omega
    have q2 : 2 ≤ t.length * 2 - m * 2 := by omega
    have q3 : 0 < t.length := by omega
    have q4 : 2 ≤ t.length * 2 := by omega
    have hkj : d.take j.succ = d.take j ++ [t] := b3
    have hEF : jt p.a t = decide (la.c = p.a) := by
     unfold jt wu
     rw [hm, Nat.add_sub_cancel, la1]
     simp
    have hHF : ju p.b t = decide (ha.c = p.b) := by
     unfold ju wN
     rw [ha1]
     simp
    have hdj : (d.take j).length = j := by rw [List.length_take]; omega
    have eE := JY (jt p.a) t (d.take j)
    have eH := JY (ju p.b) t (d.take j)
    rw [← b3, hdj, hEF] at eE
    rw [← b3, hdj, hHF] at eH
    have ha6 : (t.flatMap Enc.enc : List PV) = Enc.enc ha ++ tha := by simpa using ha5
    refine zb (za (ze ?_))
    repeat apply za
    refine pwN [] (jn3 f0 hcj hj1) ?_
    intros
    repeat apply za
    refine pwY none (Row.pures [0, 1, 2, 3, 4, 5, 6, 7, 8, 9, 10, 11, 12] .done) mixed (jn6 la5 w1 q1 e0 hc (jn2 gp q2)) ?_
    intros
    repeat apply za
    refine yc (nx := nx) (fun _ : Unit => True) (fun _ => [(2, .ptr nx v0 0), (4, .ptr (nx + 1) v1 0), (5, .ptr (nx + 2) v2 0), (7, L ps), (8, I k), (9, I (yh (jt p.a) (d.take (j + 1)))), (10, I (yh (ju p.b) (d.take j))), (11, I j), (12, L t)]) (fun _ => S) (fun _ => [.cells v0 25 (zm x), .cells v1 66 [zJ], .cells v2 66 [L d]]) ?_ ?_
    ·repeat apply za
     refine zk rfl (fun hq => ?_) (fun hq => ?_)
     ·simp at hq
      rw [if_pos (by simpa using hq)] at eE
      (repeat apply za); refine pwn ?_; intros
      exact zu () [] trivial (by simp [eE]) rfl (by simp)
     ·simp at hq
      rw [if_neg (by simpa using hq)] at eE
      refine zb ?_
      exact zu () [] trivial (by simp [eE]) rfl (by simp)
    ·rintro ⟨⟩ -
     repeat apply za
     refine pwY none (Row.pures [0, 1, 2, 3, 4, 5, 6, 7, 8, 9] .done) mixed (jn6 ha6 q3 q4 e0 hc gp) ?_
     intros
     repeat apply za
     refine zk rfl (fun hq => ?_) (fun hq => ?_)
     ·simp at hq
      rw [if_pos (by simpa using hq)] at eH
      (repeat apply za); refine pwn ?_; intros
      (repeat apply za); refine pwn ?_; intros
      exact zh (j + 1) [] hcj (by omega) (by simp [wrN j (by omega), eH]) rfl (by simp)
     ·simp at hq
      rw [if_neg (by simpa using hq)] at eH
      refine zb ?_
      (repeat apply za); refine pwn ?_; intros
      exact zh (j + 1) [] hcj (by omega) (by simp [wrN j (by omega), eH]) rfl (by simp)
   ·simp at hcj
    obtain rfl : j = d.length := by omega
    rw [List.take_length]
    refine zo ?_
    clear hj hcj
    have hEs := Qf (jt p.a) d
    have hHs := Qf (ju p.b) d
    have hdef : qE x d p = qE x d p := rfl
    conv at hdef => rhs; unfold qE
    generalize hla : yh (jt p.a) d = a at *
    generalize hlb : yh (ju p.b) d = b at *
    have wk := wrN k (by omega)
    by_cases c1 : a < 0
    ·rw [if_pos (.inl c1)] at hdef
     repeat apply za
     refine pwN [(2, 82), (6, 86), (11, 91), (18, 98)] (jn2 c1 zr) ?_
     intros
     repeat apply za
     refine zj rfl ?_
     refine zo ?_
     (repeat apply za); refine pwn ?_; intros
     exact zh (k + 1, d) [] (by simpa [hdef] using hgo) (by simp; omega) (by simp [wk]) rfl (by simp)
    by_cases c2 : b < 0
    ·rw [if_pos (.inr (.inl c2))] at hdef
     repeat apply za
     refine pwN [(2, 82), (6, 86), (11, 91), (18, 98)] (jn3 c1 c2 zr) ?_
     intros
     repeat apply za
     refine zj rfl ?_
     refine zo ?_
     (repeat apply za); refine pwn ?_; intros
     exact zh (k + 1, d) [] (by simpa [hdef] using hgo) (by simp; omega) (by simp [wk]) rfl (by simp)
    by_cases c3 : a = b
    ·rw [if_pos (.inr (.inr (.inl c3)))] at hdef
     subst c3
     repeat apply za
     refine pwN [(2, 82), (6, 86), (11, 91), (18, 98)] (jn2 c1 zr) ?_
     intros
     repeat apply za
     refine zj rfl ?_
     refine zo ?_
     (repeat apply za); refine pwn ?_; intros
     exact zh (k + 1, d) [] (by simpa [hdef] using hgo) (by simp; omega) (by simp [wk]) rfl (by simp)
    have hstop : (p.s ≤ 0 ∧ (d.length : Int) ≤ x.veh) ∨ ¬ (p.s ≤ 0 ∧ (d.length : Int) ≤ x.veh) := Classical.em _
    rcases hEs with ⟨hEs, -⟩ | ⟨i, ta, i1, i2, i3⟩
    ·exact absurd (by omega) c1
    rcases hHs with ⟨hHs, -⟩ | ⟨i', tb, j1, j2, j3⟩
    ·exact absurd (by omega) c2
    subst i3 j3
    have hil := (List.getElem?_eq_some_iff.1 i1).1
    have hjl := (List.getElem?_eq_some_iff.1 j1).1
    have c3' : ¬ i = i' := fun e => c3 (by rw [e])
    have gti : d.getD (i : Int).toNat [] = ta := by rw [Int.toNat_natCast, List.getD_eq_getElem?_getD, i1]; rfl
    have gtj : d.getD (i' : Int).toNat [] = tb := by rw [Int.toNat_natCast, List.getD_eq_getElem?_getD, j1]; rfl
    rw [gti, gtj, Int.toNat_natCast, Int.toNat_natCast] at hdef
    have n1 : ¬ (i : Int) < 0 := by omega
    have n2 : ¬ (i' : Int) < 0 := by omega
    have n3 : ¬ (i : Int) = (i' : Int) := by omega
    rcases hstop with c4 | c4
    ·rw [if_pos (.inr (.inr (.inr c4)))] at hdef
     obtain ⟨c5, c6⟩ := c4
     repeat apply za
     refine pwN [(2, 82), (6, 86), (11, 91), (18, 98)] (jn6 n1 n2 n3 c3' e0 (jn4 hc gp c5 c6)) ?_
     intros
     repeat apply za
     refine zj rfl ?_
     refine zo ?_
     (repeat apply za); refine pwn ?_; intros
     exact zh (k + 1, d) [] (by simpa [hdef] using hgo) (by simp; omega) (by simp [wk]) rfl (by simp)
    ·rw [if_neg (by rintro (q | q | q | q); exact c1 q; exact c2 q; exact c3 q; exact c4 q)] at hdef
     obtain ⟨ti, ti0, x1, -, -, fi⟩ := el1 rfl d i hil
     obtain ⟨tj, tj0, y1, -, -, fj⟩ := el1 rfl d i' hjl
     obtain rfl : ta = ti := by rw [i1] at x1; exact Option.some.inj x1
     obtain rfl : tb = tj := by rw [j1] at y1; exact Option.some.inj y1
     have gi1 : 1 ≤ d.length - i := by omega
     have gj1 : 1 ≤ d.length - i' := by omega
     have tal : ta.length ≤ 1000 := Nat.le_trans (qC (List.mem_of_getElem? i1)).length_le hdf
     have tbl : tb.length ≤ 1000 := Nat.le_trans (qC (List.mem_of_getElem? j1)).length_le hdf
     have hmay := Jj x (ta ++ tb) hxc (by simp; omega)
     have hgl : ∀ (Q : Prop), (p.s ≤ 0 → ¬ (d.length : Int) ≤ x.veh → Q) → (¬ p.s ≤ 0 → Q) → Q := fun Q h1 h2 => by
      by_cases q : p.s ≤ 0
      ·exact h1 q fun e => c4 ⟨q, e⟩
      ·exact h2 q
     have hcells : (ta.flatMap Enc.enc ++ tb.flatMap Enc.enc : List PV) = (ta ++ tb).flatMap Enc.enc := by rw [List.flatMap_append]
     have htaf : (ta.flatMap Enc.enc : List PV).take (ta.length * 2) = ta.flatMap Enc.enc := Zcx ta
     have htal : (ta.flatMap Enc.enc : List PV).length = ta.length * 2 := yq ta
     have hsum : ta.length + tb.length = (ta ++ tb).length := by simp
     repeat apply za
     refine yc (nx := nx) (fun _ : Unit => True) (fun _ => [(2, .ptr nx v0 0), (4, .ptr (nx + 1) v1 0), (5, .ptr (nx + 2) v2 0), (7, L ps), (8, I k), (9, I (i : Int)), (10, I (i' : Int)), (106, B false)]) (fun _ => S) (fun _ => [.cells v0 25 (zm x), .cells v1 66 [zJ], .cells v2 66 [L d]]) ?_ ?_
     ·refine hgl _ (fun c5 c6 => ?_) (fun c5 => ?_)
      ·repeat apply za
       refine pwN [(2, 82), (6, 86), (11, 91), (18, 98)] (jn6 n1 n2 n3 c3' e0 (jn4 hc gp c5 c6)) ?_
       intros
       exact zu () [] trivial (by simp) rfl (by simp)
      ·repeat apply za
       refine pwN [(2, 82), (6, 86), (11, 91), (18, 98)] (jn6 n1 n2 n3 c3' e0 (jn4 hc gp c5 zr)) ?_
       intros
       exact zu () [] trivial (by simp) rfl (by simp)
     ·rintro ⟨⟩ -
      repeat apply za
      refine zi rfl ?_
      refine zb ?_
      repeat apply za
      refine pwn ?_
      intro v4
      repeat apply za
      refine pwY (some [nx + 2]) (Row.pures [0, 2, 3, 4, 5, 6, 7] (.alt 1 (.alt 8 (Row.pures [9] (.alt 10 (.done) .stop)) .stop) .stop)) mixed (jn3 fi hil gi1) ?_
      refine ⟨by omega, ?_⟩
      intro v5
      intros
      repeat apply za
      refine pwY (some [nx + 2]) (Row.pures [0, 2, 3, 4, 5, 6, 7] (.alt 1 (.alt 8 (Row.pures [9] (.alt 10 (.done) .stop)) .stop) .stop)) mixed (jn5 fj hjl gj1 htaf htal) ?_
      refine ⟨by omega, ?_⟩
      intros
      rw [hcells, hsum]
      generalize hu : ta ++ tb = u at *
      refine zC 4 rfl ?_
      repeat apply za
      refine pwn ?_
      refine pwc hmay ?_
      intros
      by_cases hm0 : zp x u = 0
      case neg =>
       rw [if_neg hm0] at hdef
       repeat apply za
       refine zj (by simp [hm0]) ?_
       refine zo ?_
       (repeat apply za); refine pwn ?_; intros
       exact zh (k + 1, d) [_, _] (by simpa [hdef] using hgo) (by simp; omega) (by simp [wk]) rfl (by simp; exact ⟨rfl, rfl⟩)
      rw [if_pos hm0] at hdef
      repeat apply za
      refine zi (by simp [hm0]) ?_
      refine zb ?_
      repeat apply za
      refine pwn ?_
      intro v6
      refine yN 5 0 72 1 rfl rfl fun v7 => ?_
      (repeat apply za); refine pwn ?_; intros
      repeat apply za
      refine ze (zq (fun s : Nat × Nat => s.1 ≤ d.length) (fun (j, v7) => [(2, .ptr nx v0 0), (4, .ptr (nx + 1) v1 0), (5, .ptr (nx + 2) v2 0), (7, L ps), (8, I k), (9, I (i : Int)), (10, I (i' : Int)), (13, .ptr (nx + 3) v4 0), (14, .ptr (nx + 5) v6 0), (15, I j)]) (fun (j, v7) => [.cells v0 25 (zm x), .cells v1 66 [zJ], .cells v2 66 [L d], .cells v4 72 [L u], .dead, .cells v6 66 [.sl (nx + 6) v7 1 0 (jg d i i' u j).length], .cells v7 72 ((jg d i i' u j).flatMap Enc.enc)]) (fun s => d.length - s.1) (0, v7) [] (by simp) (by simp) (by simp [jg]) ?_)
      rintro ⟨j, v7⟩ hj
      simp only at hj ⊢
      have hnl := Zaj d i i' u j
      have hns := Zai d i i' u j
      have wj := wrN j (by omega)
      (repeat apply za); refine pwn ?_; intros
      repeat apply za
      refine zk rfl (fun hcj => ?_) (fun hcj => ?_)
      ·simp at hcj
       obtain ⟨t, tt, b1, b2, b3, f0⟩ := el1 rfl d j hcj
       have hj1 : 1 ≤ d.length - j := by omega
       have htg : d.getD j [] = t := by rw [List.getD_eq_getElem?_getD, b1]; rfl
       rw [htg] at hns
       generalize jg d i i' u j = nd at *
       have hnf : (nd.flatMap Enc.enc : List PV).length = nd.length := yD nd
       have hnt : (nd.flatMap Enc.enc : List PV).take nd.length = nd.flatMap Enc.enc := List.take_of_length_le (by omega)
       refine zb (za (ze ?_))
       (repeat apply za); refine pwn ?_; intros
       repeat apply za
       refine zk rfl (fun hq => ?_) (fun hq => ?_)
       ·simp at hq
        rw [if_pos (by omega)] at hns
        have hnc : ((jg d i i' u (j + 1)).flatMap Enc.enc : List PV) = nd.flatMap Enc.enc ++ [L u] := by rw [hns, List.flatMap_append]; rfl
        repeat apply za
        refine pwN [] (jn2 hnf hnt) ?_
        refine ⟨by omega, ?_⟩
        intros
        (repeat apply za); refine pwn ?_; intros
        exact zh (j + 1, v7 + 1) [] hcj (by simp; omega) (by simp [wj]) rfl (by simp [hns, hnc])
       ·simp at hq
        rw [if_neg (by omega)] at hns
        (repeat apply za); refine pwn ?_; intros
        repeat apply za
        refine zk rfl (fun hq2 => ?_) (fun hq2 => ?_)
        ·simp at hq2
         rw [if_neg (by omega)] at hns
         have hnc : ((jg d i i' u (j + 1)).flatMap Enc.enc : List PV) = nd.flatMap Enc.enc ++ [L t] := by rw [hns, List.flatMap_append]; rfl
         repeat apply za
         refine pwY (some [nx + 2]) (Row.pures [0, 2, 3, 4, 5, 6, 7] (.alt 1 (.alt 8 (Row.pures [9] (.alt 10 (.done) .stop)) .stop) .stop)) mixed (jn5 hnf hnt f0 hcj hj1) ?_
         refine ⟨by omega, ?_⟩
         intros
         (repeat apply za); refine pwn ?_; intros
         exact zh (j + 1, v7 + 1) [] hcj (by simp; omega) (by simp [wj]) rfl (by simp [hns, hnc])
        ·simp at hq2
         rw [if_pos (by omega), List.append_nil] at hns
         refine zb ?_
         (repeat apply za); refine pwn ?_; intros
         exact zh (j + 1, v7) [] hcj (by simp; omega) (by simp [wj]) rfl (by simp [hns])
      ·simp at hcj
       obtain rfl : j = d.length := by omega
       refine zo ?_
       have hnf : ((jg d i i' u d.length).flatMap Enc.enc : List PV).length = (jg d i i' u d.length).length := yD _
       refine zC 6 rfl ?_
       repeat apply za
       refine pwN [] hnf ?_
       intros
       (repeat apply za); refine pwn ?_; intros
       rw [hdef] at hgo
       exact zh (k + 1, jg d i i' u d.length) [_, _, _, _] (by simpa using hgo) (by simp; omega) (by simp [wk]) rfl (by simp; exact ⟨rfl, rfl, rfl, rfl⟩)
  ·simp at hc
   obtain rfl : k = ps.length := by omega
   rw [List.take_length] at hd'
   refine zo ?_
   (repeat apply za); refine pwn ?_; intros
   repeat apply za
   exact zd (zg hd (by simp; rfl) (by simp [zl, hd']))
open Go Go.Proofs Hp
structure SOk (x : Inst) (l : List Stop) : Prop where
 cust : x.cust.length ≤ 1048576
 arc : ye x
 veh : 0 ≤ x.veh
 len : l.length ≤ 1000
 sm : ∀ s ∈ l, small s.c
 nd : (l.map (·.c)).Nodup
def jX (x : Inst) (l : List Stop) : List Day := [qq x l, zE l] ++ (bif (zT x l).2 then [(zT x l).1] else [])
def qU (x : Inst) (imp : Day → Day) (l : List Stop) : List Day := [zE l, imp (qq x l), imp (zE l)] ++ (bif (zT x l).2 then [imp (zT x l).1] else [])
theorem Zao {x : Inst} (hx : x.cust.length ≤ 1048576) : ∀ (n : Nat) (d : Day) (l : List Stop), l.length = n → RgOk x d l → RgOk x (jf x n d l).1 [] ∧ ((jf x n d l).2 = true → (jf x n d l).1.flatten.Perm (d.flatten ++ l))
 | 0, d, l, hl, h => by
  obtain rfl : l = [] := List.eq_nil_of_length_eq_zero hl
  exact ⟨h, fun _ => by simp [jf]⟩
 | n + 1, d, l, hl, h => by
  have hne : l ≠ [] := fun e => by rw [e] at hl; cases hl
  obtain ⟨k, hu, hk⟩ := JV (x := x) (d := d) hne
  have hg : l.getD k default = l[k] := by rw [List.getD_eq_getElem?_getD, List.getElem?_eq_getElem hk]; rfl
  unfold jf
  rw [hu, Int.toNat_natCast, hg]
  cases hi : (yZ x d l[k]).2 with
  | false =>
   refine ⟨⟨h.ok, h.may, ?_⟩, fun e => by cases e⟩
   have := h.len
   simp only [cond_false, List.length_nil]; omega
  | true =>
   simp only [cond_true]
   obtain ⟨h1, h2⟩ := Zao hx n (yZ x d l[k]).1 (l.eraseIdx k) (by rw [List.length_eraseIdx_of_lt hk]; omega) (h.step hx hk hi)
   refine ⟨h1, fun e => (h2 e).trans ?_⟩
   have hp := VF hi
   refine (hp.append_right _).trans ?_
   have he : (l[k] :: l.eraseIdx k).Perm l := by
    rw [List.eraseIdx_eq_take_drop_succ]
    have := List.perm_middle (a := l[k]) (l₁ := l.take k) (l₂ := l.drop (k + 1))
    refine this.symm.trans ?_
    rw [← List.drop_eq_getElem_cons hk, List.take_append_drop]
   rw [List.cons_append]
   refine List.perm_middle.symm.trans ?_
   exact he.append_left _
section
variable {x : Inst} {l : List Stop} (h : SOk x l)
include h
theorem SOk.apart : DayOk (zE l) ∧ (zE l).flatten = l ∧ (zE l).length ≤ 1000 := by
 have hf : (zE l).flatten = l := by
  unfold zE
  clear h
  induction l with
  | nil => rfl
  | cons s l ih => simpa using ih
 refine ⟨⟨?_, fun t ht => ?_, fun t ht a ha => ?_⟩, hf, ?_⟩
 ·rw [vn]; have := h.len; omega
 ·obtain ⟨s, _, rfl⟩ := List.mem_map.1 ht; simp
 ·obtain ⟨s, hs, rfl⟩ := List.mem_map.1 ht
  simp at ha; subst ha; exact h.sm _ hs
 ·rw [vn]; exact h.len
theorem SOk.join : DayOk (qq x l) ∧ (qq x l).flatten.Perm l ∧ (qq x l).length ≤ 1000 ∧ ∀ t ∈ qq x l, t ≠ [] := by
 obtain ⟨g, hg⟩ := JI.begin l [] [] _ JI.nil (by simpa using h.nd)
 have key : ∀ (ps : List Pr) (st : Day × Int), (∃ g, JI l st.1 g) → st.2 = ((st.1.filter ne).length : Int) → (∀ p ∈ ps, p.a ∈ l.map (·.c) ∧ p.b ∈ l.map (·.c)) → ∃ g, JI l (ps.foldl (yu x) st).1 g := by
  intro ps
  induction ps with
  | nil => intro st hg _ _; exact hg
  | cons p ps ih =>
   rintro st ⟨g, hg⟩ hn hp
   obtain ⟨h1, h2⟩ := hp p (by simp)
   obtain ⟨e1, e2, e3⟩ := J2 (x := x) hg hn h1 h2
   rw [List.foldl_cons]
   exact ih _ e3 e2 fun q hq => hp q (by simp [hq])
 obtain ⟨g', hg'⟩ := key (yd x (l.map (·.c))) (l.map fun s => [s], (l.length : Int)) ⟨g, by simpa using hg⟩ (by rw [Qg]; simp [zE]) fun p hp => by
  have := vU.1 ((wh x _).subset hp)
  exact ⟨this.1, this.2.1⟩
 have hjp : qq x l = ((yd x (l.map (·.c))).foldl (yu x) (l.map fun s => [s], (l.length : Int))).1.filter ne := rfl
 obtain ⟨w1, w2, w3⟩ := Zan (x := x) hg' h.len
 have hfl : ∀ T : Day, (T.filter ne).flatten = T.flatten := by
  intro T
  induction T with
  | nil => rfl
  | cons t T ih =>
   rw [List.filter_cons]
   cases t with
   | nil => simpa using ih
   | cons s t => simp [ih]
 have hp : (qq x l).flatten.Perm l := by rw [hjp, hfl]; exact hg'.perm
 rw [← hjp] at w1 w2 w3
 refine ⟨⟨by omega, fun t ht => ?_, fun t ht a ha => ?_⟩, hp, w1, w3⟩
 ·have := (qC ht).length_le; omega
 ·exact h.sm a (hp.subset ((qC ht).subset ha))
theorem SOk.regret : RgOk x (zT x l).1 [] ∧ ((zT x l).2 = true → (zT x l).1.flatten.Perm l) := by
 have := Zao h.cust l.length [] l rfl (JW h.veh h.len)
 simpa [zT] using this
end
def Zap (x : Inst) (b : Int) (imp : Day → Day) (ds : List Day) : Prop := ∀ d ∈ ds, (∃ n, Pure Tryz.prog 76 [.agg (zm x), .agg [L d], I b] (.tup [.agg [L (imp d)], I n])) ∧ DayOk (imp d) ∧ (imp d).flatten.length ≤ 1048576
def Zaq (x : Inst) (b : Int) (imp : Day → Day) (ds : List Day) : Prop := ∀ d ∈ ds, Pure Tryz.prog 104 [.agg (zm x), .agg [L d], I b] (.agg [L (imp d)]) ∧ DayOk (imp d) ∧ (imp d).flatten.length ≤ 1048576
theorem Zg3 (x : Inst) (l : List Stop) (b : Int) (imp : Day → Day) (h : SOk x l) (hI : yk x l = 0 → Zap x b imp (jX x l)) :
  Pure Tryz.prog 130 [.agg (zm x), L l, I b] (.tup [.agg [L (yY x (yk x l) (qU x imp l)).1], I (yY x (yk x l) (qU x imp l)).2]) := by
 have hF := Zdt x l h.cust (by have := h.len; omega)
 by_cases he : yk x l = 0
 case neg => exact Vo x (L l) b _ _ (vW l) h.cust hF (fun e => absurd e he) fun e => absurd e he
 have hI := hI he
 have hA := Zds l (by have := h.len; omega)
 have hJ := Zfh x l h.arc h.cust h.len h.sm h.nd
 have hR := ZgD x l h.cust h.veh h.len
 obtain ⟨⟨n1, i1⟩, o1, f1⟩ := hI (qq x l) (by simp [jX])
 obtain ⟨⟨n2, i2⟩, o2, f2⟩ := hI (zE l) (by simp [jX])
 obtain ⟨a1, a2, a3⟩ := h.apart
 have h3 : (zT x l).2 = true → (∃ n, Pure Tryz.prog 76 [.agg (zm x), .agg [L (zT x l).1], I b] (.tup [.agg [L (imp (zT x l).1)], I n])) ∧ DayOk (imp (zT x l).1) ∧ (imp (zT x l).1).flatten.length ≤ 1048576 := fun e => hI _ (by simp [jX, e])
 have hlen := h.len
 have hit := Zfm (fsL x (L l) b) [some (zE l), some (imp (qq x l)), some (imp (zE l)), bif (zT x l).2 then some (imp (zT x l).1) else none] rfl (by simp) (by
  intro k f hf
  match k with
  | 0 => cases hf; exact ⟨_, _, L (zE l), rfl, Zfj (L l) (zE l) (vW l) hA, fun d hd => by cases hd; rfl⟩
  | 1 => cases hf; exact ⟨_, _, L (imp (qq x l)), rfl, Zfk x (L l) b _ _ _ (vW l) hJ i1, fun d hd => by cases hd; rfl⟩
  | 2 => cases hf; exact ⟨_, _, L (imp (zE l)), rfl, Zfl x (L l) b _ _ _ (vW l) hA i2, fun d hd => by cases hd; rfl⟩
  | 3 =>
   cases hf
   cases hall : (zT x l).2 with
   | true =>
    obtain ⟨⟨n3, i3⟩, -⟩ := h3 hall
    rw [hall] at hR
    exact ⟨_, _, L (imp (zT x l).1), rfl, Vn x (L l) b _ _ true n3 (vW l) hR (fun _ => i3), fun d hd => by cases hd; rfl⟩
   | false =>
    rw [hall] at hR
    exact ⟨_, _, zJ, rfl, Vn x (L l) b _ [] false 0 (vW l) hR (fun e => by cases e), fun d hd => by cases hd⟩
  | k + 4 => cases hf)
 have hds : ([some (zE l), some (imp (qq x l)), some (imp (zE l)), bif (zT x l).2 then some (imp (zT x l).1) else none] : List (Option Day)).filterMap id = qU x imp l := by
  unfold qU
  cases (zT x l).2 <;> rfl
 rw [hds] at hit
 refine Vo x (L l) b (yk x l) (qU x imp l) (vW l) h.cust hF (fun _ => hit) fun _ d hd => ?_
 unfold qU at hd
 simp only [List.cons_append, List.nil_append, List.mem_cons] at hd
 rcases hd with rfl | rfl | rfl | hd
 ·exact ⟨a1, by rw [a2]; omega⟩
 ·exact ⟨o1, f1⟩
 ·exact ⟨o2, f2⟩
 ·cases hall : (zT x l).2 with
  | true =>
   rw [hall] at hd
   simp at hd; subst hd
   exact (h3 hall).2
  | false => rw [hall] at hd; simp at hd
theorem Zg4 (x : Inst) (ds : List Day) (d : Day) : yX x (ds ++ [d]) = qk x (yX x ds) d := by unfold yX; rw [List.foldl_append]; rfl
def Qh (x : Inst) (ds : List Day) (at_ : Int) : Prop := ((yX x ds).2.2 = false ∧ at_ = -1) ∨ ((yX x ds).2.2 = true ∧ ∃ (k : Nat) (d : Day), at_ = k ∧ ds[k]? = some d ∧ (yX x ds).1 = d ∧ (yX x ds).2.1 = W (zA x d))
theorem Zg5 {x : Inst} {ds : List Day} {d : Day} {at_ : Int} (h : Qh x ds at_) : Qh x (ds ++ [d]) (if zL x d = 0 ∧ ((yX x ds).2.2 = false ∨ W (zA x d) < (yX x ds).2.1) then (ds.length : Int) else at_) := by
 unfold Qh
 rw [Zg4]
 unfold qk
 by_cases h1 : zL x d = 0
 ·rw [if_pos h1]
  by_cases h2 : (yX x ds).2.2 = false ∨ W (zA x d) < (yX x ds).2.1
  ·rw [if_pos h2, if_pos ⟨h1, h2⟩]
   exact .inr ⟨rfl, ds.length, d, rfl, by simp, rfl, rfl⟩
  ·rw [if_neg h2, if_neg fun e => h2 e.2]
   rcases h with ⟨a, b⟩ | ⟨a, k, e, b, c, f, g⟩
   ·exact absurd (.inl a) h2
   ·exact .inr ⟨a, k, e, b, by rw [List.getElem?_append_left (List.getElem?_eq_some_iff.1 c).1]; exact c, f, g⟩
 ·rw [if_neg h1, if_neg fun e => h1 e.1]
  rcases h with h | ⟨a, k, e, b, c, f, g⟩
  ·exact .inl h
  ·exact .inr ⟨a, k, e, b, by rw [List.getElem?_append_left (List.getElem?_eq_some_iff.1 c).1]; exact c, f, g⟩
open Go Go.Proofs Hp
theorem Zg6 {P : Program} {r : Rd} {n : Nat} {F : Nat → PV} {S : Store} {o : Oper} {t e : TypeId} {len : Nat} {parts : Array (Nat × Operand)} {cs : List PV} {K : PV → Store → Prop} (ho : o.op = .buildSlice t len parts) (ht : P.underlying t = some (.slice e)) (h0 : P.cellsOf e ≠ 0) (hlen : len ≤ 1048576)
  (hl : xW P e len (parts.toList.map fun x => (x.1, ev F x.2)) = some cs)
  (hK : ∀ C : Ctx, S C.next = .dead → ∃ id v, Fresh C S id v ∧ K (.sl id v (P.cellsOf e) 0 len) (S.set id (.cells v e cs))) : PO P r n o F S K := by
 intro G hG C w a N st next Q' hnext
 have hmap : parts.toList.map (fun x => (x.1, ev G x.2)) = parts.toList.map (fun x => (x.1, ev F x.2)) := List.map_congr_left fun x hx => by
  rw [hG x.2 (by simp only [ho, Op.operands, List.mem_toArray, List.mem_map]; first | exact ⟨x, hx, rfl⟩ | (simp; exact ⟨x.1, by simpa using hx⟩))]
 rw [← hmap] at hl
 obtain ⟨vs, hrun, hr, hsz⟩ := XF (w := w) ht (ev G) a.eval st.ev hl
 obtain ⟨id, ver, hfr, hK⟩ := hK C st.sim.free
 obtain ⟨k1, k2⟩ := st.sim.object' hfr e vs cs (Nat.le_of_eq hr.1) (fun i v _ hv => hr.2.1 i v hv) hr.2.2
 refine yJ (x := .value (.slice (some ⟨w.heap.size, 0, none⟩) len len)) (w' := w.alloc (.cells vs e)) (by intro c hc; rw [ho] at hc; cases hc) ?_
  (hnext _ _ _ _ _ hK (Zd C S w _ _ _ _ _ _ _ _ rfl (Nat.le_refl _) (by unfold qz; omega) (by unfold maxLen; omega) hsz.symm) k1 k2)
 unfold execOp
 simp only [ho]
 have e1 : (parts.map fun x => (x.1, a.eval x.2)) = (parts.toList.map fun x => (x.1, a.eval x.2)).toArray := by
  apply Array.toList_inj.1; simp
 simp only [e1, hrun, Sem.run_bind, Sem.run_pure, Result.andThen_ok]
theorem Zar {P : Program} {r : Rd} {n nx : Nat} {F : Nat → PV} {S : Store} {obs : List Ob} {o : Oper} {t e : TypeId} {len : Nat} {parts : Array (Nat × Operand)} {cs : List PV} {K : PV → Store → Prop} (ho : o.op = .buildSlice t len parts) (ht : P.underlying t = some (.slice e)) (h0 : P.cellsOf e ≠ 0) (hlen : len ≤ 1048576)
  (hl : xW P e len (parts.toList.map fun x => (x.1, ev F x.2)) = some cs) (hK : ∀ v, K (.sl (nx + obs.length) v (P.cellsOf e) 0 len) (ext S nx (obs ++ [.cells v e cs]))) : PO P r n o F (ext S nx obs) K :=
 Zg6 ho ht h0 hlen hl (xX (X := fun id v => K (.sl id v (P.cellsOf e) 0 len) ((ext S nx obs).set id (.cells v e cs))) _ x4 fun v => by rw [qh]; exact hK v)
set_option maxRecDepth 20000 in
set_option maxHeartbeats 1600000 in
theorem Zg7 (x : Inst) (l : List Stop) (b : Int) (imp : Day → Day) (h : SOk x l) (hI : yk x l = 0 → Zaq x b imp (jX x l)) :
  Pure Tryz.prog 65 [.agg (zm x), L l, I b] (.tup [.agg [L (yY x (yk x l) (qU x imp l)).1], I (yY x (yk x l) (qU x imp l)).2]) := by
 have hlen := h.len
 have hF := Zdu x l h.cust (by omega)
 by_cases he : yk x l = 0
 case neg =>
  have hz : yY x (yk x l) (qU x imp l) = ([], yk x l) := by unfold yY; rw [if_neg he]
  rw [hz]
  clear hz
  refine pwe Tryz.func65 Tryz.ntmps65 Tryz.results65 fun S nx hd => ?_
  repeat apply za
  refine pwn ?_
  intro v0 v1
  repeat apply za
  refine pwn ?_
  refine pwc hF ?_
  intros
  (repeat apply za); refine pwn ?_; intros
  repeat apply za
  refine zj (by simp [he]) ?_
  (repeat apply za); refine pwn ?_; intros
  refine xI 1 0 rfl rfl ?_
  repeat apply za
  exact zd (zg hd (by simp; rfl) (by simp [zl]))
 have hI := hI he
 have hA := Zg1 l (by omega)
 have hJ := Zg2 x l h.arc h.cust h.len h.sm h.nd
 have hR := ZgE x l h.cust h.arc h.veh h.len
 obtain ⟨i1, o1, f1⟩ := hI (qq x l) (by simp [jX])
 obtain ⟨i2, o2, f2⟩ := hI (zE l) (by simp [jX])
 obtain ⟨a1, a2, a3⟩ := h.apart
 have h3 : (zT x l).2 = true → Pure Tryz.prog 104 [.agg (zm x), .agg [L (zT x l).1], I b] (.agg [L (imp (zT x l).1)]) ∧ DayOk (imp (zT x l).1) ∧ (imp (zT x l).1).flatten.length ≤ 1048576 := fun e => hI _ (by simp [jX, e])
 have hds : ∀ d ∈ qU x imp l, DayOk d ∧ d.flatten.length ≤ 1048576 := by
  intro d hd
  unfold qU at hd
  simp only [List.cons_append, List.nil_append, List.mem_cons] at hd
  rcases hd with rfl | rfl | rfl | hd
  ·exact ⟨a1, by rw [a2]; omega⟩
  ·exact ⟨o1, f1⟩
  ·exact ⟨o2, f2⟩
  ·cases hall : (zT x l).2 with
   | true =>
    rw [hall] at hd
    simp at hd; subst hd
    exact (h3 hall).2
   | false => rw [hall] at hd; simp at hd
 have htz : qU x imp l = [zE l, imp (qq x l), imp (zE l)] ++ (bif (zT x l).2 then [imp (zT x l).1] else []) := rfl
 generalize qU x imp l = ds at *
 generalize hap : zE l = ap at *
 generalize hjo : qq x l = jo at *
 generalize hre : zT x l = re at *
 obtain ⟨rd, all⟩ := re
 generalize hij : imp jo = ij at *
 generalize hia : imp ap = ia at *
 simp only at h3 htz
 have hxc := h.cust
 clear hap hjo hre h hI a1 a2 a3 o1 f1 o2 f2
 refine pwe Tryz.func65 Tryz.ntmps65 Tryz.results65 fun S nx hd => ?_
 repeat apply za
 refine pwn ?_
 intro v0 v1
 repeat apply za
 refine pwn ?_
 refine pwc hF ?_
 intros
 (repeat apply za); refine pwn ?_; intros
 repeat apply za
 refine zi (by simp [he]) ?_
 refine zb ?_
 repeat apply za
 refine pwn ?_
 refine pwc hA ?_
 intro v2
 intros
 repeat apply za
 refine xH (some [nx, nx + 2]) (Row.pures [0, 1, 2, 3, 4, 5, 6, 7, 8, 9, 10] (.alt 11 (Row.pures [12] .done) .stop)) mixed (by rfl) (by rfl) (by rfl) fun K Gp Gc Gh hK hGp hGc hGh X hX0 hX1 hX2 hX => ?_
 simp -implicitDefEqProofs [hX0, hX1, hX2, hX]
 try clear hX0 hX1 hX2 hX X
 refine hGp _ _ _ _ _ _ _ _ (hJ) ?_
 clear hGp hGc hGh
 clear Gp Gc Gh
 refine qQ fun Gp Gc Gh hGp hGc hGh X hX0 hX1 hX2 hX => ?_
 simp -implicitDefEqProofs [hX0, hX1, hX2, hX]
 try clear hX0 hX1 hX2 hX X
 refine hGp _ _ _ _ _ _ _ _ (i1) ?_
 clear hGp hGc hGh
 clear Gp Gc Gh
 refine qQ fun Gp Gc Gh hGp hGc hGh X hX0 hX1 hX2 hX => ?_
 simp -implicitDefEqProofs [hX0, hX1, hX2, hX]
 try clear hX0 hX1 hX2 hX X
 refine hGp _ _ _ _ _ _ _ _ (i2) ?_
 clear hGp hGc hGh
 clear Gp Gc Gh
 refine qQ fun Gp Gc Gh hGp hGc hGh X hX0 hX1 hX2 hX => ?_
 simp -implicitDefEqProofs [hX0, hX1, hX2, hX]
 try clear hX0 hX1 hX2 hX X
 refine hGh _ _ _ _ _ (by rfl) (Zar (cs := [L ap, L ij, L ia]) rfl Tryz.underlying27 (by simp) (by decide) (by simp [xW, xV]) fun v3 => ⟨by simp [zV], ?_⟩)
 clear hGp hGc hGh
 clear Gp Gc Gh
 refine qQ fun Gp Gc Gh hGp hGc hGh X hX0 hX1 hX2 hX => ?_
 simp -implicitDefEqProofs [hX0, hX1, hX2, hX]
 try clear hX0 hX1 hX2 hX X
 refine hK _ _ _ ?_
 clear hK hGp hGc hGh
 clear K Gp Gc Gh
 repeat apply za
 refine pwn ?_
 refine pwc hR ?_
 intro v4
 intros
 refine za ?_
 refine yc (nx := nx) (fun v : Nat => True) (fun v => [(3, .ptr nx v0 0), (6, .ptr (nx + 1) v1 0), (7, I 0), (10, .sl (nx + 3) v 1 0 ds.length)]) (fun _ => S) (fun v => [.cells v0 25 (zm x), .cells v1 66 [zJ], .cells v2 66 [L ap], .cells v 66 (ds.flatMap Enc.enc)]) ?_ ?_
 ·cases all with
  | false =>
   simp only [cond_false] at htz
   (repeat apply za); refine pwn ?_; intros
   repeat apply za
   refine zi rfl ?_
   refine zb ?_
   exact zu v3 [_] trivial (by simp [htz]) rfl (by simp [htz]; rfl)
  | true =>
   simp only [cond_true] at htz
   obtain ⟨i3, -, -⟩ := h3 rfl
   (repeat apply za); refine pwn ?_; intros
   repeat apply za
   refine zj rfl ?_
   repeat apply za
   refine pwn ?_
   refine pwc i3 ?_
   intros
   exact zu (v3 + 1) [_] trivial (by simp [htz]) rfl (by simp [htz]; rfl)
 ·intro v3 _
  have hdl : ds.length ≤ 4 := by rw [htz]; cases all <;> simp
  clear htz hij hia h3 hF hA hJ hR i1 i2
  (repeat apply za); refine pwn ?_; intros
  (repeat apply za); refine pwn ?_; intros
  repeat apply za
  refine ze (zq (fun s' : Nat × Int => s'.1 ≤ ds.length ∧ Qh x (ds.take s'.1) s'.2) (fun (k, at_) => [(3, .ptr nx v0 0), (6, .ptr (nx + 1) v1 0), (7, I 0), (10, .sl (nx + 3) v3 1 0 ds.length), (13, I at_), (14, I k)]) (fun _ => [.cells v0 25 (zm x), .cells v1 66 [zJ], .cells v2 66 [L ap], .cells v3 66 (ds.flatMap Enc.enc)]) (fun s' => ds.length - s'.1) (0, -1) [] ⟨by simp, .inl ⟨rfl, rfl⟩⟩ (by simp) (by simp) ?_)
  rintro ⟨k, at_⟩ ⟨hk, hb⟩
  simp only at hk hb ⊢
  (repeat apply za); refine pwn ?_; intros
  repeat apply za
  refine zk rfl (fun hc => ?_) (fun hc => ?_)
  ·simp at hc
   obtain ⟨d, tl, a1, a2, a3, e0⟩ := el1 rfl ds k hc
   have hk1 : 1 ≤ ds.length - k := by omega
   obtain ⟨hdo, hdf⟩ := hds d (List.mem_of_getElem? a1)
   have hday := YN x d hxc hdo.1 hdo.2 hdf
   have hcost := vf x d hdo
   have hstep := Zg5 (d := d) hb
   rw [← a3] at hstep
   have hkl : (ds.take k).length = k := by rw [List.length_take]; omega
   rw [hkl] at hstep
   have wk := wrN k (by omega)
   refine zb (za (ze ?_))
   repeat apply za
   refine pwY (some [nx, nx + 3]) (Row.pures [0, 1, 2, 3, 4, 5, 6] .done) mixed (jn3 e0 hc hk1) ?_
   refine pwP (hday) trivial ?_
   intros
   by_cases h0 : zL x d = 0
   case neg =>
    rw [if_neg fun e => h0 e.1] at hstep
    repeat apply za
    refine zj (by simp [h0]) ?_
    refine zo ?_
    (repeat apply za); refine pwn ?_; intros
    exact zh (k + 1, at_) [] ⟨hc, hstep⟩ (by simp; omega) (by simp [wk]) rfl (by simp)
   repeat apply za
   refine zi (by simp [h0]) ?_
   refine zb ?_
   rcases hb with ⟨hb1, rfl⟩ | ⟨hb1, j, e, rfl, hj, hb2, hb3⟩
   ·rw [if_pos ⟨h0, .inl hb1⟩] at hstep
    repeat apply za
    refine pwY (some [nx, nx + 3]) (Row.pures [0, 1, 2, 3, 4, 5, 6, 7, 8, 9, 10, 11, 12, 13, 14, 15, 16] .done) mixed zr ?_
    intros
    repeat apply za
    refine zj rfl ?_
    (repeat apply za); refine pwn ?_; intros
    (repeat apply za); refine pwn ?_; intros
    exact zh (k + 1, (k : Int)) [] ⟨hc, hstep⟩ (by simp; omega) (by simp [wk]) rfl (by simp)
   ·rw [List.getElem?_take] at hj
    have hjk : j < k := by
     rcases Nat.lt_or_ge j k with q | q
     ·exact q
     ·rw [if_neg (by omega)] at hj; cases hj
    rw [if_pos hjk] at hj
    obtain ⟨e', tl2, b1, b2, b3, f0⟩ := el1 rfl ds j (by omega)
    obtain rfl : e = e' := by rw [hj] at b1; exact Option.some.inj b1
    have hj1 : 1 ≤ ds.length - j := by omega
    have hjl : j < ds.length := by omega
    obtain ⟨hdo2, hdf2⟩ := hds e (List.mem_of_getElem? b1)
    have hcost2 := vf x e hdo2
    rw [hb1, hb3] at hstep
    have nj : ¬ (j : Int) < 0 := by omega
    generalize W (zA x d) = cd at *
    generalize W (zA x e) = ce at *
    by_cases hlt : cd < ce
    ·rw [if_pos ⟨h0, .inr hlt⟩] at hstep
     repeat apply za
     refine pwY (some [nx, nx + 3]) (Row.pures [0, 1, 2, 3, 4, 5, 6, 7, 8, 9, 10, 11, 12, 13, 14, 15, 16] .done) mixed (jn6 nj e0 hc hk1 f0 (jn2 hjl hj1)) ?_
     refine pwP (hcost) (jn6 nj e0 hc hk1 f0 (jn2 hjl hj1)) ?_
     refine pwP (hcost2) (jn6 nj e0 hc hk1 f0 (jn2 hjl hj1)) ?_
     intros
     repeat apply za
     refine zj (by simp [hlt]) ?_
     (repeat apply za); refine pwn ?_; intros
     (repeat apply za); refine pwn ?_; intros
     exact zh (k + 1, (k : Int)) [] ⟨hc, hstep⟩ (by simp; omega) (by simp [wk]) rfl (by simp)
    ·rw [if_neg (by rintro ⟨-, q⟩; rcases q with q | q; cases q; exact hlt q)] at hstep
     repeat apply za
     refine pwY (some [nx, nx + 3]) (Row.pures [0, 1, 2, 3, 4, 5, 6, 7, 8, 9, 10, 11, 12, 13, 14, 15, 16] .done) mixed (jn6 nj e0 hc hk1 f0 (jn2 hjl hj1)) ?_
     refine pwP (hcost) (jn6 nj e0 hc hk1 f0 (jn2 hjl hj1)) ?_
     refine pwP (hcost2) (jn6 nj e0 hc hk1 f0 (jn2 hjl hj1)) ?_
     intros
     repeat apply za
     refine zi (by simp [hlt]) ?_
     refine zb ?_
     (repeat apply za); refine pwn ?_; intros
     exact zh (k + 1, (j : Int)) [] ⟨hc, hstep⟩ (by simp; omega) (by simp [wk]) rfl (by simp)
  ·simp at hc
   obtain rfl : k = ds.length := by omega
   rw [List.take_length] at hb
   refine zo ?_
   rcases hb with ⟨hb1, rfl⟩ | ⟨hb1, j, e, rfl, hj, hb2, hb3⟩
   ·(repeat apply za); refine pwn ?_; intros
    repeat apply za
    refine zj rfl ?_
    (repeat apply za); refine pwn ?_; intros
    refine xI 1 0 rfl rfl ?_
    repeat apply za
    exact zd (zg hd (by simp; rfl) (by simp [zl, yY, he, hb1]))
   ·obtain ⟨e', tl2, b1, b2, b3, f0⟩ := el1 rfl ds j (List.getElem?_eq_some_iff.1 hj).1
    obtain rfl : e = e' := by rw [hj] at b1; exact Option.some.inj b1
    have hjl := (List.getElem?_eq_some_iff.1 hj).1
    have hj1 : 1 ≤ ds.length - j := by omega
    have nj : ¬ (j : Int) < 0 := by omega
    repeat apply za
    refine pwN [] nj ?_
    intros
    repeat apply za
    refine zi rfl ?_
    refine zb ?_
    repeat apply za
    refine pwN [] (jn3 f0 hjl hj1) ?_
    intros
    repeat apply za
    exact zd (zg hd (by simp; rfl) (by simp [zl, yY, he, hb1, hb2]))
open Go Go.Proofs
theorem Zg8 {P : Program} {r : Rd} {n nx N : Nat} {Q : Exit → (Nat → PV) → Store → Prop} {F : Nat → PV} {S : Store} {obs : List Ob} {A : Prop} {R : Nat → KT → CT → HT → Prop} {id : Nat} {ops : Array Oper} {o : Oper} {os : List Oper} {t e : TypeId} {len : Nat} {parts : Array (Nat × Operand)}
  (D : List (Nat × Nat)) (cs : List PV) (ht : P.underlying t = some (.slice e)) (a : A) (h : ∀ v, R v (fun F' S' obs' => Q .normal F' (ext S' nx obs')) (CQ P r n nx ops fun F' S' obs' => Q .normal F' (ext S' nx obs')) (HQ P r n nx ops fun F' S' obs' => Q .normal F' (ext S' nx obs')))
  (hops : ops.toList = o :: os := by rfl) (hg : o.guard = none := by rfl) (ho : o.op = .buildSlice t len parts := by rfl) (h0 : P.cellsOf e ≠ 0 := by simp) (hlen : len ≤ 1048576 := by decide)
  (hl : xW P e len (parts.toList.map fun x => (x.1, ev F x.2)) = some cs := by simp [xW, xV]) (hN : jk N ops = true := by rfl) (hD : xG ops D = true := by rfl)
  (hR : A → ∀ v, XQ P nx D os (zy F o.dst (.sl (nx + obs.length) v (P.cellsOf e) 0 len)) S (obs ++ [.cells v e cs]) (R v) := by intro a v K Gc Gh X hX0 hX h; simp -implicitDefEqProofs [hX0, hX, a]; exact h) : PW P r n N (.region id ops false) Q F (ext S nx obs) := by
 refine Q6 hN ?_
 rw [hops]
 unfold XS
 have : gd ops F o = some true := by unfold gd; rw [hg]
 rw [this]
 exact Zar ho ht h0 hlen hl fun v => ⟨_, _, rfl, Zn (by rw [hops]; exact List.suffix_cons _ _) hD (hR a v) (h v)⟩
def fzZ (x : Inst) (t : zn) : Nat → Int
 | 0 => 0
 | i + 1 => fzZ x t i + arc x ((t.getD i default).c + 1) ((t.getD (i + 1) default).c + 1)
def bzZ (x : Inst) (t : zn) : Nat → Int
 | 0 => 0
 | i + 1 => bzZ x t i + arc x ((t.getD (i + 1) default).c + 1) ((t.getD i default).c + 1)
theorem uO {x : Inst} (h : ye x) (t : zn) : ∀ i : Nat, 0 ≤ fzZ x t i ∧ fzZ x t i ≤ 2147483648 * (i : Int)
 | 0 => by simp [fzZ]
 | i + 1 => by
  have h1 := uO h t i
  have h2 := h ((t.getD i default).c + 1) ((t.getD (i + 1) default).c + 1)
  unfold fzZ; omega
theorem uP {x : Inst} (h : ye x) (t : zn) : ∀ i : Nat, 0 ≤ bzZ x t i ∧ bzZ x t i ≤ 2147483648 * (i : Int)
 | 0 => by simp [bzZ]
 | i + 1 => by
  have h1 := uP h t i
  have h2 := h ((t.getD (i + 1) default).c + 1) ((t.getD i default).c + 1)
  unfold bzZ; omega
structure Sm where
 f : List Int
 b : List Int
 l : List Int
 n : Int
instance : Enc Sm := ⟨fun s => [L s.f, L s.b, L s.l, I s.n], 4, fun _ => rfl, fun _ => rfl⟩
@[simp] theorem ZkX (s : Sm) : Enc.enc s = [L s.f, L s.b, L s.l, I s.n] := rfl
@[simp high] theorem Zas (l : List Sm) : (l.flatMap Enc.enc).length = l.length * 4 := qX l
@[simp high] theorem ZkY (l : List Sm) : (l.flatMap Enc.enc).take (l.length * 4) = l.flatMap Enc.enc := vd l
def smZ (x : Inst) (t : zn) : Sm := ⟨(List.range t.length).map (fzZ x t), (List.range t.length).map (bzZ x t), (List.range (t.length + 1)).map fun i => zt (t.take i), zB x (t.map (·.c))⟩
abbrev rdL (x : Inst) (d : Day) : List PV := [I x.days, I x.veh, I x.cap, I x.len, L x.cust, L x.dist, L d, L (d.map (smZ x))]
structure MvDay (d : Day) : Prop where
 n : d.length ≤ 1000
 t : ∀ t ∈ d, t.length ≤ 1000
 s : ∀ t ∈ d, ∀ s ∈ t, small s.c ∧ 0 ≤ s.q ∧ s.q ≤ 2147483648
theorem Zg9 {t : zn} {i : Nat} {s : Stop} (h : t.take (i + 1) = t.take i ++ [s]) : zt (t.take (i + 1)) = zt (t.take i) + s.q := by rw [h, Zq]
theorem J3 {α : Type} (f : Nat → α) (k : Nat) : (List.range (k + 1)).map f = (List.range k).map f ++ [f k] := by rw [List.range_succ, List.map_append]; rfl
theorem Zha (id v : Nat) (cs : List PV) (l : List Sm) : (l.flatMap Enc.enc).map (zI id v cs) = (l.flatMap Enc.enc : List PV) := by
 induction l with
 | nil => rfl
 | cons s l ih => rw [List.flatMap_cons, List.map_append, ih]; rfl
set_option maxRecDepth 20000 in
set_option maxHeartbeats 3200000 in
theorem Zhb (x : Inst) (d : Day) (hx : ye x) (hd' : MvDay d) : Pure Tryz.prog 153 [.agg (zm x), .agg [L d]] (.ip (rdL x d)) := by
 have hdn := hd'.n
 refine pwe Tryz.func153 Tryz.ntmps153 Tryz.results153 fun S nx hd => ?_
 repeat apply za
 refine pwn ?_
 intro v0 v1
 repeat apply za
 refine pwn ?_
 intro v2
 refine yN 2 7 255 4 rfl rfl fun v3 => ?_
 (repeat apply za); refine pwn ?_; intros
 repeat apply za
 refine ze (zq (fun s' : Nat × Nat => s'.1 ≤ d.length) (fun (k, v3) => [(2, .ptr nx v0 0), (5, .ptr (nx + 2) v2 0), (20, L d), (21, I d.length), (22, I k)]) (fun (k, v3) => [.cells v0 25 (zm x), .cells v1 66 [L d], .cells v2 253 [I x.days, I x.veh, I x.cap, I x.len, L x.cust, L x.dist, L d, .sl (nx + 3) v3 4 0 k], .cells v3 255 (((d.map (smZ x)).take k).flatMap Enc.enc)]) (fun s' => d.length - s'.1) (0, v3) [] (by simp) (by simp) (by simp) ?_)
 rintro ⟨k, v3⟩ hk
 simp only at hk ⊢
 (repeat apply za); refine pwn ?_; intros
 repeat apply za
 refine zk rfl (fun hc => ?_) (fun hc => ?_)
 ·simp at hc
  obtain ⟨t, tl, a1, a2, a3, e0⟩ := el1 rfl d k hc
  have hk1 : 1 ≤ d.length - k := by omega
  have htm := List.mem_of_getElem? a1
  have htl := hd'.t t htm
  have hts := hd'.s t htm
  have hlw := Zs x t (by omega) (fun s hs => (hts s hs).1)
  have hwz := vZ hx (t.map (·.c))
  rw [List.length_map] at hwz
  rw [show W (zB x (t.map (·.c))) = zB x (t.map (·.c)) from wr _ (by omega) (by omega)] at hlw
  refine zb (za (ze ?_))
  repeat apply za
  refine pwN [] (jn3 e0 hc hk1) ?_
  intro v4
  repeat apply za
  refine Zg8 [] [I 0] Tryz.underlying54 trivial ?_
  intro v5
  refine pwc hlw ?_
  intro v6
  (repeat apply za); refine pwn ?_; intros
  refine yN 6 0 3 1 rfl rfl fun v7 => ?_
  refine yN 6 1 3 1 rfl rfl fun v8 => ?_
  (repeat apply za); refine pwn ?_; intros
  generalize hpc : (((d.map (smZ x)).take k).flatMap Enc.enc : List PV) = pc at *
  generalize hwl : zB x (t.map (·.c)) = wl at *
  repeat apply za
  refine ze (zq (fun s' : Nat × Nat × Nat × Nat => s'.1 ≤ t.length) (fun (i, v5, v7, v8) => [(2, .ptr nx v0 0), (5, .ptr (nx + 2) v2 0), (7, .ptr (nx + 4) v4 0), (8, .ptr (nx + 6) v6 0), (9, I (fzZ x t (i - 1))), (10, I (bzZ x t (i - 1))), (20, L d), (21, I d.length), (22, I k), (32, L t), (33, I t.length), (34, I i)])
   (fun (i, v5, v7, v8) => [.cells v0 25 (zm x), .cells v1 66 [L d], .cells v2 253 [I x.days, I x.veh, I x.cap, I x.len, L x.cust, L x.dist, L d, .sl (nx + 3) v3 4 0 k], .cells v3 255 pc, .cells v4 72 [L t], .cells v5 3 (((List.range (i + 1)).map fun i => zt (t.take i)).flatMap Enc.enc),
    .cells v6 255 [.sl (nx + 7) v7 1 0 i, .sl (nx + 8) v8 1 0 i, .sl (nx + 5) v5 1 0 (i + 1), I wl], .cells v7 3 (((List.range i).map (fzZ x t)).flatMap Enc.enc), .cells v8 3 (((List.range i).map (bzZ x t)).flatMap Enc.enc)]) (fun s' => t.length - s'.1) (0, v5, v7, v8) [] (by simp) (by simp [fzZ, bzZ]) (by simp [zt]) ?_)
  rintro ⟨i, v5, v7, v8⟩ hi
  simp only at hi ⊢
  (repeat apply za); refine pwn ?_; intros
  repeat apply za
  refine zk rfl (fun hci => ?_) (fun hci => ?_)
  ·simp at hci
   obtain ⟨s, ts, s1, s2, s3, -, s0⟩ := el 2 rfl t i hci
   have hi2 : 2 ≤ t.length * 2 - i * 2 := by omega
   obtain ⟨hsm, hq0, hq1⟩ := hts s (List.mem_of_getElem? s1)
   have hgs : t.getD i default = s := by rw [List.getD_eq_getElem?_getD, s1]; rfl
   have wi := wrN i (by omega)
   have f1 := J3 (fzZ x t) i
   have f2 := J3 (bzZ x t) i
   have f3 := J3 (fun i => zt (t.take i)) (i + 1)
   have hlz := Zg9 s3
   have hlb := JJ (t := t.take i) (fun a ha => (hts a (List.mem_of_mem_take ha)).2)
   have hlt : (t.take i).length ≤ 1000 := by rw [List.length_take]; omega
   have wl1 : IntKind.i64.wrap (zt (t.take i) + s.q) = zt (t.take (i + 1)) := by rw [hlz]; exact wr _ (by omega) (by omega)
   have g1 : (((List.range i).map (fzZ x t)).flatMap Enc.enc : List PV).length = i := by rw [qn]; simp
   have g2 : (((List.range i).map (bzZ x t)).flatMap Enc.enc : List PV).length = i := by rw [qn]; simp
   have g3 : (((List.range (i + 1)).map fun i => zt (t.take i)).flatMap Enc.enc : List PV).length = i + 1 := by rw [qn]; simp
   obtain ⟨lz, tlz, z1, -, -, z0⟩ := el1 rfl ((List.range (i + 1)).map fun i => zt (t.take i)) i (by simp)
   have hlzz : lz = zt (t.take i) := by simpa using z1.symm
   have c1 : (((List.range (i + 1)).map (fzZ x t)).flatMap Enc.enc : List PV) = ((List.range i).map (fzZ x t)).flatMap Enc.enc ++ [I (fzZ x t i)] := by rw [f1, List.flatMap_append]; rfl
   have c2 : (((List.range (i + 1)).map (bzZ x t)).flatMap Enc.enc : List PV) = ((List.range i).map (bzZ x t)).flatMap Enc.enc ++ [I (bzZ x t i)] := by rw [f2, List.flatMap_append]; rfl
   have c3 : (((List.range (i + 1 + 1)).map fun i => zt (t.take i)).flatMap Enc.enc : List PV) = ((List.range (i + 1)).map fun i => zt (t.take i)).flatMap Enc.enc ++ [I (zt (t.take (i + 1)))] := by rw [f3, List.flatMap_append]; rfl
   rw [hlzz] at z0
   clear f1 f2 f3 z1 hlzz hlz
   generalize (((List.range i).map (fzZ x t)).flatMap Enc.enc : List PV) = fc at *
   generalize (((List.range i).map (bzZ x t)).flatMap Enc.enc : List PV) = bc at *
   generalize (((List.range (i + 1)).map fun i => zt (t.take i)).flatMap Enc.enc : List PV) = lc at *
   have t1 : fc.take i = fc := List.take_of_length_le (by omega)
   have t2 : bc.take i = bc := List.take_of_length_le (by omega)
   have t3 : lc.take (i + 1) = lc := List.take_of_length_le (by omega)
   refine zb (za (ze ?_))
   repeat apply za
   refine pwN [] (jn3 s0 hci hi2) ?_
   intro v9
   refine za ?_
   refine yc (nx := nx) (fun _ : Unit => True) (fun _ => [(2, .ptr nx v0 0), (5, .ptr (nx + 2) v2 0), (7, .ptr (nx + 4) v4 0), (8, .ptr (nx + 6) v6 0), (9, I (fzZ x t i)), (10, I (bzZ x t i)), (11, I i), (12, .ptr (nx + 9) v9 0), (20, L d), (21, I d.length), (22, I k), (32, L t), (33, I t.length), (34, I i)]) (fun _ => S)
    (fun _ => [.cells v0 25 (zm x), .cells v1 66 [L d], .cells v2 253 [I x.days, I x.veh, I x.cap, I x.len, L x.cust, L x.dist, L d, .sl (nx + 3) v3 4 0 k], .cells v3 255 pc, .cells v4 72 [L t], .cells v5 3 lc,
    .cells v6 255 [.sl (nx + 7) v7 1 0 i, .sl (nx + 8) v8 1 0 i, .sl (nx + 5) v5 1 0 (i + 1), I wl], .cells v7 3 fc, .cells v8 3 bc, .cells v9 50 [I s.c, I s.q]]) ?_ ?_
   ·by_cases h0 : 0 < i
    ·obtain ⟨j, rfl⟩ : ∃ j, i = j + 1 := ⟨i - 1, by omega⟩
     obtain ⟨p, tp, p1, -, -, -, p0⟩ := el 2 rfl t j (by omega)
     obtain ⟨hpm, -, -⟩ := hts p (List.mem_of_getElem? p1)
     have hgp : t.getD j default = p := by rw [List.getD_eq_getElem?_getD, p1]; rfl
     have hj2 : 2 ≤ t.length * 2 - j * 2 := by omega
     have hjl : j < t.length := by omega
     have wj : IntKind.i64.wrap (j : Int) = (j : Int) := wr _ (by omega) (by omega)
     have wp := j9 hpm
     have ws := j9 hsm
     have ar1 := j8 x (p.c + 1) (s.c + 1)
     have ar2 := j8 x (s.c + 1) (p.c + 1)
     have hfz : fzZ x t (j + 1) = fzZ x t j + arc x (p.c + 1) (s.c + 1) := by conv => lhs; unfold fzZ; rw [hgs, hgp]
     have hbz : bzZ x t (j + 1) = bzZ x t j + arc x (s.c + 1) (p.c + 1) := by conv => lhs; unfold bzZ; rw [hgs, hgp]
     have b1 := uO hx t (j + 1)
     have b2 := uP hx t (j + 1)
     have wf : IntKind.i64.wrap (fzZ x t j + arc x (p.c + 1) (s.c + 1)) = fzZ x t (j + 1) := by rw [hfz] at b1 ⊢; exact wr _ (by omega) (by omega)
     have wb : IntKind.i64.wrap (bzZ x t j + arc x (s.c + 1) (p.c + 1)) = bzZ x t (j + 1) := by rw [hbz] at b2 ⊢; exact wr _ (by omega) (by omega)
     simp only [Nat.add_sub_cancel]
     have h0' : (0 : Int) < ((j + 1 : Nat) : Int) := by omega
     repeat apply za
     refine pwN [] (jn2 h0 h0') ?_
     intros
     repeat apply za
     refine zj (by simp) ?_
     repeat apply za
     refine pwY (some [nx + 4, nx + 9]) (Row.pures [0, 1, 2, 3, 4, 5, 6, 7, 8, 9, 10, 11, 12] .done) mixed (jn6 wj p0 hjl hj2 wp ws) ?_
     intros
     repeat apply za
     refine pwn ?_
     refine pwC [] ar1 wf ?_
     intros
     repeat apply za
     refine pwn ?_
     refine pwC [] ar2 wb ?_
     intros
     exact zu () [] trivial (by simp) rfl (by simp)
    ·obtain rfl : i = 0 := by omega
     (repeat apply za); refine pwn ?_; intros
     repeat apply za
     refine zi rfl ?_
     refine zb ?_
     exact zu () [] trivial (by simp) rfl (by simp)
   ·rintro ⟨⟩ -
    refine za ?_
    refine yc (nx := nx) (fun _ : Unit => True) (fun _ => [(2, .ptr nx v0 0), (5, .ptr (nx + 2) v2 0), (7, .ptr (nx + 4) v4 0), (8, .ptr (nx + 6) v6 0), (9, I (fzZ x t i)), (10, I (bzZ x t i)), (11, I i), (12, .ptr (nx + 9) v9 0), (20, L d), (21, I d.length), (22, I k), (32, L t), (33, I t.length), (34, I i)]) (fun _ => S)
     (fun _ => [.cells v0 25 (zm x), .cells v1 66 [L d], .cells v2 253 [I x.days, I x.veh, I x.cap, I x.len, L x.cust, L x.dist, L d, .sl (nx + 3) v3 4 0 k], .cells v3 255 pc, .cells v4 72 [L t], .cells v5 3 lc,
     .cells v6 255 [.sl (nx + 7) (v7 + 1) 1 0 (i + 1), .sl (nx + 8) (v8 + 1) 1 0 (i + 1), .sl (nx + 5) v5 1 0 (i + 1), I wl], .cells (v7 + 1) 3 (fc ++ [I (fzZ x t i)]), .cells (v8 + 1) 3 (bc ++ [I (bzZ x t i)]), .cells v9 50 [I s.c, I s.q]]) ?_ ?_
    ·repeat apply za
     refine pwY (some []) (Row.pures [0, 2, 3, 5, 7, 8] (.alt 1 (.alt 4 (.alt 6 (Row.pures [10] (.alt 9 (.alt 11 (Row.pures [12] (.alt 13 (.done) .stop)) .stop) .stop)) .stop) (.alt 6 (.alt 4 (Row.pures [10] (.alt 9 (.alt 11 (Row.pures [12] (.alt 13 (.done) .stop)) .stop) .stop)) .stop) .stop)) (.alt 6 (.alt 1 (.alt 4 (Row.pures [10] (.alt 9 (.alt 11 (Row.pures [12] (.alt 13 (.done) .stop)) .stop) .stop)) .stop) .stop) .stop))) mixed (jn4 g1 g2 t1 t2) ?_
     repeat' (first | refine And.intro (by omega) ?_ | apply And.intro)
     all_goals exact zu () [] trivial (by simp) rfl (by simp)
    ·rintro ⟨⟩ -
     have z1 : (i : Int) < (i : Int) + 1 := by omega
     have z2 : i < i + 1 := by omega
     have z3 : 1 ≤ i + 1 - i := by omega
     repeat apply za
     refine pwY (some [nx + 9]) (Row.pures [0, 2, 4, 7, 8] (.alt 1 (.alt 3 (Row.pures [5] (.alt 6 (Row.pures [9, 10] (.alt 11 (Row.pures [12] (.alt 13 (.done) .stop)) .stop)) .stop)) .stop) (.alt 3 (Row.pures [5] (.alt 1 (.alt 6 (Row.pures [9, 10] (.alt 11 (Row.pures [12] (.alt 13 (.done) .stop)) .stop)) .stop) (.alt 6 (Row.pures [9, 10] (.alt 1 (.alt 11 (Row.pures [12] (.alt 13 (.done) .stop)) .stop) .stop)) .stop))) .stop))) mixed (jn6 z0 z1 z2 z3 wl1 (jn2 g3 t3)) ?_
     repeat' (first | refine And.intro (by omega) ?_ | apply And.intro)
     all_goals
      intros
      repeat apply za
      refine pwN [] wi ?_
      intros
      exact zh (i + 1, v5 + 1, v7 + 1, v8 + 1) [_] hci (by simp; omega) (by simp [wi]) rfl (by simp [c1, c2, c3]; rfl)
  ·simp at hci
   obtain rfl : i = t.length := by omega
   refine zo ?_
   clear hi hci
   have hsm : smZ x t = ⟨(List.range t.length).map (fzZ x t), (List.range t.length).map (bzZ x t), (List.range (t.length + 1)).map fun i => zt (t.take i), wl⟩ := by unfold smZ; rw [hwl]
   have g1 : (((List.range t.length).map (fzZ x t)).flatMap Enc.enc : List PV).length = t.length := by rw [qn]; simp
   have g2 : (((List.range t.length).map (bzZ x t)).flatMap Enc.enc : List PV).length = t.length := by rw [qn]; simp
   have g3 : (((List.range (t.length + 1)).map fun i => zt (t.take i)).flatMap Enc.enc : List PV).length = t.length + 1 := by rw [qn]; simp
   have hfz : ∀ id v cs, pc.map (zI id v cs) = pc := fun id v cs => by rw [← hpc]; exact Zha id v cs _
   have hpl : pc.length = k * 4 := by rw [← hpc, Zas]; simp; omega
   have hpt : pc.take (k * 4) = pc := List.take_of_length_le (by omega)
   have hnew : (((d.map (smZ x)).take (k + 1)).flatMap Enc.enc : List PV) = pc ++ [L ((List.range t.length).map (fzZ x t)), L ((List.range t.length).map (bzZ x t)), L ((List.range (t.length + 1)).map fun i => zt (t.take i)), I wl] := by
    rw [← hpc, ← List.map_take, a3, List.map_append, List.flatMap_append, ← List.map_take, List.map_cons, hsm]; rfl
   have l1 : ((List.range t.length).map (fzZ x t)).length = t.length := by simp
   have l2 : ((List.range t.length).map (bzZ x t)).length = t.length := by simp
   have l3 : ((List.range (t.length + 1)).map fun i => zt (t.take i)).length = t.length + 1 := by simp
   generalize (List.range t.length).map (fzZ x t) = fl at *
   generalize (List.range t.length).map (bzZ x t) = bl at *
   generalize ((List.range (t.length + 1)).map fun i => zt (t.take i)) = ll at *
   clear g1 g2 g3
   refine zC 8 rfl ?_
   simp only [List.map_cons, List.map_nil, List.set_cons_succ, List.set_cons_zero, yW, hfz]
   refine zC 7 rfl ?_
   simp only [List.map_cons, List.map_nil, List.set_cons_succ, List.set_cons_zero, yW, hfz]
   refine zC 5 rfl ?_
   simp only [List.map_cons, List.map_nil, List.set_cons_succ, List.set_cons_zero, yW, hfz]
   repeat apply za
   refine pwY (some [nx + 6]) (Row.pures [0, 1, 2, 3, 5, 6] (.alt 4 (.alt 7 (Row.pures [8, 9] (.alt 10 (.done) .stop)) .stop) .stop)) mixed (jn5 l1 l2 l3 hpl hpt) ?_
   refine ⟨by omega, ?_⟩
   intros
   (repeat apply za); refine pwn ?_; intros
   exact zh (k + 1, v3 + 1) [_, _, _, _, _] hc (by simp; omega) (by simp [wrN k (by omega)]) rfl (by simp [hnew, l1, l2, l3]; exact ⟨rfl, rfl, rfl, rfl, rfl⟩)
 ·simp at hc
  obtain rfl : k = d.length := by omega
  rw [List.take_of_length_le (by simp)]
  refine zo ?_
  have hml : ((d.map (smZ x)).flatMap Enc.enc : List PV).length = d.length * 4 := by rw [Zas]; simp
  refine zC 3 rfl ?_
  repeat apply za
  refine pwN [] hml ?_
  intros
  refine xx 2 rfl ?_
  repeat apply za
  exact zd (zg hd (by simp; rfl) (by simp [zl, hml]))
open Go Go.Proofs
def qv (x : Inst) : Int → List Int → Int
 | _, [] => 0
 | a, c :: l => arc x a (c + 1) + qv x (c + 1) l
theorem J4 (x : Inst) : ∀ (l : List Int) (a : Int) (m : List Int), qv x a (l ++ m) = qv x a l + qv x (zU a l) m
 | [], a, m => by simp [qv, zU]
 | c :: l, a, m => by
  simp only [List.cons_append, qv, zU]
  rw [J4 x l (c + 1) m]; omega
theorem J5 : ∀ (l : List Int) (a : Int) (m : List Int), zU a (l ++ m) = zU (zU a l) m
 | [], a, m => rfl
 | c :: l, a, m => by simp only [List.cons_append, zU]; exact J5 l (c + 1) m
theorem Zat (x : Inst) : ∀ (l : List Int) (a : Int), zZ x a l = qv x a l + arc x (zU a l) 0
 | [], a => by simp [zZ, qv, zU]
 | c :: l, a => by
  simp only [zZ, qv, zU]
  rw [Zat x l (c + 1)]; omega
def jx (t : zn) (f n : Nat) : zn := (t.drop f).take n
theorem ZH {t : zn} {f n : Nat} {s : Stop} (h : t[f + n]? = some s) : jx t f (n + 1) = jx t f n ++ [s] := by
 have h' : (t.drop f)[n]? = some s := by rw [List.getElem?_drop]; exact h
 obtain ⟨h1, h2⟩ := List.getElem?_eq_some_iff.1 h'
 unfold jx
 rw [List.take_succ_eq_append_getElem h1, h2]
theorem getD_some {t : zn} {i : Nat} {s : Stop} (h : t[i]? = some s) : t.getD i default = s := by rw [List.getD_eq_getElem?_getD, h]; rfl
theorem Zau (x : Inst) (t : zn) (f : Nat) (a : Int) : ∀ n, f + n < t.length → qv x a ((jx t f (n + 1)).map (·.c)) = arc x a ((t.getD f default).c + 1) + (fzZ x t (f + n) - fzZ x t f) ∧ zU a ((jx t f (n + 1)).map (·.c)) = (t.getD (f + n) default).c + 1
 | 0, h => by
  have h0 : t[f + 0]? = some t[f] := List.getElem?_eq_getElem (by omega)
  rw [ZH h0]
  have : jx t f 0 = [] := by simp [jx]
  rw [this, getD_some h0]
  simp only [Nat.add_zero] at *
  rw [getD_some h0]
  simp [qv, zU]
 | n + 1, h => by
  obtain ⟨i1, i2⟩ := Zau x t f a n (by omega)
  have h0 : t[f + (n + 1)]? = some t[f + (n + 1)] := List.getElem?_eq_getElem (by omega)
  rw [ZH h0, List.map_append, J4, J5, i1, i2, getD_some h0]
  simp only [List.map_cons, List.map_nil, qv, zU]
  have e : fzZ x t (f + (n + 1)) = fzZ x t (f + n) + arc x ((t.getD (f + n) default).c + 1) ((t.getD (f + (n + 1)) default).c + 1) := rfl
  rw [e, getD_some h0]
  exact ⟨by omega, trivial⟩
theorem Zav (x : Inst) (t : zn) (f : Nat) : ∀ (n : Nat) (a : Int), f + n < t.length → qv x a ((jx t f (n + 1)).reverse.map (·.c)) = arc x a ((t.getD (f + n) default).c + 1) + (bzZ x t (f + n) - bzZ x t f) ∧ zU a ((jx t f (n + 1)).reverse.map (·.c)) = (t.getD f default).c + 1
 | 0, a, h => by
  have h0 : t[f + 0]? = some t[f] := List.getElem?_eq_getElem (by omega)
  rw [ZH h0]
  have : jx t f 0 = [] := by simp [jx]
  rw [this, getD_some h0]
  simp only [Nat.add_zero] at *
  rw [getD_some h0]
  simp [qv, zU]
 | n + 1, a, h => by
  have h0 : t[f + (n + 1)]? = some t[f + (n + 1)] := List.getElem?_eq_getElem (by omega)
  obtain ⟨i1, i2⟩ := Zav x t f n ((t.getD (f + (n + 1)) default).c + 1) (by omega)
  rw [ZH h0, List.reverse_append]
  simp only [List.reverse_cons, List.reverse_nil, List.nil_append, List.cons_append, List.map_cons, qv, zU]
  rw [getD_some h0] at i1 i2 ⊢
  rw [i1, i2]
  have e : bzZ x t (f + (n + 1)) = bzZ x t (f + n) + arc x ((t.getD (f + (n + 1)) default).c + 1) ((t.getD (f + n) default).c + 1) := rfl
  rw [e, getD_some h0]
  exact ⟨by omega, rfl⟩
theorem Zaw (t : zn) (f : Nat) : ∀ n, f + n ≤ t.length → zt (jx t f n) = zt (t.take (f + n)) - zt (t.take f)
 | 0, _ => by simp [jx, zt]
 | n + 1, h => by
  have h0 : t[f + n]? = some t[f + n] := List.getElem?_eq_getElem (by omega)
  have e : t.take (f + n + 1) = t.take (f + n) ++ [t[f + n]] := List.take_succ_eq_append_getElem (by omega)
  rw [ZH h0, Zq, Zaw t f n (by omega), ← Nat.add_assoc, e, Zq]; omega
def yT (x : Inst) (d : Day) (st : Int × Int) (p : Pc) : Int × Int :=
 if p.f < p.o then
  (bif p.b then (((d.getD p.t []).getD p.f default).c + 1, st.2 + (arc x st.1 (((d.getD p.t []).getD (p.o - 1) default).c + 1) + bzZ x (d.getD p.t []) (p.o - 1) - bzZ x (d.getD p.t []) p.f))
  else (((d.getD p.t []).getD (p.o - 1) default).c + 1, st.2 + (arc x st.1 (((d.getD p.t []).getD p.f default).c + 1) + fzZ x (d.getD p.t []) (p.o - 1) - fzZ x (d.getD p.t []) p.f)))
 else st
def jh (x : Inst) (d : Day) (r : Rw5) : Int := (r.l.foldl (yT x d) (0, 0)).2 + arc x (r.l.foldl (yT x d) (0, 0)).1 0
def ldS (d : Day) (st : Int) (p : Pc) : Int := if p.f < p.o then st + (zt ((d.getD p.t []).take p.o) - zt ((d.getD p.t []).take p.f)) else st
def ldR (d : Day) (r : Rw5) : Int := r.l.foldl (ldS d) 0
theorem Zhc {x : Inst} {d : Day} {p : Pc} (h : uM d p) (g : List Stop) : yT x d (zU 0 (g.map (·.c)), qv x 0 (g.map (·.c))) p = (zU 0 ((g ++ zP d p).map (·.c)), qv x 0 ((g ++ zP d p).map (·.c))) := by
 unfold yT zP
 by_cases hfo : p.f < p.o
 ·obtain ⟨ht, ho⟩ := h hfo
  unfold tlen at ho
  rw [if_pos hfo, if_pos hfo]
  generalize d.getD p.t [] = t at *
  obtain ⟨n, hn⟩ : ∃ n, p.o = p.f + n + 1 := ⟨p.o - p.f - 1, by omega⟩
  have e1 : p.o - 1 = p.f + n := by omega
  have e2 : p.o - p.f = n + 1 := by omega
  rw [e1, e2, List.map_append, J4, J5]
  cases p.b with
  | true =>
   simp only [cond_true]
   obtain ⟨i1, i2⟩ := Zav x t p.f n (zU 0 (g.map (·.c))) (by omega)
   unfold jx at i1 i2
   rw [i1, i2]
   congr 1; omega
  | false =>
   simp only [cond_false]
   obtain ⟨i1, i2⟩ := Zau x t p.f (zU 0 (g.map (·.c))) n (by omega)
   unfold jx at i1 i2
   rw [i1, i2]
   congr 1; omega
 ·rw [if_neg hfo, if_neg hfo, List.append_nil]
theorem Zax {x : Inst} {d : Day} : ∀ (l : List Pc) (g : List Stop), (∀ p ∈ l, uM d p) → l.foldl (yT x d) (zU 0 (g.map (·.c)), qv x 0 (g.map (·.c))) = (zU 0 ((g ++ l.flatMap (zP d)).map (·.c)), qv x 0 ((g ++ l.flatMap (zP d)).map (·.c)))
 | [], g, _ => by simp
 | p :: l, g, h => by
  rw [List.foldl_cons, Zhc (h p (by simp)), Zax l _ fun q hq => h q (by simp [hq]), List.flatMap_cons, List.append_assoc]
theorem J6 {x : Inst} {d : Day} {r : Rw5} (h : xq d r) (h0 : arc x 0 0 = 0) : jh x d r = zB x ((zO d r).map (·.c)) := by
 have := Zax (x := x) r.l [] h
 simp only [List.map_nil, zU, qv, List.nil_append] at this
 unfold jh
 rw [this]
 simp only
 unfold zO zB
 split
 ·rename_i e
  rw [e]; simp [qv, zU, h0]
 ·rw [Zat]
theorem Zhd {d : Day} {p : Pc} (h : uM d p) (g : List Stop) : ldS d (zt g) p = zt (g ++ zP d p) := by
 unfold ldS zP
 by_cases hfo : p.f < p.o
 ·obtain ⟨ht, ho⟩ := h hfo
  unfold tlen at ho
  rw [if_pos hfo, if_pos hfo, ZfB]
  generalize d.getD p.t [] = t at *
  have := Zaw t p.f (p.o - p.f) (by omega)
  rw [show p.f + (p.o - p.f) = p.o by omega] at this
  have hr : ∀ l : zn, zt l.reverse = zt l := fun l => by unfold zt; exact ZfA ((List.reverse_perm l).map _)
  unfold jx at this
  cases p.b with
  | true => simp only [cond_true]; rw [hr, this]
  | false => simp only [cond_false]; rw [this]
 ·rw [if_neg hfo, if_neg hfo, List.append_nil]
theorem Zhe {d : Day} {r : Rw5} (h : xq d r) : ldR d r = zt (zO d r) := by
 have key : ∀ (l : List Pc) (g : List Stop), (∀ p ∈ l, uM d p) → l.foldl (ldS d) (zt g) = zt (g ++ l.flatMap (zP d)) := by
  intro l
  induction l with
  | nil => intro g _; simp
  | cons p l ih =>
   intro g h
   rw [List.foldl_cons, Zhd (h p (by simp)), ih _ fun q hq => h q (by simp [hq]), List.flatMap_cons, List.append_assoc]
 have := key r.l [] h
 simpa [ldR, zO, zt] using this
open Go Go.Proofs
abbrev rdG (x : Inst) (d : Day) (sms : List Sm) : List PV := [I x.days, I x.veh, I x.cap, I x.len, L x.cust, L x.dist, L d, L sms]
theorem uQ {x : Inst} (h : ye x) (a b : Int) : 0 ≤ arc x a b ∧ arc x a b ≤ 2147483648 := h a b
theorem Qi {x : Inst} {d : Day} {sms : List Sm} (hs : sms = d.map (smZ x)) {k : Nat} (h : k < d.length) : ∃ (t : zn) (td tf : List PV), d[k]? = some t ∧ d.getD k [] = t ∧ (d.flatMap Enc.enc : List PV).drop k = L t :: td ∧
  (sms.flatMap Enc.enc : List PV).drop (k * 4) = [L (smZ x t).f, L (smZ x t).b, L (smZ x t).l, I (smZ x t).n] ++ tf := by
 obtain ⟨t, td, a1, -, -, e0⟩ := el1 rfl d k h
 rw [hs]
 obtain ⟨s, ts, b1, -, -, -, f0⟩ := el 4 rfl (d.map (smZ x)) k (by simpa using h)
 have : s = smZ x t := by rw [List.getElem?_map, a1] at b1; exact (Option.some.inj b1).symm
 subst this
 exact ⟨t, td, ts, a1, by rw [List.getD_eq_getElem?_getD, a1]; rfl, e0, f0⟩
theorem uR {α : Type} [Enc α] (n : Nat) (hn : Enc.sz α = 1) (f : Nat → α) {i : Nat} (h : i < n) : ∃ tl, (((List.range n).map f).flatMap Enc.enc : List PV).drop i = Enc.enc (f i) ++ tl := by
 obtain ⟨s, ts, b1, -, -, f0⟩ := el1 hn ((List.range n).map f) i (by simpa using h)
 have : s = f i := by rw [List.getElem?_map, List.getElem?_range h] at b1; exact (Option.some.inj b1).symm
 subst this
 exact ⟨ts, f0⟩
set_option maxRecDepth 20000 in
set_option maxHeartbeats 3200000 in
theorem J7 (x : Inst) (d : Day) (r : Rw5) (hx : ye x) (hd' : MvDay d) (hr : xq d r) : Pure Tryz.prog 199 [.ip (rdL x d), .agg (rwL r)] (I (jh x d r)) := by
 obtain ⟨sms, hsms⟩ : ∃ sms, sms = d.map (smZ x) := ⟨_, rfl⟩
 have hml : sms.length = d.length := by rw [hsms]; simp
 rw [show rdL x d = rdG x d sms from by rw [hsms]]
 have hdn := hd'.n
 have hat := fun k (h : k < 5) => Qe r h
 have hz : jh x d r = ((r.l.take 5).foldl (yT x d) (0, 0)).2 + arc x ((r.l.take 5).foldl (yT x d) (0, 0)).1 0 := by unfold jh; rw [List.take_of_length_le (by simp [Rw5.l])]
 rw [hz]
 clear hz
 have hcl : (rwL r).length = 20 := rfl
 have hct : (rwL r).take 20 = rwL r := rfl
 generalize hrc : rwL r = rc at *
 refine pwe Tryz.func199 Tryz.ntmps199 Tryz.results199 fun S nx hd => ?_
 repeat apply za
 refine pwn ?_
 intro v0
 (repeat apply za); refine pwn ?_; intros
 repeat apply za
 refine pwN [] (jn2 hcl hct) ?_
 intros
 repeat apply za
 refine ze (zq (fun k : Nat => k ≤ 5 ∧ -(8796093022208 * (k : Int)) ≤ ((r.l.take k).foldl (yT x d) (0, 0)).2 ∧ ((r.l.take k).foldl (yT x d) (0, 0)).2 ≤ 8796093022208 * k) (fun k => [(0, .ip (rdG x d sms)), (3, .ptr nx v0 0), (5, I ((r.l.take k).foldl (yT x d) (0, 0)).1), (6, I ((r.l.take k).foldl (yT x d) (0, 0)).2), (13, .agg rc), (14, I k)]) (fun _ => [.cells v0 202 rc]) (fun k => 5 - k) 0 [] (by simp) (by simp) (by simp) ?_)
 rintro k ⟨hk, hb1, hb2⟩
 by_cases hk5 : k < 5
 ·obtain ⟨p, hp1, hp2, hp3⟩ := hat k hk5
  have hk5' : (k : Int) < 5 := by omega
  have hk6 : 4 ≤ 20 - k * 4 := by omega
  have hok := hr p (List.mem_of_getElem? hp1)
  have hnx : (r.l.take (k + 1)).foldl (yT x d) (0, 0) = yT x d ((r.l.take k).foldl (yT x d) (0, 0)) p := by rw [hp3, List.foldl_append]; rfl
  generalize (r.l.take k).foldl (yT x d) (0, 0) = st at *
  obtain ⟨at_, all⟩ := st
  simp only at hb1 hb2 ⊢
  have wk := wrN k (by omega)
  repeat apply za
  refine pwN [] hk5' ?_
  intros
  repeat apply za
  refine zj rfl ?_
  refine zb (za (ze ?_))
  repeat apply za
  refine pwN [] (jn5 hp2 hk5 hk5' hcl hk6) ?_
  intro v3
  by_cases hfo : p.f < p.o
  case neg =>
   have hpz : yT x d (at_, all) p = (at_, all) := by unfold yT; rw [if_neg hfo]
   rw [hpz] at hnx
   have hfo' : p.o ≤ p.f := by omega
   repeat apply za
   refine pwN [] hfo' ?_
   intros
   repeat apply za
   refine zj (by simp [hfo']) ?_
   refine zo ?_
   (repeat apply za); refine pwn ?_; intros
   exact zh (k + 1) [_] ⟨by omega, by rw [hnx]; simp only; omega, by rw [hnx]; simp only; omega⟩ (by omega) (by simp [wk, hnx]) rfl (by simp; rfl)
  obtain ⟨ht, ho⟩ := hok hfo
  obtain ⟨t, td, tf, a1, hgt, e0, f0⟩ := Qi hsms ht
  unfold tlen at ho
  rw [hgt] at ho
  have htm := List.mem_of_getElem? a1
  have htl := hd'.t t htm
  have hts := hd'.s t htm
  have ht1 : 1 ≤ d.length - p.t := by omega
  have ht4 : 4 ≤ d.length * 4 - p.t * 4 := by omega
  obtain ⟨n, hn⟩ : ∃ n, p.o = n + 1 := ⟨p.o - 1, by omega⟩
  have hfo' : ¬ p.o ≤ p.f := by omega
  have hst : yT x d (at_, all) p = bif p.b then ((t.getD p.f default).c + 1, all + (arc x at_ ((t.getD n default).c + 1) + bzZ x t n - bzZ x t p.f)) else ((t.getD n default).c + 1, all + (arc x at_ ((t.getD p.f default).c + 1) + fzZ x t n - fzZ x t p.f)) := by
   unfold yT; rw [if_pos hfo, hgt, show p.o - 1 = n by omega]
  rw [hst] at hnx
  clear hst
  obtain ⟨sf, tsf, s1, -, -, -, s0⟩ := el 2 rfl t p.f (by omega)
  obtain ⟨sl, tsl, l1, -, -, -, l0⟩ := el 2 rfl t n (by omega)
  have hgf : t.getD p.f default = sf := getD_some s1
  have hgl : t.getD n default = sl := getD_some l1
  rw [hgf, hgl] at hnx
  have q1 : p.f < t.length := by omega
  have q2 : n < t.length := by omega
  have q3 : 2 ≤ t.length * 2 - p.f * 2 := by omega
  have q4 : 2 ≤ t.length * 2 - n * 2 := by omega
  have wo : IntKind.i64.wrap ((p.o : Int) - 1) = (n : Int) := by rw [wr _ (by omega) (by omega)]; omega
  have wsf := j9 (hts sf (List.mem_of_getElem? s1)).1
  have wsl := j9 (hts sl (List.mem_of_getElem? l1)).1
  have bf1 := uO hx t p.f
  have bf2 := uO hx t n
  have bb1 := uP hx t p.f
  have bb2 := uP hx t n
  have hlen : ((List.range t.length).map (fzZ x t)).length = t.length ∧ ((List.range t.length).map (bzZ x t)).length = t.length := by simp
  obtain ⟨z1, hz1⟩ := uR t.length rfl (fzZ x t) q1
  obtain ⟨z2, hz2⟩ := uR t.length rfl (fzZ x t) q2
  obtain ⟨z3, hz3⟩ := uR t.length rfl (bzZ x t) q1
  obtain ⟨z4, hz4⟩ := uR t.length rfl (bzZ x t) q2
  have q5 : 1 ≤ t.length - p.f := by omega
  have q6 : 1 ≤ t.length - n := by omega
  simp only [smZ] at f0
  generalize hfl : (List.range t.length).map (fzZ x t) = fl at *
  generalize hbl : (List.range t.length).map (bzZ x t) = bl at *
  generalize ((List.range (t.length + 1)).map fun i => zt (t.take i)) = ll at *
  generalize zB x (t.map (·.c)) = wl at *
  obtain ⟨hl1, hl2⟩ := hlen
  have hfll : (fl.flatMap Enc.enc : List PV).length = t.length := by rw [qn, hl1]
  have hbll : (bl.flatMap Enc.enc : List PV).length = t.length := by rw [qn, hl2]
  repeat apply za
  refine pwN [] hfo' ?_
  intros
  repeat apply za
  refine zi (by simp [hfo']) ?_
  refine zb ?_
  repeat apply za
  refine pwY (some [nx + 1]) (Row.pures [0, 1, 2, 3, 4, 5, 6, 7, 8, 9, 10, 11, 12, 13, 14, 15, 16, 17, 18, 19, 20] .done) mixed (jn6 e0 f0 ht ht1 ht4 hml) ?_
  intros
  repeat apply za
  refine pwY (some [nx + 1]) (Row.pures [0, 1, 2, 3, 4, 5, 6] .done) mixed wo ?_
  intros
  refine za ?_
  cases hpb : p.b with
  | false =>
   rw [hpb] at hnx
   simp only [cond_false] at hnx
   have har := uQ hx at_ (sf.c + 1)
   have ar := j8 x at_ (sf.c + 1)
   have w1 : IntKind.i64.wrap (arc x at_ (sf.c + 1) + fzZ x t n) = arc x at_ (sf.c + 1) + fzZ x t n := wr _ (by omega) (by omega)
   have w2 : IntKind.i64.wrap (arc x at_ (sf.c + 1) + fzZ x t n - fzZ x t p.f) = arc x at_ (sf.c + 1) + fzZ x t n - fzZ x t p.f := wr _ (by omega) (by omega)
   have w3 : IntKind.i64.wrap (all + (arc x at_ (sf.c + 1) + fzZ x t n - fzZ x t p.f)) = all + (arc x at_ (sf.c + 1) + fzZ x t n - fzZ x t p.f) := wr _ (by omega) (by omega)
   repeat apply za
   refine pwN [] hpb ?_
   intros
   repeat apply za
   refine zi rfl ?_
   refine zb ?_
   repeat apply za
   refine pwY (some [nx + 1]) (Row.pures [0, 1, 2, 3, 4, 5, 6, 7, 8, 9, 10, 11, 12, 13, 14, 15, 16, 17, 18, 19, 20, 21, 22, 23, 24, 25, 26, 27] .done) mixed (jn6 s0 q1 q3 wsf wo (jn2 (jn6 hz1 hz2 hfll hl1 q2 q5) (jn4 q6 w1 w2 w3))) ?_
   refine pwP (ar) (jn6 s0 q1 q3 wsf wo (jn2 (jn6 hz1 hz2 hfll hl1 q2 q5) (jn4 q6 w1 w2 w3))) ?_
   intros
   repeat apply za
   refine pwN [] (jn4 l0 q2 q4 wsl) ?_
   intros
   (repeat apply za); refine pwn ?_; intros
   exact zh (k + 1) [_] ⟨by omega, by rw [hnx]; simp only; omega, by rw [hnx]; simp only; omega⟩ (by omega) (by simp [wk, hnx]) rfl (by simp; rfl)
  | true =>
   rw [hpb] at hnx
   simp only [cond_true] at hnx
   have har := uQ hx at_ (sl.c + 1)
   have ar := j8 x at_ (sl.c + 1)
   have w1 : IntKind.i64.wrap (arc x at_ (sl.c + 1) + bzZ x t n) = arc x at_ (sl.c + 1) + bzZ x t n := wr _ (by omega) (by omega)
   have w2 : IntKind.i64.wrap (arc x at_ (sl.c + 1) + bzZ x t n - bzZ x t p.f) = arc x at_ (sl.c + 1) + bzZ x t n - bzZ x t p.f := wr _ (by omega) (by omega)
   have w3 : IntKind.i64.wrap (all + (arc x at_ (sl.c + 1) + bzZ x t n - bzZ x t p.f)) = all + (arc x at_ (sl.c + 1) + bzZ x t n - bzZ x t p.f) := wr _ (by omega) (by omega)
   repeat apply za
   refine pwN [] hpb ?_
   intros
   repeat apply za
   refine zj rfl ?_
   repeat apply za
   refine pwY (some [nx + 1]) (Row.pures [0, 1, 2, 3, 4, 5, 6, 7, 8, 9, 10, 11, 12, 13] .done) mixed (jn4 f0 ht ht4 hml) ?_
   intros
   repeat apply za
   refine pwY (some [nx + 1]) (Row.pures [0, 1, 2, 3, 4, 5, 6, 7, 8, 9, 10, 11, 12, 13, 14, 15, 16, 17, 18, 19, 20, 21, 22, 23, 24, 25, 26, 27] .done) mixed (jn6 l0 q2 q4 wsl wo (jn2 (jn6 hz3 hz4 hbll hl2 q1 q5) (jn4 q6 w1 w2 w3))) ?_
   refine pwP (ar) (jn6 l0 q2 q4 wsl wo (jn2 (jn6 hz3 hz4 hbll hl2 q1 q5) (jn4 q6 w1 w2 w3))) ?_
   intros
   repeat apply za
   refine pwN [] (jn4 s0 q1 q3 wsf) ?_
   intros
   (repeat apply za); refine pwn ?_; intros
   exact zh (k + 1) [_] ⟨by omega, by rw [hnx]; simp only; omega, by rw [hnx]; simp only; omega⟩ (by omega) (by simp [wk, hnx]) rfl (by simp; rfl)
 ·obtain rfl : k = 5 := by omega
  generalize (r.l.take 5).foldl (yT x d) (0, 0) = st at *
  obtain ⟨at_, all⟩ := st
  simp only at hb1 hb2 ⊢
  have har := uQ hx at_ 0
  have ar := j8 x at_ 0
  have w1 : IntKind.i64.wrap (all + arc x at_ 0) = all + arc x at_ 0 := wr _ (by omega) (by omega)
  (repeat apply za); refine pwn ?_; intros
  repeat apply za
  refine zi rfl ?_
  refine zo ?_
  repeat apply za
  refine pwn ?_
  refine pwC [] ar w1 ?_
  intros
  repeat apply za
  exact zd (zg hd rfl rfl)
open Go Go.Proofs
set_option maxRecDepth 20000 in
set_option maxHeartbeats 3200000 in
theorem Zhf (x : Inst) (d : Day) (r : Rw5) (hd' : MvDay d) (hr : xq d r) : Pure Tryz.prog 200 [.ip (rdL x d), .agg (rwL r)] (I (ldR d r)) := by
 obtain ⟨sms, hsms⟩ : ∃ sms, sms = d.map (smZ x) := ⟨_, rfl⟩
 have hml : sms.length = d.length := by rw [hsms]; simp
 rw [show rdL x d = rdG x d sms from by rw [hsms]]
 have hdn := hd'.n
 have hat := fun k (h : k < 5) => Qe r h
 have hz : ldR d r = (r.l.take 5).foldl (ldS d) 0 := by unfold ldR; rw [List.take_of_length_le (by simp [Rw5.l])]
 rw [hz]
 clear hz
 have hcl : (rwL r).length = 20 := rfl
 have hct : (rwL r).take 20 = rwL r := rfl
 generalize hrc : rwL r = rc at *
 refine pwe Tryz.func200 Tryz.ntmps200 Tryz.results200 fun S nx hd => ?_
 repeat apply za
 refine pwn ?_
 intro v0
 (repeat apply za); refine pwn ?_; intros
 repeat apply za
 refine pwN [] (jn2 hcl hct) ?_
 intros
 repeat apply za
 refine ze (zq (fun k : Nat => k ≤ 5 ∧ -(8796093022208 * (k : Int)) ≤ (r.l.take k).foldl (ldS d) 0 ∧ (r.l.take k).foldl (ldS d) 0 ≤ 8796093022208 * k) (fun k => [(0, .ip (rdG x d sms)), (3, .ptr nx v0 0), (5, I ((r.l.take k).foldl (ldS d) 0)), (8, .agg rc), (9, I k)]) (fun _ => [.cells v0 202 rc]) (fun k => 5 - k) 0 [] (by simp) (by simp) (by simp) ?_)
 rintro k ⟨hk, hb1, hb2⟩
 by_cases hk5 : k < 5
 ·obtain ⟨p, hp1, hp2, hp3⟩ := hat k hk5
  have hk5' : (k : Int) < 5 := by omega
  have hk6 : 4 ≤ 20 - k * 4 := by omega
  have hok := hr p (List.mem_of_getElem? hp1)
  have hnx : (r.l.take (k + 1)).foldl (ldS d) 0 = ldS d ((r.l.take k).foldl (ldS d) 0) p := by rw [hp3, List.foldl_append]; rfl
  generalize (r.l.take k).foldl (ldS d) 0 = all at *
  have wk := wrN k (by omega)
  repeat apply za
  refine pwN [] hk5' ?_
  intros
  repeat apply za
  refine zj rfl ?_
  refine zb (za (ze ?_))
  repeat apply za
  refine pwN [] (jn5 hp2 hk5 hk5' hcl hk6) ?_
  intro v3
  by_cases hfo : p.f < p.o
  case neg =>
   have hpz : ldS d all p = all := by unfold ldS; rw [if_neg hfo]
   rw [hpz] at hnx
   repeat apply za
   refine pwN [] hfo ?_
   intros
   repeat apply za
   refine zi (by simp [hfo]) ?_
   refine zb ?_
   (repeat apply za); refine pwn ?_; intros
   exact zh (k + 1) [_] ⟨by omega, by rw [hnx]; omega, by rw [hnx]; omega⟩ (by omega) (by simp [wk, hnx]) rfl (by simp; rfl)
  obtain ⟨ht, ho⟩ := hok hfo
  obtain ⟨t, td, tf, a1, hgt, e0, f0⟩ := Qi hsms ht
  unfold tlen at ho
  rw [hgt] at ho
  have htm := List.mem_of_getElem? a1
  have htl := hd'.t t htm
  have hts := hd'.s t htm
  have ht4 : 4 ≤ d.length * 4 - p.t * 4 := by omega
  have hst : ldS d all p = all + (zt (t.take p.o) - zt (t.take p.f)) := by unfold ldS; rw [if_pos hfo, hgt]
  rw [hst] at hnx
  have b1 := JJ (t := t.take p.o) (fun a ha => (hts a (List.mem_of_mem_take ha)).2)
  have b2 := JJ (t := t.take p.f) (fun a ha => (hts a (List.mem_of_mem_take ha)).2)
  have b3 : (t.take p.o).length ≤ 1000 := by rw [List.length_take]; omega
  have b4 : (t.take p.f).length ≤ 1000 := by rw [List.length_take]; omega
  have w1 : IntKind.i64.wrap (zt (t.take p.o) - zt (t.take p.f)) = zt (t.take p.o) - zt (t.take p.f) := wr _ (by omega) (by omega)
  have w2 : IntKind.i64.wrap (all + (zt (t.take p.o) - zt (t.take p.f))) = all + (zt (t.take p.o) - zt (t.take p.f)) := wr _ (by omega) (by omega)
  obtain ⟨z1, hz1⟩ := uR (t.length + 1) rfl (fun i => zt (t.take i)) (show p.o < t.length + 1 by omega)
  obtain ⟨z2, hz2⟩ := uR (t.length + 1) rfl (fun i => zt (t.take i)) (show p.f < t.length + 1 by omega)
  have hll : ((List.range (t.length + 1)).map fun i => zt (t.take i)).length = t.length + 1 := by simp
  simp only [smZ] at f0
  generalize (List.range t.length).map (fzZ x t) = fl at *
  generalize (List.range t.length).map (bzZ x t) = bl at *
  generalize ((List.range (t.length + 1)).map fun i => zt (t.take i)) = ll at *
  generalize zB x (t.map (·.c)) = wl at *
  generalize zt (t.take p.o) = lo at *
  generalize zt (t.take p.f) = lf at *
  have hlf : (ll.flatMap Enc.enc : List PV).length = t.length + 1 := by rw [qn, hll]
  have q1 : p.o < t.length + 1 := by omega
  have q2 : p.f < t.length + 1 := by omega
  have q3 : 1 ≤ t.length + 1 - p.o := by omega
  have q4 : 1 ≤ t.length + 1 - p.f := by omega
  have q5 : (p.o : Int) < (t.length : Int) + 1 := by omega
  have q6 : (p.f : Int) < (t.length : Int) + 1 := by omega
  repeat apply za
  refine pwN [] hfo ?_
  intros
  repeat apply za
  refine zj (by simp [hfo]) ?_
  repeat apply za
  refine pwY (some [nx + 1]) (Row.pures [0, 1, 2, 3, 4, 5, 6, 7, 8, 9, 10, 11, 12, 13, 14, 15, 16, 17, 18, 19, 20, 21, 22, 23, 24, 25, 26, 27, 28, 29] .done) mixed (jn6 f0 ht ht4 hml hz1 (jn2 (jn6 hz2 hll hlf q1 q2 q3) (jn5 q4 q5 q6 w1 w2))) ?_
  intros
  (repeat apply za); refine pwn ?_; intros
  exact zh (k + 1) [_] ⟨by omega, by rw [hnx]; omega, by rw [hnx]; omega⟩ (by omega) (by simp [wk, hnx]) rfl (by simp; rfl)
 ·obtain rfl : k = 5 := by omega
  (repeat apply za); refine pwn ?_; intros
  repeat apply za
  refine zi rfl ?_
  refine zo ?_
  (repeat apply za); refine pwn ?_; intros
  repeat apply za
  exact zd (zg hd rfl rfl)
def ZI (x : Inst) (d : Day) (m : Mv) (r1 r2 : Rw5) : Int := jh x d r1 - zB x ((d.getD m.a []).map (·.c)) + (if m.a = m.b then 0 else jh x d r2 - zB x ((d.getD m.b []).map (·.c)))
theorem Zay {x : Inst} (hx : ye x) {d : Day} (hd' : MvDay d) {r : Rw5} (hr : xq d r) : -52776558133248 ≤ jh x d r ∧ jh x d r ≤ 52776558133248 := by
 have key : ∀ k : Nat, k ≤ 5 → -(8796093022208 * (k : Int)) ≤ ((r.l.take k).foldl (yT x d) (0, 0)).2 ∧ ((r.l.take k).foldl (yT x d) (0, 0)).2 ≤ 8796093022208 * k := by
  intro k
  induction k with
  | zero => intro _; simp
  | succ k ih =>
   intro hk
   obtain ⟨h1, h2⟩ := ih (by omega)
   obtain ⟨p, hp1, -, hp3⟩ := Qe r (show k < 5 by omega)
   have hok := hr p (List.mem_of_getElem? hp1)
   rw [hp3, List.foldl_append, List.foldl_cons, List.foldl_nil]
   generalize (r.l.take k).foldl (yT x d) (0, 0) = st at *
   unfold yT
   by_cases hfo : p.f < p.o
   ·obtain ⟨ht, ho⟩ := hok hfo
    have htm : d.getD p.t [] ∈ d := List.mem_of_getElem? (i := p.t) (by rw [List.getD_eq_getElem?_getD, List.getElem?_eq_getElem ht]; rfl)
    have htl := hd'.t _ htm
    unfold tlen at ho
    generalize d.getD p.t [] = t at *
    have b1 := uO hx t p.f
    have b2 := uO hx t (p.o - 1)
    have b3 := uP hx t p.f
    have b4 := uP hx t (p.o - 1)
    rw [if_pos hfo]
    cases p.b with
    | true =>
     have := uQ hx st.1 ((t.getD (p.o - 1) default).c + 1)
     simp only [cond_true]; omega
    | false =>
     have := uQ hx st.1 ((t.getD p.f default).c + 1)
     simp only [cond_false]; omega
   ·rw [if_neg hfo]; omega
 have h5 := key 5 (by omega)
 rw [List.take_of_length_le (by simp [Rw5.l])] at h5
 have := uQ hx (r.l.foldl (yT x d) (0, 0)).1 0
 unfold jh
 omega
set_option maxRecDepth 20000 in
set_option maxHeartbeats 3200000 in
theorem Zhg (x : Inst) (d : Day) (m : Mv) (r1 r2 : Rw5) (hx : ye x) (hd' : MvDay d) (hr1 : xq d r1) (hr2 : xq d r2) (ha : m.a < d.length) (hb : m.b < d.length) : Pure Tryz.prog 156 [.ip (rdL x d), .agg (mvL m), .agg (rwL r1), .agg (rwL r2)] (I (ZI x d m r1 r2)) := by
 have l1 := J7 x d r1 hx hd' hr1
 have l2 := J7 x d r2 hx hd' hr2
 have b1 := Zay hx hd' hr1
 have b2 := Zay hx hd' hr2
 obtain ⟨sms, hsms⟩ : ∃ sms, sms = d.map (smZ x) := ⟨_, rfl⟩
 have hml : sms.length = d.length := by rw [hsms]; simp
 rw [show rdL x d = rdG x d sms from by rw [hsms]] at l1 l2 ⊢
 have hdn := hd'.n
 obtain ⟨ta, tda, tfa, a1, hga, -, fa⟩ := Qi hsms ha
 obtain ⟨tb, tdb, tfb, c1, hgb, -, fb⟩ := Qi hsms hb
 have wa := vZ hx (ta.map (·.c))
 have wb := vZ hx (tb.map (·.c))
 rw [List.length_map] at wa wb
 have hta := hd'.t ta (List.mem_of_getElem? a1)
 have htb := hd'.t tb (List.mem_of_getElem? c1)
 have hdef : ZI x d m r1 r2 = jh x d r1 - zB x (ta.map (·.c)) + (if m.a = m.b then 0 else jh x d r2 - zB x (tb.map (·.c))) := by unfold ZI; rw [hga, hgb]
 rw [hdef]
 clear hdef
 simp only [smZ] at fa fb
 generalize jh x d r1 = k1 at *
 generalize jh x d r2 = k2 at *
 generalize zB x (ta.map (·.c)) = wl at *
 generalize zB x (tb.map (·.c)) = wm at *
 have ha4 : 4 ≤ d.length * 4 - m.a * 4 := by omega
 have hb4 : 4 ≤ d.length * 4 - m.b * 4 := by omega
 have w1 : IntKind.i64.wrap (k1 - wl) = k1 - wl := wr _ (by omega) (by omega)
 have w2 : IntKind.i64.wrap (k2 - wm) = k2 - wm := wr _ (by omega) (by omega)
 have w3 : IntKind.i64.wrap (k1 - wl + (k2 - wm)) = k1 - wl + (k2 - wm) := wr _ (by omega) (by omega)
 have hc1 : (rwL r1).length = 20 := rfl
 have ht1 : (rwL r1).take 20 = rwL r1 := rfl
 have hc2 : (rwL r2).length = 20 := rfl
 have ht2 : (rwL r2).take 20 = rwL r2 := rfl
 generalize hrc1 : rwL r1 = rc1 at *
 generalize hrc2 : rwL r2 = rc2 at *
 refine pwe Tryz.func156 Tryz.ntmps156 Tryz.results156 fun S nx hd => ?_
 repeat apply za
 refine pwn ?_
 intro v0 v1 v2
 repeat apply za
 refine pwY (some [nx, nx + 1]) (Row.pures [0, 1, 2, 3, 4, 5, 6, 7, 8, 9, 10, 11, 12, 13] .done) mixed (jn6 hc1 ht1 fa ha ha4 (jn2 hml w1)) ?_
 refine pwP (l1) (jn6 hc1 ht1 fa ha ha4 (jn2 hml w1)) ?_
 intros
 by_cases hab : m.a = m.b
 ·have hab' : (m.a : Int) = m.b := by omega
  rw [if_pos hab]
  repeat apply za
  refine pwN [] hab' ?_
  intros
  repeat apply za
  refine zi (by simp [hab']) ?_
  refine zb ?_
  (repeat apply za); refine pwn ?_; intros
  repeat apply za
  exact zd (zg hd rfl (by simp [zl]))
 ·have hab' : ¬ (m.a : Int) = m.b := by omega
  rw [if_neg hab]
  repeat apply za
  refine pwN [] hab' ?_
  intros
  repeat apply za
  refine zj (by simp [hab']) ?_
  repeat apply za
  refine pwY (some [nx, nx + 2]) (Row.pures [0, 1, 2, 3, 4, 5, 6, 7, 8, 9, 10, 11, 12, 13, 14, 15] .done) mixed (jn6 hc2 ht2 fb hb hb4 (jn3 hml w2 w3)) ?_
  refine pwP (l2) (jn6 hc2 ht2 fb hb hb4 (jn3 hml w2 w3)) ?_
  intros
  (repeat apply za); refine pwn ?_; intros
  repeat apply za
  exact zd (zg hd rfl (by simp [zl]))
set_option maxRecDepth 20000 in
theorem Zaz (x : Inst) (d : Day) (r : Rw5) (hx : ye x) (hd' : MvDay d) (hr : xq d r) : Pure Tryz.prog 157 [.ip (rdL x d), .agg (rwL r)] (B (decide (ldR d r ≤ x.cap ∧ jh x d r ≤ x.len))) := by
 have l1 := J7 x d r hx hd' hr
 have l2 := Zhf x d r hd' hr
 obtain ⟨sms, hsms⟩ : ∃ sms, sms = d.map (smZ x) := ⟨_, rfl⟩
 rw [show rdL x d = rdG x d sms from by rw [hsms]] at l1 l2 ⊢
 generalize jh x d r = k1 at *
 generalize ldR d r = k2 at *
 have hc1 : (rwL r).length = 20 := rfl
 have ht1 : (rwL r).take 20 = rwL r := rfl
 generalize hrc1 : rwL r = rc at *
 refine pwe Tryz.func157 Tryz.ntmps157 Tryz.results157 fun S nx hd => ?_
 repeat apply za
 refine pwn ?_
 intro v0
 by_cases h1 : k2 ≤ x.cap
 ·repeat apply za
  refine pwY (some [nx]) (Row.pures [0, 1, 2, 3, 4, 5, 6, 7, 8, 9, 10, 11, 12, 13, 14, 15, 16, 17, 18, 19, 20] .done) mixed (jn3 hc1 ht1 h1) ?_
  refine pwP (l2) (jn3 hc1 ht1 h1) ?_
  refine pwP (l1) (jn3 hc1 ht1 h1) ?_
  intros
  repeat apply za
  exact zd (zg hd rfl (by simp [zl, h1]))
 ·repeat apply za
  refine pwY (some [nx]) (Row.pures [0, 1, 2, 3, 4, 5, 6, 7, 8, 9, 10, 11, 12, 13, 14, 15, 16, 17, 18, 19, 20] .done) mixed (jn4 hc1 ht1 h1 zr) ?_
  refine pwP (l2) (jn4 hc1 ht1 h1 zr) ?_
  intros
  repeat apply za
  exact zd (zg hd rfl (by simp [zl, h1]))
open Go Go.Proofs
theorem Qj {α : Type} {W : Nat → List α} {n k i : Nat} {x : α} (hk : k < n) (h : (W k)[i]? = some x) : ((List.range n).flatMap W)[((List.range k).flatMap W).length + i]? = some x := by
 obtain ⟨m, rfl⟩ : ∃ m, n = k + (m + 1) := ⟨n - k - 1, by omega⟩
 have hi := (List.getElem?_eq_some_iff.1 h).1
 rw [List.range_add, List.flatMap_append, List.getElem?_append_right (Nat.le_add_right _ _), Nat.add_sub_cancel_left, List.range_succ_eq_map]
 simp only [List.map_cons, List.flatMap_cons, Nat.add_zero]
 rw [List.getElem?_append_left hi]
 exact h
theorem ZJ {α : Type} (W : Nat → List α) (k : Nat) : ((List.range (k + 1)).flatMap W).length = ((List.range k).flatMap W).length + (W k).length := by
 rw [List.range_succ, List.flatMap_append, List.length_append]; simp
def qG (d : Day) (k a b i j : Nat) : Option Mv := if yv d ⟨k, a, b, i, j⟩ = true then some ⟨k, a, b, i, j⟩ else none
def yU (d : Day) (k a b i : Nat) : List Mv := (List.range (tlen d b + 1)).filterMap (qG d k a b i)
def y8 (d : Day) (k a b : Nat) : List Mv := (List.range (tlen d a + 1)).flatMap (yU d k a b)
def qw (d : Day) (k a : Nat) : List Mv := (List.range d.length).flatMap (y8 d k a)
def qx (d : Day) (k : Nat) : List Mv := (List.range d.length).flatMap (qw d k)
def jG (d : Day) : List Mv := (List.range 4).flatMap (qx d)
abbrev mvE (m : Mv) : List PV := [.agg (mvL m)]
set_option maxRecDepth 20000 in
set_option maxHeartbeats 3200000 in
theorem Zhh (d : Day) (k a b : Nat) (hdn : d.length ≤ 1048576) (hdt : ∀ t ∈ d, t.length ≤ 1000) (hk : k ≤ 3) (ha : a < d.length) (hb : b < d.length) :
  YZ Tryz.prog 198 (fun y => [.agg [L d], .agg [I k, I a, I b, I 0, I 0], yld y]) ((y8 d k a b).map mvE) (B true) := by
 refine Vt Tryz.func198 (by rfl) rfl Tryz.ntmps198 (congrArg Array.toList Tryz.results198) (by simp) fun y V keep nx J hJd hY A0 hA0 => ?_
 obtain ⟨ta, xa, a1, -, -, a0⟩ := el1 rfl d a ha
 obtain ⟨tb, xb, b1, -, -, b0⟩ := el1 rfl d b hb
 have ha1 : 1 ≤ d.length - a := by omega
 have hb1 : 1 ≤ d.length - b := by omega
 have la : tlen d a = ta.length := by unfold tlen; rw [List.getD_eq_getElem?_getD, a1]; rfl
 have lb : tlen d b = tb.length := by unfold tlen; rw [List.getD_eq_getElem?_getD, b1]; rfl
 have hal := hdt ta (List.mem_of_getElem? a1)
 have hbl := hdt tb (List.mem_of_getElem? b1)
 have hall : ∀ t ∈ d, t.length ≤ 1048576 := fun t ht => Nat.le_trans (hdt t ht) (by decide)
 have hlook := fun i j (hi : i ≤ 1048576) (hj : j ≤ 1048576) => JX d ⟨k, a, b, i, j⟩ hdn hall hk ha hb hi hj
 have hpl : y8 d k a b = (List.range (ta.length + 1)).flatMap (yU d k a b) := by unfold y8; rw [la]
 have hrow : ∀ i, yU d k a b i = (List.range (tb.length + 1)).filterMap (qG d k a b i) := fun i => by unfold yU; rw [lb]
 rw [hpl] at hY ⊢
 clear hpl la lb
 repeat apply za
 refine pwn ?_
 intro v0 v1
 (repeat apply za); refine pwn ?_; intros
 repeat apply za
 refine ze (qS (σ := Nat × Int × Store) (fun s' => s'.1 ≤ ta.length + 1 ∧ J ((List.range s'.1).flatMap (yU d k a b)).length s'.2.2) (fun s' => [(2, yld y), (3, .ptr nx v0 0), (4, .ptr (nx + 1) v1 0)]) (fun s' => s'.2.2)
  (fun (i, jv, _) => [.cells v0 66 [L d], .cells v1 160 [I k, I a, I b, I i, I jv]]) (fun s' => ta.length + 1 - s'.1) (zu (0, 0, A0) [] (by simpa using hA0) (by simp) rfl (by simp)) ?_)
 rintro ⟨i, jv, A⟩ ⟨hi, hJ⟩
 simp only at hi hJ ⊢
 repeat apply za
 refine pwY (some [nx, nx + 1]) (Row.pures [0, 1, 2, 3, 4, 5, 6, 7, 8, 9, 10] .done) mixed (jn3 a0 ha ha1) ?_
 intros
 repeat apply za
 refine zk rfl (fun hc => ?_) (fun hc => ?_)
 ·simp at hc
  have hrl := ZJ (yU d k a b) i
  refine zb (za (ze ?_))
  (repeat apply za); refine pwn ?_; intros
  repeat apply za
  refine ze (qS (σ := Nat × Store) (fun s' => s'.1 ≤ tb.length + 1 ∧ J (((List.range i).flatMap (yU d k a b)).length + ((List.range s'.1).filterMap (qG d k a b i)).length) s'.2) (fun s' => [(2, yld y), (3, .ptr nx v0 0), (4, .ptr (nx + 1) v1 0)]) (fun s' => s'.2)
   (fun (j, _) => [.cells v0 66 [L d], .cells v1 160 [I k, I a, I b, I i, I j]]) (fun s' => tb.length + 1 - s'.1) (zu (0, A) [] (by simpa using hJ) (by simp) rfl (by simp)) ?_)
  clear hJ A jv
  rintro ⟨j, A⟩ ⟨hj, hJ⟩
  simp only at hj hJ ⊢
  repeat apply za
  refine pwY (some [nx, nx + 1]) (Row.pures [0, 1, 2, 3, 4, 5, 6, 7, 8, 9, 10] .done) mixed (jn3 b0 hb hb1) ?_
  intros
  repeat apply za
  refine zk rfl (fun hcj => ?_) (fun hcj => ?_)
  ·simp at hcj
   have hlk := hlook i j (by omega) (by omega)
   have wj := wrN j (by omega)
   refine zb (za (ze ?_))
   cases hm : yv d ⟨k, a, b, i, j⟩ with
   | true =>
    have hce : qG d k a b i j = some ⟨k, a, b, i, j⟩ := by unfold qG; rw [if_pos hm]
    have hlo : wA d ⟨k, a, b, i, j⟩ = ((zz d ⟨k, a, b, i, j⟩).1, (zz d ⟨k, a, b, i, j⟩).2, true) := by unfold wA; rw [if_pos hm]
    rw [hlo] at hlk
    have hat := Vv (n := tb.length + 1) (by omega) hce
    rw [← hrow] at hat
    have hat2 := Qj (W := yU d k a b) (n := ta.length + 1) (by omega) hat
    have hy : (((List.range (ta.length + 1)).flatMap (yU d k a b)).map mvE)[((List.range i).flatMap (yU d k a b)).length + ((List.range j).filterMap (qG d k a b i)).length]? = some (mvE ⟨k, a, b, i, j⟩) := by
     rw [List.getElem?_map, hat2]; rfl
    have hnx := Vx hce
    generalize (zz d ⟨k, a, b, i, j⟩).1 = r1 at *
    generalize (zz d ⟨k, a, b, i, j⟩).2 = r2 at *
    repeat apply za
    refine pwn ?_
    refine pwc hlk ?_
    intro v2 v3
    intros
    repeat apply za
    refine zM [(1, 50)] (by rfl) (by rfl) fun K Gc Gh hK hGc hGh X hX0 hX => ?_
    simp -implicitDefEqProofs [hX0, hX]
    try clear hX0 hX X
    refine hGh _ _ _ _ _ fun hsuf => Zj rfl rfl rfl (hY _ _ _ _ hy hJ) ?_
    rintro _ ⟨A', hJ', rfl⟩
    refine ⟨_, _, rfl, ?_⟩
    clear hGc hGh
    clear Gc Gh
    refine zK hsuf (D := [(1, 50)]) (by rfl) fun Gc Gh hGc hGh X hX0 hX => ?_
    simp -implicitDefEqProofs [hX0, hX]
    try clear hX0 hX X
    intros
    refine hK _ _ _ ?_
    clear hK hGc hGh
    clear K Gc Gh
    repeat apply za
    refine zi rfl ?_
    refine zb ?_
    (repeat apply za); refine pwn ?_; intros
    exact zh (j + 1, A') [_, _] ⟨by simp; omega, by rw [hnx]; exact hJ'⟩ (by simp; omega) (by simp) rfl (by simp [wj]; exact ⟨rfl, rfl⟩)
   | false =>
    have hce : qG d k a b i j = none := by unfold qG; rw [if_neg (by simp [hm])]
    have hlo : wA d ⟨k, a, b, i, j⟩ = (rw0, rw0, false) := by unfold wA; rw [if_neg (by simp [hm])]
    rw [hlo] at hlk
    have hnx := Vw hce
    generalize rw0 = r0 at *
    repeat apply za
    refine pwn ?_
    refine pwc hlk ?_
    intro v2 v3
    intros
    repeat apply za
    refine pwN [(1, 50)] zr ?_
    intros
    repeat apply za
    refine zi rfl ?_
    refine zb ?_
    (repeat apply za); refine pwn ?_; intros
    exact zh (j + 1, A) [_, _] ⟨by simp; omega, by rw [hnx]; exact hJ⟩ (by simp; omega) (by simp) rfl (by simp [wj]; exact ⟨rfl, rfl⟩)
  ·simp at hcj
   obtain rfl : j = tb.length + 1 := by omega
   rw [← hrow, ← hrl] at hJ
   refine zo ?_
   have wi := wrN i (by omega)
   (repeat apply za); refine pwn ?_; intros
   exact zh (i + 1, ((tb.length + 1 : Nat) : Int), A) [] ⟨by simp; omega, hJ⟩ (by simp; omega) (by simp) rfl (by simp [wi])
 ·simp at hc
  obtain rfl : i = ta.length + 1 := by omega
  refine zo ?_
  (repeat apply za); refine pwn ?_; intros
  repeat apply za
  exact zd (Y0 (hJd _ _ hJ) (by simp; rfl) (by simp [zl]) (by simpa using hJ))
set_option maxRecDepth 20000 in
theorem Zhi (d : Day) : Pure Tryz.prog 154 [.agg [L d]] (.fn (.func 196) [] [.ip [L d]]) := by
 refine pwe Tryz.func154 Tryz.ntmps154 Tryz.results154 fun S nx hd => ?_
 repeat apply za
 refine pwn ?_
 intro v0
 (repeat apply za); refine pwn ?_; intros
 refine xx 0 rfl ?_
 repeat apply za
 exact zd (zg hd (by simp; rfl) rfl)
set_option maxRecDepth 20000 in
set_option maxHeartbeats 3200000 in
theorem Zhj (d : Day) (hdn : d.length ≤ 1000) (hdt : ∀ t ∈ d, t.length ≤ 1000) : vK Tryz.prog 196 [.ip [L d]] ((jG d).map mvE) := by
 have hpl := fun k a b (hk : k ≤ 3) (ha : a < d.length) (hb : b < d.length) => Zhh d k a b (by omega) hdt hk ha hb
 have hkinds := Zae
 generalize Qc = kl at hkinds
 refine Yz Tryz.func196 (by rfl) rfl Tryz.ntmps196 (congrArg Array.toList Tryz.results196) (by simp) fun l V keep nx J hJd hY A0 hA0 => ?_
 repeat apply za
 refine pwn ?_
 refine pwc hkinds ?_
 intros
 repeat apply za
 refine ze (qS (σ := Nat × Store) (fun s' => s'.1 ≤ 4 ∧ J ((List.range s'.1).flatMap (qx d)).length s'.2) (fun s' => [(0, yld l), (1, .ip [L d]), (7, I s'.1)]) (fun s' => s'.2) (fun _ => []) (fun s' => 4 - s'.1) (zu (0, A0) [] (by simpa using hA0) (by simp) rfl (by simp)) ?_)
 rintro ⟨k, A⟩ ⟨hk, hJ⟩
 simp only at hk hJ ⊢
 by_cases hk4 : k < 4
 ·have hk4' : (k : Int) < 4 := by omega
  have hlA := ZJ (qx d) k
  repeat apply za
  refine pwN [] hk4' ?_
  intros
  repeat apply za
  refine zj rfl ?_
  refine zb (za (ze ?_))
  (repeat apply za); refine pwn ?_; intros
  (repeat apply za); refine pwn ?_; intros
  repeat apply za
  refine ze (qS (σ := Nat × Store) (fun s' => s'.1 ≤ d.length ∧ J (((List.range k).flatMap (qx d)).length + ((List.range s'.1).flatMap (qw d k)).length) s'.2) (fun s' => [(0, yld l), (1, .ip [L d]), (3, I k), (7, I k), (12, I d.length), (13, I s'.1)]) (fun s' => s'.2) (fun _ => []) (fun s' => d.length - s'.1) (zu (0, A) [] (by simpa using hJ) (by simp) rfl (by simp)) ?_)
  clear hJ A
  rintro ⟨a, A⟩ ⟨ha, hJ⟩
  simp only at ha hJ ⊢
  (repeat apply za); refine pwn ?_; intros
  repeat apply za
  refine zk rfl (fun hca => ?_) (fun hca => ?_)
  ·simp at hca
   have hlK := ZJ (qw d k) a
   refine zb (za (ze ?_))
   (repeat apply za); refine pwn ?_; intros
   (repeat apply za); refine pwn ?_; intros
   repeat apply za
   refine ze (qS (σ := Nat × Store) (fun s' => s'.1 ≤ d.length ∧ J (((List.range k).flatMap (qx d)).length + ((List.range a).flatMap (qw d k)).length + ((List.range s'.1).flatMap (y8 d k a)).length) s'.2) (fun s' => [(0, yld l), (1, .ip [L d]), (3, I k), (4, I a), (7, I k), (12, I d.length), (13, I a), (18, I d.length), (19, I s'.1)]) (fun s' => s'.2) (fun _ => []) (fun s' => d.length - s'.1) (zu (0, A) [] (by simpa using hJ) (by simp) rfl (by simp)) ?_)
   clear hJ A
   rintro ⟨b, A⟩ ⟨hb, hJ⟩
   simp only at hb hJ ⊢
   (repeat apply za); refine pwn ?_; intros
   repeat apply za
   refine zk rfl (fun hcb => ?_) (fun hcb => ?_)
   ·simp at hcb
    have hw := hpl k a b (by omega) hca hcb
    have hlP := ZJ (y8 d k a) b
    have hin : ∀ (i : Nat) (x : List PV), ((y8 d k a b).map mvE)[i]? = some x → ((jG d).map mvE)[((List.range k).flatMap (qx d)).length + ((List.range a).flatMap (qw d k)).length + ((List.range b).flatMap (y8 d k a)).length + i]? = some x := by
     intro i x hx
     rw [List.getElem?_map] at hx ⊢
     obtain ⟨m, hm, rfl⟩ := Option.map_eq_some_iff.1 hx
     have e1 := Qj (W := y8 d k a) (n := d.length) hcb hm
     have e2 := Qj (W := qw d k) (n := d.length) hca e1
     have e3 := Qj (W := qx d) (n := 4) hk4 e2
     rw [Nat.add_assoc, Nat.add_assoc]
     unfold jG
     rw [e3]; rfl
    refine zb (za (ze ?_))
    (repeat apply za); refine pwn ?_; intros
    repeat apply za
    refine zM [] (by rfl) (by rfl) fun K Gc Gh hK hGc hGh X hX0 hX => ?_
    simp -implicitDefEqProofs [hX0, hX]
    try clear hX0 hX X
    refine hGc _ _ _ _ _ _ _ fun hsuf => ((Vu hw keep hY _ hin hJ _).mono ?_)
    rintro _ _ ⟨A', rfl, hJ', rfl⟩
    rw [List.length_map, Nat.add_assoc, ← hlP] at hJ'
    refine ⟨_, _, rfl, ?_⟩
    clear hGc hGh
    clear Gc Gh
    refine zK hsuf (D := []) (by rfl) fun Gc Gh hGc hGh X hX0 hX => ?_
    simp -implicitDefEqProofs [hX0, hX]
    clear hX0 hX X
    intros
    refine hK _ _ _ ?_
    clear hK hGc hGh
    clear K Gc Gh
    repeat apply za
    refine zi rfl ?_
    refine zb ?_
    (repeat apply za); refine pwn ?_; intros
    exact zh (b + 1, A') [] ⟨hcb, hJ'⟩ (by simp; omega) (by simp [wrN b (by omega)]) rfl (by simp)
   ·simp at hcb
    obtain rfl : b = d.length := by omega
    refine zo ?_
    have hJ2 : J (((List.range k).flatMap (qx d)).length + ((List.range (a + 1)).flatMap (qw d k)).length) A := by rw [hlK, ← Nat.add_assoc]; exact hJ
    (repeat apply za); refine pwn ?_; intros
    exact zh (a + 1, A) [] ⟨hca, hJ2⟩ (by simp; omega) (by simp [wrN a (by omega)]) rfl (by simp)
  ·simp at hca
   obtain rfl : a = d.length := by omega
   refine zo ?_
   have hJ2 : J ((List.range (k + 1)).flatMap (qx d)).length A := by rw [hlA]; exact hJ
   (repeat apply za); refine pwn ?_; intros
   exact zh (k + 1, A) [] ⟨hk4, hJ2⟩ (by simp; omega) (by simp [wrN k (by omega)]) rfl (by simp)
 ·obtain rfl : k = 4 := by omega
  (repeat apply za); refine pwn ?_; intros
  repeat apply za
  refine zi rfl ?_
  refine zo (xJ (hJd _ _ hJ) rfl ?_)
  rw [List.length_map]; exact hJ
open Go Go.Proofs
theorem wO {d : Day} {m : Mv} (h : yv d m = true) : m.k ≤ 3 ∧ m.a < d.length ∧ m.b < d.length ∧ xq d (zz d m).1 ∧ xq d (zz d m).2 := by
 unfold yv at h
 rw [Bool.and_eq_true] at h
 obtain ⟨h1, h2⟩ := h
 have h1 := of_decide_eq_true h1
 refine ⟨h1.1, h1.2.1, h1.2.2, ?_⟩
 unfold qD at h2
 unfold zz qu
 have e0 := ZgT d
 have key : ∀ p : Pc, uM d p ↔ (p.f < p.o → p.t < d.length ∧ p.o ≤ tlen d p.t) := fun _ => Iff.rfl
 by_cases k0 : m.k = 0
 ·rw [if_pos k0] at h2 ⊢
  have h2 := of_decide_eq_true h2
  refine ⟨?_, e0⟩
  intro p hp
  simp only [Rw5.l, List.mem_cons, List.not_mem_nil, or_false] at hp
  rcases hp with rfl | rfl | rfl | rfl | rfl <;> refine (key _).2 ?_ <;> simp only [pc0] <;> omega
 rw [if_neg k0] at h2 ⊢
 by_cases k1 : m.k = 1
 ·rw [if_pos k1] at h2 ⊢
  have h2 := of_decide_eq_true h2
  by_cases hab : m.a = m.b
  ·rw [if_pos hab, hab] at h2
   rw [if_neg (by simp [hab])]
   by_cases hij : m.i < m.j
   ·rw [if_pos hij]
    refine ⟨?_, e0⟩
    intro p hp
    simp only [Rw5.l, List.mem_cons, List.not_mem_nil, or_false] at hp
    rcases hp with rfl | rfl | rfl | rfl | rfl <;> refine (key _).2 ?_ <;> simp only [pc0] <;> (try rw [hab]) <;> omega
   ·rw [if_neg hij]
    refine ⟨?_, e0⟩
    intro p hp
    simp only [Rw5.l, List.mem_cons, List.not_mem_nil, or_false] at hp
    rcases hp with rfl | rfl | rfl | rfl | rfl <;> refine (key _).2 ?_ <;> simp only [pc0] <;> (try rw [hab]) <;> omega
  ·rw [if_neg hab] at h2
   rw [if_pos hab]
   constructor <;> intro p hp <;> simp only [Rw5.l, List.mem_cons, List.not_mem_nil, or_false] at hp <;> rcases hp with rfl | rfl | rfl | rfl | rfl <;> refine (key _).2 ?_ <;> simp only [pc0] <;> omega
 rw [if_neg k1] at h2 ⊢
 by_cases k2 : m.k = 2
 ·rw [if_pos k2] at h2 ⊢
  have h2 := of_decide_eq_true h2
  by_cases hab : m.a = m.b
  ·rw [if_pos hab]
   rw [hab] at h2
   refine ⟨?_, e0⟩
   intro p hp
   simp only [Rw5.l, List.mem_cons, List.not_mem_nil, or_false] at hp
   rcases hp with rfl | rfl | rfl | rfl | rfl <;> refine (key _).2 ?_ <;> simp only [pc0, hab] <;> omega
  ·rw [if_neg hab]
   constructor <;> intro p hp <;> simp only [Rw5.l, List.mem_cons, List.not_mem_nil, or_false] at hp <;> rcases hp with rfl | rfl | rfl | rfl | rfl <;> refine (key _).2 ?_ <;> simp only [pc0] <;> omega
 rw [if_neg k2] at h2 ⊢
 have h2 := of_decide_eq_true h2
 constructor <;> intro p hp <;> simp only [Rw5.l, List.mem_cons, List.not_mem_nil, or_false] at hp <;> rcases hp with rfl | rfl | rfl | rfl | rfl <;> refine (key _).2 ?_ <;> simp only [pc0] <;> omega
theorem ZK {d : Day} {m : Mv} : m ∈ jG d → yv d m = true ∧ m.i ≤ tlen d m.a ∧ m.j ≤ tlen d m.b := by
 unfold jG qx qw y8 yU qG
 intro h
 simp only [List.mem_flatMap, List.mem_range, List.mem_filterMap] at h
 obtain ⟨k, hk, a, ha, b, hb, i, hi, j, hj, h⟩ := h
 split at h
 ·rename_i hm
  cases h
  exact ⟨hm, by simp only; omega, by simp only; omega⟩
 ·cases h
def mv0 : Mv := ⟨0, 0, 0, 0, 0⟩
def qH (x : Inst) (d : Day) (r : Rw5) : Prop := ldR d r ≤ x.cap ∧ jh x d r ≤ x.len
instance (x : Inst) (d : Day) (r : Rw5) : Decidable (qH x d r) := by unfold qH; infer_instance
def byM (x : Inst) (d : Day) (m : Mv) : Int := ZI x d m (zz d m).1 (zz d m).2
def mbS (x : Inst) (d : Day) (st : Mv × Int) (m : Mv) : Mv × Int := if byM x d m < st.2 ∧ qH x d (zz d m).1 ∧ qH x d (zz d m).2 then (m, byM x d m) else st
def mbZ (x : Inst) (d : Day) : Mv × Int := (jG d).foldl (mbS x d) (mv0, 0)
set_option maxRecDepth 20000 in
set_option maxHeartbeats 3200000 in
theorem Zhk (x : Inst) (d : Day) (hx : ye x) (hd' : MvDay d) : Pure Tryz.prog 115 [.agg (zm x), .agg [L d]] (.tup [.agg (mvL (mbZ x d).1), I (mbZ x d).2, B (decide ((mbZ x d).2 < 0))]) := by
 have hdn := hd'.n
 have hit := Zhj d hdn hd'.t
 have hread := Zhb x d hx hd'
 have hfacts : ∀ m ∈ jG d, Pure Tryz.prog 155 [.agg [L d], .agg (mvL m)] (.tup [.agg (rwL (zz d m).1), .agg (rwL (zz d m).2), B true]) ∧ Pure Tryz.prog 156 [.ip (rdL x d), .agg (mvL m), .agg (rwL (zz d m).1), .agg (rwL (zz d m).2)] (I (byM x d m)) ∧
   Pure Tryz.prog 157 [.ip (rdL x d), .agg (rwL (zz d m).1)] (B (decide (qH x d (zz d m).1))) ∧ Pure Tryz.prog 157 [.ip (rdL x d), .agg (rwL (zz d m).2)] (B (decide (qH x d (zz d m).2))) := by
  intro m hm
  obtain ⟨h1, h2, h3⟩ := ZK hm
  obtain ⟨hk, ha, hb, r1, r2⟩ := wO h1
  have hl : ∀ a, tlen d a ≤ 1000 := by
   intro a
   unfold tlen
   rw [List.getD_eq_getElem?_getD]
   cases hq : d[a]? with
   | none => simp
   | some l => exact hd'.t l (List.mem_of_getElem? hq)
  have hla := hl m.a
  have hlb := hl m.b
  have hlk := JX d m (by omega) (fun t ht => Nat.le_trans (hd'.t t ht) (by decide)) hk ha hb (by omega) (by omega)
  unfold wA at hlk
  rw [if_pos h1] at hlk
  exact ⟨hlk, Zhg x d m _ _ hx hd' r1 r2 ha hb, Zaz x d _ hx hd' r1, Zaz x d _ hx hd' r2⟩
 unfold mbZ
 generalize jG d = xs at *
 generalize rdL x d = rd at *
 have hea := Zhi d
 refine pwe Tryz.func115 Tryz.ntmps115 Tryz.results115 fun S nx hd => ?_
 repeat apply za
 refine pwn ?_
 intro v0 v1 v2
 repeat apply za
 refine pwn ?_
 refine pwc hread ?_
 intro v3
 intros
 repeat apply za
 refine pwn ?_
 intro v4 v5
 repeat apply za
 refine pwn ?_
 refine pwc hea ?_
 intros
 repeat apply za
 refine ze (Zm (xs := xs.map mvE) (σ := Mv × Int) (fun i st => st = (xs.take i).foldl (mbS x d) (mv0, 0)) [(2, .ptr nx v0 0), (3, .ptr (nx + 1) v1 0), (4, .ptr (nx + 2) v2 0), (7, .ptr (nx + 3) v3 0), (8, .ptr (nx + 4) v4 0), (9, .ptr (nx + 5) v5 0)] (fun _ => S)
  (fun (b, least) => [.cells v0 25 (zm x), .cells v1 66 [L d], .cells v2 160 [I 0, I 0, I 0, I 0, I 0], .cells v3 194 [.ip rd], .cells v4 160 (mvL b), .cells v5 3 [I least]]) (mv0, 0)
  hit rfl (by intro x hx; obtain ⟨y, _, rfl⟩ := List.mem_map.1 hx; rfl) (by decide) (by simp) (by simp) rfl (by simp [mv0]) (by simp [mv0]) ?_ ?_)
 ·rintro l i ⟨b, least⟩ more y hst hy
  simp only at hst ⊢
  rw [List.getElem?_map] at hy
  obtain ⟨m, hm, rfl⟩ := Option.map_eq_some_iff.1 hy
  have hsucc := Qb (f := mbS x d) (b := (mv0, 0)) hm
  rw [← hst] at hsucc
  obtain ⟨f1, f2, f3, f4⟩ := hfacts m (List.mem_of_getElem? hm)
  unfold mbS at hsucc
  simp only at hsucc
  generalize (zz d m).1 = r1 at *
  generalize (zz d m).2 = r2 at *
  generalize byM x d m = by_ at *
  repeat apply za
  refine pwn ?_
  intro v6
  refine ze ?_
  repeat apply za
  refine pwn ?_
  refine pwc f1 ?_
  intro v7 v8
  intros
  repeat apply za
  refine pwn ?_
  refine pwc f2 ?_
  intros
  by_cases hlt : by_ < least
  ·repeat apply za
   refine pwN [(3, 37), (8, 42)] hlt ?_
   refine pwC [(3, 37), (8, 42)] f3 hlt ?_
   by_cases hf1 : qH x d r1
   ·rw [decide_eq_true hf1]
    intros
    refine pwC [(3, 37), (8, 42)] f4 hlt ?_
    intros
    by_cases hf2 : qH x d r2
    ·rw [if_pos ⟨hlt, hf1, hf2⟩] at hsucc
     repeat apply za
     refine zj (by simp [hf2]) ?_
     (repeat apply za); refine pwn ?_; intros
     simp only [yK]
     exact jN (m, by_) [_, _, _] hsucc.symm rfl (by simp; exact ⟨rfl, rfl, rfl⟩)
    ·rw [if_neg fun e => hf2 e.2.2] at hsucc
     repeat apply za
     refine zi (by simp [hf2]) ?_
     refine zb ?_
     simp only [yK]
     exact jN (b, least) [_, _, _] hsucc.symm rfl (by simp; exact ⟨rfl, rfl, rfl⟩)
   ·rw [decide_eq_false hf1]
    rw [if_neg fun e => hf1 e.2.1] at hsucc
    intros
    repeat apply za
    refine zi rfl ?_
    refine zb ?_
    simp only [yK]
    exact jN (b, least) [_, _, _] hsucc.symm rfl (by simp; exact ⟨rfl, rfl, rfl⟩)
  ·rw [if_neg fun e => hlt e.1] at hsucc
   repeat apply za
   refine pwN [(3, 37), (8, 42)] (jn2 hlt zr) ?_
   intros
   repeat apply za
   refine zi rfl ?_
   refine zb ?_
   simp only [yK]
   exact jN (b, least) [_, _, _] hsucc.symm rfl (by simp; exact ⟨rfl, rfl, rfl⟩)
 ·rintro ⟨b, least⟩ hst
  rw [List.take_of_length_le (by simp)] at hst
  simp only at hst ⊢
  rw [← hst]
  repeat apply za
  refine pwY (some [nx + 4, nx + 5]) (Row.pures [0, 1, 2, 3] (.alt 4 (Row.pures [5, 6] .done) .stop)) mixed trivial ?_
  intros
  repeat apply za
  exact zd (zg hd (by simp; rfl) (by simp [zl]))
end Go.Proofs.YtaiplainginmaaaGreat.Pv
