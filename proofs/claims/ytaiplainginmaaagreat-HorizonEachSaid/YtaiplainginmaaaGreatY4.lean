/- A part of the proof of the statement that the last text of this claim proves; no condition is added. Packed by a program of the prover. -/
import Derived.Test.YtaiplainginmaaaGreatY3
namespace Go.Proofs.YtaiplainginmaaaGreat.Pv
open Go
set_option maxRecDepth 20000 in
theorem Vv (x : Int) : Pure Tryz.prog 230 [I x] (B false) := by
 refine pwe Tryz.func230 Tryz.ntmps230 Tryz.results230 fun S nx hd => ?_
 (repeat apply za); refine pwn ?_; intros
 (repeat apply za); refine pwn ?_; intros
 repeat apply za
 exact ze (zh hd (by simp; rfl) rfl)
set_option maxRecDepth 20000 in
theorem Vw (x y : Int) : Pure Tryz.prog 282 [I x, I y] (I (j8 x y)) := by
 refine pwe Tryz.func282 Tryz.ntmps282 Tryz.results282 fun S nx hd => ?_
 (repeat apply za); refine pwn ?_; intros
 repeat apply za
 refine pwn ?_
 refine pwc (Vv x) ?_
 intros
 repeat apply za
 refine pwn ?_
 refine pwc (Vv y) ?_
 intros
 (repeat apply za); refine pwn ?_; intros
 repeat apply za
 refine zi (by simp) ?_
 refine zb ?_
 (repeat apply za); refine pwn ?_; intros
 repeat apply za
 refine zi (by simp) ?_
 refine zb ?_
 by_cases h1 : x < y
 ·repeat apply za
  refine pwN [] h1 ?_
  intros
  repeat apply za
  refine zj (by simp [h1]) ?_
  (repeat apply za); refine pwn ?_; intros
  repeat apply za
  exact ze (zh hd (by simp; rfl) (by simp [j8, h1, zk]))
 repeat apply za
 refine pwN [] h1 ?_
 intros
 repeat apply za
 refine zi (by simp [h1]) ?_
 refine zb ?_
 by_cases h2 : y < x
 ·repeat apply za
  refine pwN [] h2 ?_
  intros
  repeat apply za
  refine zj (by simp [h2]) ?_
  (repeat apply za); refine pwn ?_; intros
  repeat apply za
  exact ze (zh hd (by simp; rfl) (by simp [j8, h1, h2, zk]))
 repeat apply za
 refine pwN [] h2 ?_
 intros
 repeat apply za
 refine zi (by simp [h2]) ?_
 refine zb ?_
 (repeat apply za); refine pwn ?_; intros
 repeat apply za
 exact ze (zh hd (by simp; rfl) (by simp [j8, h1, h2, zk]))
set_option maxRecDepth 20000 in
theorem Zfx (x y : Int) : Pure Tryz.prog 281 [.lst 2 [I x, I y]] (I (if x = 0 then y else x)) := by
 refine pwe Tryz.func281 Tryz.ntmps281 Tryz.results281 fun S nx hd => ?_
 (repeat apply za); refine pwn ?_; intros
 (repeat apply za); refine pwn ?_; intros
 (repeat apply za); refine pwn ?_; intros
 repeat apply za
 refine zg (zr (fun s : Nat => s ≤ 2 ∧ (0 < s → x = 0) ∧ (1 < s → y = 0)) (fun k => [(3, I 0), (6, .lst 2 [I x, I y]), (7, I 2), (8, I k)]) (fun _ => []) (fun s => 2 - s) 0 [] (by simp) (by simp) (by simp) ?_)
 rintro k ⟨hk, hk1, hk2⟩
 match k, hk, hk1, hk2 with
 | 0, _, _, _ =>
  (repeat apply za); refine pwn ?_; intros
  repeat apply za
  refine zj (by simp) ?_
  refine zb (za (zg ?_))
  (repeat apply za); refine pwn ?_; intros
  by_cases hx : x = 0
  ·repeat apply za
   refine pwN [] hx ?_
   intros
   repeat apply za
   refine zi (by simp [hx]) ?_
   refine zb ?_
   (repeat apply za); refine pwn ?_; intros
   exact zm 1 [] ⟨by omega, fun _ => hx, by omega⟩ (by omega) (by simp [hx]; rfl) rfl (by simp)
  ·repeat apply za
   refine pwN [] hx ?_
   intros
   repeat apply za
   refine zj (by simp [hx]) ?_
   (repeat apply za); refine pwn ?_; intros
   repeat apply za
   exact ze (zh hd (by simp; rfl) (by simp [hx, zk]))
 | 1, _, hk1, _ =>
  have hx := hk1 (by omega)
  (repeat apply za); refine pwn ?_; intros
  repeat apply za
  refine zj (by simp) ?_
  refine zb (za (zg ?_))
  (repeat apply za); refine pwn ?_; intros
  by_cases hy : y = 0
  ·repeat apply za
   refine pwN [] hy ?_
   intros
   repeat apply za
   refine zi (by simp [hy]) ?_
   refine zb ?_
   (repeat apply za); refine pwn ?_; intros
   exact zm 2 [] ⟨by omega, fun _ => hx, fun _ => hy⟩ (by omega) (by simp [hy]; rfl) rfl (by simp)
  ·repeat apply za
   refine pwN [] hy ?_
   intros
   repeat apply za
   refine zj (by simp [hy]) ?_
   (repeat apply za); refine pwn ?_; intros
   repeat apply za
   exact ze (zh hd (by simp; rfl) (by simp [hx, zk]))
 | 2, _, hk1, hk2 =>
  (repeat apply za); refine pwn ?_; intros
  repeat apply za
  refine zi (by simp) ?_
  refine zo ?_
  (repeat apply za); refine pwn ?_; intros
  repeat apply za
  exact ze (zh hd (by simp; rfl) (by simp [hk1 (by omega), hk2 (by omega), zk]))
set_option maxRecDepth 20000 in
theorem Zfy (l : List Int) (i j : Fin l.length) (hn : l.length ≤ 1048576) : Pure Tryz.prog 280 [I i.val, I j.val, .ip [L l]] (I (cfW l i j)) := by
 obtain ⟨a, tl, a1, a2, a3, e0⟩ := el1 rfl l i.val i.isLt
 obtain ⟨b, tl2, b1, b2, b3, e1⟩ := el1 rfl l j.val j.isLt
 have hi := i.isLt
 have hj := j.isLt
 have ha : l.getD i.val 0 = a := by rw [List.getD_eq_getElem?_getD, a1]; rfl
 have hb : l.getD j.val 0 = b := by rw [List.getD_eq_getElem?_getD, b1]; rfl
 have hor := Zfx (j8 a b) (j8 i.val j.val)
 have hres : cfW l i j = if j8 a b = 0 then j8 (i.val : Int) j.val else j8 a b := by unfold cfW; rw [ha, hb]
 rw [hres]
 refine pwe Tryz.func280 Tryz.ntmps280 Tryz.results280 fun S nx hd => ?_
 (repeat apply za); refine pwn ?_; intros
 repeat apply za
 refine pwY none (Row.pures [0, 1, 2, 3, 4, 5, 6, 7, 8, 9, 10, 11, 12, 13, 14] .done) mixed (jn4 hi hj e0 e1) ?_
 refine pwP (Vw a b) (jn4 hi hj e0 e1) ?_
 refine pwP (Vw i.val j.val) trivial ?_
 refine pwP (hor) trivial ?_
 intros
 repeat apply za
 exact ze (zh hd (by simp; rfl) rfl)
theorem JK (l : List Int) : l.flatMap Enc.enc = l.map I := by induction l <;> simp_all
theorem Zfz (l : List Int) : ∀ p ∈ [PV.ip [L l]], Fz p := by
 intro p hp
 simp only [List.mem_singleton] at hp
 subst hp
 refine .ip fun q hq => ?_
 simp only [List.mem_singleton] at hq
 subst hq
 refine .lst fun r hr => ?_
 rw [JK] at hr
 obtain ⟨x, _, rfl⟩ := List.mem_map.1 hr
 exact .sc _
def jG (n k : Nat) : List Int := (List.range n).map fun i => if i < k then (i : Int) else 0
theorem ZfA (n k : Nat) : (jG n k).length = n := by simp [jG]
theorem ZfB (n : Nat) : jG n 0 = List.replicate n 0 := by
 apply List.ext_getElem
 ·simp [jG]
 ·intro i h1 h2; simp [jG]
theorem ZfC (n k : Nat) (h : k < n) : (jG n k).set k (k : Int) = jG n (k + 1) := by
 apply List.ext_getElem
 ·simp [jG]
 ·intro i h1 h2
  rw [List.getElem_set]
  simp only [jG, List.getElem_map, List.getElem_range]
  by_cases e : k = i
  ·subst e; rw [if_pos rfl, if_pos (by omega)]
  ·rw [if_neg e]
   by_cases h3 : i < k
   ·rw [if_pos h3, if_pos (by omega)]
   ·rw [if_neg h3, if_neg (by omega)]
theorem ZfD (n : Nat) : jG n n = (List.finRange n).map fun x => (x.val : Int) := by
 apply List.ext_getElem
 ·simp [jG]
 ·intro i h1 h2
  have : i < n := by simpa [jG] using h1
  simp [jG, this]
theorem Vx {α : Type} (l : List α) (f : α → Int) : (l.map f).flatMap Enc.enc = l.map fun x => I (f x) := by induction l <;> simp_all
theorem ZfE (n : Nat) : qk n (.int .i64 0) = (List.replicate n (0 : Int)).flatMap Enc.enc := by
 induction n with
 | zero => simp
 | succ n ih => rw [w9, ih, List.replicate_succ]; simp [yM, Value.cells]
theorem ZfF (l : List Int) (k : Nat) (v : Int) (h : k < l.length) : zJ (l.flatMap Enc.enc) k [I v] = (l.set k v).flatMap Enc.enc := by
 rw [JK, JK, zJ, List.map_set, List.set_eq_take_append_cons_drop, if_pos (by simpa using h)]
 simp
set_option maxRecDepth 20000 in
theorem ZfG (l : List Int) (hn : l.length ≤ 1048576) : Pure Tryz.prog 273 [L l] (L (jS l)) := by
 have hE : yH Tryz.prog 279 := yN Tryz.func279 (by rfl) rfl
 have hG : yH Tryz.prog 280 := yN Tryz.func280 (by rfl) rfl
 refine pwe Tryz.func273 Tryz.ntmps273 Tryz.results273 fun S nx hd => ?_
 repeat apply za
 refine pwn ?_
 intro v0
 repeat apply za
 refine pwn ?_
 refine ⟨by omega, fun v1 => ?_⟩
 intros
 (repeat apply za); refine pwn ?_; intros
 repeat apply za
 refine zg (zr (fun s : Nat => s ≤ l.length) (fun k => [(1, .ptr nx v0 0), (3, .sl (nx + 1) v1 1 0 l.length), (9, I l.length), (10, I k)]) (fun k => [.cells v0 54 [L l], .cells v1 3 ((jG l.length k).flatMap Enc.enc)]) (fun s => l.length - s) 0 [] (by simp) (by simp) (by simp [ZfB, ZfE]) ?_)
 rintro k hk
 (repeat apply za); refine pwn ?_; intros
 repeat apply za
 refine zn rfl (fun hc => ?_) (fun hc => ?_)
 ·simp at hc
  have hl1 := ZfA l.length k
  have hsp := ZfF (jG l.length k) k k (by omega)
  rw [ZfC _ _ hc] at hsp
  refine zb (za (zg ?_))
  (repeat apply za); refine pwn ?_; intros
  repeat apply za
  refine pwN [] (jn3 hc hl1 hsp) ?_
  refine ⟨by omega, ?_⟩
  intros
  (repeat apply za); refine pwn ?_; intros
  exact zm (k + 1) [] hc (by omega) (by simp [wrN k (by omega)]) rfl (by simp)
 ·simp at hc
  obtain rfl : k = l.length := by omega
  refine zo ?_
  rw [ZfD, Vx]
  refine jg 0 rfl ?_
  repeat apply za
  refine zP [] (by rfl) (by rfl) fun K Gc Gh hK hGc hGh X hX0 hX => ?_
  simp -implicitDefEqProofs [hX0, hX]
  try clear hX0 hX X
  by_cases h0 : l.length = 0
  ·obtain rfl : l = [] := List.eq_nil_of_length_eq_zero h0
   refine hGc _ _ _ _ _ _ _ fun hsuf => ((Zfv Tryz.laysSlF6_f279 hE).mono ?_).v
   rintro _ _ rfl
   refine ⟨_, _, rfl, ?_⟩
   clear hGc hGh
   clear Gc Gh
   refine zL hsuf (D := []) (by rfl) fun Gc Gh hGc hGh X hX0 hX => ?_
   simp -implicitDefEqProofs [hX0, hX]
   clear hX0 hX X
   intros
   refine hK _ _ _ ?_
   clear hK hGc hGh
   clear K Gc Gh
   refine zM 1 rfl ?_
   (repeat apply za); refine pwn ?_; intros
   have hs0 : jS [] = [] := List.eq_nil_of_length_eq_zero (JA [])
   repeat apply za
   exact ze (zh hd (by simp; rfl) (by rw [hs0]; rfl))
  ·haveI : Inhabited (Fin l.length) := ⟨⟨0, by omega⟩⟩
   have hs := fun S id ver hid => Zfw (S := S) (id := id) (ver := ver) (e := 3) (val := fun i : Fin l.length => (i.val : Int)) Tryz.laysSlF6_f279 hE (List.finRange l.length) hid (by simp; omega) hG (Zfz l) (cfW l) (Y2 l) (Vp l) (fun x y => Zfy l x y hn)
   rw [List.length_finRange] at hs
   have hfl := Vx (ug l) (fun i => (i.val : Int))
   have hsl := JA l
   refine hGc _ _ _ _ _ _ _ fun hsuf => ((hs _ (nx + 1) v1 (by rw [yU]; rfl)).mono ?_).v
   rintro _ _ rfl
   refine ⟨_, _, y8 _ (by omega) (by simp), ?_⟩
   rw [show (((List.finRange l.length).mergeSort fun x y => !(ltOf (cfW l)) y x).map fun x => I (x.val : Int)) = (jS l).flatMap Enc.enc from hfl.symm]
   clear hGc hGh
   clear Gc Gh
   refine zL hsuf (D := []) (by rfl) fun Gc Gh hGc hGh X hX0 hX => ?_
   simp -implicitDefEqProofs [hX0, hX, (show nx + 1 - nx = 1 from by omega)]
   clear hX0 hX X
   intros
   refine hK _ _ _ ?_
   clear hK hGc hGh
   clear K Gc Gh
   refine zM 1 rfl ?_
   repeat apply za
   refine pwN [] hsl ?_
   intros
   repeat apply za
   exact ze (zh hd (by simp; rfl) (by simp [zk, hsl]))
open Go Hp
theorem ZfH (x : Inst) (c : List Int) (a b : Int) : qg x (c ++ [b]) a = qg x c a ++ (if b ≠ a then [⟨a, b, qT x a b⟩] else []) := by
 unfold qg
 by_cases h : b = a <;> simp [h]
theorem ZfI (x : Inst) (c : List Int) (a : Int) : (qg x c a).length ≤ c.length := by
 unfold qg
 rw [List.length_map]; exact List.length_filter_le _ _
theorem ZfJ (l : List Pr) (p : Pr) : yv (l ++ [p]) = yv l ++ [-p.s] := by simp [yv]
theorem ZfK (l : List Pr) : (yv l).length = l.length := by simp [yv]
set_option maxRecDepth 20000 in
theorem ZfL (x : Inst) (c : List Int) (a : Int) (hx : qv x) (hc : c.length ≤ 1048576) (hs : ∀ b ∈ c, small b) (ha : small a) : Pure Tryz.prog 262 [.agg (zt x), L c, I a] (L (jh x c a)) := by
 refine pwe Tryz.func262 Tryz.ntmps262 Tryz.results262 fun S nx hd => ?_
 repeat apply za
 refine pwn ?_
 intro v0
 (repeat apply za); refine pwn ?_; intros
 refine za (qe 7 185 3 rfl fun v1 => ?_)
 (repeat apply za); refine pwn ?_; intros
 refine za (qe 8 3 1 rfl fun v2 => ?_)
 (repeat apply za); refine pwn ?_; intros
 repeat apply za
 refine zg (zr (fun s : Nat × List Pr × Nat × Nat => s.1 ≤ c.length ∧ s.2.1 = qg x (c.take s.1) a) (fun (k, ps, v1, v2) => [(1, L c), (2, I a), (3, .ptr nx v0 0), (7, .sl (nx + 1) v1 3 0 ps.length), (8, .sl (nx + 2) v2 1 0 ps.length), (15, L c), (16, I c.length), (17, I k)]) (fun (k, ps, v1, v2) => [.cells v0 25 (zt x), .cells v1 185 (ps.flatMap Enc.enc), .cells v2 3 ((yv ps).flatMap Enc.enc)]) (fun s => c.length - s.1) (0, [], v1, v2) [] (by simp [qg]) (by simp) (by simp [yv]) ?_)
 rintro ⟨k, ps, v1, v2⟩ ⟨hk, ho⟩
 simp only at hk ho ⊢
 have hpl : ps.length ≤ k := by rw [ho]; refine Nat.le_trans (ZfI _ _ _) ?_; simp; omega
 have hnl := ZfK ps
 (repeat apply za); refine pwn ?_; intros
 repeat apply za
 refine zn rfl (fun hq => ?_) (fun hq => ?_)
 ·simp at hq
  obtain ⟨b, tl, a1, a2, a3, e0⟩ := el1 rfl c k hq
  have hb := hs b (List.mem_of_getElem? a1)
  have hsv := JF hx a b
  have w5 : IntKind.i64.wrap (-qT x a b) = -qT x a b := wr _ (by omega) (by omega)
  have hsn := ZfH x (c.take k) a b
  rw [← a3, ← ho] at hsn
  refine zb (za (zg ?_))
  repeat apply za
  refine pwN [] (jn2 e0 hq) ?_
  intros
  (repeat apply za); refine pwn ?_; intros
  repeat apply za
  refine zn rfl (fun hne => ?_) (fun hne => ?_)
  ·simp at hne
   rw [if_pos hne] at hsn
   repeat apply za
   refine pwn ?_
   refine pwc (Zfh x a b hx ha hb) ?_
   intro v3
   intros
   repeat apply za
   refine pwn ?_
   refine ⟨by omega, ?_⟩
   intros
   have htk : List.take ps.length ((yv ps).flatMap Enc.enc) = (yv ps).flatMap Enc.enc := by rw [← hnl]; exact Zdi _
   have hnf : ((yv ps).flatMap Enc.enc).length = ps.length := by rw [qm, hnl]
   repeat apply za
   refine pwN [] (jn3 w5 htk hnf) ?_
   refine ⟨by omega, ?_⟩
   intros
   (repeat apply za); refine pwn ?_; intros
   exact zm (k + 1, ps ++ [⟨a, b, qT x a b⟩], v1 + 1, v2 + 1) [_] ⟨hq, hsn.symm⟩ (by simp; omega) (by simp [wrN k (by omega)]) rfl (by simp [ZfJ]; rfl)
  ·simp at hne
   rw [if_neg (by simp [hne]), List.append_nil] at hsn
   refine zb ?_
   (repeat apply za); refine pwn ?_; intros
   exact zm (k + 1, ps, v1, v2) [] ⟨hq, hsn.symm⟩ (by simp; omega) (by simp [wrN k (by omega)]) rfl (by simp)
 ·simp at hq
  obtain rfl : k = c.length := by omega
  rw [List.take_length] at ho
  refine zo ?_
  refine zM 1 rfl ?_
  refine zM 2 rfl ?_
  (repeat apply za); refine pwn ?_; intros
  refine za (qe 12 185 3 rfl fun v3 => ?_)
  have hrw : jh x c a = (jS (yv ps)).map (jT ps) := by rw [ho]; rfl
  rw [hrw]
  have hsl := JA (yv ps)
  have hmem : ∀ z ∈ jS (yv ps), 0 ≤ z ∧ z < ps.length := fun z h => by have := ZeY h; omega
  have hcall := ZfG (yv ps) (by omega)
  rw [show L (yv ps) = PV.lst ps.length ((yv ps).flatMap Enc.enc) from by rw [← hnl]] at hcall
  generalize yv ps = ns at *
  repeat apply za
  refine pwN [] hnl ?_
  refine pwc hcall ?_
  intros
  generalize jS ns = is at *
  repeat apply za
  refine zg (zr (fun s : Nat × List Pr × Nat => s.1 ≤ is.length ∧ s.2.1 = (is.take s.1).map (jT ps)) (fun (k, os, v) => [(7, L ps), (12, .sl (nx + 3) v 3 0 os.length), (43, L is), (44, I is.length), (45, I k)]) (fun (k, os, v) => [.cells v0 25 (zt x), .dead, .dead, .cells v 185 (os.flatMap Enc.enc)]) (fun s => is.length - s.1) (0, [], v3) [] (by simp) (by simp [hnl]) (by simp) ?_)
  rintro ⟨k, os, v⟩ ⟨hk, ho2⟩
  simp only at hk ho2 ⊢
  (repeat apply za); refine pwn ?_; intros
  repeat apply za
  refine zn rfl (fun hq => ?_) (fun hq => ?_)
  ·simp at hq
   obtain ⟨i, tl, a1, a2, a3, e0⟩ := el1 rfl is k hq
   obtain ⟨q1, q2⟩ := hmem i (List.mem_of_getElem? a1)
   obtain ⟨j, rfl⟩ : ∃ j : Nat, i = j := ⟨i.toNat, by omega⟩
   have hj : j < ps.length := by omega
   obtain ⟨p, tp, b1, b2, b3, e1, e2⟩ := el 3 rfl ps j hj
   have hg : jT ps (j : Int) = p := by simp [jT, List.getD_eq_getElem?_getD, b1]
   have hgs : (is.take (k + 1)).map (jT ps) = os ++ [p] := by rw [a3, ho2]; simp [hg]
   have hgl : os.length = k := by rw [ho2]; simp; omega
   refine zb (za (zg ?_))
   repeat apply za
   refine pwN [] (jn2 e0 hq) ?_
   intros
   repeat apply za
   refine pwN [] (jn3 e1 e2 hj) ?_
   refine ⟨by omega, ?_⟩
   intros
   (repeat apply za); refine pwn ?_; intros
   exact zm (k + 1, os ++ [p], v + 1) [] ⟨hq, hgs.symm⟩ (by simp; omega) (by simp [wrN k (by omega)]) rfl (by simp)
  ·simp at hq
   obtain rfl : k = is.length := by omega
   rw [List.take_length] at ho2
   refine zo ?_
   refine zM 3 rfl ?_
   (repeat apply za); refine pwn ?_; intros
   repeat apply za
   exact ze (zh hd (by simp; rfl) (by simp [zk, ho2]))
open Go Hp
@[simp] theorem Zmy (d1 d2 a b c : Ob) (l : List Ob) (o : Ob × Ob × Ob) : wq (d1 :: d2 :: a :: b :: c :: l) 2 o = d1 :: d2 :: o.1 :: o.2.1 :: o.2.2 :: l := rfl
theorem HX.srt {o : Ob × Ob × Ob} {a hv mv : Nat} {r : Its Int} (h : HX o a hv mv r) : jR r := by
 obtain ⟨_, _, _, h⟩ := h (fun i => if i = a then o.1 else if i = a + 1 then o.2.1 else o.2.2) (by simp) (by simp) (by simp)
 exact h
theorem ZfM {id : Int} {r : Its Int} (h : ∀ x ∈ r, x.1 ≠ id) : qu id r = false := by
 simp only [qu, List.any_eq_false]; intro x hx; simpa using h x hx
def prV (p : Pr) : List PV := [.agg [I p.a, I p.b, I p.s]]
def qw (x : Inst) (c : List Int) (k : Nat) : List (List Pr) := (c.take k).map (jh x c)
theorem Vy (x : Inst) (c : List Int) : qw x c 0 = [] := by simp [qw]
theorem ZfN {x : Inst} {c : List Int} {k : Nat} {a : Int} (h : c.take (k + 1) = c.take k ++ [a]) : qw x c (k + 1) = qw x c k ++ [jh x c a] := by simp [qw, h]
theorem ZfO (x : Inst) (c : List Int) : qw x c c.length = c.map (jh x c) := by simp [qw]
theorem Vz (x : Inst) (c : List Int) (k : Nat) (h : k ≤ c.length) : (qw x c k).length = k := by simp [qw]; omega
def j9 (rows : List (List Pr)) (n : Nat) : List PV := rows.flatMap Enc.enc ++ List.replicate (n - rows.length) (.sc (.slice none 0 0))
theorem VA (rows : List (List Pr)) (n : Nat) (h : rows.length ≤ n) : (j9 rows n).length = n := by simp [j9]; omega
theorem ZfP (n : Nat) : j9 [] n = qk n (.slice none 0 0) := by
 unfold j9
 simp only [List.flatMap_nil, List.nil_append, List.length_nil, Nat.sub_zero]
 induction n with
 | zero => simp
 | succ n ih => rw [w9, List.replicate_succ, ih]; simp [yM, Value.cells]
theorem ZfQ (rows : List (List Pr)) : j9 rows rows.length = rows.flatMap Enc.enc := by simp [j9]
theorem ZfR (rows : List (List Pr)) (n : Nat) (r : List Pr) (h : rows.length < n) : zJ (j9 rows n) rows.length [L r] = j9 (rows ++ [r]) n := by
 unfold j9 zJ
 have h1 : (rows.flatMap Enc.enc).length = rows.length := js rows
 obtain ⟨m, hm⟩ : ∃ m, n - rows.length = m + 1 := ⟨n - rows.length - 1, by omega⟩
 rw [hm, List.replicate_succ]
 rw [List.take_append_of_le_length (by omega), List.take_of_length_le (by omega)]
 rw [List.drop_append, List.drop_of_length_le (by simp)]
 simp [h1, show n - (rows.length + 1) = m by omega]
theorem ZfS (rows : List (List Pr)) (n : Nat) (r : List Pr) : (j9 (rows ++ [r]) n)[rows.length]? = some (L r) := by
 unfold j9
 rw [List.flatMap_append, List.append_assoc, List.getElem?_append_right (by rw [js]; exact Nat.le_refl _), js]
 simp
theorem ZfT (rows : List (List Pr)) (k : Nat) (r : List Pr) (h : k < rows.length) : zJ (rows.flatMap Enc.enc) k [L r] = (rows.set k r).flatMap Enc.enc := by
 have e : ∀ l : List (List Pr), l.flatMap Enc.enc = l.map fun r => L r := fun l => by induction l <;> simp_all
 rw [e, e, zJ, List.map_set, List.set_eq_take_append_cons_drop, if_pos (by simpa using h)]
 simp
theorem Y6 : ∀ (rows : List (List Pr)) (i : Nat) (r : List Pr), zY i (rows ++ [r]) = zY i rows ++ zY (i + rows.length) [r]
 | [], i, r => by simp [zY]
 | [] :: rows, i, r => by
  simp only [List.cons_append, zY, List.length_cons]
  rw [Y6 rows (i + 1) r, show i + 1 + rows.length = i + (rows.length + 1) by omega]
 | (p :: l) :: rows, i, r => by
  simp only [List.cons_append, zY, List.length_cons]
  rw [Y6 rows (i + 1) r, show i + 1 + rows.length = i + (rows.length + 1) by omega]
theorem ZfU (rows : List (List Pr)) : zY 0 (rows ++ [[]]) = zY 0 rows := by rw [Y6]; simp [zY]
theorem ZfV (rows : List (List Pr)) (p : Pr) (tl : List Pr) : (zY 0 (rows ++ [p :: tl])).Perm (((rows.length : Int), -p.s) :: zY 0 rows) := by
 rw [Y6]
 simp only [zY, Nat.zero_add]
 exact List.perm_append_comm
theorem VB {rows : List (List Pr)} {k : Nat} (h : rows.getD k [] = []) {r : Its Int} (hp : r.Perm (zY 0 rows)) : qu (k : Int) r = false := by
 refine ZfM fun x hx e => ?_
 obtain ⟨j, p, tl, hj, rfl⟩ := (uV rows 0 x).1 (hp.subset hx)
 simp only [Nat.zero_add] at e
 have : j = k := by omega
 subst this
 rw [List.getD_eq_getElem?_getD, hj] at h
 cases h
set_option maxRecDepth 20000 in
theorem ZfW (x : Inst) (ss : List Stop) : Pure Tryz.prog 245 [.agg (zt x), L ss] (.fn (.func 260) [] [.ip [L ss], .ip (zt x)]) := by
 refine pwe Tryz.func245 Tryz.ntmps245 Tryz.results245 fun S nx hd => ?_
 repeat apply za
 refine pwn ?_
 intro v0 v1
 (repeat apply za); refine pwn ?_; intros
 refine jg 0 rfl ?_
 refine jg 1 rfl ?_
 repeat apply za
 exact ze (zh hd (by simp; rfl) rfl)
set_option maxRecDepth 20000 in
theorem ZfX (x : Inst) (ss : List Stop) (hx : qv x) (hss : ss.length ≤ 1048576) (hs : ∀ s ∈ ss, small s.c) (hnd : (ss.map (·.c)).Nodup) : vU Tryz.prog 260 [.ip [L ss], .ip (zt x)] ((yI x (ss.map (·.c))).map prV) := by
 have hcust := fun S nx hd => ZG ss hss S nx hd
 obtain ⟨zs, hzs⟩ : ∃ zs, zs = ss.map (·.c) := ⟨_, rfl⟩
 have hzl : ss.length = zs.length := by rw [hzs]; simp
 rw [← hzs, hzl] at hcust
 rw [← hzs] at hnd ⊢
 have hzsm : ∀ b ∈ zs, small b := by
  intro b hb; rw [hzs] at hb; obtain ⟨s, h1, rfl⟩ := List.mem_map.1 hb; exact hs s h1
 have hz1 := ZI zs
 have hz2 := W6 zs
 have hz3 := (Jp zs).2 hnd
 have hz4 := vj zs
 have hz5 : yI x zs = yI x (zZ zs) := Ze7 hnd hz3 hz2.symm
 have hz6 : (zZ zs).Pairwise (· < ·) := (List.Pairwise.and hz1 hz3).imp fun ⟨h1, h2⟩ => by omega
 have hzn : zs.length ≤ 1048576 := by omega
 have hcsm : ∀ b ∈ zZ zs, small b := fun b hb => hzsm b (hz2.subset hb)
 have hsort := fun (S : Store) (id ver : Nat) (hid : S id = .cells ver 3 (zs.flatMap Enc.enc)) => YX zs hid hzn
 rw [hz5]
 generalize zZ zs = c at *
 clear hzs hz1 hz5
 refine YN Tryz.func260 (by rfl) rfl Tryz.ntmps260 (congrArg Array.toList Tryz.results260) (by simp) fun l V keep nx J hJd hY A0 hA0 => ?_
 repeat apply za
 refine zP [] (by rfl) (by rfl) fun K Gc Gh hK hGc hGh X hX0 hX => ?_
 simp -implicitDefEqProofs [hX0, hX]
 try clear hX0 hX X
 refine hGc _ _ _ _ _ _ _ fun hsuf => ((hcust _ _ jr).mono ?_).v
 rintro _ _ ⟨v1, rfl, rfl⟩
 refine ⟨_, _, uO _, ?_⟩
 clear hGc hGh
 clear Gc Gh
 refine zL hsuf (D := []) (by rfl) fun Gc Gh hGc hGh X hX0 hX => ?_
 simp -implicitDefEqProofs [hX0, hX, Nat.add_assoc]
 clear hX0 hX X
 intros
 refine hK _ _ _ ?_
 clear hK hGc hGh
 clear K Gc Gh
 repeat apply za
 refine zP [] (by rfl) (by rfl) fun K Gc Gh hK hGc hGh X hX0 hX => ?_
 simp -implicitDefEqProofs [hX0, hX]
 try clear hX0 hX X
 refine hGc _ _ _ _ _ _ _ fun hsuf => ((hsort _ _ _ (by simp)).mono ?_).v
 rintro _ _ rfl
 refine ⟨_, _, y8 _ (by simp) (by simp), ?_⟩
 clear hGc hGh
 clear Gc Gh
 refine zL hsuf (D := []) (by rfl) fun Gc Gh hGc hGh X hX0 hX => ?_
 simp -implicitDefEqProofs [hX0, hX]
 clear hX0 hX X
 intros
 refine hK _ _ _ ?_
 clear hK hGc hGh
 clear K Gc Gh
 rw [← hz4]
 refine zM 1 rfl ?_
 repeat apply za
 refine zP [] (by rfl) (by rfl) fun K Gc Gh hK hGc hGh X hX0 hX => ?_
 simp -implicitDefEqProofs [hX0, hX]
 try clear hX0 hX X
 refine hGc _ _ _ _ _ _ _ fun hsuf => (ZeU.mono ?_).v
 rintro p _ ⟨hv, mv, o1, rfl, m1, rfl⟩
 refine ⟨_, _, rfl, ?_⟩
 clear hGc hGh
 clear Gc Gh
 refine zL hsuf (D := []) (by rfl) fun Gc Gh hGc hGh X hX0 hX => ?_
 simp -implicitDefEqProofs [hX0, hX]
 clear hX0 hX X
 intros
 refine hK _ _ _ ?_
 clear hK hGc hGh
 clear K Gc Gh
 simp at m1
 repeat apply za
 refine pwn ?_
 refine ⟨by omega, fun v0 => ?_⟩
 intros
 (repeat apply za); refine pwn ?_; intros
 repeat apply za
 have hpw : ∀ (row : List Pr) (a : Int), row = jh x c a → ∀ p ∈ row, IntKind.i64.wrap (-p.s) = -p.s := by
  intro row a e p hp
  rw [e] at hp
  have h1 := (JE x c a).subset hp
  unfold qg at h1
  obtain ⟨b, _, rfl⟩ := List.mem_map.1 h1
  have := JF hx a b
  show IntKind.i64.wrap (-qT x a b) = -qT x a b
  exact wr _ (by omega) (by omega)
 refine zg (zr (fun s : Nat × Its Int × (Ob × Ob × Ob) × Nat => s.1 ≤ c.length ∧ s.2.1.Perm (zY 0 (qw x c s.1)) ∧ HX s.2.2.1 (nx + 2) hv mv s.2.1) (fun (k, its, o, v) => [(0, yld l), (2, .ip (zt x)), (4, L c), (5, .ptr (nx + 3) hv 0), (6, .sl (nx + 5) v 1 0 c.length), (21, L c), (22, I c.length), (23, I k)]) (fun (k, its, o, v) => [.dead, .dead, o.1, o.2.1, o.2.2, .cells v 312 (j9 (qw x c k) c.length)]) (fun s => c.length - s.1) (0, [], o1, v0) [] ⟨by simp, by simp [Vy, zY], m1⟩ (by simp) (by simp [Vy, ZfP]) ?_)
 rintro ⟨k, its, o, v⟩ ⟨hk, hp, hm⟩
 simp only at hk hp hm ⊢
 (repeat apply za); refine pwn ?_; intros
 repeat apply za
 refine zn rfl (fun hq => ?_) (fun hq => ?_)
 ·simp at hq
  obtain ⟨a, tl, a1, a2, a3, e0⟩ := el1 rfl c k hq
  have hkl := Vz x c k (by omega)
  have hks := ZfN (x := x) a3
  have hput := ZfR (qw x c k) c.length (jh x c a) (by omega)
  have hat := ZfS (qw x c k) c.length (jh x c a)
  have hrl := VA (qw x c k) c.length (by omega)
  have hrl2 := VA (qw x c k ++ [jh x c a]) c.length (by simp; omega)
  rw [hkl] at hput hat
  have hno : qu (k : Int) its = false := VB (k := k) (rows := qw x c k) (by rw [List.getD_eq_getElem?_getD, List.getElem?_eq_none (by omega)]; rfl) hp
  have hil : its.length ≤ k := by rw [hp.length_eq]; exact Nat.le_trans (Y4 _ _) (by omega)
  refine zb (za (zg ?_))
  repeat apply za
  refine pwN [] (jn2 e0 hq) ?_
  intros
  repeat apply za
  refine pwn ?_
  refine pwC [] (ZfL x c a hx (by omega) hcsm (hcsm a (List.mem_of_getElem? a1))) (jn3 hput hrl hq) ?_
  refine ⟨by omega, ?_⟩
  intros
  have hw := hpw (jh x c a) a rfl
  have hsn := ZfV (qw x c k)
  have hsn0 := ZfU (qw x c k)
  generalize hrow : jh x c a = row at *
  have hat2 : ∀ h, (j9 (qw x c k ++ [row]) c.length)[k]'h = L row := fun h => (List.getElem?_eq_some_iff.1 hat).2
  repeat apply za
  refine pwN [] (jn3 hat2 hq hrl2) ?_
  intros
  cases row with
  | nil =>
   repeat apply za
   refine zi rfl ?_
   refine zb ?_
   (repeat apply za); refine pwn ?_; intros
   refine zm (k + 1, its, o, v) [] ⟨hq, ?_, hm⟩ (by simp; omega) (by simp [wrN k (by omega)]) rfl (by simp [hks])
   simp only [hks, hsn0]
   exact hp
  | cons p rl =>
   have hwp := hw p (by simp)
   repeat apply za
   refine zj (by simp) ?_
   repeat apply za
   refine zP [] (by rfl) (by rfl) fun K Gc Gh hK hGc hGh X hX0 hX => ?_
   simp -implicitDefEqProofs [hX0, hX, hat2, hq, hrl2, hwp]
   try clear hX0 hX X
   refine hGc _ _ _ _ _ _ _ fun hsuf => ((Vo (j := 2) hm rfl rfl rfl (k : Int) (-p.s) (by omega)).mono ?_).v
   rintro _ T ⟨rfl, o2, m2, rfl⟩
   refine ⟨_, _, rfl, ?_⟩
   rw [hno] at m2
   simp only [cond_false] at m2
   clear hGc hGh
   clear Gc Gh
   refine zL hsuf (D := []) (by rfl) fun Gc Gh hGc hGh X hX0 hX => ?_
   simp -implicitDefEqProofs [hX0, hX]
   clear hX0 hX X
   intros
   refine hK _ _ _ ?_
   clear hK hGc hGh
   clear K Gc Gh
   (repeat apply za); refine pwn ?_; intros
   refine zm (k + 1, wh ((k : Int), -p.s) its, o2, v) [] ⟨hq, ?_, m2⟩ (by simp; omega) (by simp [wrN k (by omega)]) rfl (by simp [hks])
   simp only [hks]
   have := hsn p rl
   rw [hkl] at this
   exact (ZM _ _).trans ((hp.cons _).trans this.symm)
 ·simp at hq
  obtain rfl : k = c.length := by omega
  obtain ⟨hb1, hb2, hb3⟩ := Zff (x := x) hz6
  rw [← ZfO] at hb1 hb2 hb3
  have hrl := Vz x c c.length (Nat.le_refl _)
  have hrc := ZfQ (qw x c c.length)
  rw [hrl] at hrc
  rw [hrc]
  generalize qw x c c.length = rows at *
  refine zo ?_
  repeat apply za
  refine zg (jd (σ := Nat × Store × List (List Pr) × Its Int × (Ob × Ob × Ob) × Nat) (fun s => s.1 ≤ (yI x c).length ∧ J s.1 s.2.1 ∧ Rows' c s.2.2.1 ∧ (∀ r ∈ s.2.2.1, Sd plt r) ∧ s.2.2.1.flatten.Perm ((yI x c).drop s.1) ∧ s.2.2.2.1.Perm (zY 0 s.2.2.1) ∧ HX s.2.2.2.2.1 (nx + 2) hv mv s.2.2.2.1) (fun s => [(0, yld l), (5, .ptr (nx + 3) hv 0), (6, .sl (nx + 5) s.2.2.2.2.2 1 0 c.length)]) (fun s => s.2.1) (fun s => [.dead, .dead, s.2.2.2.2.1.1, s.2.2.2.2.1.2.1, s.2.2.2.2.1.2.2, .cells s.2.2.2.2.2 312 (s.2.2.1.flatMap Enc.enc)]) (fun s => (yI x c).length - s.1) (zA (0, A0, rows, its, o, v) [] ⟨by simp, hA0, hb1, hb2, by simpa using hb3, hp, hm⟩ (by simp) rfl (by simp)) ?_)
  rintro ⟨i, A, rows, its, o, v⟩ ⟨hi, hJ, hr1, hr2, hr3, hp, hm⟩
  simp only at hi hJ hr1 hr2 hr3 hp hm ⊢
  have hrl : rows.length = c.length := hr1.len
  have hs := hm.srt
  repeat apply za
  refine zg ?_
  repeat apply za
  refine zP [] (by rfl) (by rfl) fun K Gc Gh hK hGc hGh X hX0 hX => ?_
  simp -implicitDefEqProofs [hX0, hX]
  try clear hX0 hX X
  refine hGc _ _ _ _ _ _ _ fun hsuf => ((ZeT (j := 2) hm rfl rfl rfl).mono ?_).v
  rintro _ T ⟨rfl, o2, m2, rfl⟩
  refine ⟨_, _, rfl, ?_⟩
  cases its with
  | nil =>
   clear hGc hGh
   clear Gc Gh
   refine zL hsuf (D := []) (by rfl) fun Gc Gh hGc hGh X hX0 hX => ?_
   simp -implicitDefEqProofs [hX0, hX, uf, zx, jq]
   clear hX0 hX X
   intros
   refine hK _ _ _ ?_
   clear hK hGc hGh
   clear K Gc Gh
   have h0 : ∀ r ∈ rows, r = [] := by
    intro r hr
    cases r with
    | nil => rfl
    | cons p tl =>
     obtain ⟨j, hj⟩ := List.mem_iff_getElem?.1 hr
     have := (uV rows 0 ((j : Int), -p.s)).2 ⟨j, p, tl, hj, by rw [Nat.zero_add]⟩
     rw [List.nil_perm.1 hp] at this
     cases this
   have hfin := Ze1 hr3 hi h0
   repeat apply za
   refine pwN [(2, 61)] zv ?_
   intros
   repeat apply za
   refine zj rfl ?_
   repeat apply za
   exact ze (xM (hJd _ _ hJ) rfl (by simpa [hfin] using hJ))
  | cons it r =>
   obtain ⟨q, y, tl, e1, e2, e3, e4, e5, e6, e7⟩ := Zfg hz6 hr1 hr2 hr3 hs hp.symm
   subst e1
   have hql := (List.getElem?_eq_some_iff.1 e2).1
   have hql2 : q < c.length := by omega
   obtain ⟨y', tr, a1, a2, a3, e0⟩ := el1 rfl rows q hql
   rw [e2] at a1; cases a1
   have hil := (List.getElem?_eq_some_iff.1 e4).1
   have hyx : ((yI x c).map prV)[i]? = some (prV y) := by rw [List.getElem?_map, e4]; rfl
   clear hGc hGh
   clear Gc Gh
   refine zL hsuf (D := []) (by rfl) fun Gc Gh hGc hGh X hX0 hX => ?_
   simp -implicitDefEqProofs [hX0, hX, uf, zx, jq]
   clear hX0 hX X
   intros
   refine hK _ _ _ ?_
   clear hK hGc hGh
   clear K Gc Gh
   repeat apply za
   refine zP [(2, 61)] (by rfl) (by rfl) fun K Gc Gh hK hGc hGh X hX0 hX => ?_
   simp -implicitDefEqProofs [hX0, hX, e0, hql2, hrl, undef]
   try clear hX0 hX X
   refine hGh _ _ _ _ _ fun hsuf => ZB rfl rfl rfl (hY _ _ _ _ hyx hJ) ?_
   rintro _ ⟨A', hJ', rfl⟩
   refine ⟨_, _, rfl, ?_⟩
   clear hGc hGh
   clear Gc Gh
   refine zL hsuf (D := [(2, 61)]) (by rfl) fun Gc Gh hGc hGh X hX0 hX => ?_
   simp -implicitDefEqProofs [hX0, hX]
   try clear hX0 hX X
   intros
   refine hK _ _ _ ?_
   clear hK hGc hGh
   clear K Gc Gh
   repeat apply za
   refine zi rfl ?_
   refine zb ?_
   have hsp := ZfT rows q tl hql
   have hrl2 : (rows.set q tl).length = c.length := by simp [hrl]
   have hql3 : q < (rows.set q tl).length := by omega
   obtain ⟨y', tr', a1, a2, a3, e0'⟩ := el1 rfl (rows.set q tl) q hql3
   rw [List.getElem?_set_self hql] at a1; cases a1
   have hno : qu (q : Int) r = false := VB (rows := rows.set q []) (by rw [List.getD_eq_getElem?_getD, List.getElem?_set_self hql]; rfl) e3
   have hlen : r.length ≤ 1048576 := by rw [e3.length_eq]; exact Nat.le_trans (Y4 _ _) (by simp; omega)
   have hperm := fun p tz => Y3 rows 0 q p tz hql
   repeat apply za
   refine pwN [] (jn4 e0 hql2 hrl hsp) ?_
   refine ⟨by omega, ?_⟩
   intros
   repeat apply za
   refine pwN [] (jn3 e0' hql2 hrl2) ?_
   intros
   cases tl with
   | nil =>
    repeat apply za
    refine zi rfl ?_
    refine zb ?_
    exact zm (i + 1, A', rows.set q [], r, o2, v) [] ⟨hil, hJ', e5, e6, e7, e3, m2⟩ (by simp; omega) (by simp) rfl (by simp)
   | cons z tz =>
    have hzm : z ∈ (rows.set q (z :: tz)).flatten := List.mem_flatten.2 ⟨z :: tz, List.mem_of_getElem? (List.getElem?_set_self hql), by simp⟩
    have hzp : z ∈ xx x c := (uh x c).subset (List.mem_of_mem_drop (e7.subset hzm))
    have hzs := (ZO.1 hzp).2.2.2
    have hwz : IntKind.i64.wrap (-z.s) = -z.s := by
     rw [hzs]
     have := JF hx z.a z.b
     exact wr _ (by omega) (by omega)
    repeat apply za
    refine zj (by simp) ?_
    repeat apply za
    refine zP [] (by rfl) (by rfl) fun K Gc Gh hK hGc hGh X hX0 hX => ?_
    simp -implicitDefEqProofs [hX0, hX, e0', hql2, hrl2, hwz]
    try clear hX0 hX X
    refine hGc _ _ _ _ _ _ _ fun hsuf => ((Vo (j := 2) m2 rfl rfl rfl (q : Int) (-z.s) (by simp; omega)).mono ?_).v
    rintro _ T ⟨rfl, o3, m3, rfl⟩
    refine ⟨_, _, rfl, ?_⟩
    simp only [List.tail_cons] at m3
    rw [hno] at m3
    simp only [cond_false] at m3
    clear hGc hGh
    clear Gc Gh
    refine zL hsuf (D := []) (by rfl) fun Gc Gh hGc hGh X hX0 hX => ?_
    simp -implicitDefEqProofs [hX0, hX]
    clear hX0 hX X
    intros
    refine hK _ _ _ ?_
    clear hK hGc hGh
    clear K Gc Gh
    refine zm (i + 1, A', rows.set q (z :: tz), wh ((q : Int), -z.s) r, o3, v) [] ⟨hil, hJ', e5, e6, e7, ?_, m3⟩ (by simp; omega) (by simp) rfl (by simp)
    have := hperm z tz
    rw [Nat.zero_add] at this
    exact (ZM _ _).trans ((e3.cons _).trans this.symm)
open Go Hp
theorem ZfY {x : Inst} {c : List Int} (h : c.Nodup) (hc : c.length ≤ 1000) : (yI x c).length ≤ 1000000 := by
 rw [Ze4 h]
 exact Nat.le_trans (Nat.mul_le_mul hc (Nat.sub_le _ _)) (Nat.mul_le_mul_left 1000 hc)
open Go Hp
open Go Hp
def vp (x : Inst) (ss : List Stop) (i : Nat) : Day × Int := ((yI x (ss.map (·.c))).take i).foldl (yG x) (ss.map fun s => [s], (ss.length : Int))
theorem ZfZ (x : Inst) (ss : List Stop) : vp x ss 0 = (ss.map fun s => [s], (ss.length : Int)) := by simp [vp]
theorem Zf0 {x : Inst} {ss : List Stop} {i : Nat} {p : Pr} (h : (yI x (ss.map (·.c)))[i]? = some p) : vp x ss (i + 1) = yG x (vp x ss i) p := by
 unfold vp
 obtain ⟨h1, e⟩ := List.getElem?_eq_some_iff.1 h
 rw [List.take_succ_eq_append_getElem h1, e, List.foldl_append]; rfl
theorem Zf1 (x : Inst) (ss : List Stop) : vp x ss (yI x (ss.map (·.c))).length = JG x ss := by simp [vp, JG]
theorem Zf2 (x : Inst) (T : Day) (num : Int) (p : Pr) : num - 1 ≤ (yG x (T, num) p).2 ∧ (yG x (T, num) p).2 ≤ num := by
 unfold yG uW
 cases yh x (T, num).2 p (xy (T, num).1 p.a) (xy (T, num).1 p.b) ((T, num).1.getD (xy (T, num).1 p.a) []) ((T, num).1.getD (xy (T, num).1 p.b) []) <;> simp <;> omega
set_option maxRecDepth 20000 in
set_option maxHeartbeats 1600000 in
theorem Zf3 (x : Inst) (ss : List Stop) (hx : qv x) (hxc : x.cust.length ≤ 1048576) (hss : ss.length ≤ 1000) (hs : ∀ s ∈ ss, small s.c) (hnd : (ss.map (·.c)).Nodup) : Pure Tryz.prog 218 [.agg (zt x), L ss] (.agg [L (ju x ss)]) := by
 have hpl := ZfY (x := x) hnd (by simpa using hss)
 have hkey : KeyOk (.int .i64) yu := ue .i64
 have hdist : ∀ k s, ss[k]? = some s → s.c ∉ (ss.take k).map (·.c) := by
  intro k s h hm
  obtain ⟨s', h1, h2⟩ := List.mem_map.1 hm
  obtain ⟨j, hj⟩ := List.mem_iff_getElem?.1 h1
  rw [List.getElem?_take] at hj
  split at hj
  ·rename_i hjk
   have e1 : (ss.map (·.c))[j]? = some s.c := by rw [List.getElem?_map, hj, ← h2]; rfl
   have e2 : (ss.map (·.c))[k]? = some s.c := by rw [List.getElem?_map, h]; rfl
   obtain ⟨g1, g2⟩ := List.getElem?_eq_some_iff.1 e1
   obtain ⟨g3, g4⟩ := List.getElem?_eq_some_iff.1 e2
   exact List.pairwise_iff_getElem.1 hnd j k g1 g3 hjk (g2.trans g4.symm)
  ·cases hj
 refine pwe Tryz.func218 Tryz.ntmps218 Tryz.results218 fun S nx hd => ?_
 repeat apply za
 refine pwn ?_
 intro v0 v1
 repeat apply za
 refine pwn ?_
 intro v2 v3 v4
 refine qB 3 6 46 1 rfl rfl fun v5 => ?_
 (repeat apply za); refine pwn ?_; intros
 repeat apply za
 refine zg (zr (fun s : Nat × Day × List (Value × PV) × (Int → Option Int) × Nat => s.1 ≤ ss.length ∧ s.2.1 = (ss.take s.1).map (fun s => [s]) ∧ MapIs yu I s.2.2.1 s.2.2.2.1 ∧ JI (ss.take s.1) s.2.1 s.2.2.2.1) (fun (k, T, es, g, v5) => [(1, L ss), (2, .ptr nx v0 0), (4, .ptr (nx + 1) v1 0), (5, .ptr (nx + 4) v4 0), (18, L ss), (19, I ss.length), (20, I k)])
  (fun (k, T, es, g, v5) => [.cells v0 25 (zt x), .cells v1 66 [.sc (.slice none 0 0)], .map v2 es, .cells v3 290 (uX x (nx + 5) v5 k ss.length (nx + 2) v2), .cells v4 287 [.ptr (nx + 3) v3 0], .cells v5 46 (T.flatMap Enc.enc)]) (fun s => ss.length - s.1) (0, [], [], fun _ => none, v5) [] ⟨by simp, by simp, Ve _ _, by simpa using JI.nil⟩ (by simp) (by simp) ?_)
 rintro ⟨k, T, es, g, v5⟩ ⟨hk, hT, hm, hI⟩
 simp only at hk hT hm hI ⊢
 have hTl : T.length = k := by rw [hT]; simp; omega
 (repeat apply za); refine pwn ?_; intros
 repeat apply za
 refine zn rfl (fun hq => ?_) (fun hq => ?_)
 ·simp at hq
  obtain ⟨s, tl, a1, a2, a3, e1, e0⟩ := el 2 rfl ss k hq
  obtain ⟨rs, f1, _, _, f4, _⟩ := hm.find hkey s.c
  have hnew := f4 (k : Int)
  have hIn := hI.snoc s (hdist k s a1)
  have hkl : (ss.take k).length = k := by simp; omega
  rw [hkl, ← a3] at hIn
  have hTs : T ++ [[s]] = (ss.take (k + 1)).map fun s => [s] := by rw [a3, hT]; simp
  have htf : (T.flatMap Enc.enc).take k = T.flatMap Enc.enc := List.take_of_length_le (by rw [js]; omega)
  have htl : (T.flatMap Enc.enc).length = k := by rw [js, hTl]
  refine zb (za (zg ?_))
  repeat apply za
  refine pwN [] (jn3 e1 e0 hq) ?_
  intro v6
  repeat apply za
  refine pwY (some [nx + 4, nx + 6]) (Row.pures [0, 1, 2, 3, 5, 6, 7] (.alt 4 (.alt 8 (Row.pures [9, 10] (.alt 11 (.done) .stop)) .stop) .stop)) mixed (jn2 htf htl) ?_
  refine ⟨⟨by omega, by omega⟩, ?_⟩
  intros
  repeat apply za
  refine xL (some [nx + 3, nx + 4, nx + 6]) (Row.pures [0, 1, 2, 3, 4, 5, 6] (.alt 7 (.done) .stop)) mixed (by rfl) (by rfl) (by rfl) fun K Gp Gc Gh hK hGp hGc hGh X hX0 hX1 hX2 hX => ?_
  simp -implicitDefEqProofs [hX0, hX1, hX2, hX]
  try clear hX0 hX1 hX2 hX X
  refine hGh _ _ _ _ _ (by rfl) (Zy (.inl rfl) Tryz.underlying288 Tryz.underlying3 rfl rfl rfl (by simp) f1 ?_)
  rw [y8 _ (by omega) (by simp), show nx + 2 - nx = 2 from by omega]
  refine ⟨by simp [zT], ?_⟩
  clear hGp hGc hGh
  clear Gp Gc Gh
  refine qS fun Gp Gc Gh hGp hGc hGh X hX0 hX1 hX2 hX => ?_
  simp -implicitDefEqProofs [hX0, hX1, hX2, hX]
  try clear hX0 hX1 hX2 hX X
  refine hK _ _ _ ?_
  clear hK hGp hGc hGh
  clear K Gp Gc Gh
  (repeat apply za); refine pwn ?_; intros
  exact zm (k + 1, T ++ [[s]], qc (yu s.c) (I k) es rs, yF g s.c (some (k : Int)), v5 + 1) [_] ⟨hq, hTs, hnew, hIn⟩ (by simp; omega) (by simp [wrN k (by omega)]) rfl (by simp; rfl)
 ·simp at hq
  obtain rfl : k = ss.length := by omega
  rw [List.take_length] at hT hI
  refine zo ?_
  repeat apply za
  refine pwn ?_
  refine pwc (ZfW x ss) ?_
  intros
  repeat apply za
  refine zg (ZD (xs := (yI x (ss.map (·.c))).map prV) (σ := Day × Int × List (Value × PV) × (Int → Option Int)) (fun i s => (s.1, s.2.1) = vp x ss i ∧ i ≤ (yI x (ss.map (·.c))).length ∧ MapIs yu I s.2.2.1 s.2.2.2 ∧ JI ss s.1 s.2.2.2 ∧ (ss.length : Int) - i ≤ s.2.1 ∧ s.2.1 ≤ ss.length) [(4, .ptr (nx + 1) v1 0), (5, .ptr (nx + 4) v4 0)] (fun _ => S)
   (fun (T, num, es, g) => [.cells v0 25 (zt x), .cells v1 66 [.sc (.slice none 0 0)], .map v2 es, .cells v3 290 (uX x (nx + 5) v5 ss.length num (nx + 2) v2), .cells v4 287 [.ptr (nx + 3) v3 0], .cells v5 46 (T.flatMap Enc.enc)]) (T, (ss.length : Int), es, g)
   (ZfX x ss hx (by omega) hs hnd) rfl (by intro x hx; obtain ⟨y, _, rfl⟩ := List.mem_map.1 hx; rfl) (by decide) (by simp) ⟨by rw [ZfZ, hT], by simp, hm, hI, by simp, by simp⟩ rfl (by simp) (by simp) ?_ ?_)
  ·clear hm hI hT hTl
   rintro l i ⟨T, num, es, g⟩ more y ⟨hst, hi, hm, hI, hn1, hn2⟩ hy
   simp only at hst hi hm hI hn1 hn2 ⊢
   rw [List.getElem?_map] at hy
   obtain ⟨p, hp, rfl⟩ := Option.map_eq_some_iff.1 hy
   obtain ⟨hil, hpi⟩ := List.getElem?_eq_some_iff.1 hp
   have hmem := ZO.1 ((uh x _).subset (List.mem_of_getElem? hp))
   have hsucc := Zf0 hp
   rw [← hst] at hsucc
   obtain ⟨nb1, nb2⟩ := Zf2 x T num p
   repeat apply za
   refine zP [] (by rfl) (by rfl) fun K Gc Gh hK hGc hGh X hX0 hX => ?_
   simp -implicitDefEqProofs [hX0, hX, prV]
   try clear hX0 hX X
   intro v6
   refine hK _ _ _ ?_
   clear hK hGc hGh
   clear K Gc Gh
   refine zg ?_
   repeat apply za
   refine zP [] (by rfl) (by rfl) fun K Gc Gh hK hGc hGh X hX0 hX => ?_
   simp -implicitDefEqProofs [hX0, hX]
   try clear hX0 hX X
   refine hGc _ _ _ _ _ _ _ fun hsuf => ((Zfp x ss T g num es hxc hss (by omega) hI hm (jid := nx + 3) (tid := nx + 5) (mid := nx + 2) (by rw [yU]; rfl) (by rw [yU]; rfl) (by rw [yU]; rfl) (by omega) (by omega) (by omega) p hmem.1 hmem.2.1).mono ?_).v
   rintro _ _ ⟨es2, g2, m2, i2, rfl⟩
   refine ⟨_, _, (by rw [y8 _ (by omega) (by simp), y8 _ (by omega) (by simp), y8 _ (by omega) (by simp)]), ?_⟩
   clear hGc hGh
   clear Gc Gh
   refine zL hsuf (D := []) (by rfl) fun Gc Gh hGc hGh X hX0 hX => ?_
   simp -implicitDefEqProofs [hX0, hX, (show nx + 3 - nx = 3 from by omega), (show nx + 5 - nx = 5 from by omega), (show nx + 2 - nx = 2 from by omega)]
   clear hX0 hX X
   intros
   refine hK _ _ _ ?_
   clear hK hGc hGh
   clear K Gc Gh
   simp only [qq]
   exact jP ((yG x (T, num) p).1, (yG x (T, num) p).2, es2, g2) [_] ⟨hsucc.symm, by omega, m2, i2, by simp only; omega, by simp only; omega⟩ rfl (by simp; rfl)
  ·clear hm hI hT hTl
   rintro ⟨T, num, es, g⟩ ⟨hst, -, hm, hI, -, -⟩
   simp only [List.length_map] at hst hI ⊢
   rw [Zf1] at hst
   have hTl := hI.len
   have hjp : ju x ss = T.filter fun t => !t.isEmpty := by unfold ju; rw [← hst]
   rw [hjp]
   repeat apply za
   refine pwn ?_
   intro v6
   refine qB 6 0 72 1 rfl rfl fun v7 => ?_
   (repeat apply za); refine pwn ?_; intros
   repeat apply za
   refine zg (zr (fun s : Nat × Day × Nat => s.1 ≤ T.length ∧ s.2.1 = (T.take s.1).filter fun t => !t.isEmpty) (fun (k, out, v7) => [(4, .ptr (nx + 1) v1 0), (9, .ptr (nx + 6) v6 0), (54, .sl (nx + 5) v5 1 0 ss.length), (55, I ss.length), (56, I k)]) (fun (k, out, v7) => [.cells v0 25 (zt x), .cells v1 66 [.sc (.slice none 0 0)], .map v2 es, .cells v3 290 (uX x (nx + 5) v5 ss.length num (nx + 2) v2), .cells v4 287 [.ptr (nx + 3) v3 0], .cells v5 46 (T.flatMap Enc.enc), .cells v6 66 [.sl (nx + 7) v7 1 0 out.length], .cells v7 72 (out.flatMap Enc.enc)]) (fun s => T.length - s.1) (0, [], v7) [] ⟨by simp, by simp⟩ (by simp) (by simp) ?_)
   rintro ⟨k, out, v7⟩ ⟨hk, ho⟩
   simp only at hk ho ⊢
   have hol : out.length ≤ k := by rw [ho]; exact Nat.le_trans (List.length_filter_le _ _) (by simp; omega)
   (repeat apply za); refine pwn ?_; intros
   repeat apply za
   refine zn rfl (fun hq => ?_) (fun hq => ?_)
   ·simp at hq
    obtain ⟨t, tl, a1, a2, a3, e0⟩ := el1 rfl T k (by omega)
    have hfs : (T.take (k + 1)).filter (fun t => !t.isEmpty) = out ++ (if t = [] then [] else [t]) := by
     rw [a3, List.filter_append, ← ho]
     cases t <;> simp
    refine zb (za (zg ?_))
    repeat apply za
    refine pwN [] (jn3 e0 hq hTl) ?_
    intros
    (repeat apply za); refine pwn ?_; intros
    cases t with
    | nil =>
     rw [if_pos rfl, List.append_nil] at hfs
     repeat apply za
     refine zi (by simp) ?_
     refine zb ?_
     (repeat apply za); refine pwn ?_; intros
     exact zm (k + 1, out, v7) [] ⟨by omega, hfs.symm⟩ (by simp; omega) (by simp [wrN k (by omega)]) rfl (by simp)
    | cons s t =>
     rw [if_neg (by simp)] at hfs
     repeat apply za
     refine zj (by simp) ?_
     repeat apply za
     refine pwn ?_
     refine ⟨by omega, ?_⟩
     intros
     (repeat apply za); refine pwn ?_; intros
     exact zm (k + 1, out ++ [s :: t], v7 + 1) [] ⟨by omega, hfs.symm⟩ (by simp; omega) (by simp [wrN k (by omega)]) rfl (by simp)
   ·simp at hq
    obtain rfl : k = T.length := by omega
    rw [List.take_length] at ho
    refine zo ?_
    refine zM 7 rfl ?_
    (repeat apply za); refine pwn ?_; intros
    repeat apply za
    exact ze (zh hd (by simp; rfl) (by simp [zk, ho]))
open Go Hp
abbrev yx : PV := .sc (.slice none 0 0)
open Go Hp
def ui (pl : PV) : Prop := pl = yx ∨ ∃ n cs, pl = .lst n cs
theorem uj (l : List Stop) : ui (L l) := .inr ⟨_, _, rfl⟩
abbrev uY (x : Inst) (b : Int) : PV := .fn (.func 214) [] [.ip (zt x), .ip [I b]]
abbrev fsL (x : Inst) (pl : PV) (b : Int) : List PV := [.fn (.func 215) [] [.ip [pl]], .fn (.func 217) [] [.ip [uY x b], .ip (zt x), .ip [pl]], .fn (.func 219) [] [.ip [uY x b], .ip [pl]], .fn (.func 220) [] [.ip (zt x), .ip [pl], .ip [uY x b]]]
set_option maxRecDepth 20000 in
theorem Zf4 (x : Inst) (pl : PV) (b : Int) (hp : ui pl) : Pure Tryz.prog 180 [.agg (zt x), pl, I b] (.fn (.func 222) [] [.ip [.lst 4 (fsL x pl b)]]) := by
 rcases hp with rfl | ⟨n, cs, rfl⟩
 all_goals
  refine pwe Tryz.func180 Tryz.ntmps180 Tryz.results180 fun S nx hd => ?_
  repeat apply za
  refine pwn ?_
  intro v0 v1 v2
  refine jg 0 rfl ?_
  refine jg 1 rfl ?_
  refine jg 2 rfl ?_
  repeat apply za
  refine pwn ?_
  intro v3
  refine jg 3 rfl ?_
  repeat apply za
  refine pwn ?_
  intro v4
  refine jg 4 rfl ?_
  (repeat apply za); refine pwn ?_; intros
  repeat apply za
  exact ze (zh hd (by simp; rfl) rfl)
set_option maxRecDepth 20000 in
theorem Zf5 (pl : PV) (d : Day) (hp : ui pl) (hA : Pure Tryz.prog 216 [pl] (.agg [L d])) : Pure Tryz.prog 215 [.ip [pl]] (.tup [.agg [L d], B true]) := by
 rcases hp with rfl | ⟨n, cs, rfl⟩
 all_goals
  refine pwe Tryz.func215 Tryz.ntmps215 Tryz.results215 fun S nx hd => ?_
  repeat apply za
  refine pwn ?_
  intro v0
  repeat apply za
  refine pwn ?_
  refine pwc hA ?_
  intros
  repeat apply za
  exact ze (zh hd (by simp; rfl) rfl)
set_option maxRecDepth 20000 in
theorem JL (x : Inst) (b : Int) (d e : Day) (n : Int) (hI : Pure Tryz.prog 76 [.agg (zt x), .agg [L d], I b] (.tup [.agg [L e], I n])) : Pure Tryz.prog 214 [.agg [L d], .ip (zt x), .ip [I b]] (.agg [L e]) := by
 refine pwe Tryz.func214 Tryz.ntmps214 Tryz.results214 fun S nx hd => ?_
 repeat apply za
 refine pwn ?_
 intro v0 v1
 repeat apply za
 refine pwn ?_
 refine pwc hI ?_
 intros
 (repeat apply za); refine pwn ?_; intros
 repeat apply za
 exact ze (zh hd (by simp; rfl) rfl)
set_option maxRecDepth 20000 in
theorem Zf6 (x : Inst) (pl : PV) (b : Int) (d e : Day) (n : Int) (hp : ui pl) (hJ : Pure Tryz.prog 218 [.agg (zt x), pl] (.agg [L d])) (hI : Pure Tryz.prog 76 [.agg (zt x), .agg [L d], I b] (.tup [.agg [L e], I n])) : Pure Tryz.prog 217 [.ip [uY x b], .ip (zt x), .ip [pl]] (.tup [.agg [L e], B true]) := by
 have hF := JL x b d e n hI
 rcases hp with rfl | ⟨n, cs, rfl⟩
 all_goals
  refine pwe Tryz.func217 Tryz.ntmps217 Tryz.results217 fun S nx hd => ?_
  repeat apply za
  refine pwn ?_
  intro v0
  repeat apply za
  refine pwY (some []) (Row.pures [0, 1, 2, 3, 4] (.alt 5 (Row.pures [6] .done) .stop)) mixed trivial ?_
  refine pwP (hJ) trivial ?_
  refine pwP (hF) trivial ?_
  intros
  repeat apply za
  exact ze (zh hd (by simp; rfl) rfl)
set_option maxRecDepth 20000 in
theorem Zf7 (x : Inst) (pl : PV) (b : Int) (d e : Day) (n : Int) (hp : ui pl) (hA : Pure Tryz.prog 216 [pl] (.agg [L d])) (hI : Pure Tryz.prog 76 [.agg (zt x), .agg [L d], I b] (.tup [.agg [L e], I n])) : Pure Tryz.prog 219 [.ip [uY x b], .ip [pl]] (.tup [.agg [L e], B true]) := by
 have hF := JL x b d e n hI
 rcases hp with rfl | ⟨n, cs, rfl⟩
 all_goals
  refine pwe Tryz.func219 Tryz.ntmps219 Tryz.results219 fun S nx hd => ?_
  repeat apply za
  refine pwn ?_
  intro v0
  repeat apply za
  refine pwY (some []) (Row.pures [0, 1, 2, 3] (.alt 4 (Row.pures [5] .done) .stop)) mixed trivial ?_
  refine pwP (hA) trivial ?_
  refine pwP (hF) trivial ?_
  intros
  repeat apply za
  exact ze (zh hd (by simp; rfl) rfl)
set_option maxRecDepth 20000 in
theorem VC (x : Inst) (pl : PV) (b : Int) (d e : Day) (ok : Bool) (n : Int) (hp : ui pl) (hR : Pure Tryz.prog 221 [.agg (zt x), pl] (.tup [.agg [L d], B ok])) (hI : ok = true → Pure Tryz.prog 76 [.agg (zt x), .agg [L d], I b] (.tup [.agg [L e], I n])) :
  Pure Tryz.prog 220 [.ip (zt x), .ip [pl], .ip [uY x b]] (.tup [.agg [bif ok then L e else yx], B ok]) := by
 rcases hp with rfl | ⟨n, cs, rfl⟩
 all_goals
  cases ok with
  | false =>
   refine pwe Tryz.func220 Tryz.ntmps220 Tryz.results220 fun S nx hd => ?_
   repeat apply za
   refine pwn ?_
   intro v0
   repeat apply za
   refine pwn ?_
   refine pwc hR ?_
   intro v1
   intros
   (repeat apply za); refine pwn ?_; intros
   repeat apply za
   refine zj rfl ?_
   (repeat apply za); refine pwn ?_; intros
   repeat apply za
   exact ze (zh hd (by simp; rfl) rfl)
  | true =>
   have hF := JL x b d e _ (hI rfl)
   refine pwe Tryz.func220 Tryz.ntmps220 Tryz.results220 fun S nx hd => ?_
   repeat apply za
   refine pwn ?_
   intro v0
   repeat apply za
   refine pwn ?_
   refine pwc hR ?_
   intro v1
   intros
   (repeat apply za); refine pwn ?_; intros
   repeat apply za
   refine zi rfl ?_
   refine zb ?_
   repeat apply za
   refine pwn ?_
   refine pwc hF ?_
   intros
   repeat apply za
   exact ze (zh hd (by simp; rfl) rfl)
set_option maxRecDepth 20000 in
theorem Zf8 (fs : List PV) (rs : List (Option Day)) (hl : rs.length = fs.length) (hn : fs.length ≤ 1000)
  (h : ∀ (k : Nat) f, fs[k]? = some f → ∃ fk caps p, f = .fn (.func fk) [] caps ∧ Pure Tryz.prog fk caps (.tup [.agg [p], B (rs.getD k none).isSome]) ∧ ∀ d, rs.getD k none = some d → p = L d) :
  vU Tryz.prog 222 [.ip [.lst fs.length fs]] ((rs.filterMap id).map fun d => [.agg [L d]]) := by
 refine YN Tryz.func222 (by rfl) rfl Tryz.ntmps222 (congrArg Array.toList Tryz.results222) (by simp) fun l V keep nx J hJd hY A0 hA0 => ?_
 (repeat apply za); refine pwn ?_; intros
 repeat apply za
 refine zg (jd (σ := Nat × Store) (fun s => s.1 ≤ fs.length ∧ J ((rs.take s.1).filterMap id).length s.2) (fun s => [(0, yld l), (7, .lst fs.length fs), (8, I fs.length), (9, I s.1)]) (fun s => s.2) (fun s => []) (fun s => fs.length - s.1) (zA (0, A0) [] (by simp [hA0]) (by simp) rfl (by simp)) ?_)
 rintro ⟨k, A⟩ ⟨hk, hJ⟩
 simp only at hk hJ ⊢
 (repeat apply za); refine pwn ?_; intros
 repeat apply za
 refine zn rfl (fun hc => ?_) (fun hc => ?_)
 ·simp at hc
  have e0 : fs.drop k = fs[k] :: fs.drop (k + 1) := List.drop_eq_getElem_cons hc
  obtain ⟨fk, caps, p, hf, hP, hd⟩ := h k fs[k] (List.getElem?_eq_getElem hc)
  rw [hf] at e0
  have hkr : k < rs.length := by omega
  have htk : rs.take (k + 1) = rs.take k ++ [rs[k]] := List.take_succ_eq_append_getElem hkr
  have hg : rs.getD k none = rs[k] := by rw [List.getD_eq_getElem?_getD, List.getElem?_eq_getElem hkr]; rfl
  rw [hg] at hP hd
  refine zb (za (zg ?_))
  repeat apply za
  refine pwN [] (jn2 e0 hc) ?_
  intros
  cases hr : rs[k] with
  | none =>
   rw [hr] at hP htk
   simp only [Option.isSome_none] at hP
   have hlen : ((rs.take (k + 1)).filterMap id).length = ((rs.take k).filterMap id).length := by rw [htk]; simp
   repeat apply za
   refine pwn ?_
   refine pwc hP ?_
   intro v0
   intros
   repeat apply za
   refine pwN [(1, 19)] zv ?_
   intros
   repeat apply za
   refine zi rfl ?_
   refine zb ?_
   (repeat apply za); refine pwn ?_; intros
   exact zm (k + 1, A) [_] ⟨hc, by rw [hlen]; exact hJ⟩ (by simp; omega) (by simp [wrN k (by omega)]) rfl (by simp; rfl)
  | some d =>
   obtain rfl := hd d hr
   rw [hr] at hP htk
   simp only [Option.isSome_some] at hP
   have hlen : ((rs.take (k + 1)).filterMap id).length = ((rs.take k).filterMap id).length + 1 := by rw [htk]; simp
   have hx : ((rs.filterMap id).map fun d => [PV.agg [L d]])[((rs.take k).filterMap id).length]? = some [PV.agg [L d]] := by
    have e1 : rs.filterMap id = (rs.take k).filterMap id ++ (d :: (rs.drop (k + 1)).filterMap id) := by
     conv => lhs; rw [← List.take_append_drop k rs, List.drop_eq_getElem_cons hkr, hr]
     simp
    rw [List.getElem?_map, e1, List.getElem?_append_right (Nat.le_refl _), Nat.sub_self]
    rfl
   repeat apply za
   refine pwn ?_
   refine pwc hP ?_
   intro v0
   intros
   repeat apply za
   refine zP [(1, 19)] (by rfl) (by rfl) fun K Gc Gh hK hGc hGh X hX0 hX => ?_
   simp -implicitDefEqProofs [hX0, hX]
   try clear hX0 hX X
   refine hGh _ _ _ _ _ fun hsuf => ZB rfl rfl rfl (hY _ _ _ _ hx hJ) ?_
   rintro _ ⟨A', hJ', rfl⟩
   refine ⟨_, _, rfl, ?_⟩
   clear hGc hGh
   clear Gc Gh
   refine zL hsuf (D := [(1, 19)]) (by rfl) fun Gc Gh hGc hGh X hX0 hX => ?_
   simp -implicitDefEqProofs [hX0, hX]
   try clear hX0 hX X
   intros
   refine hK _ _ _ ?_
   clear hK hGc hGh
   clear K Gc Gh
   repeat apply za
   refine zi rfl ?_
   refine zb ?_
   (repeat apply za); refine pwn ?_; intros
   exact zm (k + 1, A') [_] ⟨hc, by rw [hlen]; exact hJ'⟩ (by simp; omega) (by simp [wrN k (by omega)]) rfl (by simp; rfl)
 ·simp at hc
  obtain rfl : k = fs.length := by omega
  rw [← hl, List.take_length] at hJ
  refine zo (xM (hJd _ _ hJ) rfl ?_)
  simpa using hJ
def qH (x : Inst) (st : Day × Int × Bool) (d : Day) : Day × Int × Bool := if yt x d = 0 then (if st.2.2 = false ∨ W (yf x d) < st.2.1 then (d, W (yf x d), true) else st) else st
def xc (x : Inst) (ds : List Day) : Day × Int × Bool := ds.foldl (qH x) ([], 0, false)
open Go Hp
theorem Zf9 {K : (Nat → PV) → Store → Prop} {Q : Exit → (Nat → PV) → Store → Prop} {i : Nat} {F : Nat → PV} {S : Store} (h : Q (.exit i) F S) : wJ K Q (.exit i) F S := h
theorem Zga {Q : Exit → (Nat → PV) → Store → Prop} {i : Nat} {F : Nat → PV} {S : Store} (h : Q .normal F S) : qq i Q (.exit i) F S := by simp [qq, h]
def qU (x : Inst) (e : Int) (ds : List Day) : Day × Int := if e = 0 then (bif (xc x ds).2.2 then ((xc x ds).1, 0) else ([], 14)) else ([], e)
set_option maxRecDepth 20000 in
set_option maxHeartbeats 800000 in
theorem VD (x : Inst) (pl : PV) (b e : Int) (ds : List Day) (hp : ui pl) (hx : x.cust.length ≤ 1048576) (hF : Pure Tryz.prog 179 [.agg (zt x), pl] (I e))
  (hit : e = 0 → vU Tryz.prog 222 [.ip [.lst 4 (fsL x pl b)]] (ds.map fun d => [.agg [L d]])) (hds : e = 0 → ∀ d ∈ ds, DayOk d ∧ d.flatten.length ≤ 1048576) :
  Pure Tryz.prog 130 [.agg (zt x), pl, I b] (.tup [.agg [L (qU x e ds).1], I (qU x e ds).2]) := by
 have hT := Zf4 x pl b hp
 refine pwe Tryz.func130 Tryz.ntmps130 Tryz.results130 fun S nx hd => ?_
 repeat apply za
 refine pwn ?_
 intro v0 v1
 repeat apply za
 refine pwn ?_
 refine pwc hF ?_
 intros
 by_cases he : e = 0
 case neg =>
  (repeat apply za); refine pwn ?_; intros
  repeat apply za
  refine zj (by simp [he]) ?_
  (repeat apply za); refine pwn ?_; intros
  refine uP 1 0 rfl rfl ?_
  repeat apply za
  exact ze (zh hd (by simp; rfl) (by simp [qU, he, zk]))
 subst he
 have hit := hit rfl
 have hds := hds rfl
 (repeat apply za); refine pwn ?_; intros
 repeat apply za
 refine zi (by simp) ?_
 refine zb ?_
 repeat apply za
 refine pwn ?_
 intro v2 v3 v4
 refine uP 2 0 rfl rfl ?_
 repeat apply za
 refine pwn ?_
 refine pwc hT ?_
 intros
 repeat apply za
 refine zg (ZD (xs := ds.map fun d => [PV.agg [L d]]) (σ := Day × Int × Bool) (fun i s => s = (ds.take i).foldl (qH x) ([], 0, false) ∧ i ≤ ds.length) [(3, .ptr nx v0 0), (6, .ptr (nx + 1) v1 0), (7, I 0), (9, .ptr (nx + 2) v2 0), (10, .ptr (nx + 3) v3 0), (11, .ptr (nx + 4) v4 0)] (fun _ => S)
  (fun (best, least, found) => [.cells v0 25 (zt x), .cells v1 66 [yx], .cells v2 66 [L best], .cells v3 3 [I least], .cells v4 4 [B found]]) ([], 0, false)
  hit rfl (by intro x hx; obtain ⟨y, _, rfl⟩ := List.mem_map.1 hx; rfl) (by decide) (by simp) ⟨by simp, by simp⟩ rfl (by simp) (by simp) ?_ ?_)
 ·rintro l i ⟨best, least, found⟩ more y ⟨hst, hi⟩ hy
  simp only at hst hi ⊢
  rw [List.getElem?_map] at hy
  obtain ⟨d, hd', rfl⟩ := Option.map_eq_some_iff.1 hy
  obtain ⟨hil, hdi⟩ := List.getElem?_eq_some_iff.1 hd'
  obtain ⟨hdo, hdf⟩ := hds d (List.mem_of_getElem? hd')
  have hday := Zel x d hx hdo.1 hdo.2 hdf
  have hcost := Zed x d hdo
  have hsucc : (ds.take (i + 1)).foldl (qH x) ([], 0, false) = qH x (best, least, found) d := by
   rw [List.take_succ_eq_append_getElem hil, hdi, List.foldl_append, ← hst]; rfl
  unfold qH at hsucc
  simp only at hsucc
  repeat apply za
  refine pwn ?_
  intro v5
  refine zg ?_
  repeat apply za
  refine pwn ?_
  refine pwc hday ?_
  intros
  by_cases h1 : yt x d = 0
  ·rw [if_pos h1] at hsucc
   repeat apply za
   refine zi (by simp [h1]) ?_
   refine zb ?_
   repeat apply za
   refine pwn ?_
   refine pwc hcost ?_
   intros
   generalize W (yf x d) = c at *
   cases found with
   | false =>
    rw [if_pos (.inl rfl)] at hsucc
    repeat apply za
    refine pwN [(2, 36)] zv ?_
    intros
    repeat apply za
    refine zj rfl ?_
    (repeat apply za); refine pwn ?_; intros
    simp only [qq]
    exact jP (d, c, true) [_] ⟨hsucc.symm, by omega⟩ rfl (by simp; rfl)
   | true =>
    by_cases h2 : c < least
    ·rw [if_pos (.inr h2)] at hsucc
     repeat apply za
     refine pwN [(2, 36)] (jn2 h2 zv) ?_
     intros
     repeat apply za
     refine zj rfl ?_
     (repeat apply za); refine pwn ?_; intros
     simp only [qq]
     exact jP (d, c, true) [_] ⟨hsucc.symm, by omega⟩ rfl (by simp; rfl)
    ·rw [if_neg (by simp [h2])] at hsucc
     repeat apply za
     refine pwN [(2, 36)] (jn2 h2 zv) ?_
     intros
     repeat apply za
     refine zi rfl ?_
     refine zb ?_
     simp only [qq]
     exact jP (best, least, true) [_] ⟨hsucc.symm, by omega⟩ rfl (by simp; rfl)
  ·rw [if_neg h1] at hsucc
   repeat apply za
   refine zj (by simp [h1]) ?_
   refine zo ?_
   refine Zf9 (Zga ?_)
   exact jP (best, least, found) [_] ⟨hsucc.symm, by omega⟩ rfl (by simp; rfl)
 ·rintro ⟨best, least, found⟩ ⟨hst, -⟩
  simp only [List.length_map, List.take_length] at hst ⊢
  have hz : xc x ds = (best, least, found) := hst.symm
  cases found with
  | false =>
   (repeat apply za); refine pwn ?_; intros
   repeat apply za
   refine zj rfl ?_
   (repeat apply za); refine pwn ?_; intros
   refine uP 1 0 rfl rfl ?_
   repeat apply za
   exact ze (zh hd (by simp; rfl) (by simp [qU, hz, zk]))
  | true =>
   (repeat apply za); refine pwn ?_; intros
   repeat apply za
   refine zi rfl ?_
   refine zb ?_
   (repeat apply za); refine pwn ?_; intros
   repeat apply za
   exact ze (zh hd (by simp; rfl) (by simp [qU, hz, zk]))
open Go Hp
set_option maxRecDepth 20000 in
theorem VE (lk : List PV) (s : Stop) (hl : lk.length = 13) : Pure Tryz.prog 108 [.agg lk, .agg [I s.c, I s.q]] (.fn (.func 147) [] [.ip [I s.c, I s.q], .ip lk]) := by
 refine pwe Tryz.func108 Tryz.ntmps108 Tryz.results108 fun S nx hd => ?_
 repeat apply za
 refine pwN [] hl ?_
 intro v0 v1
 (repeat apply za); refine pwn ?_; intros
 refine jg 0 rfl ?_
 refine jg 1 rfl ?_
 repeat apply za
 exact ze (zh hd (by simp; rfl) rfl)
open Go Go.Lib Go.Proofs
theorem uk : ElemOk Tryz.prog 46 50 (.agg #[.int .i64 0, .int .i64 0]) 16 :=
 ⟨Tryz.underlying46, by simp, by simp, by simp, by simp, by omega⟩
set_option maxHeartbeats 4000000 in
set_option maxRecDepth 100000 in
theorem VF (a : Addr) (n c : Nat) (w W2 : World) (u : Value) (hrz : ∀ ty, (Builtin.append_ #[46, 46] ty #[.slice (some ⟨w.heap.size, 0, none⟩) 0 0, .slice (some a) n c]).run Tryz.prog (w.alloc (.cells #[] 50)) = .ok u W2) :
  Calls Tryz.prog 114 #[.slice (some a) n c] w fun e w' => e = .returned u ∧ w' = W2 := by
 have mixed : Tryz.prog.follows .mixedOrders = true := by kernel_rfl
 have q22 : ∀ (w : World) (a : Option Addr) (n c n' c' : Nat), (binOp .eql 46 (.slice a n c) (.slice none n' c')).run Tryz.prog w = .ok (.bool a.isNone) w := fun w a n c n' c' => Lib.run_eql_slice_nil w _ _ a n c n' c' Tryz.underlying46
 go_enter Tryz.func114, Tryz.ntmps114
 go_wp2_with (at_builtin; refine Lib.wpList_append_run _ rfl _ _ _ _ rfl _ _ rfl rfl _ _ (hrz _) ?_)
 go_wp2
 go_ret
 exact ⟨rfl, rfl⟩
set_option maxHeartbeats 4000000 in
set_option maxRecDepth 100000 in
theorem Zgb (n c : Nat) (w : World) :
  Calls Tryz.prog 114 #[.slice none n c] w fun e w' => e = .returned (.slice none 0 0) ∧ w' = w := by
 have mixed : Tryz.prog.follows .mixedOrders = true := by kernel_rfl
 have q22 : ∀ (w : World) (a : Option Addr) (n c n' c' : Nat), (binOp .eql 46 (.slice a n c) (.slice none n' c')).run Tryz.prog w = .ok (.bool a.isNone) w := fun w a n c n' c' => Lib.run_eql_slice_nil w _ _ a n c n' c' Tryz.underlying46
 go_enter Tryz.func114, Tryz.ntmps114
 go_wp2
 go_ret
 exact ⟨rfl, rfl⟩
theorem JM (l : List Stop) (h0 : 0 < l.length) (hn : l.length ≤ 1048576) (S : Store) (nx : Nat) (hd : S nx = .dead) :
  Spec Tryz.prog 114 [L l] S (fun p S' => ∃ v, p = .sl nx v 2 0 l.length ∧ S' = S.set nx (.cells v 50 (l.flatMap Enc.enc))) := by
 refine ⟨yN Tryz.func114 (by rfl) rfl, ?_⟩
 intro C w vs hS hl hr
 obtain ⟨u, rfl⟩ := Jn hl
 have hu : Rel C S w (.lst l.length (l.flatMap Enc.enc)) u := hr 0 _ u rfl rfl
 obtain ⟨a, cap, rfl⟩ : ∃ a cap, u = .slice (some a) l.length cap := by
  generalize hq : l.flatMap Enc.enc = cs at hu
  generalize l.length = n at *
  cases hu with
  | lst0 => omega
  | lst1 => exact ⟨_, _, rfl⟩
 obtain ⟨k1, j1, m1⟩ := hS.alloc (.cells #[] 50)
 have hc : Tryz.prog.cellsOf 50 = 2 := by simp
 obtain ⟨news, hsrc, hrel, _⟩ := YF (P := Tryz.prog) (sz := 2) (m := l.length) (ds := l.flatMap Enc.enc) k1 (by simp [wM]) (hu.mono j1)
 rw [← hc] at hsrc
 have hrun := fun ty => YE (P := Tryz.prog) (ty := ty) (b := some ⟨w.heap.size, 0, none⟩) (k := 0) (cap := 0) (olds := []) uk.ty uk.pos uk.zero uk.bytes hsrc (run_firstCells_some _ _ 0 ⟨w.heap.size, 0, none⟩ 0 0 [] (by simp) (by simp)) (by omega) (by omega) uk.bpos
 simp only [Nat.zero_add] at hrun
 refine (VF a l.length cap w _ _ hrun).mono ?_
 rintro e w' ⟨rfl, rfl⟩
 have hge := grownCap_ge (w.alloc (.cells #[] 50)) l.length 0 50
 obtain ⟨d1, d2⟩ := k1.drew
 have hfr : Fresh C S nx C.clock := .clock C hd
 have hra := uG (cs := []) (vs := []) (by simp [RelL]) hrel (Builtin.zeroCells (Value.agg #[.int .i64 0, .int .i64 0]).cells (grownCap (w.alloc (.cells #[] 50)) l.length 0 50 - l.length)).toList
 simp only [List.nil_append] at hra
 have hget : ∀ i : Nat, (([] : List Value).toArray ++ news.toArray ++ Builtin.zeroCells (Value.agg #[.int .i64 0, .int .i64 0]).cells (grownCap (w.alloc (.cells #[] 50)) l.length 0 50 - l.length) : Array Value)[i]? = (news ++ (Builtin.zeroCells (Value.agg #[.int .i64 0, .int .i64 0]).cells (grownCap (w.alloc (.cells #[] 50)) l.length 0 50 - l.length)).toList)[i]? := by
  intro i; rw [← Array.getElem?_toList]; simp
 obtain ⟨t1, t2⟩ := d1.object' hfr 50 (([] : List Value).toArray ++ news.toArray ++ Builtin.zeroCells (Value.agg #[.int .i64 0, .int .i64 0]).cells (grownCap (w.alloc (.cells #[] 50)) l.length 0 50 - l.length)) (l.flatMap Enc.enc) (by have := hra.1; simp at this ⊢; omega) (fun i v hi hv => hra.2.1 i v hi (by rw [← hget]; exact hv)) (fun i p v hp hv => (hra.2.2 i p v hp (by rw [← hget]; exact hv)).mono d2)
 refine ⟨_, _, _, _, rfl, ⟨C.clock, rfl, rfl⟩, Zv C S _ _ _ _ _ _ _ _ _ rfl hge (Nat.le_trans hn (by unfold qA; omega)) (grownCap_le_maxLen _ _ _ _ (by unfold maxLen; omega)) ?_, t1, j1.trans (d2.trans t2)⟩
 have := hsrc.size
 simp only [Array.size_append, size_zeroCells, List.size_toArray, this, hc]
 simp [Value.cells]
 omega
theorem Y7 (l : List Stop) (hn : l.length ≤ 1048576) : Pure Tryz.prog 114 [L l] (L l) := by
 by_cases h0 : 0 < l.length
 ·exact Jb 0 (fun S nx hd => JM l h0 hn S nx (hd nx (Nat.le_refl _))) (by simp)
 ·obtain rfl : l = [] := List.eq_nil_of_length_eq_zero (by omega)
  intro S
  refine ⟨yN Tryz.func114 (by rfl) rfl, ?_⟩
  intro C w vs hS hl hr
  obtain ⟨u, rfl⟩ := Jn hl
  have hu : Rel C S w (.lst 0 []) u := hr 0 _ u rfl rfl
  obtain ⟨a, cap, rfl⟩ : ∃ a cap, u = .slice a 0 cap := by
   cases hu with
   | lst0 => exact ⟨_, _, rfl⟩
   | lst1 => exact ⟨_, _, rfl⟩
  cases a with
  | none =>
   refine (Zgb 0 cap w).mono ?_
   rintro e w' ⟨rfl, rfl⟩
   exact ⟨_, _, _, _, rfl, ⟨rfl, rfl⟩, .lst0, hS, .refl _ _ _⟩
  | some a =>
   obtain ⟨k1, j1, m1⟩ := hS.alloc (.cells #[] 50)
   have hc : Tryz.prog.cellsOf 50 = 2 := by simp
   obtain ⟨news, hsrc, hrel, _⟩ := YF (P := Tryz.prog) (sz := 2) (m := 0) (ds := []) k1 (by simp [wM]) (hu.mono j1)
   have hne : news = [] := List.eq_nil_of_length_eq_zero (by rw [hsrc.size, Nat.zero_mul])
   subst hne
   rw [← hc] at hsrc
   have hrun := fun ty => QY (P := Tryz.prog) (ty := ty) (b := some ⟨w.heap.size, 0, none⟩) (k := 0) (cap := 0) uk.ty uk.pos hsrc (Nat.le_refl 0)
   refine (VF a 0 cap w _ _ hrun).mono ?_
   rintro e w' ⟨rfl, rfl⟩
   exact ⟨_, _, _, _, rfl, ⟨rfl, rfl⟩, .lst0, k1, j1⟩
set_option maxRecDepth 20000 in
theorem Zgc {S : Store} {id ver : Nat} (cs : List Stop) (s : Stop) (hn : cs.length ≤ 1000000) (hid : S id = .cells ver 50 (cs.flatMap Enc.enc)) :
  Spec Tryz.prog 111 [.sl id ver 2 0 cs.length, I cs.length, L [s]] S (fun p S' => p = .sl id (ver + 1) 2 0 (cs.length + 1) ∧ S' = S.set id (.cells (ver + 1) 50 ((cs ++ [s]).flatMap Enc.enc))) := by
 refine y9 Tryz.func111 Tryz.ntmps111 Tryz.results111 fun nx hd => ?_
 have hlt : id < nx := by
  rcases Nat.lt_or_ge id nx with h | h
  ·exact h
  ·have := hd id h; rw [hid] at this; cases this
 have hx := fun obs => (zy (S := S) (obs := obs) hlt).trans hid
 have hlt1 : ¬ nx ≤ id := by omega
 repeat apply za
 refine pwN [] hx ?_
 intros
 repeat apply za
 refine pwN [] hx ?_
 intros
 repeat apply za
 refine pwN [] hx ?_
 intros
 repeat apply za
 refine pwN [] hx ?_
 intros
 repeat apply za
 refine zi rfl ?_
 refine zb ?_
 repeat apply za
 refine pwN [] hx ?_
 intros
 repeat apply za
 refine pwN [] hx ?_
 intros
 repeat apply za
 refine zj rfl ?_
 repeat apply za
 refine pwN [] (jn2 hx hlt1) ?_
 refine ⟨by omega, ?_⟩
 intros
 repeat apply za
 have hdd : ∀ (o : Ob), zK nx (S.set id o) := by
  intro o q hq
  rw [Store.set_other _ _ _ _ (by omega)]
  exact hd q hq
 exact ze ⟨_, _, by simp; rfl, ⟨by simp [zk], by simp⟩, zO (hdd _)⟩
theorem Zgd {S : Store} {id ver : Nat} (cs : List Stop) (i : Nat) (s : Stop) (hi : i ≤ cs.length) (hn : cs.length ≤ 1000000) (hid : S id = .cells ver 50 (cs.flatMap Enc.enc)) :
  Spec Tryz.prog 111 [.sl id ver 2 0 cs.length, I i, L [s]] S (fun p S' => p = .sl id (ver + 1) 2 0 (cs.length + 1) ∧ S' = S.set id (.cells (ver + 1) 50 ((cs.take i ++ s :: cs.drop i).flatMap Enc.enc))) := by
 by_cases h : i = cs.length
 ·subst h
  rw [List.take_length, List.drop_length]
  exact Zgc cs s hn hid
 ·exact Zea cs i s (by omega) hn hid
open Go Go.Proofs
def ul (d : Day) (t nx : Nat) (k : Nat) (ts : List PV) (ob : Ob) : Prop :=
 ts.length = k ∧ (k ≤ t → ts = (d.take k).flatMap Enc.enc ∧ ob = .dead) ∧
 (t < k → ∃ v l, d[t]? = some l ∧ ts = ((d.take k).flatMap Enc.enc).set t (.sl (nx + 4) v 2 0 l.length) ∧ ob = .cells v 50 (l.flatMap Enc.enc))
theorem Zge {d : Day} {t nx k : Nat} {ts : List PV} {ob : Ob} (h : ul d t nx k ts ob) (hk : k < d.length) (ht : k ≠ t) : ul d t nx (k + 1) (ts ++ [L d[k]]) ob := by
 obtain ⟨h1, h2, h3⟩ := h
 have e : d.take (k + 1) = d.take k ++ [d[k]] := List.take_succ_eq_append_getElem hk
 refine ⟨by simp [h1], fun hkt => ?_, fun hkt => ?_⟩
 ·obtain ⟨a, b⟩ := h2 (by omega)
  exact ⟨by rw [e, a, List.flatMap_append]; rfl, b⟩
 ·obtain ⟨v, l, a, b, c⟩ := h3 (by omega)
  refine ⟨v, l, a, ?_, c⟩
  rw [b, e, List.flatMap_append, List.set_append_left _ _ (by rw [js]; simp; omega)]
  rfl
theorem Zgf {d : Day} {t nx : Nat} {ts : List PV} {ob : Ob} (h : ul d t nx t ts ob) (hk : t < d.length) (v : Nat) : ul d t nx (t + 1) (ts ++ [.sl (nx + 4) v 2 0 d[t].length]) (.cells v 50 (d[t].flatMap Enc.enc)) := by
 obtain ⟨h1, h2, h3⟩ := h
 have e : d.take (t + 1) = d.take t ++ [d[t]] := List.take_succ_eq_append_getElem hk
 refine ⟨by simp [h1], fun hkt => by omega, fun _ => ⟨v, d[t], List.getElem?_eq_getElem hk, ?_, rfl⟩⟩
 obtain ⟨a, -⟩ := h2 (Nat.le_refl _)
 have hl : ((d.take t).flatMap Enc.enc).length = t := by rw [js]; simp; omega
 rw [a, e, List.flatMap_append, List.set_append_right _ _ (by omega), hl, Nat.sub_self]
 rfl
set_option maxRecDepth 20000 in
set_option maxHeartbeats 800000 in
theorem JN (d : Day) (t : Nat) (hd0 : d.length ≤ 1048576) (hd1 : ∀ l ∈ d, l.length ≤ 1048576) (ht : ∀ l, d[t]? = some l → 0 < l.length) (S : Store) (nx : Nat) (hd : zK nx S) :
  Spec Tryz.prog 109 [.agg [L d]] S (fun p S' => ∃ v ts ob, ul d t nx d.length ts ob ∧ p = .agg [.sl (nx + 3) v 1 0 d.length] ∧ S' = (S.set (nx + 3) (.cells v 72 ts)).set (nx + 4) ob) := by
 refine vW hd Tryz.func109 Tryz.ntmps109 Tryz.results109 ?_
 repeat apply za
 refine pwn ?_
 intro v0 v1
 repeat apply za
 refine pwn ?_
 intro v2
 refine qB 2 0 72 1 rfl rfl fun v3 => ?_
 (repeat apply za); refine pwn ?_; intros
 show PW _ _ _ _ _ _ _ (ext _ _ _)
 rw [WC 1]
 repeat apply za
 refine zg (zr (fun (s : Nat × List PV × Ob × Nat × Nat) => s.1 ≤ d.length ∧ ul d t nx s.1 s.2.1 s.2.2.1) (fun (k, ts, ob, v2, v3) => [(2, .ptr (nx + 1) v1 0), (3, .ptr (nx + 2) v2 0), (7, L d), (8, I d.length), (9, I k)]) (fun (k, ts, ob, v2, v3) => [.cells v0 66 [L d], .cells v1 66 [yx], .cells v2 66 [.sl (nx + 3) v3 1 0 k], .cells v3 72 ts, ob]) (fun s => d.length - s.1) (0, [], .dead, v2, v3) [] ⟨by simp, by simp [ul]⟩ (by simp) (by simp) ?_)
 rintro ⟨k, ts, ob, v2, v3⟩ ⟨hk, hI⟩
 simp only at hk hI ⊢
 have htl := hI.1
 have htk : ts.take k = ts := List.take_of_length_le (by omega)
 (repeat apply za); refine pwn ?_; intros
 repeat apply za
 refine zn rfl (fun hc => ?_) (fun hc => ?_)
 ·simp at hc
  obtain ⟨l, tl, a1, a2, a3, e0⟩ := el1 rfl d k hc
  obtain ⟨hkl, rfl⟩ := List.getElem?_eq_some_iff.1 a1
  have hk1 : 1 ≤ d.length - k := by omega
  refine zb (za (zg ?_))
  repeat apply za
  refine pwN [] (jn3 hc e0 hk1) ?_
  intro v5
  by_cases hkt : k = t
  ·subst hkt
   have hcl := JM d[k] (ht _ a1) (hd1 _ (List.getElem_mem hkl))
   obtain rfl := (hI.2.1 (Nat.le_refl _)).2
   repeat apply za
   refine xL (some [nx + 5]) (Row.pures [0, 2, 3] (.alt 1 (.alt 4 (Row.pures [5, 6] (.alt 7 (Row.pures [8] (.alt 9 (.done) .stop)) .stop)) .stop) (.alt 4 (Row.pures [5, 6] (.alt 1 (.alt 7 (Row.pures [8] (.alt 9 (.done) .stop)) .stop) .stop)) .stop))) mixed (by rfl) (by rfl) (by rfl) fun K Gp Gc Gh hK hGp hGc hGh X hX0 hX1 hX2 hX => ?_
   simp -implicitDefEqProofs [hX0, hX1, hX2, hX, htl, htk]
   try clear hX0 hX1 hX2 hX X
   refine ⟨?_, ?_⟩
   all_goals
    refine hGc _ _ _ _ _ _ _ ?_
    refine ((hcl _ (nx + 4) (by simp)).mono ?_).v
    rintro _ _ ⟨v4, rfl, rfl⟩
    rw [y8 _ (by omega) (by simp), Nat.add_sub_cancel_left]
    refine ⟨by simp [zT], ?_⟩
    clear hGp hGc hGh
    clear Gp Gc Gh
    refine qS fun Gp Gc Gh hGp hGc hGh X hX0 hX1 hX2 hX => ?_
    simp -implicitDefEqProofs [hX0, hX1, hX2, hX, htl, htk]
    try clear hX0 hX1 hX2 hX X
    refine ⟨by omega, ?_⟩
    refine hK _ _ _ ?_
    clear hK hGp hGc hGh
    clear K Gp Gc Gh
    (repeat apply za); refine pwn ?_; intros
    exact zm (k + 1, _, _, v2, v3 + 1) [_] ⟨hc, Zgf hI hkl v4⟩ (by simp; omega) (by simp [wrN k (by omega)]) rfl (by simp; rfl)
  ·have hcl := Y7 d[k] (hd1 _ (List.getElem_mem hkl))
   repeat apply za
   refine pwY (some [nx + 5]) (Row.pures [0, 2, 3, 4, 5, 6] (.alt 1 (.alt 7 (Row.pures [8] (.alt 9 (.done) .stop)) .stop) .stop)) mixed (jn2 htl htk) ?_
   refine pwP (hcl) (jn2 htl htk) ?_
   refine ⟨by omega, ?_⟩
   intros
   (repeat apply za); refine pwn ?_; intros
   exact zm (k + 1, _, _, v2, v3 + 1) [_] ⟨hc, Zge hI hkl hkt⟩ (by simp; omega) (by simp [wrN k (by omega)]) rfl (by simp; rfl)
 ·simp at hc
  obtain rfl : k = d.length := by omega
  refine zo ?_
  (repeat apply za); refine pwn ?_; intros
  repeat apply za
  refine ze ⟨_, (S.set (nx + 3) (.cells v3 72 ts)).set (nx + 4) ob, by simp; rfl, ⟨v3, ts, ob, hI, rfl, rfl⟩, ?_⟩
  intro o
  by_cases h4 : o = nx + 4
  ·subst h4
   exact .inl (by rw [Store.set_same]; simp)
  by_cases h3 : o = nx + 3
  ·subst h3
   exact .inl (by rw [Store.set_other _ _ _ _ h4, Store.set_same]; simp)
  rw [Store.set_other _ _ _ _ h4, Store.set_other _ _ _ _ h3]
  exact zO hd o
theorem Zgg (d : Day) (hd0 : d.length ≤ 1048576) (hd1 : ∀ l ∈ d, l.length ≤ 1048576) : Pure Tryz.prog 109 [.agg [L d]] (.agg [L d]) := by
 refine Zdl (k := d.length) (sz := 1) (e := 72) (cs := d.flatMap Enc.enc) 3 (fun S nx hd => (JN d d.length hd0 hd1 (by simp) S nx hd).mono ?_) (by simp)
 rintro _ _ ⟨v, ts, ob, ⟨h1, h2, -⟩, rfl, rfl⟩
 obtain ⟨rfl, rfl⟩ := h2 (Nat.le_refl _)
 rw [List.take_length]
 refine ⟨v, rfl, ?_⟩
 funext o
 by_cases h4 : o = nx + 4
 ·subst h4
  rw [Store.set_same, Store.set_other _ _ _ _ (by omega), hd _ (by omega)]
 ·rw [Store.set_other _ _ _ _ h4]
theorem Zgh (d : Day) (t : Nat) (l : zp) (hd0 : d.length ≤ 1048576) (hd1 : ∀ l ∈ d, l.length ≤ 1048576) (ht : d[t]? = some l) (hl : 0 < l.length) (S : Store) (nx : Nat) (hd : zK nx S) :
  Spec Tryz.prog 109 [.agg [L d]] S (fun p S' => ∃ v w, p = .agg [.sl (nx + 3) v 1 0 d.length] ∧
   S' = (S.set (nx + 3) (.cells v 72 ((d.flatMap Enc.enc).set t (.sl (nx + 4) w 2 0 l.length)))).set (nx + 4) (.cells w 50 (l.flatMap Enc.enc))) := by
 refine (JN d t hd0 hd1 (fun m hm => by rw [ht] at hm; cases hm; exact hl) S nx hd).mono ?_
 rintro _ _ ⟨v, ts, ob, ⟨h1, -, h3⟩, rfl, rfl⟩
 obtain ⟨w, m, hm, rfl, rfl⟩ := h3 (List.getElem?_eq_some_iff.1 ht).1
 rw [ht] at hm; cases hm
 rw [List.take_length]
 exact ⟨v, w, rfl, rfl⟩
open Go Go.Proofs
def yV (x : Inst) (t : zp) : Int := W (zE x (t.map (·.c)))
def yW (t : zp) : Int := W (zu t)
def yb (x : Inst) (d : Day) : Nat := (d.filter fun t => decide (zq x t ≠ 0)).length
theorem Zgi (x : Inst) (d e : Day) : yb x (d ++ e) = yb x d + yb x e := by simp [yb]
theorem Zgj (x : Inst) (t : zp) : yb x [t] = if zq x t = 0 then 0 else 1 := by
 by_cases h : zq x t = 0 <;> simp [yb, h]
theorem VG (x : Inst) (d : Day) : yb x d ≤ d.length := List.length_filter_le _ _
abbrev xP (x : Inst) (d : Day) : List PV := [I x.days, I x.veh, I x.cap, I x.len, L x.cust, L x.dist, L d, L (zZ (d.flatten.map (·.c))), B (decide (¬ (zZ (d.flatten.map (·.c))).Nodup)), L (d.map (zq x)), I (yb x d), L (d.map yW), L (d.map (yV x))]
set_option maxRecDepth 20000 in
set_option maxHeartbeats 1600000 in
theorem VH (x : Inst) (d : Day) (hx : x.cust.length ≤ 1048576) (hdo : DayOk d) (hf : d.flatten.length ≤ 1048576) : Pure Tryz.prog 107 [.agg (zt x), .agg [L d]] (.agg (xP x d)) := by
 have h1 := W5 d hdo.1 hf
 have h2 := Vd d.flatten hf
 have h3 := Vc (zZ (d.flatten.map (·.c))) (by rw [vj, List.length_map]; exact hf) (ZI _)
 generalize hon : zZ (d.flatten.map (·.c)) = on at *
 generalize htw : decide (¬ on.Nodup) = tw at *
 refine pwe Tryz.func107 Tryz.ntmps107 Tryz.results107 fun S nx hd => ?_
 repeat apply za
 refine pwn ?_
 intro v0 v1 v2
 repeat apply za
 refine pwY (some [nx, nx + 1]) (Row.pures [0, 1, 2, 3, 4, 5] (.alt 6 (.alt 7 (.done) .stop) .stop)) mixed trivial ?_
 refine pwP (h1) trivial ?_
 refine pwP (h2) trivial ?_
 intro v3
 intros
 repeat apply za
 refine pwn ?_
 refine pwc h3 ?_
 intros
 (repeat apply za); refine pwn ?_; intros
 refine qB 3 9 30 1 rfl rfl fun v4 => ?_
 refine qB 3 11 3 1 rfl rfl fun v5 => ?_
 refine qB 3 12 3 1 rfl rfl fun v6 => ?_
 repeat apply za
 refine zg (zr (fun (k, v4, v5, v6) => k ≤ d.length) (fun (k, v4, v5, v6) => [(2, .ptr nx v0 0), (4, .ptr (nx + 2) v2 0), (5, .ptr (nx + 3) v3 0), (20, L d), (21, I d.length), (22, I k)])
  (fun (k, v4, v5, v6) => [.cells v0 25 (zt x), .cells v1 66 [L d], .cells v2 149 [I 0, I 0, I 0, I 0, yx, yx, yx, yx, B false, yx, I 0, yx, yx],
   .cells v3 149 [I x.days, I x.veh, I x.cap, I x.len, L x.cust, L x.dist, L d, L on, B tw, .sl (nx + 4) v4 1 0 k, I (yb x (d.take k)), .sl (nx + 5) v5 1 0 k, .sl (nx + 6) v6 1 0 k],
   .cells v4 30 (((d.map (zq x)).take k).flatMap Enc.enc), .cells v5 3 (((d.map yW).take k).flatMap Enc.enc), .cells v6 3 (((d.map (yV x)).take k).flatMap Enc.enc)]) (fun s => d.length - s.1) (0, v4, v5, v6) [] (by simp) (by simp) (by simp [yb]) ?_)
 rintro ⟨k, v4, v5, v6⟩ hk
 simp only at hk ⊢
 (repeat apply za); refine pwn ?_; intros
 repeat apply za
 refine zn rfl (fun hc => ?_) (fun hc => ?_)
 ·simp at hc
  obtain ⟨t, tl, a1, a2, a3, e0⟩ := el1 rfl d k hc
  have hk1 : 1 ≤ d.length - k := by omega
  have htm := List.mem_of_getElem? a1
  have hm := ZK x t hx (hdo.t t htm)
  have hl := W4 t (hdo.t t htm)
  have hw := ZH x t (hdo.t t htm) (hdo.s t htm)
  have b1 : yb x (d.take (k + 1)) = yb x (d.take k) + if zq x t = 0 then 0 else 1 := by rw [a3, Zgi, Zgj]
  have b2 := VG x (d.take k)
  rw [List.length_take] at b2
  have b3 := hdo.n
  have b4 := Nat.min_le_left k d.length
  have f1 : (((d.map (zq x)).take (k + 1)).flatMap Enc.enc : List PV) = ((d.map (zq x)).take k).flatMap Enc.enc ++ [I (zq x t)] := by rw [← List.map_take, ← List.map_take, a3]; simp
  have f2 : (((d.map yW).take (k + 1)).flatMap Enc.enc : List PV) = ((d.map yW).take k).flatMap Enc.enc ++ [I (W (zu t))] := by rw [← List.map_take, ← List.map_take, a3]; simp [yW]
  have f3 : (((d.map (yV x)).take (k + 1)).flatMap Enc.enc : List PV) = ((d.map (yV x)).take k).flatMap Enc.enc ++ [I (W (zE x (t.map (·.c))))] := by rw [← List.map_take, ← List.map_take, a3]; simp [yV]
  have l1 : (((d.map (zq x)).take k).flatMap Enc.enc : List PV).length = k := by rw [qm, List.length_take, List.length_map]; omega
  have l2 : (((d.map yW).take k).flatMap Enc.enc : List PV).length = k := by rw [qm, List.length_take, List.length_map]; omega
  have l3 : (((d.map (yV x)).take k).flatMap Enc.enc : List PV).length = k := by rw [qm, List.length_take, List.length_map]; omega
  generalize ((d.map (zq x)).take k).flatMap Enc.enc = c1 at *
  generalize ((d.map yW).take k).flatMap Enc.enc = c2 at *
  generalize ((d.map (yV x)).take k).flatMap Enc.enc = c3 at *
  have t1 : c1.take k = c1 := List.take_of_length_le (by omega)
  have t2 : c2.take k = c2 := List.take_of_length_le (by omega)
  have t3 : c3.take k = c3 := List.take_of_length_le (by omega)
  generalize yb x (d.take k) = bn at *
  have wb : IntKind.i64.wrap ((bn : Int) + 1) = ((bn + 1 : Nat) : Int) := wrN bn (by omega)
  generalize zq x t = mt at *
  generalize W (zu t) = lt at *
  generalize W (zE x (t.map (·.c))) = wt at *
  refine zb (za (zg ?_))
  repeat apply za
  refine pwN [] (jn3 hc e0 hk1) ?_
  intro v7
  repeat apply za
  refine pwn ?_
  refine pwc hm ?_
  intros
  (repeat apply za); refine pwn ?_; intros
  repeat apply za
  refine yD (nx := nx) (fun _ : Unit => True) (fun _ => [(2, .ptr nx v0 0), (4, .ptr (nx + 2) v2 0), (5, .ptr (nx + 3) v3 0), (7, .ptr (nx + 7) v7 0), (8, I mt), (20, L d), (21, I d.length), (22, I k)]) (fun _ => S) (fun _ => [.cells v0 25 (zt x), .cells v1 66 [L d], .cells v2 149 [I 0, I 0, I 0, I 0, yx, yx, yx, yx, B false, yx, I 0, yx, yx],
   .cells v3 149 [I x.days, I x.veh, I x.cap, I x.len, L x.cust, L x.dist, L d, L on, B tw, .sl (nx + 4) v4 1 0 k, I (bn + (if mt = 0 then 0 else 1) : Nat), .sl (nx + 5) v5 1 0 k, .sl (nx + 6) v6 1 0 k],
   .cells v4 30 c1, .cells v5 3 c2, .cells v6 3 c3, .cells v7 72 [L t]]) ?_ ?_
  ·repeat apply za
   refine zn rfl (fun hq => ?_) (fun hq => ?_)
   ·simp at hq
    rw [if_neg hq]
    repeat apply za
    refine pwN [] wb ?_
    intros
    exact zA () [] trivial (by simp) rfl (by simp)
   ·simp at hq
    rw [if_pos hq]
    refine zb ?_
    exact zA () [] trivial (by simp) rfl (by simp)
  ·rintro ⟨⟩ -
   repeat apply za
   refine pwN [] (jn2 t1 l1) ?_
   refine ⟨by omega, ?_⟩
   intros
   repeat apply za
   refine pwY (some [nx + 7]) (Row.pures [0, 2, 3, 4] (.alt 1 (.alt 5 (Row.pures [6] (.alt 7 (.done) .stop)) .stop) .stop)) mixed (jn2 t2 l2) ?_
   refine pwP (hl) (jn2 t2 l2) ?_
   refine ⟨by omega, ?_⟩
   intros
   repeat apply za
   refine pwY (some [nx, nx + 7]) (Row.pures [0, 2, 3, 4, 5] (.alt 1 (.alt 6 (Row.pures [7] (.alt 8 (.done) .stop)) .stop) .stop)) mixed (jn2 t3 l3) ?_
   refine pwP (hw) (jn2 t3 l3) ?_
   refine ⟨by omega, ?_⟩
   intros
   (repeat apply za); refine pwn ?_; intros
   exact zm (k + 1, v4 + 1, v5 + 1, v6 + 1) [_] (by simp; omega) (by simp; omega) (by simp [wrN k (by omega)]) rfl (by simp only [f1, f2, f3, b1]; simp; rfl)
 ·simp at hc
  obtain rfl : k = d.length := by omega
  refine zo ?_
  (repeat apply za); refine pwn ?_; intros
  refine zM 6 rfl ?_
  refine zM 5 rfl ?_
  refine zM 4 rfl ?_
  have g1 : (d.map (zq x)).take d.length = d.map (zq x) := List.take_of_length_le (by simp)
  have g2 : (d.map yW).take d.length = d.map yW := List.take_of_length_le (by simp)
  have g3 : (d.map (yV x)).take d.length = d.map (yV x) := List.take_of_length_le (by simp)
  repeat apply za
  exact ze (zh hd (by simp; rfl) (by simp [zk, g1, g2, g3]; simp [← hon, ← htw]))
open Go Go.Proofs
def Y8 (P : Program) (k : FuncId) (args : Nat → List PV) (xs : List (List PV)) (ret : PV) : Prop :=
 yH P k ∧ ∀ (l : Nat) (V : Ctx → Store → World → Prop) (_ : ∀ {C C' : Ctx} {S S' : Store} {w w' : World}, Step C S w C' S' w' → V C S w → V C' S' w') (m : Nat) (J : Nat → Store → Prop), (∀ i A, J i A → zK m A) →
  (∀ i A obs x, xs[i]? = some x → J i A → PYield P V l x (ext A m obs) (fun T => ∃ A', J (i + 1) A' ∧ T = ext A' m obs)) →
  ∀ A, J 0 A → PCallsV P V k (args l) A (fun p T => p = ret ∧ J xs.length T)
theorem VI {P : Program} {N : Nat} {f : FuncId} {fn : Func} {c : Code} {rs : List ResultVar} {args : Nat → List PV} {xs : List (List PV)} {ret : PV} (hf : P.funcs[f]? = some fn) (hname : (fn.name == "runtime.NumGoroutine") = false) (hb : fn.body = some c) (hN : fn.ntmps = N) (hrs : fn.results.toList = rs) (hargs : ∀ l, (args l).length ≤ N)
  (h : ∀ (l : Nat) (V : Ctx → Store → World → Prop) (keep : ∀ {C C' : Ctx} {S S' : Store} {w w' : World}, Step C S w C' S' w' → V C S w → V C' S' w') (nx : Nat) (J : Nat → Store → Prop), (∀ i A, J i A → zK nx A) →
   (∀ i A obs x, xs[i]? = some x → J i A → PYield P V l x (ext A nx obs) (fun T => ∃ A', J (i + 1) A' ∧ T = ext A' nx obs)) →
   ∀ A, J 0 A → PW P ⟨none, V, keep⟩ 0 N c (xI P rs (fun p T => p = ret ∧ J xs.length T)) (j4 (args l)) (ext A nx [])) : Y8 P f args xs ret := by
 refine ⟨yN hf hname hb, fun l V keep m J hJ hY A hA => ?_⟩
 have := h l V keep m J hJ hY A hA
 rw [yr (hJ 0 A hA)] at this
 exact QU hf hb hN hrs (hargs l) this
theorem PYield.mono {P : Program} {V : Ctx → Store → World → Prop} {l : Nat} {args : List PV} {S : Store} {Q Q' : Store → Prop} (h : PYield P V l args S Q) (hq : ∀ T, Q T → Q' T) : PYield P V l args S Q' := by
 intro C w vs h1 h2 h3 h4
 obtain ⟨fn, tmps, assign, body, hy, hR⟩ := h C w vs h1 h2 h3 h4
 refine ⟨fn, tmps, assign, body, hy, hR.mono ?_⟩
 rintro e w' ⟨S', C', a, b, c⟩
 exact ⟨S', C', a, hq _ b, c⟩
theorem VJ {P : Program} {k : FuncId} {args : Nat → List PV} {xs : List (List PV)} {ret : PV} (h : Y8 P k args xs ret) {V : Ctx → Store → World → Prop} (keep : ∀ {C C' : Ctx} {S S' : Store} {w w' : World}, Step C S w C' S' w' → V C S w → V C' S' w')
  {l nx : Nat} {J : Nat → Store → Prop} {ys : List (List PV)} (hY : ∀ i A obs x, ys[i]? = some x → J i A → PYield P V l x (ext A nx obs) (fun T => ∃ A', J (i + 1) A' ∧ T = ext A' nx obs))
  (off : Nat) (hxs : ∀ i x, xs[i]? = some x → ys[off + i]? = some x) {A : Store} (hJ : J off A) (obs : List Ob) :
  SpecV P V k (args l) (ext A nx obs) (fun p T => ∃ A', p = ret ∧ J (off + xs.length) A' ∧ T = ext A' nx obs) := by
 refine ⟨h.1, (h.2 l V keep (nx + obs.length) (fun i T => ∃ A', J (off + i) A' ∧ T = ext A' nx obs) ?_ ?_ (ext A nx obs) ⟨A, hJ, rfl⟩).mono ?_⟩
 ·rintro i T ⟨A', _, rfl⟩; exact jr
 ·rintro i T more x hx ⟨A1, hJ1, rfl⟩
  rw [YO _ _ rfl]
  refine (hY (off + i) A1 (obs ++ more) x (hxs i x hx) hJ1).mono ?_
  rintro T ⟨A', hA', rfl⟩
  exact ⟨ext A' nx obs, ⟨A', hA', rfl⟩, (YO _ _ rfl).symm⟩
 ·rintro p T ⟨rfl, A', hA', rfl⟩
  exact ⟨A', rfl, hA', rfl⟩
theorem Y9 {P : Program} {nx : Nat} {F : Nat → PV} {obs : List Ob} {rs : List ResultVar} {ps : List PV} {J : Store → Prop} {A : Store} {ret : PV} (hd : zK nx A) (h1 : q8 P F (ext A nx obs) rs = some ps) (h2 : zk ps = ret) (hJ : J A) :
  ∃ ps S', q8 P F (ext A nx obs) rs = some ps ∧ (zk ps = ret ∧ J S') ∧ ∀ o, S' o = ext A nx obs o ∨ S' o = .dead := ⟨ps, A, h1, ⟨h2, hJ⟩, zO hd⟩
theorem VK {α : Type} {f : Nat → Option α} {n k : Nat} {v : α} (hk : k < n) (hf : f k = some v) : ((List.range n).filterMap f)[((List.range k).filterMap f).length]? = some v := by
 obtain ⟨m, rfl⟩ : ∃ m, n = k + (m + 1) := ⟨n - k - 1, by omega⟩
 rw [List.range_add, List.filterMap_append, List.getElem?_append_right (Nat.le_refl _), Nat.sub_self, List.range_succ_eq_map]
 simp [hf]
theorem VL {α : Type} {f : Nat → Option α} {k : Nat} (hf : f k = none) : ((List.range (k + 1)).filterMap f).length = ((List.range k).filterMap f).length := by
 rw [List.range_succ, List.filterMap_append]; simp [hf]
theorem VM {α : Type} {f : Nat → Option α} {k : Nat} {v : α} (hf : f k = some v) : ((List.range (k + 1)).filterMap f).length = ((List.range k).filterMap f).length + 1 := by
 rw [List.range_succ, List.filterMap_append]; simp [hf]
structure Spot where
 t : Nat
 p : Nat
 m : Int
abbrev xQ (s : Spot) : List PV := [.agg [I s.t, I s.p, I s.m]]
def ahZ (l : zp) (i : Nat) : Int := if i = 0 then 0 else (l.getD (i - 1) default).c + 1
def beZ (l : zp) (i : Nat) : Int := if i < l.length then (l.getD i default).c + 1 else 0
def jU (x : Inst) (l : zp) (s : Stop) (i : Nat) : Int := W (W (arc x (ahZ l i) (s.c + 1) + arc x (s.c + 1) (beZ l i)) - arc x (ahZ l i) (beZ l i))
def xe (x : Inst) (t : Nat) (l : zp) (w : Int) (s : Stop) (i : Nat) : Option Spot := if W (w + jU x l s i) ≤ x.len then some ⟨t, i, jU x l s i⟩ else none
def xz (x : Inst) (t : Nat) (l : zp) (fl bad ll w : Int) (s : Stop) : List Spot :=
 if 0 < bad - (if fl = 13 then 1 else 0) ∨ x.cap < W (ll + s.q) then [] else (List.range (l.length + 1)).filterMap (xe x t l w s)
abbrev xg (x : Inst) (d : Day) (on : List Int) (tw : Bool) (fs : List Int) (bad : Int) (ls ws : List Int) : List PV := [I x.days, I x.veh, I x.cap, I x.len, L x.cust, L x.dist, L d, L on, B tw, L fs, I bad, L ls, L ws]
set_option maxRecDepth 20000 in
set_option maxHeartbeats 1600000 in
theorem Zgk (x : Inst) (d : Day) (on : List Int) (tw : Bool) (fs : List Int) (bad : Nat) (ls ws : List Int) (t : Nat) (l : zp) (s : Stop) (fl ll w : Int) (hbad : bad ≤ 1048576) (hdn : d.length ≤ 1048576) (hd : d[t]? = some l) (hfs : fs[t]? = some fl) (hls : ls[t]? = some ll) (hws : ws[t]? = some w)
  (hfn : fs.length = d.length) (hln : ls.length = d.length) (hwn : ws.length = d.length) (hb : fl = 13 → 0 < bad) (hll : l.length ≤ 1048576) (hsl : ∀ s ∈ l, small s.c) (hss : small s.c) :
  Y8 Tryz.prog 149 (fun y => [.agg (xg x d on tw fs bad ls ws), I t, .agg [I s.c, I s.q], yld y]) ((xz x t l fl bad ll w s).map xQ) (B true) := by
 refine VI Tryz.func149 (by rfl) rfl Tryz.ntmps149 (congrArg Array.toList Tryz.results149) (by simp) fun y V keep nx J hJd hY A0 hA0 => ?_
 have ht : t < d.length := (List.getElem?_eq_some_iff.1 hd).1
 obtain ⟨fl', tf, a1, -, -, ef⟩ := el1 rfl fs t (by omega)
 obtain ⟨ll', tl, a2, -, -, elo⟩ := el1 rfl ls t (by omega)
 obtain ⟨w', tw', a3, -, -, ew⟩ := el1 rfl ws t (by omega)
 obtain ⟨l', td, a4, -, -, ed⟩ := el1 rfl d t ht
 obtain rfl : fl = fl' := by rw [hfs] at a1; exact Option.some.inj a1
 obtain rfl : ll = ll' := by rw [hls] at a2; exact Option.some.inj a2
 obtain rfl : w = w' := by rw [hws] at a3; exact Option.some.inj a3
 obtain rfl : l = l' := by rw [hd] at a4; exact Option.some.inj a4
 have h1 : 1 ≤ fs.length - t := by omega
 have h2 : 1 ≤ ls.length - t := by omega
 have h3 : 1 ≤ ws.length - t := by omega
 have h4 : 1 ≤ d.length - t := by omega
 have g1 : t < fs.length := by omega
 have g2 : t < ls.length := by omega
 have g3 : t < ws.length := by omega
 repeat apply za
 refine pwn ?_
 intro v0 v1
 (repeat apply za); refine pwn ?_; intros
 repeat apply za
 refine pwN [] (jn3 ef h1 g1) ?_
 intros
 obtain ⟨oth, hoth⟩ : ∃ oth : Int, oth = bad - (if fl = 13 then 1 else 0) := ⟨_, rfl⟩
 repeat apply za
 refine yD (nx := nx) (fun _ : Unit => True) (fun _ => [(1, I t), (3, yld y), (4, .ptr nx v0 0), (6, .ptr (nx + 1) v1 0), (9, I oth)]) (fun _ => A0) (fun _ => [.cells v0 149 (xg x d on tw fs bad ls ws), .cells v1 50 [I s.c, I s.q]]) ?_ ?_
 ·repeat apply za
  refine zn rfl (fun hq => ?_) (fun hq => ?_)
  ·simp at hq
   have hb' := hb hq
   rw [if_pos hq] at hoth
   have wb : IntKind.i64.wrap ((bad : Int) - 1) = oth := by rw [hoth, wr _ (by omega) (by omega)]
   repeat apply za
   refine pwN [] wb ?_
   intros
   exact zA () [] trivial (by simp) rfl (by simp)
  ·simp at hq
   rw [if_neg hq] at hoth
   obtain rfl : oth = bad := by omega
   refine zb ?_
   exact zA () [] trivial (by simp) rfl (by simp)
 ·rintro ⟨⟩ -
  have hout : ∀ (h : 0 < oth ∨ x.cap < W (ll + s.q)), xz x t l fl bad ll w s = [] := fun h => by unfold xz; rw [if_pos (by rw [hoth] at h; exact h)]
  by_cases ho : 0 < oth
  ·rw [hout (.inl ho)] at hY ⊢
   repeat apply za
   refine pwY (some [nx, nx + 1]) (Row.pures [0, 1, 2, 3, 4, 5, 6, 7, 8, 9, 10, 11, 12, 13, 14, 15] .done) mixed (jn2 ho zv) ?_
   intros
   repeat apply za
   refine zj rfl ?_
   (repeat apply za); refine pwn ?_; intros
   repeat apply za
   exact ze (Y9 (hJd _ _ hA0) (by simp; rfl) (by simp [zk]) hA0)
  by_cases hcap : x.cap < W (ll + s.q)
  ·rw [hout (.inr hcap)] at hY ⊢
   repeat apply za
   refine pwY (some [nx, nx + 1]) (Row.pures [0, 1, 2, 3, 4, 5, 6, 7, 8, 9, 10, 11, 12, 13, 14, 15] .done) mixed (jn6 ho hcap elo h2 g2 zv) ?_
   intros
   repeat apply za
   refine zj rfl ?_
   (repeat apply za); refine pwn ?_; intros
   repeat apply za
   exact ze (Y9 (hJd _ _ hA0) (by simp; rfl) (by simp [zk]) hA0)
  have hz : xz x t l fl bad ll w s = (List.range (l.length + 1)).filterMap (xe x t l w s) := by unfold xz; rw [if_neg (by rw [← hoth]; simp [ho, hcap])]
  clear hout
  rw [hz] at hY ⊢
  repeat apply za
  refine pwY (some [nx, nx + 1]) (Row.pures [0, 1, 2, 3, 4, 5, 6, 7, 8, 9, 10, 11, 12, 13, 14, 15] .done) mixed (jn5 ho hcap elo h2 g2) ?_
  intros
  repeat apply za
  refine zi rfl ?_
  refine zb ?_
  have wc : IntKind.i64.wrap (s.c + 1) = s.c + 1 := wr _ (by unfold small at hss; omega) (by unfold small at hss; omega)
  repeat apply za
  refine pwY (some [nx, nx + 1]) (Row.pures [0, 1, 2, 3, 4, 5, 6, 7, 8, 9, 10, 11] .done) mixed (jn4 ed h4 ht wc) ?_
  intros
  have wl : IntKind.i64.wrap ((l.length : Int) + 1) = ((l.length + 1 : Nat) : Int) := wrN _ (by omega)
  repeat apply za
  refine pwN [] wl ?_
  intros
  repeat apply za
  refine zg (jd (σ := Nat × Store) (fun s' => s'.1 ≤ l.length + 1 ∧ J ((List.range s'.1).filterMap (xe x t l w s)).length s'.2) (fun s' => [(1, I t), (3, yld y), (4, .ptr nx v0 0), (6, .ptr (nx + 1) v1 0), (10, L l), (11, I (s.c + 1)), (54, I ((l.length + 1 : Nat) : Int)), (55, I s'.1)]) (fun s' => s'.2)
   (fun _ => [.cells v0 149 (xg x d on tw fs bad ls ws), .cells v1 50 [I s.c, I s.q]]) (fun s' => l.length + 1 - s'.1) (zA (0, A0) [] (by simpa using hA0) (by simp) rfl (by simp)) ?_)
  rintro ⟨k, A⟩ ⟨hk, hJ⟩
  simp only at hk hJ ⊢
  (repeat apply za); refine pwn ?_; intros
  repeat apply za
  refine zn rfl (fun hc => ?_) (fun hc => ?_)
  ·simp at hc
   refine zb (za (zg ?_))
   (repeat apply za); refine pwn ?_; intros
   (repeat apply za); refine pwn ?_; intros
   (repeat apply za); refine pwn ?_; intros
   repeat apply za
   refine yD (nx := nx) (fun _ : Unit => True) (fun _ => [(1, I t), (3, yld y), (4, .ptr nx v0 0), (6, .ptr (nx + 1) v1 0), (10, L l), (11, I (s.c + 1)), (12, I k), (13, I (ahZ l k)), (14, I 0), (54, I ((l.length + 1 : Nat) : Int)), (55, I k)]) (fun _ => A) (fun _ => [.cells v0 149 (xg x d on tw fs bad ls ws), .cells v1 50 [I s.c, I s.q]]) ?_ ?_
   ·repeat apply za
    refine zn rfl (fun hk0 => ?_) (fun hk0 => ?_)
    ·simp at hk0
     obtain ⟨j, rfl⟩ : ∃ j, k = j + 1 := ⟨k - 1, by omega⟩
     obtain ⟨p, tp, p1, -, -, -, ep⟩ := el 2 rfl l j (by omega)
     have wj : IntKind.i64.wrap (j : Int) = (j : Int) := wr _ (by omega) (by omega)
     have hjl : j < l.length := by omega
     have hj2 : 2 ≤ l.length * 2 - j * 2 := by omega
     have hsm := hsl p (List.mem_of_getElem? p1)
     have wp : IntKind.i64.wrap (p.c + 1) = p.c + 1 := wr _ (by unfold small at hsm; omega) (by unfold small at hsm; omega)
     have hah : ahZ l (j + 1) = p.c + 1 := by unfold ahZ; rw [if_neg (by omega), Nat.add_sub_cancel, List.getD_eq_getElem?_getD, p1]; rfl
     repeat apply za
     refine pwN [] (jn5 wj ep wp hjl hj2) ?_
     intros
     exact zA () [] trivial (by simp [hah]) rfl (by simp)
    ·simp at hk0
     subst hk0
     refine zb ?_
     exact zA () [] trivial (by simp [ahZ]) rfl (by simp)
   ·rintro ⟨⟩ -
    (repeat apply za); refine pwn ?_; intros
    repeat apply za
    refine yD (nx := nx) (fun _ : Unit => True) (fun _ => [(1, I t), (3, yld y), (4, .ptr nx v0 0), (6, .ptr (nx + 1) v1 0), (10, L l), (11, I (s.c + 1)), (12, I k), (13, I (ahZ l k)), (14, I (beZ l k)), (54, I ((l.length + 1 : Nat) : Int)), (55, I k)]) (fun _ => A) (fun _ => [.cells v0 149 (xg x d on tw fs bad ls ws), .cells v1 50 [I s.c, I s.q]]) ?_ ?_
    ·repeat apply za
     refine zn rfl (fun hk0 => ?_) (fun hk0 => ?_)
     ·simp at hk0
      obtain ⟨p, tp, p1, -, -, -, ep⟩ := el 2 rfl l k hk0
      have hj2 : 2 ≤ l.length * 2 - k * 2 := by omega
      have hsm := hsl p (List.mem_of_getElem? p1)
      have wp : IntKind.i64.wrap (p.c + 1) = p.c + 1 := wr _ (by unfold small at hsm; omega) (by unfold small at hsm; omega)
      have hah : beZ l k = p.c + 1 := by unfold beZ; rw [if_pos hk0, List.getD_eq_getElem?_getD, p1]; rfl
      repeat apply za
      refine pwN [] (jn4 ep wp hk0 hj2) ?_
      intros
      exact zA () [] trivial (by simp [hah]) rfl (by simp)
     ·simp at hk0
      refine zb ?_
      exact zA () [] trivial (by simp [beZ]; omega) rfl (by simp)
    ·rintro ⟨⟩ -
     have q1 := j6 x (ahZ l k) (s.c + 1)
     have q2 := j6 x (s.c + 1) (beZ l k)
     have q3 := j6 x (ahZ l k) (beZ l k)
     have hmo : W (W (arc x (ahZ l k) (s.c + 1) + arc x (s.c + 1) (beZ l k)) - arc x (ahZ l k) (beZ l k)) = jU x l s k := rfl
     repeat apply za
     refine pwY (some [nx, nx + 1]) (Row.pures [0, 1, 2, 3, 4, 5, 6, 7, 8, 9, 10, 11, 12, 13, 14, 15, 16, 17] .done) mixed trivial ?_
     refine pwP (q1) trivial ?_
     refine pwP (q2) trivial ?_
     refine pwP (q3) hmo ?_
     intros
     by_cases hf : W (w + jU x l s k) ≤ x.len
     ·have hsp : xe x t l w s k = some ⟨t, k, jU x l s k⟩ := by unfold xe; rw [if_pos hf]
      have hat := VK (n := l.length + 1) (by omega) hsp
      have hnx := VM hsp
      have hy : (((List.range (l.length + 1)).filterMap (xe x t l w s)).map xQ)[((List.range k).filterMap (xe x t l w s)).length]? = some (xQ ⟨t, k, jU x l s k⟩) := by rw [List.getElem?_map, hat]; rfl
      repeat apply za
      refine xL (some [nx, nx + 1]) (Row.pures [0, 1, 2, 3, 4, 5, 6, 7, 8, 9, 10, 11, 12, 13, 14, 15, 16] (.alt 17 (Row.pures [18, 19] .done) .stop)) mixed (by rfl) (by rfl) (by rfl) fun K Gp Gc Gh hK hGp hGc hGh X hX0 hX1 hX2 hX => ?_
      simp -implicitDefEqProofs [hX0, hX1, hX2, hX, hmo, ew, h3, g3, hf]
      try clear hX0 hX1 hX2 hX X
      refine hGh _ _ _ _ _ (by rfl) (ZB rfl rfl rfl (hY _ _ _ _ hy hJ) ?_)
      rintro _ ⟨A', hJ', rfl⟩
      refine ⟨by simp [zT], ?_⟩
      clear hGp hGc hGh
      clear Gp Gc Gh
      refine qS fun Gp Gc Gh hGp hGc hGh X hX0 hX1 hX2 hX => ?_
      simp -implicitDefEqProofs [hX0, hX1, hX2, hX]
      try clear hX0 hX1 hX2 hX X
      refine hK _ _ _ ?_
      clear hK hGp hGc hGh
      clear K Gp Gc Gh
      repeat apply za
      refine zi rfl ?_
      refine zb ?_
      (repeat apply za); refine pwn ?_; intros
      exact zm (k + 1, A') [] ⟨by show k + 1 ≤ _; omega, by rw [hnx]; exact hJ'⟩ (by simp; omega) (by simp [wrN k (by omega)]) rfl (by simp)
     ·have hsp : xe x t l w s k = none := by unfold xe; rw [if_neg hf]
      have hnx := VL hsp
      repeat apply za
      refine pwY (some [nx, nx + 1]) (Row.pures [0, 1, 2, 3, 4, 5, 6, 7, 8, 9, 10, 11, 12, 13, 14, 15, 16, 17, 18, 19] .done) mixed (jn6 hmo ew h3 g3 hf zv) ?_
      intros
      repeat apply za
      refine zi rfl ?_
      refine zb ?_
      (repeat apply za); refine pwn ?_; intros
      exact zm (k + 1, A) [] ⟨by show k + 1 ≤ _; omega, by rw [hnx]; exact hJ⟩ (by simp; omega) (by simp [wrN k (by omega)]) rfl (by simp)
  ·simp at hc
   obtain rfl : k = l.length + 1 := by omega
   refine zo ?_
   (repeat apply za); refine pwn ?_; intros
   repeat apply za
   exact ze (Y9 (hJd _ _ hJ) (by simp; rfl) (by simp [zk]) (by simpa using hJ))
open Go
theorem JO (x : Inst) : (zN x).cust.length ≤ 6 := by simp [zN]; omega
structure Goods (n : Int) (l : List Stop) : Prop where
 each : ∀ s ∈ l, 0 ≤ s.c ∧ s.c < n ∧ 1 ≤ s.q ∧ s.q ≤ 12
 nd : (l.map (·.c)).Nodup
 len : l.length ≤ 6
structure Made (n : Int) (d : Day) : Prop where
 goods : Goods n d.flatten
 ne : ∀ t ∈ d, t ≠ []
theorem ZQ : ∀ (d : Day), (∀ t ∈ d, t ≠ []) → d.length ≤ d.flatten.length
 | [], _ => by simp
 | t :: d, h => by
  have := ZQ d fun t ht => h t (by simp [ht])
  have h1 : t.length ≠ 0 := by simpa using h t (by simp)
  rw [List.flatten_cons, List.length_append, List.length_cons]; omega
theorem xR {d : Day} {t : zp} (h : t ∈ d) : t.Sublist d.flatten := by
 obtain ⟨a, b, rfl⟩ := List.append_of_mem h
 rw [List.flatten_append, List.flatten_cons]
 exact (List.sublist_append_left t b.flatten).trans (List.sublist_append_right a.flatten _)
section
variable {n : Int} {d : Day} (h : Made n d)
include h
theorem Made.len : d.length ≤ 6 := Nat.le_trans (ZQ d h.ne) h.goods.len
theorem Made.tlen {t : zp} (ht : t ∈ d) : t.length ≤ 6 := Nat.le_trans (xR ht).length_le h.goods.len
theorem Made.stop {t : zp} (ht : t ∈ d) {s : Stop} (hs : s ∈ t) : 0 ≤ s.c ∧ s.c < n ∧ 1 ≤ s.q ∧ s.q ≤ 12 := h.goods.each s ((xR ht).subset hs)
theorem Made.small (hn : n ≤ 6) {t : zp} (ht : t ∈ d) : ∀ s ∈ t, small s.c := fun s hs => by have := h.stop ht hs; unfold Pv.small; omega
end
theorem Zgl {α : Type} {a b : List (List α)} (h : a.Sublist b) : a.flatten.Sublist b.flatten := by
 induction h with
 | slnil => exact List.Sublist.refl _
 | cons x _ ih => rw [List.flatten_cons]; exact ih.trans (List.sublist_append_right _ _)
 | cons_cons x _ ih => rw [List.flatten_cons, List.flatten_cons]; exact List.Sublist.append_left ih x
theorem Zgm {a b : List Int} (h : a.Perm b) : a.sum = b.sum := by
 induction h with
 | nil => rfl
 | cons x _ ih => simp [ih]
 | swap x y l => simp; omega
 | trans _ _ ih1 ih2 => exact ih1.trans ih2
theorem Made.sub {n : Int} {d e : Day} (h : Made n d) (hs : e.Sublist d) : Made n e := by
 have hf : e.flatten.Sublist d.flatten := Zgl hs
 exact ⟨⟨fun s q => h.goods.each s (hf.subset q), h.goods.nd.sublist (hf.map _), Nat.le_trans hf.length_le h.goods.len⟩, fun t ht => h.ne t (hs.subset ht)⟩
theorem Made.perm {n : Int} {d e : Day} (h : Made n d) (hp : e.Perm d) : Made n e := by
 have hf : e.flatten.Perm d.flatten := hp.flatten
 exact ⟨⟨fun s q => h.goods.each s (hf.subset q), (hf.map _).nodup_iff.2 h.goods.nd, by rw [hf.length_eq]; exact h.goods.len⟩, fun t ht => h.ne t (hp.subset ht)⟩
theorem xA (x : Inst) (d : Day) : yt x d = 0 ↔ (∀ t ∈ d, zq x t = 0) ∧ (d.flatten.map (·.c)).Nodup ∧ (d.length : Int) ≤ x.veh := by
 unfold yt
 cases hf : d.find? (fun t => zq x t != 0) with
 | some t =>
  have h1 := List.find?_some hf
  have h2 := List.mem_of_find?_eq_some hf
  simp only
  constructor
  ·intro e; simp [e] at h1
  ·rintro ⟨h, _⟩; exact h t h2
 | none =>
  rw [List.find?_eq_none] at hf
  simp only
  constructor
  ·intro e
   refine ⟨fun t ht => by simpa using hf t ht, ?_⟩
   split at e
   ·cases e
   ·split at e
    ·cases e
    ·rename_i h1 h2; exact ⟨by simpa using h1, by omega⟩
  ·rintro ⟨_, h1, h2⟩
   rw [if_neg (by simpa using h1), if_neg (by omega)]
theorem um (x : Inst) (t : zp) : zq x t = 0 ↔ yO x t = true ∧ (t.map (·.c)).Nodup ∧ W (zu t) ≤ x.cap ∧ W (zE x (t.map (·.c))) ≤ x.len := by
 unfold zq
 constructor
 ·intro e
  split at e
  ·cases e
  ·split at e
   ·cases e
   ·split at e
    ·cases e
    ·split at e
     ·cases e
     ·rename_i h1 h2 h3 h4
      exact ⟨by simpa using h1, by simpa using h2, by omega, by omega⟩
 ·rintro ⟨h1, h2, h3, h4⟩
  rw [if_neg (by simp [h1]), if_neg (by simpa using h2), if_neg (by omega), if_neg (by omega)]
theorem JP {t : zp} (h : ∀ s ∈ t, 0 ≤ s.q ∧ s.q ≤ 2147483648) : 0 ≤ zu t ∧ zu t ≤ 2147483648 * t.length := by
 induction t with
 | nil => simp [zu]
 | cons s t ih =>
  have := ih fun a ha => h a (by simp [ha])
  have := h s (by simp)
  simp only [zu, List.map_cons, List.sum_cons, List.length_cons] at *
  omega
theorem Zgn (a b : zp) : zu (a ++ b) = zu a + zu b := by simp [zu]
open Go Go.Proofs
def ye (x : Inst) (d : Day) (s : Stop) : List Spot :=
 if zq x [s] = 1 ∨ s.c ∈ d.flatten.map (·.c) ∨ ¬ (d.flatten.map (·.c)).Nodup ∨ x.veh < d.length then []
 else ((List.range d.length).flatMap fun t => xz x t (d.getD t []) (zq x (d.getD t [])) (yb x d) (yW (d.getD t [])) (yV x (d.getD t [])) s) ++
  (if yb x d = 0 ∧ zq x [s] = 0 ∧ (d.length : Int) < x.veh then [⟨d.length, 0, W (zE x [s.c])⟩] else [])
def wu (st : Spot × Bool) (b : Spot) : Spot × Bool := if st.2 = false ∨ b.m < st.1.m then (b, true) else st
def xh (l : List Spot) : Spot × Bool := l.foldl wu (⟨0, 0, 0⟩, false)
def qn (l : zp) (i : Nat) (s : Stop) : zp := l.take i ++ s :: l.drop i
def qp (d : Day) (b : Spot) (s : Stop) : Day := if b.t = d.length then d ++ [[s]] else d.set b.t (qn (d.getD b.t []) b.p s)
def qx (x : Inst) (d : Day) (s : Stop) : Day × Bool := bif (xh (ye x d s)).2 then (qp d (xh (ye x d s)).1 s, true) else (d, false)
theorem VN : ∀ (l : List Spot) (st : Spot × Bool), (l.foldl wu st).2 = true → (l.foldl wu st) = st ∨ (l.foldl wu st).1 ∈ l
 | [], st, _ => .inl rfl
 | b :: l, st, h => by
  rw [List.foldl_cons] at h ⊢
  rcases VN l _ h with e | e
  ·by_cases hq : st.2 = false ∨ b.m < st.1.m
   ·right; rw [e]; unfold wu; rw [if_pos hq]; simp
   ·left; rw [e]; unfold wu; rw [if_neg hq]
  ·exact .inr (by simp [e])
theorem Qa {l : List Spot} (h : (xh l).2 = true) : (xh l).1 ∈ l := by
 rcases VN l _ h with e | e
 ·rw [show l.foldl wu (⟨0, 0, 0⟩, false) = xh l from rfl] at e
  rw [e] at h; cases h
 ·exact e
theorem Zgo {x : Inst} {t : Nat} {l : zp} {fl bad ll w : Int} {s : Stop} {b : Spot} (h : b ∈ xz x t l fl bad ll w s) : ¬ (0 < bad - (if fl = 13 then 1 else 0)) ∧ W (ll + s.q) ≤ x.cap ∧ b ∈ (List.range (l.length + 1)).filterMap (xe x t l w s) := by
 unfold xz at h
 by_cases hw : 0 < bad - (if fl = 13 then 1 else 0) ∨ x.cap < W (ll + s.q)
 ·rw [if_pos hw] at h; cases h
 ·rw [if_neg hw] at h
  refine ⟨fun e => hw (.inl e), ?_, h⟩
  rcases Int.lt_or_le x.cap (W (ll + s.q)) with e | e
  ·exact absurd (.inr e) hw
  ·exact e
theorem ZR {x : Inst} {d : Day} {s : Stop} {b : Spot} (h : b ∈ ye x d s) :
  zq x [s] ≠ 1 ∧ s.c ∉ d.flatten.map (·.c) ∧ (d.flatten.map (·.c)).Nodup ∧ (d.length : Int) ≤ x.veh ∧
  ((∃ l, d[b.t]? = some l ∧ b.p ≤ l.length ∧ ¬ (0 < (yb x d : Int) - (if zq x l = 13 then 1 else 0)) ∧ W (yW l + s.q) ≤ x.cap ∧ b.m = jU x l s b.p ∧ W (yV x l + b.m) ≤ x.len) ∨
   (b = ⟨d.length, 0, W (zE x [s.c])⟩ ∧ yb x d = 0 ∧ zq x [s] = 0 ∧ (d.length : Int) < x.veh)) := by
 unfold ye at h
 split at h
 ·cases h
 ·rename_i hq
  have q1 : zq x [s] ≠ 1 := fun e => hq (.inl e)
  have q2 : s.c ∉ d.flatten.map (·.c) := fun e => hq (.inr (.inl e))
  have q3 : (d.flatten.map (·.c)).Nodup := Classical.byContradiction fun e => hq (.inr (.inr (.inl e)))
  have q4 : (d.length : Int) ≤ x.veh := by
   rcases Int.lt_or_le x.veh d.length with e | e
   ·exact absurd (.inr (.inr (.inr e))) hq
   ·exact e
  refine ⟨q1, q2, q3, q4, ?_⟩
  rw [List.mem_append] at h
  rcases h with h | h
  ·left
   obtain ⟨t, ht, hb⟩ := List.mem_flatMap.1 h
   rw [List.mem_range] at ht
   have hd : d[t]? = some (d.getD t []) := by rw [List.getD_eq_getElem?_getD, List.getElem?_eq_getElem ht]; rfl
   obtain ⟨w1, w2, hb⟩ := Zgo hb
   obtain ⟨i, hi, he⟩ := List.mem_filterMap.1 hb
   rw [List.mem_range] at hi
   unfold xe at he
   by_cases hlen : W (yV x (d.getD t []) + jU x (d.getD t []) s i) ≤ x.len
   ·rw [if_pos hlen] at he
    cases he
    exact ⟨_, hd, by simp only; omega, w1, w2, rfl, hlen⟩
   ·rw [if_neg hlen] at he; cases he
  ·right
   split at h
   ·rename_i hc; simp at h; exact ⟨h, hc⟩
   ·cases h
def z8 (a : Int) : List Int → Int
 | [] => a
 | c :: l => z8 (c + 1) l
def ZS : List Int → Int
 | [] => 0
 | c :: _ => c + 1
theorem VO (x : Inst) (c : Int) (r : List Int) : ∀ (p : List Int) (a : Int), yE x a (p ++ c :: r) = yE x a (p ++ r) + (arc x (z8 a p) (c + 1) + arc x (c + 1) (ZS r) - arc x (z8 a p) (ZS r))
 | [], a => by
  cases r with
  | nil => simp only [List.nil_append, yE, z8, ZS]; omega
  | cons e r => simp only [List.nil_append, yE, z8, ZS]; omega
 | e :: p, a => by
  simp only [List.cons_append, yE, z8]
  rw [VO x c r p (e + 1)]; omega
theorem VP : ∀ (p : List Int) (a : Int), z8 a p = if p.length = 0 then a else (p.getD (p.length - 1) 0) + 1
 | [], a => by simp [z8]
 | [c], a => by simp [z8]
 | c :: e :: p, a => by
  simp only [z8]
  rw [show z8 (e + 1) p = z8 (c + 1) (e :: p) from rfl, VP (e :: p) (c + 1)]
  simp [List.getD_eq_getElem?_getD]
theorem Zgp (l : zp) (i : Nat) (h : i < l.length) : (l.map (·.c)).getD i 0 = (l.getD i default).c := by
 rw [List.getD_eq_getElem?_getD, List.getD_eq_getElem?_getD, List.getElem?_map, List.getElem?_eq_getElem h]; rfl
theorem Zgq (x : Inst) (l : zp) (s : Stop) (i : Nat) (h0 : l ≠ []) (hi : i ≤ l.length) :
  zE x ((qn l i s).map (·.c)) = zE x (l.map (·.c)) + (arc x (ahZ l i) (s.c + 1) + arc x (s.c + 1) (beZ l i) - arc x (ahZ l i) (beZ l i)) := by
 unfold zE qn
 rw [if_neg (by simp), if_neg (by simpa using h0)]
 rw [List.map_append, List.map_cons, VO, ← List.map_append, List.take_append_drop]
 have e1 : z8 0 ((l.take i).map (·.c)) = ahZ l i := by
  rw [VP]
  unfold ahZ
  rw [List.length_map, List.length_take]
  by_cases hz : i = 0
  ·rw [if_pos (by omega), if_pos hz]
  ·rw [if_neg (by omega), if_neg hz, Zgp _ _ (by rw [List.length_take]; omega)]
   rw [List.getD_eq_getElem?_getD, List.getD_eq_getElem?_getD, List.getElem?_take_of_lt (by omega), show min i l.length - 1 = i - 1 from by omega]
 have e2 : ZS ((l.drop i).map (·.c)) = beZ l i := by
  unfold beZ
  by_cases hz : i < l.length
  ·rw [if_pos hz, List.drop_eq_getElem_cons hz, List.getD_eq_getElem?_getD, List.getElem?_eq_getElem hz]; rfl
  ·rw [if_neg hz, List.drop_eq_nil_of_le (by omega)]; rfl
 rw [e1, e2]
theorem VQ (x : Inst) (l : zp) (s : Stop) (i : Nat) (h0 : l ≠ []) (hi : i ≤ l.length) : yV x (qn l i s) = W (yV x l + jU x l s i) := by
 unfold yV jU
 rw [Zgq x l s i h0 hi, vi, Wy]
 generalize arc x (ahZ l i) (s.c + 1) + arc x (s.c + 1) (beZ l i) = p
 generalize arc x (ahZ l i) (beZ l i) = q
 generalize zE x (l.map (·.c)) = r
 simp only [W, IntKind.wrap_i64]; omega
theorem VR (l : zp) (s : Stop) (i : Nat) : yW (qn l i s) = W (yW l + s.q) := by
 unfold yW
 rw [vi]
 have : zu (qn l i s) = zu l + s.q := by
  unfold zu qn
  conv => rhs; rw [← List.take_append_drop i l]
  simp only [List.map_append, List.map_cons, List.sum_append, List.sum_cons]; omega
 rw [this]
theorem ZT (l : zp) (s : Stop) (i : Nat) : (qn l i s).Perm (s :: l) := by
 unfold qn
 have := List.perm_middle (a := s) (l₁ := l.take i) (l₂ := l.drop i)
 rwa [List.take_append_drop] at this
theorem JQ {α : Type} : ∀ (d : List (List α)) (t : Nat) (l m : List α) (s : α), d[t]? = some l → m.Perm (s :: l) → (d.set t m).flatten.Perm (s :: d.flatten)
 | [], t, l, m, s, h, _ => by simp at h
 | a :: d, 0, l, m, s, h, hm => by
  simp at h; subst h
  simp only [List.set_cons_zero, List.flatten_cons]
  exact (hm.append_right _)
 | a :: d, t + 1, l, m, s, h, hm => by
  simp only [List.getElem?_cons_succ] at h
  simp only [List.set_cons_succ, List.flatten_cons]
  exact ((JQ d t l m s h hm).append_left a).trans List.perm_middle
theorem JR {x : Inst} {d : Day} {s : Stop} {b : Spot} (h : b ∈ ye x d s) : (qp d b s).flatten.Perm (s :: d.flatten) := by
 obtain ⟨-, -, -, -, h⟩ := ZR h
 unfold qp
 rcases h with ⟨l, hl, -⟩ | ⟨rfl, -⟩
 ·have hlt := (List.getElem?_eq_some_iff.1 hl).1
  rw [if_neg (by omega), List.getD_eq_getElem?_getD, hl]
  exact JQ d b.t l _ s hl (ZT l s b.p)
 ·rw [if_pos rfl]
  simp only [List.flatten_append, List.flatten_cons, List.flatten_nil, List.append_nil]
  exact List.perm_append_comm
theorem VS {x : Inst} {d : Day} {s : Stop} (h : (qx x d s).2 = true) : (qx x d s).1.flatten.Perm (s :: d.flatten) := by
 unfold qx at h ⊢
 cases hb : (xh (ye x d s)).2 with
 | false => rw [hb] at h; cases h
 | true => exact JR (Qa hb)
theorem Zgr {x : Inst} {d : Day} {s : Stop} (h : (qx x d s).2 = false) : (qx x d s).1 = d := by
 unfold qx at h ⊢
 cases hb : (xh (ye x d s)).2 with
 | false => rfl
 | true => rw [hb] at h; cases h
theorem Zgs {x : Inst} {a b : zp} (h : a.Perm b) : yO x a = yO x b := by
 unfold yO
 have h1 : a.all (qN x) = b.all (qN x) := by
  rw [Bool.eq_iff_iff, List.all_eq_true, List.all_eq_true]
  exact ⟨fun q s hs => q s (h.symm.subset hs), fun q s hs => q s (h.subset hs)⟩
 have h2 : a.isEmpty = b.isEmpty := by
  cases a with
  | nil => rw [List.nil_perm.1 h]
  | cons a l =>
   cases b with
   | nil => exact absurd h.symm (by simp)
   | cons => rfl
 rw [h1, h2]
theorem Qb {x : Inst} {t : zp} (h : yO x t = true) : t ≠ [] := by
 rintro rfl; simp [yO] at h
theorem JS {x : Inst} {t : zp} (h : yO x t = false) : zq x t = 1 := by unfold zq; rw [if_pos h]
theorem VT {x : Inst} {s : Stop} (h : zq x [s] ≠ 1) : qN x s = true := by
 cases hs : yO x [s] with
 | false => exact absurd (JS hs) h
 | true => simpa [yO] using hs
theorem vq {x : Inst} {d : Day} : yb x d = 0 ↔ ∀ t ∈ d, zq x t = 0 := by
 unfold yb
 rw [List.length_eq_zero_iff, List.filter_eq_nil_iff]
 simp
theorem JT {x : Inst} {d : Day} {s : Stop} {b : Spot} (h : b ∈ ye x d s) : yt x (qp d b s) = 0 := by
 have hp := JR h
 obtain ⟨q1, q2, q3, q4, h⟩ := ZR h
 rw [xA]
 have hg := VT q1
 have hn : ((qp d b s).flatten.map (·.c)).Nodup := by
  rw [(hp.map _).nodup_iff, List.map_cons, List.nodup_cons]
  exact ⟨q2, q3⟩
 refine ⟨?_, hn, ?_⟩
 ·rcases h with ⟨l, hl, hi, ho, hcap, hm, hlen⟩ | ⟨rfl, hb, hs, hv⟩
  ·obtain ⟨hlt, hle⟩ := List.getElem?_eq_some_iff.1 hl
   have hpd : qp d b s = d.set b.t (qn l b.p s) := by unfold qp; rw [if_neg (by omega), List.getD_eq_getElem?_getD, hl]; rfl
   -- the other tours
   have hoth : ∀ j m, j ≠ b.t → d[j]? = some m → zq x m = 0 := by
    intro j m hj hm'
    refine Classical.byContradiction fun hbad => ?_
    have h13 : 0 < yb x d := by
     rcases Nat.eq_zero_or_pos (yb x d) with e | e
     ·exact absurd (vq.1 e m (List.mem_of_getElem? hm')) hbad
     ·exact e
    by_cases hf : zq x l = 13
    ·rw [if_pos hf] at ho
     have h2 : 2 ≤ yb x d := by
      unfold yb
      obtain ⟨hjl, hje⟩ := List.getElem?_eq_some_iff.1 hm'
      have key : ∀ (i j : Nat), i < j → ∀ (a c : zp), d[i]? = some a → d[j]? = some c → zq x a ≠ 0 → zq x c ≠ 0 → 2 ≤ (d.filter fun t => decide (zq x t ≠ 0)).length := by
       intro i j hij a c ha hc na nc
       obtain ⟨hil, rfl⟩ := List.getElem?_eq_some_iff.1 ha
       obtain ⟨hjl, rfl⟩ := List.getElem?_eq_some_iff.1 hc
       have e : d = d.take (i + 1) ++ d.drop (i + 1) := (List.take_append_drop _ _).symm
       rw [e, List.filter_append, List.length_append]
       have m1 : d[i] ∈ (d.take (i + 1)).filter fun t => decide (zq x t ≠ 0) := List.mem_filter.2 ⟨List.mem_of_getElem? (i := i) (by rw [List.getElem?_take_of_lt (by omega)]; exact ha), by simp [na]⟩
       have m2 : d[j] ∈ (d.drop (i + 1)).filter fun t => decide (zq x t ≠ 0) := List.mem_filter.2 ⟨List.mem_of_getElem? (i := j - (i + 1)) (by rw [List.getElem?_drop, show i + 1 + (j - (i + 1)) = j from by omega]; exact hc), by simp [nc]⟩
       have := List.length_pos_of_mem m1
       have := List.length_pos_of_mem m2
       omega
      have nl : zq x l ≠ 0 := by rw [hf]; decide
      rcases Nat.lt_or_ge j b.t with h3 | h3
      ·exact key j b.t h3 m l hm' hl hbad nl
      ·exact key b.t j (by omega) l m hl hm' nl hbad
     omega
    ·rw [if_neg hf] at ho; omega
   -- the tour itself
   have hself : zq x l = 0 ∨ zq x l = 13 := by
    by_cases hf : zq x l = 13
    ·exact .inr hf
    ·rw [if_neg hf] at ho
     exact .inl (vq.1 (by omega) l (List.mem_of_getElem? hl))
   have hst : yO x l = true := by
    cases e : yO x l with
    | true => rfl
    | false => rw [JS e] at hself; rcases hself with h | h <;> cases h
   have hne := Qb hst
   intro t ht
   rw [hpd] at ht
   obtain ⟨j, hj⟩ := List.mem_iff_getElem?.1 ht
   rw [List.getElem?_set] at hj
   by_cases hjb : b.t = j
   ·rw [if_pos hjb, if_pos hlt] at hj
    cases hj
    rw [um]
    refine ⟨?_, ?_, ?_, ?_⟩
    ·rw [Zgs (ZT l s b.p)]
     unfold yO at hst ⊢
     simp only [List.all_cons, List.isEmpty_cons, Bool.and_eq_true] at hst ⊢
     exact ⟨⟨hg, hst.1⟩, rfl⟩
    ·have hsub : (qn l b.p s).Sublist (qp d b s).flatten := by rw [hpd]; exact xR ht
     exact hn.sublist (hsub.map _)
    ·have := VR l s b.p
     unfold yW at this
     rw [this]; exact hcap
    ·have := VQ x l s b.p hne hi
     unfold yV at this
     rw [this, ← hm]; exact hlen
   ·rw [if_neg hjb] at hj
    exact hoth j t (fun e => hjb e.symm) hj
  ·unfold qp
   rw [if_pos rfl]
   intro t ht
   rw [List.mem_append] at ht
   rcases ht with ht | ht
   ·exact vq.1 hb t ht
   ·simp at ht; subst ht; exact hs
 ·rcases h with ⟨l, hl, -⟩ | ⟨rfl, -, -, hv⟩
  ·have hlt := (List.getElem?_eq_some_iff.1 hl).1
   unfold qp; rw [if_neg (by omega), List.length_set]; exact q4
  ·unfold qp; rw [if_pos rfl, List.length_append]; simp; omega
def ji (c : Int) (t : zp) : zp := t.filter fun s => decide (s.c ≠ c)
def qV (c : Int) (d : Day) : Day := (d.map (ji c)).filter fun t => !t.isEmpty
def VU (c : Int) (d : Day) : Int := W ((d.flatten.filter fun s => decide (s.c = c)).map (·.q)).sum
theorem Zgt (c : Int) (a b : Day) : qV c (a ++ b) = qV c a ++ qV c b := by simp [qV]
open Go Hp
theorem JI.begin : ∀ (l pre : List Stop) (T : Day) (g : Int → Option Int), JI pre T g → ((pre ++ l).map (·.c)).Nodup → ∃ g', JI (pre ++ l) (T ++ l.map fun s => [s]) g'
 | [], pre, T, g, h, _ => ⟨g, by simpa using h⟩
 | s :: l, pre, T, g, h, hn => by
  have hs : s.c ∉ pre.map (·.c) := by
   rw [List.map_append, List.nodup_append] at hn
   exact fun hm => hn.2.2 _ hm s.c (by simp) rfl
  obtain ⟨g', h'⟩ := JI.begin l (pre ++ [s]) (T ++ [[s]]) _ (h.snoc s hs) (by simpa using hn)
  exact ⟨g', by simpa using h'⟩
theorem ZU {α : Type} (f : α → Int) : ∀ (T : List α) (i : Nat) (a b : α), T[i]? = some a → ((T.set i b).map f).sum = (T.map f).sum - f a + f b
 | [], i, a, b, h => by simp at h
 | t :: T, 0, a, b, h => by simp at h; subst h; simp; omega
 | t :: T, i + 1, a, b, h => by
  simp only [List.getElem?_cons_succ] at h
  simp only [List.set_cons_succ, List.map_cons, List.sum_cons]
  rw [ZU f T i a b h]; omega
theorem Zgu (x : Inst) : zE x [] = 0 := by simp [zE]
theorem Zgv {x : Inst} {a b : List Int} {u v : Int} (hu : a[a.length - 1]? = some u) (hv : b[0]? = some v) : zE x (a ++ b) = zE x a + zE x b - qT x u v := by
 have ha : 0 < a.length := by
  have := (List.getElem?_eq_some_iff.1 hu).1; omega
 have h1 := Ze3 x (a ++ b) (a.length - 1) u v (by rw [List.getElem?_append_left (by omega)]; exact hu) (by rw [Nat.sub_add_cancel ha, List.getElem?_append_right (Nat.le_refl _), Nat.sub_self]; exact hv)
 rw [Nat.sub_add_cancel ha, List.take_left', List.drop_left'] at h1
 ·exact h1
 ·rfl
 ·rfl
structure KI (x : Inst) (ss : List Stop) (C : Int) (st : Day × Int) : Prop where
 j : ∃ g, JI ss st.1 g
 may : ∀ t ∈ st.1, 1 < t.length → zq x t = 0
 num : st.2 ≤ x.veh
 cost : yf x st.1 ≤ C
theorem KI.step {x : Inst} {ss : List Stop} {C : Int} {st : Day × Int} (h : KI x ss C st) {p : Pr} (ha : p.a ∈ ss.map (·.c)) (hb : p.b ∈ ss.map (·.c)) (hs : p.s = qT x p.a p.b) : KI x ss C (yG x st p) := by
 obtain ⟨g, hI⟩ := h.j
 obtain ⟨i, a, sa, hia, hsa, hsac, hga, hpi⟩ := hI.there ha
 obtain ⟨k, b, sb, hkb, hsb, hsbc, hgb, hpk⟩ := hI.there hb
 have hgi : st.1.getD i [] = a := by rw [List.getD_eq_getElem?_getD, hia]; rfl
 have hgk : st.1.getD k [] = b := by rw [List.getD_eq_getElem?_getD, hkb]; rfl
 unfold yG uW
 rw [hpi, hpk, hgi, hgk]
 cases hc : yh x st.2 p i k a b with
 | false => exact h
 | true =>
  simp only [cond_true]
  unfold yh at hc
  simp only [Bool.and_eq_true, decide_eq_true_eq, Bool.not_eq_true', Bool.and_eq_false_iff, decide_eq_false_iff_not] at hc
  obtain ⟨⟨⟨⟨h1, h2⟩, h3⟩, h4⟩, h5⟩ := hc
  have hn := h.num
  have hpos : 0 < p.s := by rcases h4 with h4 | h4 <;> omega
  refine ⟨⟨_, hI.join hia hkb h1⟩, fun t ht hl => ?_, by simp only; omega, ?_⟩
  ·rcases List.mem_or_eq_of_mem_set ht with ht | ht
   ·rcases List.mem_or_eq_of_mem_set ht with ht | ht
    ·exact h.may t ht hl
    ·rw [ht]; exact h5
   ·rw [ht] at hl; simp at hl
  ·have hk2 : (st.1.set i (a ++ b))[k]? = some b := by rw [List.getElem?_set_ne h1]; exact hkb
   have e1 := ZU (fun t : zp => zE x (t.map (·.c))) (st.1.set i (a ++ b)) k b [] hk2
   have e2 := ZU (fun t : zp => zE x (t.map (·.c))) st.1 i a (a ++ b) hia
   have e3 := Zgv (x := x) (a := a.map (·.c)) (b := b.map (·.c)) (u := p.a) (v := p.b) (by
    unfold wR at h2; rw [List.getElem?_map, List.length_map]; exact h2) (by unfold vn at h3; rw [List.getElem?_map]; exact h3)
   have hcst := h.cost
   unfold yf at hcst ⊢
   simp only [List.map_append, List.map_nil, Zgu] at e1 e2
   rw [e3] at e2
   simp only
   omega
open Go Go.Proofs
theorem VV {x : Inst} (h : qv x) : ∀ (l : List Int) (a : Int), 0 ≤ yE x a l ∧ yE x a l ≤ 2147483648 * ((l.length : Int) + 1)
 | [], a => by
  have := h a 0
  simp only [yE, List.length_nil]; omega
 | c :: l, a => by
  have h1 := h a (c + 1)
  have h2 := VV h l (c + 1)
  simp only [yE, List.length_cons]; omega
theorem ZV {x : Inst} (h : qv x) (l : List Int) : 0 ≤ zE x l ∧ zE x l ≤ 2147483648 * ((l.length : Int) + 1) := by
 unfold zE; split
 ·omega
 ·exact VV h l 0
def vr (d : Day) : List (Nat × Nat) := (List.range (d.length + 1)).flatMap fun t => (List.range ((d.getD t []).length + 1)).map fun p => (t, p)
def wv (d : Day) (s : Stop) (c : Nat × Nat) : Day := qp d ⟨c.1, c.2, 0⟩ s
def JU (x : Inst) (d : Day) (s : Stop) (c : Nat × Nat) : Int := if c.1 = d.length then W (zE x [s.c]) else jU x (d.getD c.1 []) s c.2
def un (x : Inst) (d : Day) (s : Stop) (c : Nat × Nat) : Option Spot := if yt x (wv d s c) = 0 then some ⟨c.1, c.2, JU x d s c⟩ else none
theorem VW (d : Day) (s : Stop) (b : Spot) : qp d b s = wv d s (b.t, b.p) := rfl
theorem VX {d : Day} {c : Nat × Nat} : c ∈ vr d ↔ c.1 ≤ d.length ∧ c.2 ≤ (d.getD c.1 []).length := by
 unfold vr
 rw [List.mem_flatMap]
 constructor
 ·rintro ⟨t, ht, hc⟩
  obtain ⟨p, hp, rfl⟩ := List.mem_map.1 hc
  rw [List.mem_range] at ht hp
  simp only; omega
 ·rintro ⟨h1, h2⟩
  exact ⟨c.1, List.mem_range.2 (by omega), List.mem_map.2 ⟨c.2, List.mem_range.2 (by omega), rfl⟩⟩
abbrev Qc (x : Inst) (d : Day) (s : Stop) : Prop := zq x [s] = 1 ∨ s.c ∈ d.flatten.map (·.c) ∨ ¬ (d.flatten.map (·.c)).Nodup ∨ x.veh < d.length
theorem VY {d : Day} {s : Stop} {t p : Nat} {l : zp} (hl : d[t]? = some l) : wv d s (t, p) = d.set t (qn l p s) := by
 have hlt := (List.getElem?_eq_some_iff.1 hl).1
 unfold wv qp; rw [if_neg (by simp only; omega), List.getD_eq_getElem?_getD, hl]; rfl
theorem VZ (d : Day) (s : Stop) (p : Nat) : wv d s (d.length, p) = d ++ [[s]] := by
 unfold wv qp; rw [if_pos rfl]
theorem Zgw {d : Day} {s : Stop} {c : Nat × Nat} (hc : c ∈ vr d) : (wv d s c).flatten.Perm (s :: d.flatten) := by
 obtain ⟨t, p⟩ := c
 obtain ⟨h1, h2⟩ := VX.1 hc
 simp only at h1 h2
 by_cases ht : t = d.length
 ·subst ht
  rw [VZ]
  simp only [List.flatten_append, List.flatten_cons, List.flatten_nil, List.append_nil]
  exact List.perm_append_comm
 ·have hl : d[t]? = some (d.getD t []) := by rw [List.getD_eq_getElem?_getD, List.getElem?_eq_getElem (by omega)]; rfl
  rw [VY hl]
  exact JQ d t _ _ s hl (ZT _ s p)
theorem Zgx {x : Inst} {d : Day} {s : Stop} (hd : yt x d = 0) {c : Nat × Nat} (hc : c ∈ vr d) (h : yt x (wv d s c) = 0) : ¬ Qc x d s := by
 have hp := Zgw (s := s) hc
 obtain ⟨g1, g2, g3⟩ := (xA x _).1 h
 obtain ⟨e1, e2, e3⟩ := (xA x _).1 hd
 rw [(hp.map _).nodup_iff, List.map_cons, List.nodup_cons] at g2
 rintro (q | q | q | q)
 ·obtain ⟨u, hu, hsu⟩ := List.mem_flatten.1 (hp.symm.subset (List.mem_cons_self (a := s)))
  have hm := ((um x u).1 (g1 u hu)).1
  unfold yO at hm
  simp only [Bool.and_eq_true, List.all_eq_true] at hm
  have hgs := hm.1 s hsu
  have : zq x [s] ≠ 1 := by
   unfold zq yO
   rw [if_neg (by simp [hgs])]
   split
   ·decide
   ·split
    ·decide
    ·split <;> decide
  exact this q
 ·exact g2.1 q
 ·exact q e2
 ·omega
theorem V1 {x : Inst} {d : Day} {s : Stop} (hd : yt x d = 0) (ho : ¬ Qc x d s) {t p : Nat} {l : zp} (hl : d[t]? = some l) (hp : p ≤ l.length) :
  yt x (wv d s (t, p)) = 0 ↔ W (yW l + s.q) ≤ x.cap ∧ W (yV x l + jU x l s p) ≤ x.len := by
 obtain ⟨e1, e2, e3⟩ := (xA x _).1 hd
 have hlm := List.mem_of_getElem? hl
 have hlt := (List.getElem?_eq_some_iff.1 hl).1
 have hm0 := e1 l hlm
 have hne : l ≠ [] := Qb ((um x l).1 hm0).1
 have hb : yb x d = 0 := vq.2 e1
 have hg : d.getD t [] = l := by rw [List.getD_eq_getElem?_getD, hl]; rfl
 constructor
 ·intro h
  obtain ⟨g1, -, -⟩ := (xA x _).1 h
  rw [VY hl] at g1
  have := g1 (qn l p s) (List.mem_of_getElem? (i := t) (by simp [hlt]))
  obtain ⟨-, -, a, b⟩ := (um x _).1 this
  have ha := VR l s p
  have hw := VQ x l s p hne hp
  unfold yW at ha
  unfold yV at hw
  rw [ha] at a; rw [hw] at b
  exact ⟨a, b⟩
 ·rintro ⟨a, b⟩
  have hmem : (⟨t, p, jU x l s p⟩ : Spot) ∈ ye x d s := by
   unfold ye
   rw [if_neg ho]
   refine List.mem_append_left _ (List.mem_flatMap.2 ⟨t, List.mem_range.2 hlt, ?_⟩)
   rw [hg, hb, hm0]
   unfold xz
   rw [if_neg (by simp; omega)]
   refine List.mem_filterMap.2 ⟨p, List.mem_range.2 (by omega), ?_⟩
   unfold xe; rw [if_pos b]
  have := JT hmem
  rwa [VW] at this
theorem Zgy {x : Inst} {d : Day} {s : Stop} (hd : yt x d = 0) (ho : ¬ Qc x d s) : yt x (wv d s (d.length, 0)) = 0 ↔ zq x [s] = 0 ∧ (d.length : Int) < x.veh := by
 obtain ⟨e1, e2, e3⟩ := (xA x _).1 hd
 have hb : yb x d = 0 := vq.2 e1
 constructor
 ·intro h
  obtain ⟨g1, -, g3⟩ := (xA x _).1 h
  rw [VZ] at g1 g3
  rw [List.length_append] at g3
  simp at g3
  exact ⟨g1 [s] (by simp), by omega⟩
 ·rintro ⟨a, b⟩
  have hmem : (⟨d.length, 0, W (zE x [s.c])⟩ : Spot) ∈ ye x d s := by
   unfold ye
   rw [if_neg ho, if_pos ⟨hb, a, b⟩]
   exact List.mem_append_right _ (by simp)
  have := JT hmem
  rwa [VW] at this
theorem V2 {α β : Type} {f : α → Option β} {l : List α} (h : ∀ a ∈ l, f a = none) : l.filterMap f = [] := by
 rw [List.filterMap_eq_nil_iff]; exact h
theorem V3 {α β : Type} {f g : α → List β} : ∀ {l : List α}, (∀ a ∈ l, f a = g a) → l.flatMap f = l.flatMap g
 | [], _ => rfl
 | a :: l, h => by rw [List.flatMap_cons, List.flatMap_cons, h a (by simp), V3 fun b hb => h b (by simp [hb])]
theorem V4 {α β : Type} {f g : α → Option β} : ∀ {l : List α}, (∀ a ∈ l, f a = g a) → l.filterMap f = l.filterMap g
 | [], _ => rfl
 | a :: l, h => by
  have ih := V4 (f := f) (g := g) (l := l) fun b hb => h b (by simp [hb])
  rw [List.filterMap_cons, List.filterMap_cons, h a (by simp), ih]
def wS (x : Inst) (d : Day) (s : Stop) (t : Nat) : List Spot := ((List.range ((d.getD t []).length + 1)).map fun p => (t, p)).filterMap (un x d s)
theorem V5 {x : Inst} {d : Day} {s : Stop} (hd : yt x d = 0) : ye x d s = (List.range (d.length + 1)).flatMap (wS x d s) := by
 by_cases ho : Qc x d s
 ·unfold ye
  rw [if_pos ho]
  symm
  rw [List.flatMap_eq_nil_iff]
  intro t ht
  rw [List.mem_range] at ht
  refine V2 fun c hc => ?_
  obtain ⟨p, hp, rfl⟩ := List.mem_map.1 hc
  rw [List.mem_range] at hp
  unfold un
  rw [if_neg]
  intro h
  exact Zgx hd (VX.2 ⟨by simp only; omega, by simp only; omega⟩) h ho
 ·unfold ye
  obtain ⟨e1, e2, e3⟩ := (xA x _).1 hd
  have hb : yb x d = 0 := vq.2 e1
  rw [if_neg ho, List.range_succ, List.flatMap_append]
  congr 1
  ·refine V3 fun t ht => ?_
   rw [List.mem_range] at ht
   have hl : d[t]? = some (d.getD t []) := by rw [List.getD_eq_getElem?_getD, List.getElem?_eq_getElem ht]; rfl
   have hm0 := e1 _ (List.mem_of_getElem? hl)
   unfold wS xz
   rw [hm0, hb, List.filterMap_map]
   by_cases hcap : x.cap < W (yW (d.getD t []) + s.q)
   ·rw [if_pos (.inr hcap)]
    symm
    refine V2 fun p hp => ?_
    rw [List.mem_range] at hp
    simp only [Function.comp_apply]
    unfold un
    rw [if_neg]
    rw [V1 hd ho hl (by omega)]
    omega
   ·rw [if_neg (show ¬ (0 < ((0 : Nat) : Int) - (if (0 : Int) = 13 then 1 else 0) ∨ x.cap < W (yW (d.getD t []) + s.q)) from by rintro (q | q); exact absurd q (by decide); exact hcap q)]
    refine V4 fun p hp => ?_
    rw [List.mem_range] at hp
    simp only [Function.comp_apply]
    have hi := V1 (p := p) hd ho hl (by omega)
    unfold un xe JU
    simp only
    rw [if_neg (show ¬ t = d.length by omega)]
    by_cases hw : W (yV x (d.getD t []) + jU x (d.getD t []) s p) ≤ x.len
    ·rw [if_pos hw, if_pos (hi.2 ⟨by omega, hw⟩)]
    ·rw [if_neg hw, if_neg fun e => hw (hi.1 e).2]
  ·have hi := Zgy hd ho
   simp only [List.flatMap_cons, List.flatMap_nil, List.append_nil]
   unfold wS
   rw [show d.getD d.length [] = ([] : zp) from by rw [List.getD_eq_getElem?_getD, List.getElem?_eq_none (Nat.le_refl _)]; rfl]
   simp only [List.length_nil, Nat.zero_add, List.range_one, List.map_cons, List.map_nil, List.filterMap_cons, List.filterMap_nil]
   unfold un JU
   simp only [if_true]
   by_cases hc : zq x [s] = 0 ∧ (d.length : Int) < x.veh
   ·rw [if_pos ⟨hb, hc⟩, if_pos (hi.2 hc)]
   ·rw [if_neg fun e => hc e.2, if_neg fun e => hc (hi.1 e)]
theorem V6 {α β γ : Type} (f : α → List β) (g : β → Option γ) : ∀ l : List α, (l.flatMap f).filterMap g = l.flatMap fun a => (f a).filterMap g
 | [] => rfl
 | a :: l => by rw [List.flatMap_cons, List.filterMap_append, V6 f g l, List.flatMap_cons]
theorem Zgz {x : Inst} {d : Day} {s : Stop} (hd : yt x d = 0) : ye x d s = (vr d).filterMap (un x d s) := by
 rw [V5 hd]; unfold vr; rw [V6]; rfl
theorem V7 {x : Inst} {d : Day} (h : yt x d = 0) : ∀ t ∈ d, t ≠ [] := fun t ht => Qb ((um x t).1 (((xA x d).1 h).1 t ht)).1
def vt (st : Int × Bool) (m : Int) : Int × Bool := if st.2 = false ∨ m < st.1 then (m, true) else st
def vu (l : List Int) : Int × Bool := l.foldl vt (0, false)
def uZ (x : Inst) (d : Day) (s : Stop) (n : Nat) : List Int := (List.range n).filterMap fun t => bif (vu ((wS x d s t).map (·.m))).2 then some (vu ((wS x d s t).map (·.m))).1 else none
def u5 (x : Inst) (d : Day) (s : Stop) : List Int := zZ (uZ x d s (d.length + 1))
theorem JV : ∀ (l : List Int) (m : Int), (l.foldl vt (m, true)).2 = true
 | [], _ => rfl
 | a :: l, m => by
  rw [List.foldl_cons]
  unfold vt
  split
  ·exact JV l a
  ·exact JV l m
theorem ZgA : vu [] = (0, false) := rfl
theorem ZgB (a : Int) (l : List Int) : vu (a :: l) = l.foldl vt (a, true) := by
 unfold vu; rw [List.foldl_cons]; unfold vt; simp
def jk (st : List Int × Int) (p : Spot) : List Int × Int :=
 if (p.t : Int) ≠ st.2 then (st.1 ++ [p.m], (p.t : Int)) else (st.1.set (st.1.length - 1) (if p.m < st.1.getD (st.1.length - 1) 0 then p.m else st.1.getD (st.1.length - 1) 0), st.2)
theorem V8 (t : Nat) : ∀ (g : List Spot) (l : List Int) (m : Int), (∀ p ∈ g, p.t = t) → g.foldl jk (l ++ [m], (t : Int)) = (l ++ [((g.map (·.m)).foldl vt (m, true)).1], (t : Int))
 | [], l, m, _ => rfl
 | p :: g, l, m, h => by
  have hp := h p (by simp)
  have hs : jk (l ++ [m], (t : Int)) p = (l ++ [if p.m < m then p.m else m], (t : Int)) := by
   unfold jk
   rw [hp, if_neg (by simp)]
   simp
  have hm : vt (m, true) p.m = (if p.m < m then p.m else m, true) := by
   unfold vt
   by_cases q : p.m < m <;> simp [q]
  rw [List.foldl_cons, hs, List.map_cons, List.foldl_cons, hm]
  exact V8 t g l _ fun q hq => h q (by simp [hq])
theorem ZgC {t : Nat} {g : List Spot} (hg : ∀ p ∈ g, p.t = t) (l : List Int) (last : Int) (hl : last < t) :
  g.foldl jk (l, last) = (l ++ (bif (vu (g.map (·.m))).2 then [(vu (g.map (·.m))).1] else []), if g = [] then last else (t : Int)) := by
 cases g with
 | nil => simp [ZgA]
 | cons p g =>
  have hp := hg p (by simp)
  have hs : jk (l, last) p = (l ++ [p.m], (t : Int)) := by
   unfold jk; rw [hp, if_pos (by simp only [ne_eq]; omega)]
  rw [List.foldl_cons, hs, V8 t g l p.m fun q hq => hg q (by simp [hq]), List.map_cons, ZgB, JV]
  simp
theorem ZgD {x : Inst} {d : Day} {s : Stop} {t : Nat} : ∀ p ∈ wS x d s t, p.t = t := by
 intro b hb
 unfold wS at hb
 obtain ⟨c, hc, he⟩ := List.mem_filterMap.1 hb
 obtain ⟨p, -, rfl⟩ := List.mem_map.1 hc
 unfold un at he
 split at he
 ·cases he; rfl
 ·cases he
theorem V9 (x : Inst) (d : Day) (s : Stop) : ∀ n : Nat, ∃ last : Int, last < n ∧ ((List.range n).flatMap (wS x d s)).foldl jk ([], -1) = (uZ x d s n, last)
 | 0 => ⟨-1, by omega, rfl⟩
 | n + 1 => by
  obtain ⟨last, h1, h2⟩ := V9 x d s n
  rw [List.range_succ, List.flatMap_append, List.foldl_append, h2]
  simp only [List.flatMap_cons, List.flatMap_nil, List.append_nil]
  rw [ZgC ZgD _ _ h1]
  refine ⟨_, ?_, by
   congr 1
   unfold uZ
   rw [List.range_succ, List.filterMap_append]
   congr 1
   cases hm : (vu ((wS x d s n).map (·.m))).2 <;> simp [hm]⟩
  split <;> omega
theorem ZgE {x : Inst} {d : Day} {s : Stop} (hd : yt x d = 0) : ((ye x d s).foldl jk ([], -1)).1 = uZ x d s (d.length + 1) := by
 rw [V5 hd]
 obtain ⟨last, -, h⟩ := V9 x d s (d.length + 1)
 rw [h]
theorem Zaa : ∀ {a b : List Int}, a.Perm b → a.Pairwise (· ≤ ·) → b.Pairwise (· ≤ ·) → a = b
 | [], b, h, _, _ => (List.nil_perm.1 h).symm
 | x :: a, [], h, _, _ => absurd h.symm (by simp)
 | x :: a, y :: b, h, ha, hb => by
  rw [List.pairwise_cons] at ha hb
  have hxy : x = y := by
   have h1 : x ∈ y :: b := h.subset (by simp)
   have h2 : y ∈ x :: a := h.symm.subset (by simp)
   have q1 : y ≤ x := by
    rcases List.mem_cons.1 h1 with e | e
    ·omega
    ·exact hb.1 x e
   have q2 : x ≤ y := by
    rcases List.mem_cons.1 h2 with e | e
    ·omega
    ·exact ha.1 y e
   omega
  subst hxy
  rw [Zaa ((List.perm_cons x).1 h) ha.2 hb.2]
open Go Go.Proofs
theorem ZgF (x : Inst) (d : Day) (s : Stop) (t : Nat) : (uZ x d s t).length ≤ t := by
 unfold uZ; exact Nat.le_trans (List.length_filterMap_le _ _) (by simp)
open Go Go.Proofs
theorem Sim.drewN {C : Ctx} {S : Store} {w : World} (h : Sim C S w) : ∀ q : Nat, Sim C S (w.drewN q) ∧ Step C S w C S (w.drewN q)
 | 0 => by
  have e : w.drewN 0 = w := rfl
  rw [e]; exact ⟨h, .refl _ _ _⟩
 | q + 1 => by
  obtain ⟨a, b⟩ := Sim.drewN h q
  obtain ⟨c, d⟩ := a.drew
  have e : w.drewN (q + 1) = (w.drewN q).drew := by unfold World.drewN World.drew; simp [Nat.add_assoc]
  rw [e]
  exact ⟨c, b.trans d⟩
theorem ZgG (zs : List Int) (c : Int) (hn : zs.length ≤ 1048576) (hs : zs.Pairwise (· ≤ ·)) : Pure Tryz.prog 148 [L zs, I c] (.tup [I (zs.countP (· < c) : Nat), B (zs.contains c)]) := by
 intro S
 refine ⟨yN Tryz.func148 (by rfl) rfl, ?_⟩
 intro C w vs hS hl hr
 obtain ⟨u, v, rfl⟩ : ∃ u v, vs = #[u, v] := Vs hl
 obtain rfl := ud (hr 1 _ v rfl rfl)
 have h0 : Rel C S w (.lst zs.length (zs.flatMap Enc.enc)) u := hr 0 _ u rfl rfl
 have hret : ∀ (k : Int) (b : Bool), Rel C S w (.tup [I k, B b]) (.tuple #[.int .i64 k, .bool b]) := by
  intro k b
  refine .tup rfl ?_
  intro i p v hc hv
  match i with
  | 0 => have hc : some (I k) = some p := hc; have hv : some (Value.int .i64 k) = some v := hv; cases hc; cases hv; exact .sc _
  | 1 => have hc : some (B b) = some p := hc; have hv : some (Value.bool b) = some v := hv; cases hc; cases hv; exact .sc _
  | i + 2 => simp at hc
 rw [YW] at h0
 generalize hcs : zs.map I = cs at h0
 generalize hzl : zs.length = n at h0 hn
 cases h0 with
 | lst0 =>
  obtain rfl : zs = [] := List.eq_nil_of_length_eq_zero hzl
  refine (Tryz.slices_BinarySearch_int_empty _ _ c w).mono ?_
  rintro e w' ⟨rfl, rfl⟩
  exact ⟨_, _, _, _, rfl, ⟨rfl, rfl⟩, hret 0 false, hS, .refl _ _ _⟩
 | lst1 g1 g2 g3 g4 g5 g6 g7 =>
  rename_i cap b o ca e fz
  by_cases hz : zs = []
  ·subst hz
   simp at hzl
   subst hzl
   refine (Tryz.slices_BinarySearch_int_empty _ _ c w).mono ?_
   rintro e w' ⟨rfl, rfl⟩
   exact ⟨_, _, _, _, rfl, ⟨rfl, rfl⟩, hret 0 false, hS, .refl _ _ _⟩
  ·subst hcs
   have g5' := g5 (by simpa using hz)
   rw [List.length_map] at g5'
   have hcell : ∀ j, j < zs.length → w.cell? ⟨b, o + j, none⟩ = some (.int .i64 (zs.getD j 0)) := by
    intro j hj
    have e2 : ca[o + j]? = some ca[o + j] := by rw [Array.getElem?_eq_getElem]
    have e3 := ud (g7 j (I (zs.getD j 0)) _ (by simp [hj]) e2)
    rw [e3] at e2
    simp [World.cell?, g3, e2]
   refine (Tryz.slices_BinarySearch_int b o n cap zs c w (by omega) (by omega) hcell (hs.sublist (List.take_sublist _ _))).mono ?_
   rintro e w' ⟨rfl, q, rfl⟩
   obtain ⟨s1, s2⟩ := hS.drewN q
   rw [List.take_of_length_le (by omega)]
   exact ⟨_, _, _, _, rfl, ⟨rfl, rfl⟩, (hret _ _).mono s2, s1, s2⟩
theorem ZgH {n k : Nat} (hk : k < n) (W : Nat → List Spot) (E : List Spot) (i : Nat) (x : List PV) (h : ((W k).map xQ)[i]? = some x) : (((List.range n).flatMap W ++ E).map xQ)[((List.range k).flatMap W).length + i]? = some x := by
 obtain ⟨m, rfl⟩ : ∃ m, n = k + (m + 1) := ⟨n - k - 1, by omega⟩
 rw [List.getElem?_map] at h ⊢
 rw [List.range_add, List.flatMap_append, List.append_assoc, List.getElem?_append_right (Nat.le_add_right _ _), Nat.add_sub_cancel_left, List.range_succ_eq_map]
 have hi : i < (W k).length := by
  rcases Nat.lt_or_ge i (W k).length with e | e
  ·exact e
  ·rw [List.getElem?_eq_none e] at h; cases h
 rw [List.getElem?_append_left (by simp; omega)]
 simp only [List.map_cons, List.flatMap_cons, Nat.add_zero]
 rw [List.getElem?_append_left (by omega)]
 exact h
theorem ZgI (W : Nat → List Spot) (k : Nat) : ((List.range (k + 1)).flatMap W).length = ((List.range k).flatMap W).length + (W k).length := by
 rw [List.range_succ, List.flatMap_append, List.length_append]; simp
theorem ZgJ (l : List Int) (c : Int) : (zZ l).contains c = l.contains c := by
 rw [Bool.eq_iff_iff, List.contains_iff_mem, List.contains_iff_mem]
 exact (List.mergeSort_perm l _).mem_iff
theorem Zab {x : Inst} {s : Stop} (hx : x.cust.length ≤ 1048576) (h : zq x [s] ≠ 1) : small s.c := by
 have := VT h
 unfold qN at this
 simp only [Bool.and_eq_true, decide_eq_true_eq] at this
 unfold small; omega
set_option maxRecDepth 20000 in
set_option maxHeartbeats 1600000 in
theorem Zac (x : Inst) (d : Day) (s : Stop) (hx : x.cust.length ≤ 1048576) (hdo : DayOk d) (hf : d.flatten.length ≤ 1048576) : vU Tryz.prog 147 [.ip [I s.c, I s.q], .ip (xP x d)] ((ye x d s).map xQ) := by
 have hmay := ZK x [s] hx (by simp)
 have hse := ZgG (zZ (d.flatten.map (·.c))) s.c (by rw [vj, List.length_map]; exact hf) (ZI _)
 rw [ZgJ] at hse
 generalize ((zZ (d.flatten.map (·.c))).countP (· < s.c) : Nat) = cnt at hse
 obtain ⟨tw, htw⟩ : ∃ tw, tw = decide (¬ (zZ (d.flatten.map (·.c))).Nodup) := ⟨_, rfl⟩
 have htw' : tw = decide (¬ (d.flatten.map (·.c)).Nodup) := by rw [htw]; exact decide_eq_decide.2 (not_congr (List.mergeSort_perm _ _).nodup_iff)
 obtain ⟨th, hth⟩ : ∃ th, th = (d.flatten.map (·.c)).contains s.c := ⟨_, rfl⟩
 rw [← hth] at hse
 have hlk : xP x d = xg x d (zZ (d.flatten.map (·.c))) tw (d.map (zq x)) (yb x d) (d.map yW) (d.map (yV x)) := by rw [htw]
 rw [hlk]
 obtain ⟨on, hon⟩ : ∃ on, on = zZ (d.flatten.map (·.c)) := ⟨_, rfl⟩
 rw [← hon] at hse ⊢
 obtain ⟨fa, hfa⟩ : ∃ fa, fa = zq x [s] := ⟨_, rfl⟩
 rw [← hfa] at hmay
 have hdn := hdo.n
 refine YN Tryz.func147 (by rfl) rfl Tryz.ntmps147 (congrArg Array.toList Tryz.results147) (by simp) fun l V keep nx J hJd hY A0 hA0 => ?_
 repeat apply za
 refine pwY (some []) (Row.pures [0, 1, 2, 3, 4, 5] (.alt 6 (.alt 7 (Row.pures [8] .done) .stop) .stop)) mixed trivial ?_
 refine pwP (Jq s) trivial ?_
 intro v0
 intros
 repeat apply za
 refine pwn ?_
 refine pwc hmay ?_
 intros
 repeat apply za
 refine pwn ?_
 refine pwc hse ?_
 intros
 by_cases hout : zq x [s] = 1 ∨ s.c ∈ d.flatten.map (·.c) ∨ ¬ (d.flatten.map (·.c)).Nodup ∨ x.veh < d.length
 ·have hz : ye x d s = [] := by unfold ye; rw [if_pos hout]
  rw [hz] at hY ⊢
  by_cases h1 : fa = 1
  ·repeat apply za
   refine pwN [(2, 30), (5, 33), (9, 37)] (jn2 h1 zv) ?_
   intros
   repeat apply za
   refine zj rfl ?_
   exact ze (xM (hJd _ _ hA0) rfl (by simpa using hA0))
  cases h2 : th with
  | true =>
   repeat apply za
   refine pwN [(2, 30), (5, 33), (9, 37)] (jn2 h1 zv) ?_
   intros
   repeat apply za
   refine zj rfl ?_
   exact ze (xM (hJd _ _ hA0) rfl (by simpa using hA0))
  | false =>
   cases h3 : tw with
   | true =>
    repeat apply za
    refine pwN [(2, 30), (5, 33), (9, 37)] (jn2 h1 zv) ?_
    intros
    repeat apply za
    refine zj rfl ?_
    exact ze (xM (hJd _ _ hA0) rfl (by simpa using hA0))
   | false =>
    have h4 : x.veh < d.length := by
     rcases hout with e | e | e | e
     ·exact absurd (hfa.trans e) h1
     ·have : th = true := by rw [hth, List.contains_iff_mem]; exact e
      rw [h2] at this; cases this
     ·have : tw = true := by rw [htw']; exact decide_eq_true e
      rw [h3] at this; cases this
     ·exact e
    repeat apply za
    refine pwN [(2, 30), (5, 33), (9, 37)] (jn3 h1 h4 zv) ?_
    intros
    repeat apply za
    refine zj rfl ?_
    exact ze (xM (hJd _ _ hA0) rfl (by simpa using hA0))
 have h1 : ¬ fa = 1 := fun e => hout (.inl (hfa ▸ e))
 have h2 : th = false := by
  cases e : th with
  | false => rfl
  | true => rw [hth, List.contains_iff_mem] at e; exact absurd (.inr (.inl e)) hout
 have h3 : tw = false := by
  cases e : tw with
  | false => rfl
  | true => rw [htw'] at e; exact absurd (.inr (.inr (.inl (of_decide_eq_true e)))) hout
 have h4 : ¬ x.veh < d.length := fun e => hout (.inr (.inr (.inr e)))
 have hsm := Zab hx (s := s) (fun e => hout (.inl e))
 obtain ⟨WW, hWW⟩ : ∃ WW : Nat → List Spot, WW = fun t => xz x t (d.getD t []) (zq x (d.getD t [])) (yb x d) (yW (d.getD t [])) (yV x (d.getD t [])) s := ⟨_, rfl⟩
 obtain ⟨EE, hEE⟩ : ∃ EE : List Spot, EE = if yb x d = 0 ∧ zq x [s] = 0 ∧ (d.length : Int) < x.veh then [⟨d.length, 0, W (zE x [s.c])⟩] else [] := ⟨_, rfl⟩
 have hz : ye x d s = (List.range d.length).flatMap WW ++ EE := by unfold ye; rw [if_neg hout, hWW, hEE]
 rw [hz] at hY ⊢
 subst h2 h3
 repeat apply za
 refine pwN [(2, 30), (5, 33), (9, 37)] (jn3 h1 h4 zv) ?_
 intros
 repeat apply za
 refine zi rfl ?_
 refine zb ?_
 (repeat apply za); refine pwn ?_; intros
 repeat apply za
 refine zg (jd (σ := Nat × Store) (fun s' => s'.1 ≤ d.length ∧ J ((List.range s'.1).flatMap WW).length s'.2) (fun s' => [(0, yld l), (1, .ip [I s.c, I s.q]), (2, .ip (xg x d on false (d.map (zq x)) (yb x d) (d.map yW) (d.map (yV x)))), (4, .ptr nx v0 0), (5, I d.length), (6, I fa), (44, I d.length), (45, I s'.1)]) (fun s' => s'.2)
  (fun _ => [.cells v0 72 [L [s]]]) (fun s' => d.length - s'.1) (zA (0, A0) [] (by simpa using hA0) (by simp) rfl (by simp)) ?_)
 rintro ⟨k, A⟩ ⟨hk, hJ⟩
 simp only at hk hJ ⊢
 (repeat apply za); refine pwn ?_; intros
 repeat apply za
 refine zn rfl (fun hc => ?_) (fun hc => ?_)
 ·simp at hc
  have hdk : d[k]? = some d[k] := List.getElem?_eq_getElem hc
  have hg : d.getD k [] = d[k] := by rw [List.getD_eq_getElem?_getD, hdk]; rfl
  have hb : zq x d[k] = 13 → 0 < yb x d := by
   intro e
   rcases Nat.eq_zero_or_pos (yb x d) with q | q
   ·rw [vq.1 q _ (List.getElem_mem hc)] at e; cases e
   ·exact q
  have hw := Zgk x d on false (d.map (zq x)) (yb x d) (d.map yW) (d.map (yV x)) k d[k] s (zq x d[k]) (yW d[k]) (yV x d[k]) (Nat.le_trans (VG x d) hdn) hdn hdk (by rw [List.getElem?_map, hdk]; rfl) (by rw [List.getElem?_map, hdk]; rfl) (by rw [List.getElem?_map, hdk]; rfl) (by simp) (by simp) (by simp) hb (hdo.t _ (List.getElem_mem hc)) (hdo.s _ (List.getElem_mem hc)) hsm
  have hWk : WW k = xz x k d[k] (zq x d[k]) (yb x d) (yW d[k]) (yV x d[k]) s := by rw [hWW]; simp only [hg]
  rw [← hWk] at hw
  have hlen := ZgI WW k
  refine zb (za (zg ?_))
  (repeat apply za); refine pwn ?_; intros
  repeat apply za
  refine zP [] (by rfl) (by rfl) fun K Gc Gh hK hGc hGh X hX0 hX => ?_
  simp -implicitDefEqProofs [hX0, hX]
  try clear hX0 hX X
  refine hGc _ _ _ _ _ _ _ fun hsuf => ((VJ hw keep hY _ (ZgH hc WW EE) hJ _).mono ?_)
  rintro _ _ ⟨A', rfl, hJ', rfl⟩
  rw [List.length_map, ← hlen] at hJ'
  refine ⟨_, _, rfl, ?_⟩
  clear hGc hGh
  clear Gc Gh
  refine zL hsuf (D := []) (by rfl) fun Gc Gh hGc hGh X hX0 hX => ?_
  simp -implicitDefEqProofs [hX0, hX]
  clear hX0 hX X
  intros
  refine hK _ _ _ ?_
  clear hK hGc hGh
  clear K Gc Gh
  repeat apply za
  refine zi rfl ?_
  refine zb ?_
  (repeat apply za); refine pwn ?_; intros
  exact zm (k + 1, A') [] ⟨hc, hJ'⟩ (by simp; omega) (by simp [wrN k (by omega)]) rfl (by simp)
 ·simp at hc
  obtain rfl : k = d.length := by omega
  refine zo ?_
  by_cases he : yb x d = 0 ∧ zq x [s] = 0 ∧ (d.length : Int) < x.veh
  ·have hE : EE = [⟨d.length, 0, W (zE x [s.c])⟩] := by rw [hEE, if_pos he]
   obtain ⟨e1, e2, e3⟩ := he
   have hlw := ZH x [s] (by simp) (by simpa using hsm)
   have h5 : fa = 0 := hfa.trans e2
   have hy : (((List.range d.length).flatMap WW ++ EE).map xQ)[((List.range d.length).flatMap WW).length]? = some (xQ ⟨d.length, 0, W (zE x [s.c])⟩) := by
    rw [List.getElem?_map, List.getElem?_append_right (Nat.le_refl _), Nat.sub_self, hE]; rfl
   simp only [List.map_cons, List.map_nil] at hlw
   repeat apply za
   refine pwN [(3, 58), (7, 62)] (jn4 e1 h5 e3 zv) ?_
   intros
   repeat apply za
   refine zj rfl ?_
   repeat apply za
   refine zP [] (by rfl) (by rfl) fun K Gc Gh hK hGc hGh X hX0 hX => ?_
   simp -implicitDefEqProofs [hX0, hX]
   try clear hX0 hX X
   refine hGc _ _ _ _ _ _ _ fun hsuf => ((hlw _).mono ?_).v
   rintro _ _ ⟨rfl, rfl⟩
   refine ⟨_, _, rfl, ?_⟩
   clear hGc hGh
   clear Gc Gh
   refine zL hsuf (D := []) (by rfl) fun Gc Gh hGc hGh X hX0 hX => ?_
   simp -implicitDefEqProofs [hX0, hX]
   try clear hX0 hX X
   refine hGh _ _ _ _ _ fun hsuf => ZB rfl rfl rfl (hY _ _ _ _ hy hJ) ?_
   rintro _ ⟨A', hJ', rfl⟩
   refine ⟨_, _, rfl, ?_⟩
   clear hGc hGh
   clear Gc Gh
   refine zL hsuf (D := []) (by rfl) fun Gc Gh hGc hGh X hX0 hX => ?_
   simp -implicitDefEqProofs [hX0, hX]
   try clear hX0 hX X
   intros
   refine hK _ _ _ ?_
   clear hK hGc hGh
   clear K Gc Gh
   exact xM (hJd _ _ hJ') rfl (by rw [List.length_map, List.length_append, hE]; exact hJ')
  ·have hE : EE = [] := by rw [hEE, if_neg he]
   have hfin : J (((List.range d.length).flatMap WW ++ EE).map xQ).length A := by rw [hE, List.append_nil, List.length_map]; exact hJ
   by_cases e1 : yb x d = 0
   ·by_cases e2 : fa = 0
    ·have e3 : ¬ (d.length : Int) < x.veh := fun e => he ⟨e1, hfa ▸ e2, e⟩
     repeat apply za
     refine pwN [(3, 58), (7, 62)] (jn4 e1 e2 e3 zv) ?_
     intros
     repeat apply za
     refine zi rfl ?_
     refine zb ?_
     exact xM (hJd _ _ hJ) rfl hfin
    ·repeat apply za
     refine pwN [(3, 58), (7, 62)] (jn3 e1 e2 zv) ?_
     intros
     repeat apply za
     refine zi rfl ?_
     refine zb ?_
     exact xM (hJd _ _ hJ) rfl hfin
   ·repeat apply za
    refine pwN [(3, 58), (7, 62)] (jn2 e1 zv) ?_
    intros
    repeat apply za
    refine zi rfl ?_
    refine zb ?_
    exact xM (hJd _ _ hJ) rfl hfin
open Go Go.Proofs
theorem Zad (id v : Nat) (cs : List PV) (d : Day) : (d.flatMap Enc.enc).map (yC id v cs) = (d.flatMap Enc.enc : List PV) := by
 induction d with
 | nil => rfl
 | cons l d ih => rw [List.flatMap_cons, List.map_append, ih]; rfl
theorem ZgK (id v : Nat) (cs : List PV) (d : Day) (t : Nat) (p : PV) : ((d.flatMap Enc.enc).set t p).map (yC id v cs) = (d.flatMap Enc.enc : List PV).set t (yC id v cs p) := by
 rw [List.map_set, Zad]
theorem Zae : ∀ (d : Day) (t : Nat) (l : zp), (d.flatMap Enc.enc : List PV).set t (L l) = (d.set t l).flatMap Enc.enc
 | [], t, l => rfl
 | m :: d, 0, l => rfl
 | m :: d, t + 1, l => by
  rw [List.set_cons_succ, List.flatMap_cons, List.flatMap_cons, ← Zae d t l]
  rfl
theorem ZgL {S : Store} {nx m : Nat} {obs : List Ob} (x y : Ob) (hm : m = nx + obs.length) : ((ext S nx obs).set (m + 3) x).set (m + 4) y = ext S nx (obs ++ [.dead, .dead, .dead, x, y]) := by
 subst hm
 rw [WD 3]
 have := qr (S := S) (nx := nx) (obs := obs ++ List.replicate 3 .dead ++ [x]) y
 simpa [Nat.add_assoc] using this
theorem ZgM (d : Day) (hd0 : d.length ≤ 1048576) (hd1 : ∀ l ∈ d, l.length ≤ 1048576) (S : Store) (nx : Nat) (hd : zK nx S) :
  Spec Tryz.prog 109 [.agg [L d]] S (fun p S' => ∃ v, p = .agg [.sl (nx + 3) v 1 0 d.length] ∧ S' = S.set (nx + 3) (.cells v 72 (d.flatMap Enc.enc))) := by
 refine (JN d d.length hd0 hd1 (by simp) S nx hd).mono ?_
 rintro _ _ ⟨v, ts, ob, ⟨h1, h2, -⟩, rfl, rfl⟩
 obtain ⟨rfl, rfl⟩ := h2 (Nat.le_refl _)
 rw [List.take_length]
 refine ⟨v, rfl, ?_⟩
 funext o
 by_cases h4 : o = nx + 4
 ·subst h4
  rw [Store.set_same, Store.set_other _ _ _ _ (by omega), hd _ (by omega)]
 ·rw [Store.set_other _ _ _ _ h4]
theorem ZgN (cs : List PV) (i : Nat) (p q : PV) (h : i < cs.length) : zJ (cs.set i p) i [q] = cs.set i q := by
 unfold zJ
 rw [List.set_eq_take_append_cons_drop, if_pos h, List.set_eq_take_append_cons_drop, if_pos h]
 have hl : (cs.take i).length = i := by rw [List.length_take]; omega
 rw [List.take_append_of_le_length (by omega), List.take_of_length_le (by omega), List.drop_append, hl, List.drop_of_length_le (by rw [hl]; simp)]
 simp
theorem Zaf (id v sz k : Nat) (cs : List PV) (h : k * sz = cs.length) : yC id v cs (.sl id v sz 0 k) = .lst k cs := by simp [yC, h]
theorem JW {α β : Type} {f : β → α → β} {b : β} {l : List α} {i : Nat} {a : α} (h : l[i]? = some a) : (l.take (i + 1)).foldl f b = f ((l.take i).foldl f b) a := by
 obtain ⟨hi, rfl⟩ := List.getElem?_eq_some_iff.1 h
 rw [List.take_succ_eq_append_getElem hi, List.foldl_append]; rfl
theorem ZgO {x : Inst} {d : Day} {s : Stop} {b : Spot} (h : b ∈ ye x d s) (hb : b.t ≠ d.length) : ∃ l, d[b.t]? = some l ∧ 0 < l.length ∧ b.p ≤ l.length := by
 obtain ⟨-, -, -, -, h⟩ := ZR h
 rcases h with ⟨l, hl, hi, ho, -⟩ | ⟨rfl, -⟩
 ·refine ⟨l, hl, ?_, hi⟩
  have hself : zq x l = 0 ∨ zq x l = 13 := by
   by_cases hf : zq x l = 13
   ·exact .inr hf
   ·rw [if_neg hf] at ho
    exact .inl (vq.1 (by omega) l (List.mem_of_getElem? hl))
  have hst : yO x l = true := by
   cases e : yO x l with
   | true => rfl
   | false => rw [JS e] at hself; rcases hself with h | h <;> cases h
  exact List.length_pos_iff.2 (Qb hst)
 ·exact absurd rfl hb
theorem ZgP {x : Inst} {d : Day} {s : Stop} {b : Spot} (h : b ∈ ye x d s) : b.t ≤ d.length := by
 obtain ⟨-, -, -, -, h⟩ := ZR h
 rcases h with ⟨l, hl, -⟩ | ⟨rfl, -⟩
 ·exact Nat.le_of_lt (List.getElem?_eq_some_iff.1 hl).1
 ·exact Nat.le_refl _
set_option maxRecDepth 20000 in
set_option maxHeartbeats 1600000 in
theorem ZgQ (x : Inst) (d : Day) (s : Stop) (hx : x.cust.length ≤ 1048576) (hdo : DayOk d) (hf : d.flatten.length ≤ 1000000) : Pure Tryz.prog 71 [.agg (zt x), .agg [L d], .agg [I s.c, I s.q]] (.tup [.agg [L (qx x d s).1], B (qx x d s).2]) := by
 have hit := Zac x d s hx hdo (by omega)
 have hsee := VH x d hx hdo (by omega)
 have hmem := fun h => Qa (l := ye x d s) h
 have hle : ∀ b ∈ ye x d s, b.t ≤ d.length := fun b hb => ZgP hb
 have htour : ∀ b ∈ ye x d s, b.t ≠ d.length → ∃ l, d[b.t]? = some l ∧ 0 < l.length ∧ b.p ≤ l.length := fun b hb => ZgO hb
 have hins : qx x d s = bif (xh (ye x d s)).2 then (qp d (xh (ye x d s)).1 s, true) else (d, false) := rfl
 have hsF := VE (xP x d) s rfl
 rw [hins]
 clear hins
 generalize ye x d s = xs at *
 generalize hlk : xP x d = lk at *
 have hdn := hdo.n
 have hd1 : ∀ l ∈ d, l.length ≤ 1000000 := fun l hl => Nat.le_trans (xR hl).length_le hf
 refine pwe Tryz.func71 Tryz.ntmps71 Tryz.results71 fun S nx hd => ?_
 repeat apply za
 refine pwn ?_
 intro v0 v1 v2 v3
 repeat apply za
 refine pwn ?_
 intro v4 v5
 repeat apply za
 refine pwY none (Row.pures [0, 1, 2, 3, 4] .done) mixed trivial ?_
 refine pwP (hsee) trivial ?_
 refine pwP (hsF) trivial ?_
 intros
 repeat apply za
 refine zg (ZD (xs := xs.map xQ) (σ := Spot × Bool) (fun i st => st = (xs.take i).foldl wu (⟨0, 0, 0⟩, false)) [(3, .ptr nx v0 0), (4, .ptr (nx + 1) v1 0), (5, .ptr (nx + 2) v2 0), (6, .ptr (nx + 3) v3 0), (8, .ptr (nx + 4) v4 0), (9, .ptr (nx + 5) v5 0)] (fun _ => S)
  (fun (b, found) => [.cells v0 25 (zt x), .cells v1 66 [L d], .cells v2 50 [I s.c, I s.q], .cells v3 66 [yx], .cells v4 145 [I b.t, I b.p, I b.m], .cells v5 4 [B found]]) (⟨0, 0, 0⟩, false)
  hit rfl (by intro x hx; obtain ⟨y, _, rfl⟩ := List.mem_map.1 hx; rfl) (by decide) (by simp) (by simp) rfl (by simp) (by simp) ?_ ?_)
 ·rintro l i ⟨b, found⟩ more y hst hy
  simp only at hst ⊢
  rw [List.getElem?_map] at hy
  obtain ⟨p, hp, rfl⟩ := Option.map_eq_some_iff.1 hy
  have hsucc := JW (f := wu) (b := (⟨0, 0, 0⟩, false)) hp
  rw [← hst] at hsucc
  unfold wu at hsucc
  simp only at hsucc
  repeat apply za
  refine pwn ?_
  intro v6
  refine zg ?_
  cases found with
  | false =>
   rw [if_pos (.inl rfl)] at hsucc
   repeat apply za
   refine pwN [(2, 21)] zv ?_
   intros
   repeat apply za
   refine zj rfl ?_
   (repeat apply za); refine pwn ?_; intros
   simp only [qq]
   exact jP (p, true) [_] hsucc.symm rfl (by simp; rfl)
  | true =>
   by_cases hm : p.m < b.m
   ·rw [if_pos (.inr hm)] at hsucc
    repeat apply za
    refine pwN [(2, 21)] (jn2 hm zv) ?_
    intros
    repeat apply za
    refine zj rfl ?_
    (repeat apply za); refine pwn ?_; intros
    simp only [qq]
    exact jP (p, true) [_] hsucc.symm rfl (by simp; rfl)
   ·rw [if_neg (by simp [hm])] at hsucc
    repeat apply za
    refine pwN [(2, 21)] (jn2 hm zv) ?_
    intros
    repeat apply za
    refine zi rfl ?_
    refine zb ?_
    simp only [qq]
    exact jP (b, true) [_] hsucc.symm rfl (by simp; rfl)
 ·rintro ⟨b, found⟩ hst
  simp only [List.length_map, List.take_length] at hst ⊢
  have hbz : xh xs = (b, found) := hst.symm
  rw [hbz] at hmem ⊢
  simp only at hmem ⊢
  cases found with
  | false =>
   simp only [cond_false]
   repeat apply za
   refine pwn ?_
   refine pwc (Zgg d hdn (fun l hl => Nat.le_trans (hd1 l hl) (by decide))) ?_
   intros
   repeat apply za
   refine zg ?_
   (repeat apply za); refine pwn ?_; intros
   repeat apply za
   refine zj rfl ?_
   (repeat apply za); refine pwn ?_; intros
   repeat apply za
   exact ze (zh hd (by simp; rfl) (by simp [zk]))
  | true =>
   have hb := hmem rfl
   have hbl := hle b hb
   simp only [cond_true]
   by_cases hbt : b.t = d.length
   ·have hpd : qp d b s = d ++ [[s]] := by unfold qp; rw [if_pos hbt]
    rw [hpd]
    have hfl : (d.flatMap Enc.enc : List PV).length = d.length := js d
    have htk : (d.flatMap Enc.enc : List PV).take d.length = d.flatMap Enc.enc := List.take_of_length_le (by omega)
    have hsn : ((d ++ [[s]]).flatMap Enc.enc : List PV) = d.flatMap Enc.enc ++ [L [s]] := by rw [List.flatMap_append]; rfl
    repeat apply za
    refine zP [] (by rfl) (by rfl) fun K Gc Gh hK hGc hGh X hX0 hX => ?_
    simp -implicitDefEqProofs [hX0, hX]
    try clear hX0 hX X
    refine hGc _ _ _ _ _ _ _ fun hsuf => ((ZgM d hdn (fun l hl => Nat.le_trans (hd1 l hl) (by decide)) _ _ jr).mono ?_).v
    rintro _ _ ⟨v7, rfl, rfl⟩
    refine ⟨_, _, WD 3 _, ?_⟩
    clear hGc hGh
    clear Gc Gh
    refine zL hsuf (D := []) (by rfl) fun Gc Gh hGc hGh X hX0 hX => ?_
    simp -implicitDefEqProofs [hX0, hX, Nat.add_assoc]
    clear hX0 hX X
    intros
    refine hK _ _ _ ?_
    clear hK hGc hGh
    clear K Gc Gh
    generalize hds : (d.flatMap Enc.enc : List PV) = ds at *
    repeat apply za
    refine zg ?_
    (repeat apply za); refine pwn ?_; intros
    repeat apply za
    refine zi rfl ?_
    (repeat apply za); refine pwn ?_; intros
    repeat apply za
    refine zj (by simp; omega) ?_
    repeat apply za
    refine pwY (some [nx + 2]) (Row.pures [0, 2, 3, 4] (.alt 1 (.alt 5 (Row.pures [6] (.alt 7 (.done) .stop)) .stop) .stop)) mixed (jn2 hfl htk) ?_
    refine pwP (Jq s) (jn2 hfl htk) ?_
    refine ⟨by omega, ?_⟩
    intros
    refine zM 9 rfl ?_
    (repeat apply za); refine pwn ?_; intros
    repeat apply za
    exact ze (zh hd (by simp; rfl) (by simp [zk, hfl, hds]))
   ·obtain ⟨l, hl, hl0, hp⟩ := htour b hb hbt
    have hblt : b.t < d.length := by omega
    have hpd : qp d b s = d.set b.t (qn l b.p s) := by unfold qp; rw [if_neg hbt, List.getD_eq_getElem?_getD, hl]; rfl
    have hl1 := hd1 l (List.mem_of_getElem? hl)
    rw [hpd]
    repeat apply za
    refine zP [] (by rfl) (by rfl) fun K Gc Gh hK hGc hGh X hX0 hX => ?_
    simp -implicitDefEqProofs [hX0, hX]
    try clear hX0 hX X
    refine hGc _ _ _ _ _ _ _ fun hsuf => ((Zgh d b.t l hdn (fun l hl => Nat.le_trans (hd1 l hl) (by decide)) hl hl0 _ _ jr).mono ?_).v
    rintro _ _ ⟨v7, w7, rfl, rfl⟩
    refine ⟨_, _, ZgL _ _ rfl, ?_⟩
    clear hGc hGh
    clear Gc Gh
    refine zL hsuf (D := []) (by rfl) fun Gc Gh hGc hGh X hX0 hX => ?_
    simp -implicitDefEqProofs [hX0, hX, Nat.add_assoc]
    clear hX0 hX X
    intros
    refine hK _ _ _ ?_
    clear hK hGc hGh
    clear K Gc Gh
    repeat apply za
    refine zg ?_
    (repeat apply za); refine pwn ?_; intros
    repeat apply za
    refine zi rfl ?_
    (repeat apply za); refine pwn ?_; intros
    repeat apply za
    refine zi (by simp; omega) ?_
    repeat apply za
    refine pwN [] hblt ?_
    intros
    repeat apply za
    refine xL (some [nx + 4, nx + 2]) (Row.pures [0, 1, 2, 3, 5, 6, 7, 8] (.alt 4 (.alt 9 (Row.pures [10, 11] (.alt 12 (.done) .stop)) .stop) .stop)) mixed (by rfl) (by rfl) (by rfl) fun K Gp Gc Gh hK hGp hGc hGh X hX0 hX1 hX2 hX => ?_
    simp -implicitDefEqProofs [hX0, hX1, hX2, hX, hblt]
    try clear hX0 hX1 hX2 hX X
    refine hGc _ _ _ _ _ _ _ ?_
    refine ((Zgd l b.p s hp hl1 (by simp)).mono ?_).v
    rintro _ _ ⟨rfl, rfl⟩
    have hcl : ((qn l b.p s).flatMap Enc.enc : List PV).length = (l.length + 1) * 2 := by
     have e := (ZT l s b.p).length_eq
     rw [vX, e]; simp
    have hLi : L (qn l b.p s) = .lst (l.length + 1) ((qn l b.p s).flatMap Enc.enc) := by
     have e := (ZT l s b.p).length_eq
     show PV.lst _ _ = _
     rw [e]; rfl
    rw [show l.take b.p ++ s :: l.drop b.p = qn l b.p s from rfl]
    generalize hcs : ((qn l b.p s).flatMap Enc.enc : List PV) = cs at *
    rw [y8 _ (by omega) (by simp), Nat.add_sub_cancel_left]
    refine ⟨by simp [zT], ?_⟩
    clear hGp hGc hGh
    clear Gp Gc Gh
    refine qS fun Gp Gc Gh hGp hGc hGh X hX0 hX1 hX2 hX => ?_
    simp -implicitDefEqProofs [hX0, hX1, hX2, hX, hblt]
    try clear hX0 hX1 hX2 hX X
    refine ⟨by omega, ?_⟩
    refine hK _ _ _ ?_
    clear hK hGp hGc hGh
    clear K Gp Gc Gh
    rw [ZgN _ _ _ _ (by rw [js]; exact hblt)]
    have e10 : yC (nx + 10) (w7 + 1) cs (.sl (nx + 10) (w7 + 1) 2 0 (l.length + 1)) = L (qn l b.p s) := by
     rw [Zaf _ _ _ _ _ hcl.symm, hLi]
    have e9 : yC (nx + 9) v7 ((d.set b.t (qn l b.p s)).flatMap Enc.enc) (.sl (nx + 9) v7 1 0 d.length) = L (d.set b.t (qn l b.p s)) := by
     rw [Zaf _ _ _ _ _ (by rw [js]; simp)]
     show _ = PV.lst _ _
     rw [List.length_set]
    have n9 : yC (nx + 10) (w7 + 1) cs (.sl (nx + 9) v7 1 0 d.length) = .sl (nx + 9) v7 1 0 d.length := by
     simp only [yC]; rw [if_neg (by omega)]
    refine zM 10 rfl ?_
    simp only [List.map_cons, List.map_nil, List.set_cons_succ, List.set_cons_zero, je, ZgK, e10, Zae, n9]
    refine zM 9 rfl ?_
    simp only [List.map_cons, List.map_nil, List.set_cons_succ, List.set_cons_zero, je, e9]
    repeat apply za
    refine pwN [] (jn2 e9 n9) ?_
    intros
    repeat apply za
    exact ze (zh hd (by simp; rfl) (by simp [zk]))
open Go Go.Proofs
theorem Zag {α : Type} (f : Nat → List α) (m : Nat) : ∀ n, (∀ t, t < n → (f t).length ≤ m) → ((List.range n).flatMap f).length ≤ n * m
 | 0, _ => by simp
 | n + 1, h => by
  rw [List.range_succ, List.flatMap_append, List.length_append]
  have h1 := Zag f m n fun t ht => h t (by omega)
  have h2 := h n (by omega)
  simp only [List.flatMap_cons, List.flatMap_nil, List.append_nil]
  rw [Nat.add_mul, Nat.one_mul]; omega
theorem ZgR {d : Day} (h1 : d.length ≤ 1000000) (h2 : d.flatten.length ≤ 1000000) : (vr d).length ≤ 1000001 * 1000001 := by
 unfold vr
 refine Nat.le_trans (Zag _ 1000001 _ fun t _ => ?_) (Nat.mul_le_mul_right _ (by omega))
 rw [List.length_map, List.length_range, List.getD_eq_getElem?_getD]
 cases hq : d[t]? with
 | none => simp
 | some l =>
  have := (xR (List.mem_of_getElem? hq)).length_le
  simp only [Option.getD_some]; omega
theorem ZgS {x : Inst} {d : Day} {s : Stop} (hd : yt x d = 0) (h1 : d.length ≤ 1000000) (h2 : d.flatten.length ≤ 1000000) : (ye x d s).length ≤ 1000001 * 1000001 := by
 rw [Zgz hd]; exact Nat.le_trans (List.length_filterMap_le _ _) (ZgR h1 h2)
theorem ZgT (cs : List PV) (v : PV) (h : 0 < cs.length) : zJ cs (cs.length - 1) [v] = cs.set (cs.length - 1) v := by
 unfold zJ
 rw [List.set_eq_take_append_cons_drop, if_pos (by omega)]; simp
theorem Zah : ∀ (l : List Int) (k : Nat) (v : Int), (l.flatMap Enc.enc : List PV).set k (I v) = (l.set k v).flatMap Enc.enc
 | [], k, v => rfl
 | a :: l, 0, v => rfl
 | a :: l, k + 1, v => by
  rw [List.set_cons_succ, List.flatMap_cons, List.flatMap_cons, ← Zah l k v]
  rfl
theorem ZgU (st : List Int × Int) (p : Spot) : (jk st p).1.length ≤ st.1.length + 1 := by
 unfold jk; split <;> simp
def JX (st : List Int × Int) : Prop := st.2 = -1 ∨ 0 < st.1.length
theorem ZgV {st : List Int × Int} (h : JX st) (p : Spot) : JX (jk st p) := by
 unfold jk
 split
 ·exact .inr (by simp)
 ·rename_i e
  rcases h with h | h
  ·exfalso; simp only [ne_eq] at e; omega
  ·exact .inr (by simpa using h)
set_option maxRecDepth 20000 in
set_option maxHeartbeats 1600000 in
theorem ZgW (x : Inst) (d : Day) (s : Stop) (hx : x.cust.length ≤ 1048576) (hdo : DayOk d) (h0 : yt x d = 0) (h1 : d.length ≤ 1000000) (h2 : d.flatten.length ≤ 1000000) : Pure Tryz.prog 266 [.agg (xP x d), .agg [I s.c, I s.q]] (L (u5 x d s)) := by
 have hit := Zac x d s hx hdo (by omega)
 have hfold := ZgE (s := s) h0
 have hlen := ZgS (s := s) h0 h1 h2
 have hml := ZgF x d s (d.length + 1)
 have hsF := VE (xP x d) s rfl
 unfold u5
 rw [← hfold] at hml ⊢
 clear hfold
 generalize ye x d s = xs at *
 obtain ⟨on, tw, fs, bd, ls, ws, hlk⟩ : ∃ on tw fs bd ls ws, xP x d = xg x d on tw fs bd ls ws := ⟨_, _, _, _, _, _, rfl⟩
 rw [hlk] at hit hsF ⊢
 clear hlk
 refine pwe Tryz.func266 Tryz.ntmps266 Tryz.results266 fun S nx hd => ?_
 repeat apply za
 refine pwn ?_
 intro v0 v1
 repeat apply za
 refine pwn ?_
 intro v2
 repeat apply za
 refine pwn ?_
 intro v3
 repeat apply za
 refine pwn ?_
 refine pwc hsF ?_
 intros
 refine qB 2 0 3 1 rfl rfl fun v4 => ?_
 repeat apply za
 refine zg (ZD (xs := xs.map xQ) (σ := (List Int × Int) × Nat) (fun i st => st.1 = (xs.take i).foldl jk ([], -1) ∧ JX st.1 ∧ st.1.1.length ≤ i ∧ i ≤ xs.length) [(2, .ptr nx v0 0), (3, .ptr (nx + 1) v1 0), (5, .ptr (nx + 2) v2 0), (6, .ptr (nx + 3) v3 0)] (fun _ => S)
  (fun ((l, last), v4) => [.cells v0 149 (xg x d on tw fs bd ls ws), .cells v1 50 [I s.c, I s.q], .cells v2 54 [.sl (nx + 4) v4 1 0 l.length], .cells v3 3 [I last], .cells v4 3 (l.flatMap Enc.enc)]) (([], -1), v4)
  hit rfl (by intro x hx; obtain ⟨y, _, rfl⟩ := List.mem_map.1 hx; rfl) (by decide) (by simp) ⟨rfl, .inl rfl, by simp, by simp⟩ rfl (by simp) (by simp) ?_ ?_)
 ·rintro lp i ⟨⟨l, last⟩, v4⟩ more y ⟨hst, hok, hli, hi⟩ hy
  simp only at hst hok hli hi ⊢
  rw [List.getElem?_map] at hy
  obtain ⟨p, hp, rfl⟩ := Option.map_eq_some_iff.1 hy
  have hsucc := JW (f := jk) (b := ([], -1)) hp
  rw [← hst] at hsucc
  have hok2 := ZgV hok p
  have hln2 := ZgU (l, last) p
  simp only at hln2
  have hil := (List.getElem?_eq_some_iff.1 hp).1
  have hdef : jk (l, last) p = jk (l, last) p := rfl
  conv at hdef => rhs; unfold jk
  simp only at hdef
  have hlf : (l.flatMap Enc.enc : List PV).length = l.length := qm l
  have hlt : (l.flatMap Enc.enc : List PV).take l.length = l.flatMap Enc.enc := List.take_of_length_le (by omega)
  repeat apply za
  refine pwn ?_
  intro v5
  refine zg ?_
  (repeat apply za); refine pwn ?_; intros
  by_cases hpl : (p.t : Int) = last
  ·have hl0 : 0 < l.length := by
    rcases hok with e | e
    ·simp only at e; omega
    ·exact e
   obtain ⟨m, hm⟩ : ∃ m, l.length = m + 1 := ⟨l.length - 1, by omega⟩
   obtain ⟨z, tz, z1, z2, z3, z0⟩ := el1 rfl l m (by omega)
   rw [if_neg (by simp [hpl])] at hdef
   have hgz : l.getD (l.length - 1) 0 = z := by rw [hm, Nat.add_sub_cancel, List.getD_eq_getElem?_getD, z1]; rfl
   rw [hgz] at hdef
   have wm : IntKind.i64.wrap ((l.length : Int) - 1) = (m : Int) := by rw [wr _ (by omega) (by omega)]; omega
   have hml1 : m < l.length := by omega
   have hml2 : 1 ≤ l.length - m := by omega
   have hsp := ZgT (l.flatMap Enc.enc) (I (if p.m < z then p.m else z)) (by omega)
   rw [hlf, Zah] at hsp
   have hmin : xG z p.m = if p.m < z then p.m else z := rfl
   repeat apply za
   refine zi (by simp [hpl]) ?_
   refine zb ?_
   rw [show l.length - 1 = m by omega] at hsp
   repeat apply za
   refine pwY (some [nx + 2, nx + (more.length + 5)]) (Row.pures [0, 1, 2, 3, 4, 5, 6, 7, 8, 10, 11] (.alt 9 (Row.pures [12, 13] (.alt 14 (.done) .stop)) .stop)) mixed (jn6 wm hml1 hml2 z0 hmin hlf) ?_
   refine ⟨by omega, ?_⟩
   intros
   simp only [qq]
   rw [hm, Nat.add_sub_cancel] at hdef
   rw [hdef] at hsucc hok2
   refine jP ((l.set m (if p.m < z then p.m else z), last), v4) [_] ⟨hsucc.symm, hok2, by simp; omega, by omega⟩ rfl (by simp [hsp]; rfl)
  ·rw [if_pos hpl] at hdef
   rw [hdef] at hsucc hok2 hln2
   have w0 : IntKind.i64.wrap (l.length : Int) = (l.length : Int) := wr _ (by omega) (by omega)
   have w2 : (l.length : Int) < (l.length : Int) + 1 := by omega
   have hmin : xG p.m p.m = p.m := by unfold xG; split <;> rfl
   have hat : (l.flatMap Enc.enc ++ [I p.m] : List PV)[l.length]? = some (I p.m) := by rw [List.getElem?_append_right (by omega), hlf, Nat.sub_self]; rfl
   have hdl : (l.flatMap Enc.enc ++ [I p.m] : List PV).drop l.length = [I p.m] := by rw [← hlf, List.drop_left]
   have hspl : zJ (l.flatMap Enc.enc ++ [I p.m] : List PV) l.length [I p.m] = l.flatMap Enc.enc ++ [I p.m] := by
    unfold zJ
    rw [← hlf, List.take_left, List.drop_of_length_le (by simp)]; simp
   repeat apply za
   refine zj (by simp [hpl]) ?_
   repeat apply za
   refine pwY (some [nx + (more.length + 5)]) (Row.pures [1, 2, 3, 5, 6] (.alt 0 (.alt 4 (.alt 7 (.alt 8 (.done) .stop) .stop) .stop) .stop)) mixed (jn2 hlf hlt) ?_
   refine ⟨by omega, ?_⟩
   intros
   repeat apply za
   refine pwY (some [nx + 2, nx + (more.length + 5)]) (Row.pures [0, 1, 2, 3, 4, 5, 6, 7, 8, 10, 11] (.alt 9 (Row.pures [12, 13] (.alt 14 (.done) .stop)) .stop)) mixed (jn5 w0 w2 hmin hat hlf) ?_
   intros
   simp only [qq]
   refine jP ((l ++ [p.m], (p.t : Int)), v4 + 1) [_] ⟨hsucc.symm, hok2, by simp; omega, by omega⟩ rfl (by simp [hspl]; rfl)
 ·rintro ⟨⟨l, last⟩, v4⟩ ⟨hst, -⟩
  simp only [List.length_map, List.take_length] at hst ⊢
  rw [← hst] at hml ⊢
  simp only at hml ⊢
  have hz4 := vj l
  repeat apply za
  refine zP [] (by rfl) (by rfl) fun K Gc Gh hK hGc hGh X hX0 hX => ?_
  simp -implicitDefEqProofs [hX0, hX]
  try clear hX0 hX X
  refine hGc _ _ _ _ _ _ _ fun hsuf => ((YX l (by simp) (by omega)).mono ?_).v
  rintro _ _ rfl
  refine ⟨_, _, y8 _ (by omega) (by simp), ?_⟩
  clear hGc hGh
  clear Gc Gh
  refine zL hsuf (D := []) (by rfl) fun Gc Gh hGc hGh X hX0 hX => ?_
  simp -implicitDefEqProofs [hX0, hX, (show nx + 4 - nx = 4 by omega)]
  clear hX0 hX X
  intros
  refine hK _ _ _ ?_
  clear hK hGc hGh
  clear K Gc Gh
  generalize zZ l = c at *
  rw [← hz4]
  refine zM 4 rfl ?_
  (repeat apply za); refine pwn ?_; intros
  repeat apply za
  exact ze (zh hd (by simp; rfl) rfl)
open Go Go.Proofs Go.Shelf Go.RowKit Go.Lib
theorem ZgX {P : Program} (b o : Nat) (vs : List Value) (w : World) (cur : Array Value) (t : TypeId) (hw : w.heap[b]? = some (.cells cur t (0, 0))) (hl : o + vs.length ≤ cur.size) (h1 : ∀ v ∈ vs, v.oneCell' = true) :
  w.setCells b o vs = w.setRow b (cur.toList.take o ++ vs ++ cur.toList.drop (o + vs.length)).toArray := by
 have a := run_storeCells_cells (P := P) b o vs 0 w (fun j hj => by simp [World.cell?, hw]; omega) (fun j _ => by simp [World.frozen?, hw]) h1
 have c := run_storeCells_at (P := P) b o t vs 0 cur w hw (by simpa using hl) h1
 rw [a] at c
 simpa using c
theorem ZgY (zc : Array Value) : (Builtin.zeroCells zc 1).toList = zc.toList := by
 apply List.ext_getElem
 ·simp [Builtin.zeroCells]
 ·intro i h1 h2
  simp [Builtin.zeroCells, Nat.mod_eq_of_lt (show i < zc.size by simpa using h2)]
  exact getElem!_pos zc i (by simpa using h2)
theorem ZgZ {P : Program} (w : World) (t e ty : TypeId) (zc : Array Value) (ht : P.underlying t = some (.slice e)) (hv : ∀ w, (zeroValue e).run P w = .ok (.agg zc) w) (h1 : ∀ v ∈ zc.toList, v.oneCell' = true) (b o c : Nat) (cur : Array Value) (t' : TypeId) (hw : w.heap[b]? = some (.cells cur t' (0, 0))) (hl : o + zc.size ≤ cur.size) :
  (Builtin.clear_ #[t] ty #[.slice (some ⟨b, o, none⟩) 1 c]).run P w = .ok (.tuple #[]) (w.setRow b (cur.toList.take o ++ zc.toList ++ cur.toList.drop (o + zc.size)).toArray) := by
 have c := run_storeCells_at (P := P) b o t' zc.toList 0 cur w hw (by simpa using hl) h1
 simp only [Nat.add_zero, Array.length_toList] at c
 simp [Builtin.clear_, run_underlying ht, hv, ZgY, c]
set_option maxHeartbeats 4000000 in
set_option maxRecDepth 100000 in
theorem Zg0 (b n c i : Nat) (V : List Value) (w : World) (i0 : TypeInfo) (hi0 : Tryz.prog.info? 50 = some i0) (hzs : i0.size = 2) (cur : Array Value) (hcur : w.heap[b]? = some (.cells cur 50 (0, 0))) (hcc : cur.size = c * 2)
  (hi : i < n) (hnc : n ≤ c) (hc63 : c ≤ 9223372036854775807) (hn : n ≤ 1048576) (hV : V.length = n * 2) (hcV : cur.toList.take (n * 2) = V) (h1 : ∀ v ∈ V, v.oneCell' = true) (R1 R2 : Array Value)
  (hR1 : R1 = (cur.toList.take (i * 2) ++ V.drop ((i + 1) * 2) ++ cur.toList.drop (i * 2 + (V.drop ((i + 1) * 2)).length)).toArray) (hR2 : R2 = (R1.toList.take ((i + (n - (i + 1))) * 2) ++ ([.int .i64 0, .int .i64 0] : List Value) ++ R1.toList.drop ((i + (n - (i + 1))) * 2 + 2)).toArray) :
  Calls Tryz.prog 248 #[.slice (some ⟨b, 0, none⟩) n c, .int .i64 i, .int .i64 ((i : Int) + 1)] w fun e w' =>
   e = .returned (.slice (some ⟨b, 0, none⟩) (i + (n - (i + 1))) c) ∧ w' = (w.drew.setRow b R1).setRow b R2 := by
 obtain ⟨news, hnews⟩ : ∃ news, news = V.drop ((i + 1) * 2) := ⟨_, rfl⟩
 have hlen : news.length = (n - (i + 1)) * 2 := by rw [hnews, List.length_drop, hV]; omega
 have hget : ∀ t u, news[t]? = some u → w.drew.cell? ⟨b, (i + 1) * 2 + t, none⟩ = some u := by
  intro t u hu
  rw [hnews, List.getElem?_drop, ← hcV, List.getElem?_take] at hu
  split at hu
  ·rw [Array.getElem?_toList] at hu
   show w.cell? _ = _
   simp [World.cell?, hcur, hu]
  ·cases hu
 obtain ⟨A, hA, hsrc⟩ : ∃ A : Addr, (if c = i + 1 then some (⟨b, 0, none⟩ : Addr) else some ⟨b, (i + 1) * 2, none⟩) = some A ∧ Hid (∀ t u, news[t]? = some u → w.drew.cell? (A.add t) = some u) := by
  by_cases h : c = i + 1
  ·refine ⟨⟨b, 0, none⟩, by simp [h], fun t u hu => ?_⟩
   have h0 : news.length = 0 := by rw [hlen]; omega
   rw [List.length_eq_zero_iff.1 h0] at hu
   simp at hu
  ·refine ⟨⟨b, (i + 1) * 2, none⟩, by simp [h], fun t u hu => ?_⟩
   rw [Addr.add_lit]
   exact hget t u hu
 have s1 : Hid (news.length = (n - (i + 1)) * 2) := hlen
 have s2 : Hid (∀ u ∈ news, u.oneCell' = true) := fun u hu => h1 u (by rw [hnews] at hu; exact List.mem_of_mem_drop hu)
 have s3 : Hid (∀ t, t < news.length → (w.drew.cell? ⟨b, 0 + i * 2 + t, none⟩).isSome = true ∧ w.drew.frozen? ⟨b, 0 + i * 2 + t, none⟩ = false) := by
  intro t ht
  rw [hlen] at ht
  refine ⟨?_, ?_⟩
  ·show (w.cell? _).isSome = true
   simp [World.cell?, hcur]; omega
  ·show w.frozen? _ = false
   simp [World.frozen?, hcur]
 obtain ⟨W1, hW1⟩ : ∃ W1, W1 = w.drew.setCells b (0 + i * 2) news := ⟨_, rfl⟩
 have hW1' : W1 = w.drew.setRow b R1 := by
  rw [hW1, ZgX (P := Tryz.prog) b (0 + i * 2) news w.drew cur 50 hcur (by rw [hlen, hcc]; omega) s2, hR1, hnews, Nat.zero_add]
 have hW1h : W1.heap[b]? = some (.cells R1 50 (0, 0)) := by rw [hW1']; exact setRow_heap _ _ _ _ _ _ hcur
 have hR1s : R1.size = c * 2 := by rw [hR1, ← hnews]; simp [hlen]; omega
 have hcl : ∀ ty, (Builtin.clear_ #[46] ty #[.slice (some ⟨b, (i + (n - (i + 1))) * 2, none⟩) (n - (i + (n - (i + 1)))) (c - (i + (n - (i + 1))))]).run Tryz.prog W1 = .ok (.tuple #[]) (W1.setRow b R2) := fun ty => by
  have := ZgZ (P := Tryz.prog) W1 46 50 ty #[.int .i64 0, .int .i64 0] Tryz.underlying46 Tryz.zeroValue50 (by intro v hv; simp at hv; rcases hv with rfl | rfl <;> rfl) b ((i + (n - (i + 1))) * 2) (c - (i + (n - (i + 1)))) R1 50 hW1h (by simp; omega)
  rw [show n - (i + (n - (i + 1))) = 1 by omega, this, hR2]
  simp
 have hW : Hid (W1 = w.drew.setCells b (0 + i * 2) news) := hW1
 have hX : Hid (W1 = w.drew.setRow b R1) := hW1'
 clear hW1 hW1' hW1h hR1 hR2 hR1s hcur hcV hget hnews hlen h1 hV hcc
 have hic : i ≤ c := by omega
 have hjc : i + 1 ≤ c := by omega
 have hin : i ≤ n := by omega
 have hjn : i + 1 ≤ n := by omega
 have hne : ¬ (i : Int) = (i : Int) + 1 := by omega
 have hb1 : (0 : Int) ≤ (i : Int) + 1 := by omega
 have htn : ((i : Int) + 1).toNat = i + 1 := by omega
 have hb2 : (i : Int) + 1 ≤ (n : Int) := by omega
 have hb3 : (i : Int) ≤ (i : Int) + 1 := by omega
 have hcn : ¬ c = i + (n - (i + 1)) := by omega
 have hnn : i + (n - (i + 1)) ≤ n := by omega
 have mixed : Tryz.prog.follows .mixedOrders = true := by kernel_rfl
 go_enter Tryz.func248, Tryz.ntmps248
 go_wp2_with fail
 go_region_law_o (refine step_append_room rfl (.tmp 22) (.tmp 25) 46 rfl 50 i0 2 Tryz.underlying46 hi0 hzs b 0 i c (by simp [Act.eval, Act.put]) A (n - (i + 1)) (c - (i + 1)) news (by simp [Act.eval, Act.put]) s1.out hsrc.out s2.out (by omega) s3.out ?_; rw [← hW.out])
 go_wp2
 go_ret
 exact ⟨rfl, by rw [hX.out]⟩
theorem Zg1 (l : List Stop) (i : Nat) (h : i < l.length) : zF (l.eraseIdx i) = (zF l).take (i * 2) ++ (zF l).drop ((i + 1) * 2) := by
 rw [List.eraseIdx_eq_take_drop_succ, YY, WY l i (by omega), WZ l (i + 1) (by omega)]
theorem Zg2 {S : Store} {id ver : Nat} (cs : List Stop) (i : Nat) (hi : i < cs.length) (hn : cs.length ≤ 1000000) (hid : S id = .cells ver 50 (cs.flatMap Enc.enc)) :
  Spec Tryz.prog 248 [.sl id ver 2 0 cs.length, I i, I ((i : Int) + 1)] S (fun p S' => p = .sl id (ver + 1) 2 0 (cs.eraseIdx i).length ∧ S' = S.set id (.cells (ver + 1) 50 ((cs.eraseIdx i).flatMap Enc.enc))) := by
 refine ⟨yN Tryz.func248 (by rfl) rfl, ?_⟩
 intro C w vs hS hl hr
 obtain ⟨u, v, x, rfl⟩ := W0 hl
 obtain rfl := ud (hr 1 _ v rfl rfl)
 obtain rfl := ud (hr 2 _ x rfl rfl)
 have hu := hr 0 _ u rfl rfl
 have hvl : (zF cs).length = cs.length * 2 := uT cs
 have hel : (cs.eraseIdx i).length = i + (cs.length - (i + 1)) := by rw [List.length_eraseIdx_of_lt hi]; omega
 have hnew := Zg1 cs i hi
 have hnl : (zF (cs.eraseIdx i)).length = (i + (cs.length - (i + 1))) * 2 := by rw [uT, hel]
 rw [WX] at hid ⊢
 rw [hel]
 generalize cs.eraseIdx i = es at *
 obtain ⟨i0, hi0⟩ := Option.isSome_iff_exists.1 i50
 have hc := c50
 simp only [Program.cellsOf, hi0, Option.map_some, Option.getD_some] at hc
 cases hu with
 | sl h1 h2 h3 =>
  obtain ⟨ad, cap, rfl, q1, q2, q3, q4⟩ := h1
  have hloc := (h3 ver (by rw [hid]; rfl)).2 rfl
  rcases hS.cells id ver _ _ hid with ⟨hno, hnil⟩ | ⟨b, k, c, g1, g2, g3, g4, g5, g6⟩
  ·have := congrArg List.length hnil
   simp [hvl] at this
   exfalso; omega
  rcases hloc with ⟨z1, _⟩ | ⟨b', k', ad', cap', z1, z2, z3, z4⟩
  ·rw [g1] at z1; cases z1
  rw [g1] at z1; cases z1; cases z2
  obtain ⟨rfl, hcap⟩ := z3 rfl
  rw [List.length_map, hvl] at g4
  have hcells : ∀ (j : Nat) v, (zF cs)[j]? = some v → c[j]? = some v := by
   intro j v hj
   have hjl := (List.getElem?_eq_some_iff.1 hj).1
   have e2 : c[j]? = some c[j] := Array.getElem?_eq_getElem (by omega)
   have := g6 j (.sc v) _ (by rw [List.getElem?_map, hj]; rfl) e2
   rw [e2]
   generalize c[j] = y at this
   cases this; rfl
  have hcur : c.toList.take (cs.length * 2) = zF cs := by
   apply List.ext_getElem?
   intro j
   by_cases hj : j < cs.length * 2
   ·rw [List.getElem?_take_of_lt hj, Array.getElem?_toList]
    have e : (zF cs)[j]? = some (zF cs)[j] := List.getElem?_eq_getElem (by omega)
    rw [e, hcells j _ e]
   ·rw [List.getElem?_eq_none (by simp; omega), List.getElem?_eq_none (by omega)]
  have hcsz : c.size = cap * 2 := g3.trans hcap.symm
  have hdl : ((zF cs).drop ((i + 1) * 2)).length = (cs.length - (i + 1)) * 2 := by rw [List.length_drop, hvl]; omega
  obtain ⟨R1, hR1⟩ : ∃ R1 : Array Value, R1 = (c.toList.take (i * 2) ++ (zF cs).drop ((i + 1) * 2) ++ c.toList.drop (i * 2 + ((zF cs).drop ((i + 1) * 2)).length)).toArray := ⟨_, rfl⟩
  obtain ⟨R2, hR2⟩ : ∃ R2 : Array Value, R2 = (R1.toList.take ((i + (cs.length - (i + 1))) * 2) ++ ([.int .i64 0, .int .i64 0] : List Value) ++ R1.toList.drop ((i + (cs.length - (i + 1))) * 2 + 2)).toArray := ⟨_, rfl⟩
  have htk : c.toList.take (i * 2) = (zF cs).take (i * 2) := by rw [← hcur, List.take_take, Nat.min_eq_left (by omega)]
  have hR1l : R1.toList.take ((i + (cs.length - (i + 1))) * 2) = zF es := by
   rw [hR1]
   simp only []
   rw [htk, ← hnew, ← hnl, List.take_left]
  have hR1s : R1.size = cap * 2 := by rw [hR1]; simp [hdl]; omega
  have hR2l : R2.toList = zF es ++ (([.int .i64 0, .int .i64 0] : List Value) ++ R1.toList.drop ((i + (cs.length - (i + 1))) * 2 + 2)) := by
   rw [hR2, hR1l]
   simp
  have hR2s : R2.size = cap * 2 := by
   rw [← Array.length_toList, hR2l]
   simp [hnl, hR1s]
   omega
  refine (Zg0 b cs.length cap i (zF cs) w i0 hi0 hc c g2 hcsz hi q1 (by unfold maxLen at q3; omega) (by omega) hvl hcur (uU cs) R1 R2 hR1 hR2).mono ?_
  rintro e w' ⟨rfl, rfl⟩
  obtain ⟨r1, r2⟩ := Jo (C := C) (S := S) (w := w) hR2l (uU _)
  have hb1 := setRow_heap w.drew b c R1 _ _ g2
  obtain ⟨t1, t2⟩ := hS.turn (l := some (b, cap * 2)) (ver' := ver + 1) (cs' := (zF es).map .sc) hid (by omega) (fun h => absurd h (by omega)) (w' := (w.drew.setRow b R1).setRow b R2)
   (by
    rw [g1]
    refine ⟨⟨rfl, rfl, rfl, by simp [World.setRow], fun j hj hne => ?_⟩, Nat.le_succ _⟩
    have hjb : j ≠ b := fun e => hne (by rw [e]; rfl)
    rw [setRow_other _ _ _ _ hjb, setRow_other _ _ _ _ hjb]; rfl)
   (.inr ⟨b, cap * 2, R2, rfl, .inr (by rw [g1]; rfl), setRow_heap _ _ _ _ _ _ hb1, hR2s, by rw [List.length_map, hnl]; omega, r1, r2⟩)
  refine ⟨_, _, _, _, rfl, ⟨rfl, rfl⟩, ?_, t1, t2⟩
  refine .sl ⟨_, _, rfl, by omega, by unfold qA; omega, q3, fun _ => ⟨_, _, rfl⟩⟩ ⟨h2.1, by simp only [Ctx.at]; omega⟩ fun v0 hv0 => ?_
  rw [Store.set_same] at hv0; cases hv0
  exact ⟨Nat.le_refl _, fun _ => .inr ⟨b, _, _, _, by simp [Ctx.at], rfl, fun _ => ⟨rfl, rfl⟩, fun _ => rfl⟩⟩
open Go Go.Proofs
def uo (c : Int) (l : List Stop) : Int := ((l.filter fun s => decide (s.c = c)).map (·.q)).sum
theorem Zg3 (c : Int) (d : Day) : VU c d = W (uo c d.flatten) := rfl
theorem Zg4 (c : Int) (l : List Stop) (s : Stop) : uo c (l ++ [s]) = uo c l + if s.c = c then s.q else 0 := by
 unfold uo
 rw [List.filter_append, List.map_append, List.sum_append]
 by_cases h : s.c = c <;> simp [h]
theorem Zg5 (c : Int) (l : List Stop) (s : Stop) : ji c (l ++ [s]) = ji c l ++ if s.c = c then [] else [s] := by
 unfold ji
 rw [List.filter_append]
 by_cases h : s.c = c <;> simp [h]
theorem Zg6 (c : Int) (d : Day) (t : zp) : qV c (d ++ [t]) = qV c d ++ if (ji c t).length = 0 then [] else [ji c t] := by
 rw [Zgt]
 congr 1
 unfold qV
 rw [List.map_cons, List.map_nil]
 generalize ji c t = u
 cases u <;> simp
theorem Zai (c : Int) (t : zp) : (ji c t).length ≤ t.length := List.length_filter_le _ _
theorem Zg7 (c : Int) (d : Day) : (qV c d).length ≤ d.length := by
 unfold qV
 exact Nat.le_trans (List.length_filter_le _ _) (by simp)
set_option maxRecDepth 20000 in
set_option maxHeartbeats 1600000 in
theorem Zg8 (d : Day) (c : Int) (hdn : d.length ≤ 1048576) (hdt : ∀ t ∈ d, t.length ≤ 1048576) : Pure Tryz.prog 68 [.agg [L d], I c] (.tup [.agg [L (qV c d)], I (VU c d)]) := by
 rw [Zg3]
 refine pwe Tryz.func68 Tryz.ntmps68 Tryz.results68 fun S nx hd => ?_
 repeat apply za
 refine pwn ?_
 intro v0 v1
 repeat apply za
 refine pwn ?_
 intro v2
 refine qB 2 0 72 1 rfl rfl fun v3 => ?_
 (repeat apply za); refine pwn ?_; intros
 (repeat apply za); refine pwn ?_; intros
 repeat apply za
 refine zg (zr (fun (s : Nat × Nat) => s.1 ≤ d.length) (fun (k, v3) => [(1, I c), (4, .ptr (nx + 1) v1 0), (6, .ptr (nx + 2) v2 0), (7, I (W (uo c (d.take k).flatten))), (14, L d), (15, I d.length), (16, I k)]) (fun (k, v3) => [.cells v0 66 [L d], .cells v1 66 [yx], .cells v2 66 [.sl (nx + 3) v3 1 0 (qV c (d.take k)).length], .cells v3 72 ((qV c (d.take k)).flatMap Enc.enc)]) (fun s => d.length - s.1) (0, v3) [] (by simp) (by simp [uo]) (by simp [qV]) ?_)
 rintro ⟨k, v3⟩ hk
 simp only at hk ⊢
 (repeat apply za); refine pwn ?_; intros
 repeat apply za
 refine zn rfl (fun hc => ?_) (fun hc => ?_)
 ·simp at hc
  obtain ⟨t, tl, a1, a2, a3, e0⟩ := el1 rfl d k hc
  have hk1 : 1 ≤ d.length - k := by omega
  have htm := List.mem_of_getElem? a1
  have htn := hdt t htm
  have hrd := Zg6 c (d.take k) t
  rw [← a3] at hrd
  have hfl : (d.take (k + 1)).flatten = (d.take k).flatten ++ t := by rw [a3, List.flatten_append]; simp
  generalize (d.take k).flatten = pre at *
  have hrl : (qV c (d.take k)).length ≤ 1048576 := Nat.le_trans (Zg7 _ _) (by rw [List.length_take]; omega)
  refine zb (za (zg ?_))
  generalize hrk : qV c (d.take k) = rk at *
  have hfz : ∀ id v cs, (rk.flatMap Enc.enc).map (yC id v cs) = (rk.flatMap Enc.enc : List PV) := fun id v cs => Zad id v cs rk
  have hrf : (rk.flatMap Enc.enc : List PV).length = rk.length := js rk
  have hrt : (rk.flatMap Enc.enc : List PV).take rk.length = rk.flatMap Enc.enc := List.take_of_length_le (by omega)
  repeat apply za
  refine pwN [] (jn3 hc e0 hk1) ?_
  intro v4
  (repeat apply za); refine pwn ?_; intros
  refine qe 10 50 2 rfl fun v5 => ?_
  (repeat apply za); refine pwn ?_; intros
  repeat apply za
  refine zg (zr (fun (s : Nat × Nat) => s.1 ≤ t.length) (fun (j, v5) => [(1, I c), (4, .ptr (nx + 1) v1 0), (6, .ptr (nx + 2) v2 0), (7, I (W (uo c (pre ++ t.take j)))), (10, .sl (nx + 5) v5 2 0 (ji c (t.take j)).length), (14, L d), (15, I d.length), (16, I k), (21, L t), (22, I t.length), (23, I j)]) (fun (j, v5) => [.cells v0 66 [L d], .cells v1 66 [yx], .cells v2 66 [.sl (nx + 3) v3 1 0 rk.length], .cells v3 72 (rk.flatMap Enc.enc), .cells v4 72 [L t], .cells v5 50 ((ji c (t.take j)).flatMap Enc.enc)]) (fun s => t.length - s.1) (0, v5) [] (by simp) (by simp [ji]) (by simp [ji]) ?_)
  rintro ⟨j, v5⟩ hj
  simp only at hj ⊢
  (repeat apply za); refine pwn ?_; intros
  repeat apply za
  refine zn rfl (fun hcj => ?_) (fun hcj => ?_)
  ·simp at hcj
   obtain ⟨s, ts, b1, b2, b3, b4, b5⟩ := el 2 rfl t j hcj
   have hj2 : 2 ≤ t.length * 2 - j * 2 := by omega
   have hsum := Zg4 c (pre ++ t.take j) s
   rw [List.append_assoc, ← b3] at hsum
   have hrs := Zg5 c (t.take j) s
   rw [← b3] at hrs
   have hul : (ji c (t.take j)).length ≤ 1048576 := Nat.le_trans (Zai _ _) (by rw [List.length_take]; omega)
   generalize ji c (t.take j) = u at *
   have huf : (u.flatMap Enc.enc : List PV).length = u.length * 2 := vX u
   have hut : (u.flatMap Enc.enc : List PV).take (u.length * 2) = u.flatMap Enc.enc := List.take_of_length_le (by omega)
   refine zb (za (zg ?_))
   repeat apply za
   refine pwN [] (jn3 hcj b5 hj2) ?_
   intro v6
   (repeat apply za); refine pwn ?_; intros
   repeat apply za
   refine zn rfl (fun hq => ?_) (fun hq => ?_)
   ·simp at hq
    rw [if_pos hq] at hsum hrs
    rw [List.append_nil] at hrs
    (repeat apply za); refine pwn ?_; intros
    (repeat apply za); refine pwn ?_; intros
    exact zm (j + 1, v5) [_] (by simp; omega) (by simp; omega) (by simp [wrN j (by omega), hsum, vi, hrs]) rfl (by simp [hrs]; rfl)
   ·simp at hq
    rw [if_neg hq] at hsum hrs
    rw [Int.add_zero] at hsum
    have hul' : ((ji c (t.take (j + 1))).flatMap Enc.enc : List PV) = u.flatMap Enc.enc ++ [I s.c, I s.q] := by rw [hrs, List.flatMap_append]; rfl
    repeat apply za
    refine pwN [] (jn2 huf hut) ?_
    refine ⟨by omega, ?_⟩
    intros
    (repeat apply za); refine pwn ?_; intros
    exact zm (j + 1, v5 + 1) [_] (by simp; omega) (by simp; omega) (by simp [wrN j (by omega), hsum, hrs]) rfl (by simp [hul']; rfl)
  ·simp at hcj
   obtain rfl : j = t.length := by omega
   refine zo ?_
   rw [List.take_length]
   have hul : (ji c t).length ≤ 1048576 := Nat.le_trans (Zai _ _) htn
   generalize ji c t = u at *
   have huf : (u.flatMap Enc.enc : List PV).length = u.length * 2 := vX u
   refine zM 5 rfl ?_
   simp only [List.map_cons, List.map_nil, List.set_cons_succ, List.set_cons_zero, je, hfz]
   (repeat apply za); refine pwn ?_; intros
   repeat apply za
   refine zn rfl (fun hq => ?_) (fun hq => ?_)
   ·simp at hq
    rw [if_neg (by omega)] at hrd
    have hrl' : ((rk ++ [u]).flatMap Enc.enc : List PV) = rk.flatMap Enc.enc ++ [L u] := by rw [List.flatMap_append]; rfl
    repeat apply za
    refine pwN [] (jn2 hrf hrt) ?_
    refine ⟨by omega, ?_⟩
    intros
    (repeat apply za); refine pwn ?_; intros
    exact zm (k + 1, v3 + 1) [_, _] (by simp; omega) (by simp; omega) (by simp [wrN k (by omega), hfl]) rfl (by simp [hrd, hrl']; exact ⟨rfl, rfl⟩)
   ·simp at hq
    rw [if_pos (by rw [hq]; rfl), List.append_nil] at hrd
    refine zb ?_
    (repeat apply za); refine pwn ?_; intros
    exact zm (k + 1, v3) [_, _] (by simp; omega) (by simp; omega) (by simp [wrN k (by omega), hfl]) rfl (by simp [hrd]; exact ⟨rfl, rfl⟩)
 ·simp at hc
  obtain rfl : k = d.length := by omega
  refine zo ?_
  refine zM 3 rfl ?_
  have g1 : d.take d.length = d := List.take_length
  (repeat apply za); refine pwn ?_; intros
  repeat apply za
  exact ze (zh hd (by simp; rfl) (by simp [zk, g1]))
open Go Hp
theorem Zaj {x : Inst} (h : ∀ row ∈ x.dist, ∀ d ∈ row, 0 ≤ d ∧ d ≤ 2147483648) : qv x := by
 intro a b
 unfold arc
 split
 ·omega
 ·rw [List.getD_eq_getElem?_getD, List.getD_eq_getElem?_getD]
  cases hr : x.dist[a.toNat]? with
  | none => simp
  | some row =>
   simp only [Option.getD_some]
   cases hd : row[b.toNat]? with
   | none => simp
   | some d => exact h row (List.mem_of_getElem? hr) d (List.mem_of_getElem? hd)
open Go Go.Proofs
theorem Zg9 {x : Inst} {d : Day} {s : Stop} (hx : x.cust.length ≤ 1048576) (hdo : DayOk d) (hd1 : d.length ≤ 1000000) (hf : d.flatten.length ≤ 1000000) : DayOk (qx x d s).1 := by
 unfold qx
 cases hb : (xh (ye x d s)).2 with
 | false => exact hdo
 | true =>
  have hm := Qa hb
  have hp := JR hm
  have hs := Zab hx (ZR hm).1
  simp only [cond_true]
  have hfl : (qp d (xh (ye x d s)).1 s).flatten.length ≤ 1000001 := by rw [hp.length_eq, List.length_cons]; omega
  refine ⟨?_, fun t ht => ?_, fun t ht a ha => ?_⟩
  ·unfold qp; split
   ·simp; omega
   ·simp; omega
  ·have := (xR ht).length_le; omega
  ·have := hp.subset ((xR ht).subset ha)
   rw [List.mem_cons] at this
   rcases this with rfl | h
   ·exact hs
   ·obtain ⟨u, hu, hau⟩ := List.mem_flatten.1 h
    exact hdo.s u hu a hau
open Go Go.Proofs
def xS (l : List Int) : Int := if 1 < l.length then W (l.getD 1 0 - l.getD 0 0) else 1099511627776
def jV (c : Stop → List Int) : List Stop → Nat → Int → Int → Int
 | [], _, place, _ => place
 | s :: l, i, place, most => if (c s).length = 0 then (i : Int) else if place < 0 ∨ most < xS (c s) then jV c l (i + 1) (i : Int) (xS (c s)) else jV c l (i + 1) place most
def ww (x : Inst) (d : Day) (l : List Stop) : Int := jV (u5 x d) l 0 (-1) 0
theorem JY (c : Stop → List Int) : ∀ (l : List Stop) (i : Nat) (place most : Int), (l ≠ [] ∨ 0 ≤ place) → place < i → 0 ≤ jV c l i place most ∧ jV c l i place most < (i + l.length : Nat)
 | [], i, place, most, h, hp => by
  rcases h with h | h
  ·exact absurd rfl h
  ·simp only [jV, List.length_nil]; omega
 | s :: l, i, place, most, _, hp => by
  unfold jV
  split
  ·simp only [List.length_cons]; omega
  ·split
   ·have := JY c l (i + 1) i (xS (c s)) (.inr (by omega)) (by omega)
    simp only [List.length_cons]; omega
   ·rename_i hc
    have := JY c l (i + 1) place most (.inr (by omega)) (by omega)
    simp only [List.length_cons]; omega
theorem Zak {x : Inst} {d : Day} {l : List Stop} (h : l ≠ []) : ∃ k : Nat, ww x d l = k ∧ k < l.length := by
 have := JY (u5 x d) l 0 (-1) 0 (.inl h) (by omega)
 exact ⟨(ww x d l).toNat, by unfold ww; omega, by unfold ww; omega⟩
def jW (x : Inst) : Nat → Day → List Stop → Day × Bool
 | 0, d, _ => (d, true)
 | n + 1, d, l => bif (qx x d (l.getD (ww x d l).toNat default)).2 then jW x n (qx x d (l.getD (ww x d l).toNat default)).1 (l.eraseIdx (ww x d l).toNat) else (d, false)
def yQ (x : Inst) (l : List Stop) : Day × Bool := jW x l.length [] l
structure RgOk (x : Inst) (d : Day) (l : List Stop) : Prop where
 ok : DayOk d
 may : yt x d = 0
 len : d.flatten.length + l.length ≤ 1000
theorem RgOk.dl {x : Inst} {d : Day} {l : List Stop} (h : RgOk x d l) : d.length ≤ 1000 := by
 have h1 := ZQ d (V7 h.may)
 have h2 := h.len
 omega
theorem RgOk.step {x : Inst} {d : Day} {l : List Stop} (hx : x.cust.length ≤ 1048576) (h : RgOk x d l) {i : Nat} (hi : i < l.length) {s : Stop} (hs : (qx x d s).2 = true) : RgOk x (qx x d s).1 (l.eraseIdx i) := by
 have hf := h.len
 have hl := h.dl
 refine ⟨Zg9 hx h.ok (by omega) (by omega), ?_, ?_⟩
 ·unfold qx at hs ⊢
  cases hb : (xh (ye x d s)).2 with
  | false => rw [hb] at hs; cases hs
  | true => exact JT (Qa hb)
 ·rw [(VS hs).length_eq, List.length_cons, List.length_eraseIdx_of_lt hi]; omega
theorem Zal {x : Inst} (hv : 0 ≤ x.veh) {l : List Stop} (hl : l.length ≤ 1000) : RgOk x [] l :=
 ⟨⟨by simp, by simp, by simp⟩, (xA x []).2 ⟨by simp, by simp, by simpa using hv⟩, by simpa using hl⟩
theorem Zha {c : Stop → List Int} {l : List Stop} {k : Nat} {s : Stop} {place most : Int} (hd : l.drop k = s :: l.drop (k + 1)) :
  jV c (l.drop k) k place most = if (c s).length = 0 then (k : Int) else if place < 0 ∨ most < xS (c s) then jV c (l.drop (k + 1)) (k + 1) (k : Int) (xS (c s)) else jV c (l.drop (k + 1)) (k + 1) place most := by
 rw [hd]; rfl
set_option maxRecDepth 20000 in
set_option maxHeartbeats 1600000 in
theorem Zhb (x : Inst) (d : Day) (l : List Stop) (hx : x.cust.length ≤ 1048576) (h : RgOk x d l) {S : Store} {id ver : Nat} (hid : S id = .cells ver 50 (l.flatMap Enc.enc)) :
  Spec Tryz.prog 247 [.agg (xP x d), .sl id ver 2 0 l.length] S (fun p S' => p = I (ww x d l) ∧ S' = S) := by
 have hf := h.len
 have hl := h.dl
 have hco := fun s => ZgW x d s hx h.ok h.may (by omega) (by omega)
 have hu : ww x d l = jV (u5 x d) (l.drop 0) 0 (-1) 0 := rfl
 rw [hu]
 clear hu
 obtain ⟨on, tw, fs, bd, ls, ws, hlk⟩ : ∃ on tw fs bd ls ws, xP x d = xg x d on tw fs bd ls ws := ⟨_, _, _, _, _, _, rfl⟩
 rw [hlk] at hco ⊢
 clear hlk
 generalize hcz : u5 x d = cz at *
 refine y9 Tryz.func247 Tryz.ntmps247 Tryz.results247 fun nx hd => ?_
 have hlt : id < nx := yP hd hid (by simp)
 have xid := fun obs => zy (S := S) (obs := obs) hlt
 repeat apply za
 refine pwn ?_
 intro v0
 (repeat apply za); refine pwn ?_; intros
 (repeat apply za); refine pwn ?_; intros
 repeat apply za
 refine zg (zr (fun s' : Nat × Int × Int => s'.1 ≤ l.length ∧ jV cz (l.drop s'.1) s'.1 s'.2.1 s'.2.2 = jV cz (l.drop 0) 0 (-1) 0) (fun (k, place, most) => [(2, .ptr nx v0 0), (5, I place), (6, I most), (11, .sl id ver 2 0 l.length), (12, I l.length), (13, I k)]) (fun _ => [.cells v0 149 (xg x d on tw fs bd ls ws)]) (fun s' => l.length - s'.1) (0, -1, 0) [] ⟨by simp, rfl⟩ (by simp) (by simp) ?_)
 rintro ⟨k, place, most⟩ ⟨hk, hg⟩
 simp only at hk hg ⊢
 rw [← hg]
 (repeat apply za); refine pwn ?_; intros
 repeat apply za
 refine zn rfl (fun hc => ?_) (fun hc => ?_)
 ·simp at hc
  obtain ⟨s, tl, a1, a2, a3, e1, e0⟩ := el 2 rfl l k hc
  have hk2 : 2 ≤ l.length * 2 - k * 2 := by omega
  have hun := Zha (c := cz) (place := place) (most := most) a2
  have hcs := hco s
  generalize hc0 : cz s = c at *
  have wk := wrN k (by omega)
  refine zb (za (zg ?_))
  repeat apply za
  refine pwN [] (jn5 xid hid e0 hc hk2) ?_
  intro v1
  repeat apply za
  refine pwn ?_
  refine pwc hcs ?_
  intros
  by_cases h0 : c.length = 0
  ·rw [if_pos h0] at hun
   repeat apply za
   refine pwN [] h0 ?_
   intros
   repeat apply za
   refine zj rfl ?_
   (repeat apply za); refine pwn ?_; intros
   repeat apply za
   exact ze ⟨_, S, (by simp; rfl), ⟨by simp [zk, hun], rfl⟩, zO hd⟩
  rw [if_neg h0] at hun
  (repeat apply za); refine pwn ?_; intros
  repeat apply za
  refine zi (by simp; exact fun e => h0 (by rw [e]; rfl)) ?_
  refine zb ?_
  (repeat apply za); refine pwn ?_; intros
  repeat apply za
  refine yD (nx := nx) (fun _ : Unit => True) (fun _ => [(2, .ptr nx v0 0), (5, I place), (6, I most), (7, I k), (10, I (xS c)), (11, .sl id ver 2 0 l.length), (12, I l.length), (13, I k)]) (fun _ => S) (fun _ => [.cells v0 149 (xg x d on tw fs bd ls ws)]) ?_ ?_
  ·by_cases h1 : 1 < c.length
   ·obtain ⟨a, ta, q1, -, -, q0⟩ := el1 rfl c 1 h1
    obtain ⟨b, tb, r1, -, -, r0⟩ := el1 rfl c 0 (by omega)
    have hab : xS c = W (a - b) := by unfold xS; rw [if_pos h1, List.getD_eq_getElem?_getD, List.getD_eq_getElem?_getD, q1, r1]; rfl
    have g1 : 1 ≤ c.length - 1 := by omega
    have g2 : 0 < c.length := by omega
    have g3 : 1 ≤ c.length := by omega
    have r0' : (c.flatMap Enc.enc : List PV) = Enc.enc b ++ tb := by simpa using r0
    have h1' : (1 : Int) < c.length := by omega
    repeat apply za
    refine zj (by simp; omega) ?_
    rw [r0'] at q0
    have htb : tb = I a :: ta := by simpa using q0
    rw [htb] at r0'
    repeat apply za
    refine pwY none (Row.pures [0, 1, 2, 3, 4, 5, 6, 7] .done) mixed (jn6 r0' h1 h1' g1 g2 g3) ?_
    intros
    exact zA () [_] trivial (by simp [hab]) rfl (by simp; rfl)
   ·have hab : xS c = 1099511627776 := by unfold xS; rw [if_neg h1]
    repeat apply za
    refine zi (by simp; omega) ?_
    refine zb ?_
    exact zA () [_] trivial (by simp [hab]) rfl (by simp; rfl)
  ·rintro ⟨⟩ -
   generalize xS c = ab at *
   by_cases hq : place < 0
   ·rw [if_pos (.inl hq)] at hun
    repeat apply za
    refine pwN [(2, 37)] (jn2 hq zv) ?_
    intros
    repeat apply za
    refine zj rfl ?_
    (repeat apply za); refine pwn ?_; intros
    (repeat apply za); refine pwn ?_; intros
    exact zm (k + 1, (k : Int), ab) [] ⟨hc, by rw [← hun, hg]⟩ (by simp; omega) (by simp [wk]) rfl (by simp)
   ·by_cases hq2 : most < ab
    ·rw [if_pos (.inr hq2)] at hun
     repeat apply za
     refine pwN [(2, 37)] (jn2 hq hq2) ?_
     intros
     repeat apply za
     refine zj rfl ?_
     (repeat apply za); refine pwn ?_; intros
     (repeat apply za); refine pwn ?_; intros
     exact zm (k + 1, (k : Int), ab) [] ⟨hc, by rw [← hun, hg]⟩ (by simp; omega) (by simp [wk]) rfl (by simp)
    ·rw [if_neg (by rintro (q | q); exact hq q; exact hq2 q)] at hun
     repeat apply za
     refine pwN [(2, 37)] (jn2 hq hq2) ?_
     intros
     repeat apply za
     refine zi rfl ?_
     refine zb ?_
     (repeat apply za); refine pwn ?_; intros
     exact zm (k + 1, place, most) [] ⟨hc, by rw [← hun, hg]⟩ (by simp; omega) (by simp [wk]) rfl (by simp)
 ·simp at hc
  obtain rfl : k = l.length := by omega
  refine zo ?_
  have hgl : jV cz (l.drop l.length) l.length place most = place := by rw [List.drop_length]; rfl
  (repeat apply za); refine pwn ?_; intros
  repeat apply za
  exact ze ⟨_, S, (by simp; rfl), ⟨by simp [zk]; rfl, rfl⟩, zO hd⟩
open Go Go.Proofs
theorem Zhc {x : Inst} {d : Day} {l : List Stop} {k : Nat} {s : Stop} (hu : ww x d l = k) (hk : l[k]? = some s) :
  jW x l.length d l = bif (qx x d s).2 then jW x (l.eraseIdx k).length (qx x d s).1 (l.eraseIdx k) else (d, false) := by
 have hlt := (List.getElem?_eq_some_iff.1 hk).1
 obtain ⟨n, hn⟩ : ∃ n, l.length = n + 1 := ⟨l.length - 1, by omega⟩
 have he : (l.eraseIdx k).length = n := by rw [List.length_eraseIdx_of_lt hlt]; omega
 have hg : l.getD k default = s := by rw [List.getD_eq_getElem?_getD, hk]; rfl
 rw [hn, he, jW, hu, Int.toNat_natCast, hg]
theorem Zhd {x : Inst} {d : Day} {l : List Stop} (h : RgOk x d l) : d.length ≤ 1000 ∧ d.flatten.length ≤ 1000 ∧ l.length ≤ 1000 := by
 have h1 := h.dl
 have h2 := h.len
 omega
set_option maxRecDepth 20000 in
set_option maxHeartbeats 1600000 in
theorem Zhe (x : Inst) (l : List Stop) (hx : x.cust.length ≤ 1048576) (hv : 0 ≤ x.veh) (hl : l.length ≤ 1000) : Pure Tryz.prog 221 [.agg (zt x), L l] (.tup [.agg [L (yQ x l).1], B (yQ x l).2]) := by
 have hb := Zal hv hl
 unfold yQ
 by_cases h0 : 0 < l.length
 case neg =>
  obtain rfl : l = [] := List.eq_nil_of_length_eq_zero (by omega)
  have hcl := Y7 [] (by simp)
  refine pwe Tryz.func221 Tryz.ntmps221 Tryz.results221 fun S nx hd => ?_
  repeat apply za
  refine pwn ?_
  intro v0 v1
  repeat apply za
  refine pwn ?_
  intro v2
  refine uP 2 0 rfl rfl ?_
  repeat apply za
  refine pwn ?_
  refine pwc hcl ?_
  intros
  repeat apply za
  refine zg (zr (fun _ : Nat => True) (fun _ => [(2, .ptr nx v0 0), (4, .ptr (nx + 1) v1 0), (6, .ptr (nx + 2) v2 0), (7, L ([] : List Stop))]) (fun _ => [.cells v0 25 (zt x), .cells v1 66 [yx], .cells v2 66 [L ([] : Day)]]) (fun k => k) 0 [] trivial (by simp) (by simp) ?_)
  rintro k -
  (repeat apply za); refine pwn ?_; intros
  repeat apply za
  refine zi rfl ?_
  refine zo ?_
  (repeat apply za); refine pwn ?_; intros
  repeat apply za
  exact ze (zh hd (by simp; rfl) (by simp [zk, jW]))
 refine pwe Tryz.func221 Tryz.ntmps221 Tryz.results221 fun S nx hd => ?_
 repeat apply za
 refine pwn ?_
 intro v0 v1
 repeat apply za
 refine pwn ?_
 intro v2
 refine uP 2 0 rfl rfl ?_
 repeat apply za
 refine zP [] (by rfl) (by rfl) fun K Gc Gh hK hGc hGh X hX0 hX => ?_
 simp -implicitDefEqProofs [hX0, hX]
 try clear hX0 hX X
 refine hGc _ _ _ _ _ _ _ fun hsuf => ((JM l h0 (by omega) _ _ x7).mono ?_).v
 rintro _ _ ⟨v3, rfl, rfl⟩
 refine ⟨_, _, qr _, ?_⟩
 clear hGc hGh
 clear Gc Gh
 refine zL hsuf (D := []) (by rfl) fun Gc Gh hGc hGh X hX0 hX => ?_
 simp -implicitDefEqProofs [hX0, hX]
 clear hX0 hX X
 intros
 refine hK _ _ _ ?_
 clear hK hGc hGh
 clear K Gc Gh
 repeat apply za
 refine zg (zr (fun s' : Day × List Stop × Nat => jW x s'.2.1.length s'.1 s'.2.1 = jW x l.length [] l ∧ RgOk x s'.1 s'.2.1) (fun (d, m, v3) => [(2, .ptr nx v0 0), (4, .ptr (nx + 1) v1 0), (6, .ptr (nx + 2) v2 0), (7, .sl (nx + 3) v3 2 0 m.length)]) (fun (d, m, v3) => [.cells v0 25 (zt x), .cells v1 66 [yx], .cells v2 66 [L d], .cells v3 50 (m.flatMap Enc.enc)]) (fun s' => s'.2.1.length) ([], l, v3) [] ⟨rfl, hb⟩ (by simp) (by simp) ?_)
 rintro ⟨d, m, v3⟩ ⟨hr, hok⟩
 simp only at hr hok ⊢
 rw [← hr]
 by_cases hm : m = []
 ·subst hm
  (repeat apply za); refine pwn ?_; intros
  repeat apply za
  refine zi rfl ?_
  refine zo ?_
  (repeat apply za); refine pwn ?_; intros
  repeat apply za
  exact ze (zh hd (by simp; rfl) (by simp [zk, jW]))
 ·have hm0 : 0 < m.length := List.length_pos_iff.2 hm
  obtain ⟨k, hu, hk⟩ := Zak (x := x) (d := d) hm
  obtain ⟨s, tl, a1, a2, a3, e1, e0⟩ := el 2 rfl m k hk
  have hk2 : 2 ≤ m.length * 2 - k * 2 := by omega
  have hst := Zhc hu a1
  obtain ⟨b1, b2, b3⟩ := Zhd hok
  have hsee := VH x d hx hok.ok (by omega)
  have hins := ZgQ x d s hx hok.ok (by omega)
  have hnx := fun h => hok.step hx hk (s := s) h
  have hurg := fun (S : Store) (id ver : Nat) h => Zhb x d m hx hok (S := S) (id := id) (ver := ver) h
  rw [hu] at hurg
  obtain ⟨on, tw, fs, bd, ls, ws, hlk⟩ : ∃ on tw fs bd ls ws, xP x d = xg x d on tw fs bd ls ws := ⟨_, _, _, _, _, _, rfl⟩
  rw [hlk] at hsee hurg
  clear hlk
  have hno := Zgr (x := x) (d := d) (s := s)
  generalize hi : qx x d s = r at *
  obtain ⟨d2, ok⟩ := r
  simp only at hst hnx hno
  have wk := wrN k (by omega)
  have hm0' : (0 : Int) < m.length := by omega
  repeat apply za
  refine pwN [] hm0' ?_
  intros
  repeat apply za
  refine zj (by simp; exact hm0) ?_
  refine zb (zg ?_)
  repeat apply za
  refine zP [] (by rfl) (by rfl) fun K Gc Gh hK hGc hGh X hX0 hX => ?_
  simp -implicitDefEqProofs [hX0, hX]
  try clear hX0 hX X
  refine hGc _ _ _ _ _ _ _ fun hsuf => ((hsee _).mono ?_).v
  rintro _ _ ⟨rfl, rfl⟩
  refine ⟨_, _, rfl, ?_⟩
  clear hGc hGh
  clear Gc Gh
  refine zL hsuf (D := []) (by rfl) fun Gc Gh hGc hGh X hX0 hX => ?_
  simp -implicitDefEqProofs [hX0, hX]
  clear hX0 hX X
  refine hGc _ _ _ _ _ _ _ fun hsuf => ((hurg _ _ _ (by rw [yU]; rfl)).mono ?_).v
  rintro _ _ ⟨rfl, rfl⟩
  refine ⟨_, _, rfl, ?_⟩
  clear hGc hGh
  clear Gc Gh
  refine zL hsuf (D := []) (by rfl) fun Gc Gh hGc hGh X hX0 hX => ?_
  simp -implicitDefEqProofs [hX0, hX]
  clear hX0 hX X
  intros
  refine hK _ _ _ ?_
  clear hK hGc hGh
  clear K Gc Gh
  repeat apply za
  refine pwY (some [nx, nx + 2, nx + 3]) (Row.pures [0, 1, 2, 3, 4, 5, 6, 7, 8, 9] (.alt 10 (.alt 11 (Row.pures [12] .done) .stop) .stop)) mixed (jn3 e0 hk hk2) ?_
  refine pwP (hins) trivial ?_
  intro v4
  intros
  (repeat apply za); refine pwn ?_; intros
  cases ok with
  | false =>
   simp only [cond_false] at hst
   repeat apply za
   refine zj rfl ?_
   (repeat apply za); refine pwn ?_; intros
   repeat apply za
   exact ze (zh hd (by simp; rfl) (by simp [zk, hst]))
  | true =>
   simp only [cond_true] at hst
   repeat apply za
   refine zi rfl ?_
   refine zb ?_
   have hkl := List.length_eraseIdx_of_lt hk
   repeat apply za
   refine xL (some [nx + 4]) (Row.pures [0, 1, 2, 3, 4] (.alt 5 (.alt 6 (Row.pures [7] .done) .stop) .stop)) mixed (by rfl) (by rfl) (by rfl) fun K Gp Gc Gh hK hGp hGc hGh X hX0 hX1 hX2 hX => ?_
   simp -implicitDefEqProofs [hX0, hX1, hX2, hX, wk]
   try clear hX0 hX1 hX2 hX X
   refine hGc _ _ _ _ _ _ _ ?_
   refine ((Zg2 m k hk (by omega) (by rw [yU]; rfl)).mono ?_).v
   rintro _ _ ⟨rfl, rfl⟩
   rw [y8 _ (by omega) (by simp), Nat.add_sub_cancel_left]
   refine ⟨by simp [zT], ?_⟩
   clear hGp hGc hGh
   clear Gp Gc Gh
   refine qS fun Gp Gc Gh hGp hGc hGh X hX0 hX1 hX2 hX => ?_
   simp -implicitDefEqProofs [hX0, hX1, hX2, hX]
   try clear hX0 hX1 hX2 hX X
   refine hK _ _ _ ?_
   clear hK hGp hGc hGh
   clear K Gp Gc Gh
   exact zm (d2, m.eraseIdx k, v3 + 1) [_] ⟨hst.symm, hnx rfl⟩ (by simp only; omega) (by simp) rfl (by simp; rfl)
open Go Go.Proofs
def jy (step : Day → Option Day) : Nat → Day → Day
 | 0, d => d
 | n + 1, d => match step d with
  | none => d
  | some e => jy step n e
def xT (step : Day → Option Day) : Nat → Day → Nat
 | 0, _ => 0
 | n + 1, d => match step d with
  | none => 0
  | some e => xT step n e + 1
def Zam (x : Inst) (step : Day → Option Day) (G : Day → Prop) : Prop := ∀ d, G d → ∃ mk ma mb mi mj least, Pure Tryz.prog 115 [.agg (zt x), .agg [L d]] (.tup [.agg [I mk, I ma, I mb, I mi, I mj], I least, B (step d).isSome]) ∧
 ∀ e, step d = some e → Pure Tryz.prog 116 [.agg (zt x), .agg [L d], .agg [I mk, I ma, I mb, I mi, I mj]] (.tup [.agg [L e], I 0]) ∧ G e
set_option maxRecDepth 20000 in
set_option maxHeartbeats 1600000 in
theorem Zhf (x : Inst) (d : Day) (b : Int) (step : Day → Option Day) (G : Day → Prop) (hb : b ≤ 9223372036854775807) (hdn : d.length ≤ 1048576) (hdt : ∀ t ∈ d, t.length ≤ 1048576) (hd' : 0 < b → G d) (hs : Zam x step G) : Pure Tryz.prog 76 [.agg (zt x), .agg [L d], I b] (.tup [.agg [L (jy step b.toNat d)], I (if xT step b.toNat d < b.toNat then (xT step b.toNat d : Int) else jO b 0)]) := by
 refine pwe Tryz.func76 Tryz.ntmps76 Tryz.results76 fun S nx hd => ?_
 repeat apply za
 refine pwn ?_
 intro v0 v1 v2
 repeat apply za
 refine pwn ?_
 intro v3
 refine qB 3 0 72 1 rfl rfl fun v4 => ?_
 (repeat apply za); refine pwn ?_; intros
 repeat apply za
 refine zg (zr (fun s' : Nat × Nat => s'.1 ≤ d.length) (fun (k, v4) => [(2, I b), (3, .ptr nx v0 0), (6, .ptr (nx + 2) v2 0), (7, I 0), (8, .ptr (nx + 3) v3 0), (16, L d), (17, I d.length), (18, I k)]) (fun (k, v4) => [.cells v0 25 (zt x), .cells v1 66 [L d], .cells v2 66 [yx], .cells v3 66 [.sl (nx + 4) v4 1 0 k], .cells v4 72 ((d.take k).flatMap Enc.enc)]) (fun s' => d.length - s'.1) (0, v4) [] (by simp) (by simp) (by simp) ?_)
 rintro ⟨k, v4⟩ hk
 simp only at hk ⊢
 (repeat apply za); refine pwn ?_; intros
 repeat apply za
 refine zn rfl (fun hc => ?_) (fun hc => ?_)
 ·simp at hc
  obtain ⟨t, tl, a1, a2, a3, e0⟩ := el1 rfl d k hc
  have hk1 : 1 ≤ d.length - k := by omega
  have hcl := Y7 t (hdt t (List.mem_of_getElem? a1))
  have hcl' : ((d.take k).flatMap Enc.enc : List PV).length = k := by rw [js, List.length_take]; omega
  have hct : ((d.take k).flatMap Enc.enc : List PV).take k = (d.take k).flatMap Enc.enc := List.take_of_length_le (by omega)
  have hcn : ((d.take (k + 1)).flatMap Enc.enc : List PV) = (d.take k).flatMap Enc.enc ++ [L t] := by rw [a3, List.flatMap_append]; rfl
  generalize ((d.take k).flatMap Enc.enc : List PV) = cs at *
  refine zb (za (zg ?_))
  repeat apply za
  refine pwN [] (jn3 e0 hc hk1) ?_
  intro v5
  repeat apply za
  refine pwY (some [nx + 5]) (Row.pures [0, 2, 3, 4, 5, 6] (.alt 1 (.alt 7 (Row.pures [8] (.alt 9 (.done) .stop)) .stop) .stop)) mixed (jn2 hcl' hct) ?_
  refine pwP (hcl) (jn2 hcl' hct) ?_
  refine ⟨by omega, ?_⟩
  intros
  (repeat apply za); refine pwn ?_; intros
  exact zm (k + 1, v4 + 1) [_] hc (by simp; omega) (by simp [wrN k (by omega)]) rfl (by simp [hcn]; rfl)
 ·simp at hc
  obtain rfl : k = d.length := by omega
  have g1 : d.take d.length = d := List.take_length
  refine zo ?_
  rw [g1]
  refine zM 4 rfl ?_
  (repeat apply za); refine pwn ?_; intros
  clear hk hc g1
  repeat apply za
  refine zg (zr (fun s' : Nat × Day => s'.1 ≤ b.toNat ∧ (0 < b → G s'.2) ∧ jy step (b.toNat - s'.1) s'.2 = jy step b.toNat d ∧ s'.1 + xT step (b.toNat - s'.1) s'.2 = xT step b.toNat d) (fun (k, e) => [(2, I b), (3, .ptr nx v0 0), (6, .ptr (nx + 2) v2 0), (8, .ptr (nx + 3) v3 0), (11, I k)]) (fun (k, e) => [.cells v0 25 (zt x), .cells v1 66 [L d], .cells v2 66 [yx], .cells v3 66 [L e]]) (fun s' => b.toNat - s'.1) (0, d) [.dead] ⟨by simp, hd', by simp, by simp⟩ (by simp) (by simp) ?_)
  rintro ⟨k, e⟩ ⟨hk, hG, hi, hco⟩
  simp only at hk hG hi hco ⊢
  rw [← hi]
  (repeat apply za); refine pwn ?_; intros
  repeat apply za
  refine zn rfl (fun hc => ?_) (fun hc => ?_)
  ·simp at hc
   obtain ⟨mk, ma, mb, mi, mj, least, hB, hM⟩ := hs e (hG (by omega))
   obtain ⟨n, hn⟩ : ∃ n, b.toNat - k = n + 1 := ⟨b.toNat - k - 1, by omega⟩
   refine zb (za (zg ?_))
   repeat apply za
   refine pwn ?_
   refine pwc hB ?_
   intro v5
   intros
   (repeat apply za); refine pwn ?_; intros
   cases hst : step e with
   | none =>
    have hr : jy step (b.toNat - k) e = e := by rw [hn]; unfold jy; rw [hst]
    have hr2 : xT step (b.toNat - k) e = 0 := by rw [hn]; unfold xT; rw [hst]
    rw [hr2] at hco
    rw [hr, ← hco, if_pos (by omega)]
    repeat apply za
    refine zj rfl ?_
    (repeat apply za); refine pwn ?_; intros
    repeat apply za
    exact ze (zh hd (by simp; rfl) (by simp [zk]))
   | some e2 =>
    have hr : jy step (b.toNat - k) e = jy step (b.toNat - (k + 1)) e2 := by rw [hn, show b.toNat - (k + 1) = n by omega]; conv => lhs; unfold jy; rw [hst]
    have hr2 : xT step (b.toNat - k) e = xT step (b.toNat - (k + 1)) e2 + 1 := by rw [hn, show b.toNat - (k + 1) = n by omega]; conv => lhs; unfold xT; rw [hst]
    obtain ⟨hM1, hG2⟩ := hM e2 hst
    repeat apply za
    refine zi rfl ?_
    refine zb ?_
    repeat apply za
    refine pwn ?_
    refine pwc hM1 ?_
    intros
    (repeat apply za); refine pwn ?_; intros
    exact zm (k + 1, e2) [_] ⟨by simp; omega, fun _ => hG2, hr.symm, by simp only; omega⟩ (by simp; omega) (by simp [wrN k (by omega)]) rfl (by simp; rfl)
  ·simp at hc
   have hz : b.toNat - k = 0 := by omega
   rw [hz] at hco ⊢
   have hco' : xT step b.toNat d = k := by rw [← hco]; rfl
   rw [hco', if_neg (by omega)]
   refine zo ?_
   (repeat apply za); refine pwn ?_; intros
   repeat apply za
   exact ze (zh hd (by simp; rfl) (by simp [zk, jy]))
open Go Go.Proofs
structure Pc where
 t : Nat
 f : Nat
 o : Nat
 b : Bool
 deriving DecidableEq
def pc0 : Pc := ⟨0, 0, 0, false⟩
abbrev pcL (p : Pc) : List PV := [I p.t, I p.f, I p.o, B p.b]
structure Rw5 where
 a : Pc
 b : Pc
 c : Pc
 d : Pc
 e : Pc
abbrev rwL (r : Rw5) : List PV := [I r.a.t, I r.a.f, I r.a.o, B r.a.b, I r.b.t, I r.b.f, I r.b.o, B r.b.b, I r.c.t, I r.c.f, I r.c.o, B r.c.b, I r.d.t, I r.d.f, I r.d.o, B r.d.b, I r.e.t, I r.e.f, I r.e.o, B r.e.b]
def Rw5.l (r : Rw5) : List Pc := [r.a, r.b, r.c, r.d, r.e]
def rw0 : Rw5 := ⟨pc0, pc0, pc0, pc0, pc0⟩
structure Mv where
 k : Nat
 a : Nat
 b : Nat
 i : Nat
 j : Nat
 deriving DecidableEq
abbrev mvL (m : Mv) : List PV := [I m.k, I m.a, I m.b, I m.i, I m.j]
abbrev vwL (m : Mv) (la lb : Nat) : List PV := [I m.k, I m.a, I m.b, I m.i, I m.j, I la, I lb]
def jH (m : Mv) (la lb : Nat) : Bool :=
 if m.k = 0 then decide (m.b = m.a ∧ m.i < m.j ∧ m.j < la)
 else if m.k = 1 then decide (m.i < la ∧ (if m.a = m.b then m.j < lb else m.j ≤ lb))
 else if m.k = 2 then decide (¬ (m.b < m.a ∨ m.a = m.b ∧ m.j ≤ m.i) ∧ m.i < la ∧ m.j < lb)
 else decide (m.a < m.b ∧ m.i ≤ la ∧ m.j ≤ lb)
def qI (m : Mv) (la lb : Nat) : Rw5 × Rw5 :=
 if m.k = 0 then (⟨⟨m.a, 0, m.i, false⟩, ⟨m.a, m.i, m.j + 1, true⟩, ⟨m.a, m.j + 1, la, false⟩, pc0, pc0⟩, rw0)
 else if m.k = 1 then
  (if m.a ≠ m.b then (⟨⟨m.a, 0, m.i, false⟩, ⟨m.a, m.i + 1, la, false⟩, pc0, pc0, pc0⟩, ⟨⟨m.b, 0, m.j, false⟩, ⟨m.a, m.i, m.i + 1, false⟩, ⟨m.b, m.j, lb, false⟩, pc0, pc0⟩)
  else if m.i < m.j then (⟨⟨m.a, 0, m.i, false⟩, ⟨m.a, m.i + 1, m.j + 1, false⟩, ⟨m.a, m.i, m.i + 1, false⟩, ⟨m.a, m.j + 1, la, false⟩, pc0⟩, rw0)
  else (⟨⟨m.a, 0, m.j, false⟩, ⟨m.a, m.i, m.i + 1, false⟩, ⟨m.a, m.j, m.i, false⟩, ⟨m.a, m.i + 1, la, false⟩, pc0⟩, rw0))
 else if m.k = 2 then
  (if m.a = m.b then (⟨⟨m.a, 0, m.i, false⟩, ⟨m.b, m.j, m.j + 1, false⟩, ⟨m.a, m.i + 1, m.j, false⟩, ⟨m.a, m.i, m.i + 1, false⟩, ⟨m.a, m.j + 1, la, false⟩⟩, rw0)
  else (⟨⟨m.a, 0, m.i, false⟩, ⟨m.b, m.j, m.j + 1, false⟩, ⟨m.a, m.i + 1, la, false⟩, pc0, pc0⟩, ⟨⟨m.b, 0, m.j, false⟩, ⟨m.a, m.i, m.i + 1, false⟩, ⟨m.b, m.j + 1, lb, false⟩, pc0, pc0⟩))
 else (⟨⟨m.a, 0, m.i, false⟩, ⟨m.b, m.j, lb, false⟩, pc0, pc0, pc0⟩, ⟨⟨m.b, 0, m.j, false⟩, ⟨m.a, m.i, la, false⟩, pc0, pc0, pc0⟩)
set_option maxRecDepth 20000 in
theorem Zhg (m : Mv) (la lb : Nat) (hk : m.k = 0) : Pure Tryz.prog 231 [.agg (vwL m la lb)] (B (jH m la lb)) := by
 unfold jH
 rw [if_pos hk]
 refine pwe Tryz.func231 Tryz.ntmps231 Tryz.results231 fun S nx hd => ?_
 repeat apply za
 refine pwn ?_
 intro v0
 by_cases h1 : m.b = m.a
 case neg =>
  have h1' : ¬ (m.b : Int) = m.a := by omega
  repeat apply za
  refine pwN [(7, 10), (13, 16), (22, 25)] (jn2 h1' zv) ?_
  intros
  repeat apply za
  exact ze (zh hd rfl (by simp [h1, zk]))
 have h1' : (m.b : Int) = m.a := by omega
 by_cases h2 : m.i < m.j
 case neg =>
  have h2' : ¬ (m.i : Int) < m.j := by omega
  repeat apply za
  refine pwN [(7, 10), (13, 16), (22, 25)] (jn3 h1' h2 zv) ?_
  intros
  repeat apply za
  exact ze (zh hd rfl (by simp [h2, zk]))
 by_cases h3 : m.j < la
 case neg =>
  repeat apply za
  refine pwN [(7, 10), (13, 16), (22, 25)] (jn4 h1' h2 h3 zv) ?_
  intros
  repeat apply za
  exact ze (zh hd rfl (by simp [h3, zk]))
 repeat apply za
 refine pwN [(7, 10), (13, 16), (22, 25)] (jn3 h1' h2 h3) ?_
 intros
 repeat apply za
 exact ze (zh hd rfl (by simp [h1, h2, h3, zk]))
set_option maxRecDepth 20000 in
theorem Zhh (m : Mv) (la lb : Nat) (hk : m.k = 1) (hlb : lb ≤ 1048576) : Pure Tryz.prog 233 [.agg (vwL m la lb)] (B (jH m la lb)) := by
 unfold jH
 rw [if_neg (by omega), if_pos hk]
 refine pwe Tryz.func233 Tryz.ntmps233 Tryz.results233 fun S nx hd => ?_
 repeat apply za
 refine pwn ?_
 intro v0
 (repeat apply za); refine pwn ?_; intros
 refine za ?_
 refine yD (nx := nx) (fun z : Int => (m.j : Int) ≤ z ↔ (if m.a = m.b then m.j < lb else m.j ≤ lb)) (fun z => [(1, .ptr nx v0 0), (3, I z)]) (fun _ => S) (fun _ => [.cells v0 265 (vwL m la lb)]) ?_ ?_
 ·by_cases h1 : m.a = m.b
  ·have h1' : (m.a : Int) = m.b := by omega
   have w1 : IntKind.i64.wrap ((lb : Int) - 1) = (lb : Int) - 1 := wr _ (by omega) (by omega)
   repeat apply za
   refine pwN [] h1' ?_
   intros
   repeat apply za
   refine zj rfl ?_
   repeat apply za
   refine pwN [] w1 ?_
   intros
   exact zA ((lb : Int) - 1) [] (by rw [if_pos h1]; omega) (by simp) rfl (by simp)
  ·have h1' : ¬ (m.a : Int) = m.b := by omega
   repeat apply za
   refine pwN [] h1' ?_
   intros
   repeat apply za
   refine zi rfl ?_
   refine zb ?_
   exact zA (lb : Int) [] (by rw [if_neg h1]; omega) (by simp) rfl (by simp)
 ·intro z hz
  by_cases h2 : m.i < la
  case neg =>
   repeat apply za
   refine pwN [(4, 19), (12, 27), (18, 33)] (jn2 h2 zv) ?_
   intros
   repeat apply za
   exact ze (zh hd rfl (by simp [h2, zk]))
  by_cases h3 : (m.j : Int) ≤ z
  case neg =>
   have h4 := (not_congr hz).1 h3
   repeat apply za
   refine pwN [(4, 19), (12, 27), (18, 33)] (jn2 h2 h3) ?_
   intros
   repeat apply za
   exact ze (zh hd rfl (by simp [h2, h4, zk]))
  have h4 := hz.1 h3
  repeat apply za
  refine pwN [(4, 19), (12, 27), (18, 33)] (jn2 h2 h3) ?_
  intros
  repeat apply za
  exact ze (zh hd rfl (by simp [h2, h4, zk]))
set_option maxRecDepth 20000 in
theorem Zhi (m : Mv) (la lb : Nat) (hk : m.k = 2) : Pure Tryz.prog 235 [.agg (vwL m la lb)] (B (jH m la lb)) := by
 unfold jH
 rw [if_neg (by omega), if_neg (by omega), if_pos hk]
 refine pwe Tryz.func235 Tryz.ntmps235 Tryz.results235 fun S nx hd => ?_
 repeat apply za
 refine pwn ?_
 intro v0
 have rest : ∀ (P : Prop), (m.i < la → m.j < lb → P) → (¬ (m.i < la ∧ m.j < lb) → P) → P := fun P a b => by
  by_cases q : m.i < la ∧ m.j < lb
  ·exact a q.1 q.2
  ·exact b q
 by_cases h1 : m.b < m.a
 ·repeat apply za
  refine pwN [(7, 10), (15, 18)] (jn2 h1 zv) ?_
  intros
  repeat apply za
  refine zj rfl ?_
  (repeat apply za); refine pwn ?_; intros
  repeat apply za
  exact ze (zh hd rfl (by simp [h1, zk]))
 by_cases h2 : m.a = m.b
 ·have h2' : (m.a : Int) = m.b := by omega
  by_cases h3 : m.j ≤ m.i
  ·have h1' : ¬ m.b < m.b := by omega
   repeat apply za
   refine pwN [(7, 10), (15, 18)] (jn3 h2' h1' h3) ?_
   intros
   repeat apply za
   refine zj rfl ?_
   (repeat apply za); refine pwn ?_; intros
   repeat apply za
   exact ze (zh hd rfl (by simp [h2, h3, zk]))
  ·have h1' : ¬ m.b < m.b := by omega
   have h0 : ¬ (m.b < m.a ∨ m.a = m.b ∧ m.j ≤ m.i) := by omega
   repeat apply za
   refine pwN [(7, 10), (15, 18)] (jn3 h2' h1' h3) ?_
   intros
   repeat apply za
   refine zi rfl ?_
   refine zb ?_
   by_cases h4 : m.i < la
   case neg =>
    repeat apply za
    refine pwN [(4, 32), (12, 40), (18, 46)] (jn2 h4 zv) ?_
    intros
    repeat apply za
    exact ze (zh hd rfl (by simp [h4, zk]))
   by_cases h5 : m.j < lb
   case neg =>
    repeat apply za
    refine pwN [(4, 32), (12, 40), (18, 46)] (jn2 h4 h5) ?_
    intros
    repeat apply za
    exact ze (zh hd rfl (by simp [h5, zk]))
   repeat apply za
   refine pwN [(4, 32), (12, 40), (18, 46)] (jn2 h4 h5) ?_
   intros
   repeat apply za
   exact ze (zh hd rfl (by simp [h0, h4, h5, zk]))
 ·have h2' : ¬ (m.a : Int) = m.b := by omega
  have h0 : ¬ (m.b < m.a ∨ m.a = m.b ∧ m.j ≤ m.i) := by omega
  repeat apply za
  refine pwN [(7, 10), (15, 18)] (jn3 h1 h2' zv) ?_
  intros
  repeat apply za
  refine zi rfl ?_
  refine zb ?_
  by_cases h4 : m.i < la
  case neg =>
   repeat apply za
   refine pwN [(4, 32), (12, 40), (18, 46)] (jn2 h4 zv) ?_
   intros
   repeat apply za
   exact ze (zh hd rfl (by simp [h4, zk]))
  by_cases h5 : m.j < lb
  case neg =>
   repeat apply za
   refine pwN [(4, 32), (12, 40), (18, 46)] (jn2 h4 h5) ?_
   intros
   repeat apply za
   exact ze (zh hd rfl (by simp [h5, zk]))
  repeat apply za
  refine pwN [(4, 32), (12, 40), (18, 46)] (jn2 h4 h5) ?_
  intros
  repeat apply za
  exact ze (zh hd rfl (by simp [h0, h4, h5, zk]))
set_option maxRecDepth 20000 in
theorem Zhj (m : Mv) (la lb : Nat) (hk : 3 ≤ m.k) : Pure Tryz.prog 237 [.agg (vwL m la lb)] (B (jH m la lb)) := by
 unfold jH
 rw [if_neg (by omega), if_neg (by omega), if_neg (by omega)]
 refine pwe Tryz.func237 Tryz.ntmps237 Tryz.results237 fun S nx hd => ?_
 repeat apply za
 refine pwn ?_
 intro v0
 by_cases h1 : m.a < m.b
 case neg =>
  repeat apply za
  refine pwN [(7, 10), (13, 16), (21, 24), (27, 30)] (jn2 h1 zv) ?_
  intros
  repeat apply za
  exact ze (zh hd rfl (by simp [h1, zk]))
 by_cases h2 : m.i ≤ la
 case neg =>
  repeat apply za
  refine pwN [(7, 10), (13, 16), (21, 24), (27, 30)] (jn3 h1 h2 zv) ?_
  intros
  repeat apply za
  exact ze (zh hd rfl (by simp [h2, zk]))
 by_cases h3 : m.j ≤ lb
 case neg =>
  repeat apply za
  refine pwN [(7, 10), (13, 16), (21, 24), (27, 30)] (jn3 h1 h2 h3) ?_
  intros
  repeat apply za
  exact ze (zh hd rfl (by simp [h3, zk]))
 repeat apply za
 refine pwN [(7, 10), (13, 16), (21, 24), (27, 30)] (jn3 h1 h2 h3) ?_
 intros
 repeat apply za
 exact ze (zh hd rfl (by simp [h1, h2, h3, zk]))
set_option maxRecDepth 20000 in
theorem Zhk (m : Mv) (la lb : Nat) (hk : m.k = 0) (hi : m.i ≤ 1048576) (hj : m.j ≤ 1048576) : Pure Tryz.prog 232 [.agg (vwL m la lb)] (.tup [.agg (rwL (qI m la lb).1), .agg (rwL (qI m la lb).2)]) := by
 have wi := wrN m.i (by omega)
 have wj := wrN m.j (by omega)
 unfold qI
 rw [if_pos hk]
 refine pwe Tryz.func232 Tryz.ntmps232 Tryz.results232 fun S nx hd => ?_
 repeat apply za
 refine pwn ?_
 intro v0 v1 v2
 repeat apply za
 refine pwY (some [nx]) (Row.pures [0, 1, 2, 3, 4, 5, 6, 7, 8, 9, 10, 11] .done) mixed trivial ?_
 intros
 repeat apply za
 refine pwN [] wj ?_
 intros
 repeat apply za
 exact ze (zh hd (by simp; rfl) (by simp [zk, rw0, pc0]))
set_option maxRecDepth 20000 in
theorem Zhl (m : Mv) (la lb : Nat) (hk : 3 ≤ m.k) : Pure Tryz.prog 238 [.agg (vwL m la lb)] (.tup [.agg (rwL (qI m la lb).1), .agg (rwL (qI m la lb).2)]) := by
 unfold qI
 rw [if_neg (by omega), if_neg (by omega), if_neg (by omega)]
 refine pwe Tryz.func238 Tryz.ntmps238 Tryz.results238 fun S nx hd => ?_
 repeat apply za
 refine pwn ?_
 intro v0 v1 v2
 repeat apply za
 refine pwY (some [nx]) (Row.pures [0, 1, 2, 3, 4, 5, 6, 7, 8, 9, 10, 11, 12, 13, 14, 15] .done) mixed trivial ?_
 intros
 repeat apply za
 refine pwY (some [nx]) (Row.pures [0, 1, 2, 3, 4, 5, 6, 7, 8, 9, 10, 11, 12, 13, 14, 15, 16, 17] (.alt 18 (.alt 19 (.done) .stop) .stop)) mixed trivial ?_
 intros
 repeat apply za
 exact ze (zh hd (by simp; rfl) (by simp [zk, rw0, pc0]))
set_option maxRecDepth 20000 in
theorem Zhm (m : Mv) (la lb : Nat) (hk : m.k = 1) (hi : m.i ≤ 1048576) (hj : m.j ≤ 1048576) : Pure Tryz.prog 234 [.agg (vwL m la lb)] (.tup [.agg (rwL (qI m la lb).1), .agg (rwL (qI m la lb).2)]) := by
 have wi := wrN m.i (by omega)
 have wj := wrN m.j (by omega)
 unfold qI
 rw [if_neg (by omega), if_pos hk]
 refine pwe Tryz.func234 Tryz.ntmps234 Tryz.results234 fun S nx hd => ?_
 repeat apply za
 refine pwn ?_
 intro v0 v1 v2
 repeat apply za
 refine pwY (some [nx]) (Row.pures [0, 1, 2, 3, 4, 5, 6, 7, 8, 9, 10, 11, 12, 13, 14, 15] .done) mixed trivial ?_
 intros
 repeat apply za
 refine pwN [] wi ?_
 intro v3
 refine za (zg ?_)
 by_cases h1 : m.a = m.b
 case neg =>
  have h1' : ¬ (m.a : Int) = m.b := by omega
  rw [if_pos h1]
  repeat apply za
  refine pwN [] h1' ?_
  intros
  repeat apply za
  refine zj rfl ?_
  repeat apply za
  refine pwY (some [nx, nx + 3]) (Row.pures [0, 1, 2, 3, 4, 5, 6, 7, 8, 9, 10, 11, 12, 13, 14, 15, 16, 17, 18, 19] (.alt 20 (.alt 21 (.done) .stop) .stop)) mixed wi ?_
  intros
  repeat apply za
  exact ze (zh hd (by simp; rfl) (by simp [zk, rw0, pc0]))
 have h1' : (m.a : Int) = m.b := by omega
 rw [if_neg (by simpa using h1)]
 repeat apply za
 refine pwN [] h1' ?_
 intros
 repeat apply za
 refine zi rfl ?_
 by_cases h2 : m.i < m.j
 ·rw [if_pos h2]
  repeat apply za
  refine pwN [] h2 ?_
  intros
  repeat apply za
  refine zj rfl ?_
  repeat apply za
  refine pwN [] (jn2 wi wj) ?_
  intros
  repeat apply za
  exact ze (zh hd (by simp; rfl) (by simp [zk, rw0, pc0, h1]))
 ·rw [if_neg h2]
  repeat apply za
  refine pwN [] h2 ?_
  intros
  repeat apply za
  refine zi rfl ?_
  refine zb ?_
  repeat apply za
  refine pwN [] (jn2 wi wj) ?_
  intros
  repeat apply za
  exact ze (zh hd (by simp; rfl) (by simp [zk, rw0, pc0, h1]))
set_option maxRecDepth 20000 in
theorem Zhn (m : Mv) (la lb : Nat) (hk : m.k = 2) (hi : m.i ≤ 1048576) (hj : m.j ≤ 1048576) : Pure Tryz.prog 236 [.agg (vwL m la lb)] (.tup [.agg (rwL (qI m la lb).1), .agg (rwL (qI m la lb).2)]) := by
 have wi := wrN m.i (by omega)
 have wj := wrN m.j (by omega)
 unfold qI
 rw [if_neg (by omega), if_neg (by omega), if_pos hk]
 refine pwe Tryz.func236 Tryz.ntmps236 Tryz.results236 fun S nx hd => ?_
 repeat apply za
 refine pwn ?_
 intro v0 v1 v2
 repeat apply za
 refine pwY (some [nx]) (Row.pures [0, 1, 2, 3, 4, 5, 6, 7, 8, 9, 10, 11, 12, 13, 14, 15] .done) mixed trivial ?_
 intros
 repeat apply za
 refine pwN [] (jn2 wi wj) ?_
 intro v3 v4
 by_cases h1 : m.a = m.b
 ·have h1' : (m.a : Int) = m.b := by omega
  rw [if_pos h1]
  repeat apply za
  refine pwN [] h1' ?_
  intros
  repeat apply za
  refine zj rfl ?_
  repeat apply za
  refine pwN [] (jn2 wi wj) ?_
  intros
  repeat apply za
  exact ze (zh hd (by simp; rfl) (by simp [zk, rw0, pc0, h1]))
 ·have h1' : ¬ (m.a : Int) = m.b := by omega
  rw [if_neg h1]
  repeat apply za
  refine pwN [] h1' ?_
  intros
  repeat apply za
  refine zi rfl ?_
  refine zb ?_
  repeat apply za
  refine pwY (some [nx, nx + 3, nx + 4]) (Row.pures [0, 1, 2, 3, 4, 5, 6, 7, 8, 9, 10, 11, 12, 13, 14, 15, 16, 17, 18, 19, 20, 21] (.alt 22 (.alt 23 (.done) .stop) .stop)) mixed (jn2 wi wj) ?_
  intros
  repeat apply za
  exact ze (zh hd (by simp; rfl) (by simp [zk, rw0, pc0]))
open Go Go.Proofs
abbrev Qd : List PV := [.fn (.func 231) [] [], .fn (.func 232) [] [], .fn (.func 233) [] [], .fn (.func 234) [] [], .fn (.func 235) [] [], .fn (.func 236) [] [], .fn (.func 237) [] [], .fn (.func 238) [] []]
set_option maxRecDepth 20000 in
theorem Zan : Pure Tryz.prog 197 [] (.agg Qd) := by
 refine pwe Tryz.func197 Tryz.ntmps197 Tryz.results197 fun S nx hd => ?_
 repeat apply za
 refine pwn ?_
 intro v0
 (repeat apply za); refine pwn ?_; intros
 repeat apply za
 exact ze (zh hd (by simp; rfl) rfl)
def tlen (d : Day) (t : Nat) : Nat := (d.getD t []).length
def qW (d : Day) (m : Mv) : Bool := decide (m.k ≤ 3 ∧ m.a < d.length ∧ m.b < d.length) && jH m (tlen d m.a) (tlen d m.b)
def zD (d : Day) (m : Mv) : Rw5 × Rw5 := qI m (tlen d m.a) (tlen d m.b)
def wx (d : Day) (m : Mv) : Rw5 × Rw5 × Bool := if qW d m = true then ((zD d m).1, (zD d m).2, true) else (rw0, rw0, false)
set_option maxRecDepth 20000 in
set_option maxHeartbeats 1600000 in
theorem JZ (d : Day) (m : Mv) (hdn : d.length ≤ 1048576) (hdt : ∀ t ∈ d, t.length ≤ 1048576) (hk : m.k ≤ 3) (ha : m.a < d.length) (hb : m.b < d.length) (hi : m.i ≤ 1048576) (hj : m.j ≤ 1048576) : Pure Tryz.prog 155 [.agg [L d], .agg (mvL m)]
  (.tup [.agg (rwL (wx d m).1), .agg (rwL (wx d m).2.1), B (wx d m).2.2]) := by
 obtain ⟨ta, xa, a1, -, -, a0⟩ := el1 rfl d m.a ha
 obtain ⟨tb, xb, b1, -, -, b0⟩ := el1 rfl d m.b hb
 have ha1 : 1 ≤ d.length - m.a := by omega
 have hb1 : 1 ≤ d.length - m.b := by omega
 have la : tlen d m.a = ta.length := by unfold tlen; rw [List.getD_eq_getElem?_getD, a1]; rfl
 have lb : tlen d m.b = tb.length := by unfold tlen; rw [List.getD_eq_getElem?_getD, b1]; rfl
 have hbl := hdt tb (List.mem_of_getElem? b1)
 have hmay : qW d m = jH m ta.length tb.length := by unfold qW; rw [la, lb, decide_eq_true ⟨hk, ha, hb⟩]; rfl
 have hcut : zD d m = qI m ta.length tb.length := by unfold zD; rw [la, lb]
 unfold wx
 rw [hmay, hcut]
 clear hmay hcut la lb
 have call : ∀ f g : Nat, m.k = m.k → True := fun _ _ _ => trivial
 clear call
 have g1 : ¬ (m.k : Int) < 0 := by omega
 have g2 : ¬ (3 : Int) < m.k := by omega
 have g3 : ¬ (m.a : Int) < 0 := by omega
 have g4 : ¬ d.length ≤ m.a := by omega
 have g5 : ¬ (m.b : Int) < 0 := by omega
 have g6 : ¬ d.length ≤ m.b := by omega
 refine pwe Tryz.func155 Tryz.ntmps155 Tryz.results155 fun S nx hd => ?_
 repeat apply za
 refine pwn ?_
 intro v0 v1 v2 v3
 (repeat apply za); refine pwn ?_; intros
 repeat apply za
 refine pwN [(3, 18), (8, 23), (13, 28), (19, 34), (24, 39)] (jn6 g1 g2 g3 g4 g5 g6) ?_
 intros
 repeat apply za
 refine zi rfl ?_
 refine zb ?_
 repeat apply za
 refine pwY (some [nx, nx + 1]) (Row.pures [0, 1, 2, 3, 4, 5, 6, 7, 8, 9, 10, 11, 12, 13, 14, 15, 16, 17] (.alt 18 (.alt 19 (.done) .stop) .stop)) mixed (jn6 a0 b0 ha hb ha1 hb1) ?_
 intro v4
 obtain ⟨mf, cf, hmf, hcf, hidx⟩ : ∃ mf cf : Nat, Pure Tryz.prog mf [.agg (vwL m ta.length tb.length)] (B (jH m ta.length tb.length)) ∧ Pure Tryz.prog cf [.agg (vwL m ta.length tb.length)] (.tup [.agg (rwL (qI m ta.length tb.length).1), .agg (rwL (qI m ta.length tb.length).2)]) ∧
   ∃ k : Nat, (k : Int) = m.k ∧ k < 4 ∧ (Qd.drop (k * 2)).take 2 = [.fn (.func mf) [] [], .fn (.func cf) [] []] := by
  have h4 : m.k = 0 ∨ m.k = 1 ∨ m.k = 2 ∨ m.k = 3 := by omega
  rcases h4 with h | h | h | h
  ·exact ⟨_, _, Zhg m _ _ h, Zhk m _ _ h hi hj, 0, by omega, by omega, rfl⟩
  ·exact ⟨_, _, Zhh m _ _ h hbl, Zhm m _ _ h hi hj, 1, by omega, by omega, rfl⟩
  ·exact ⟨_, _, Zhi m _ _ h, Zhn m _ _ h hi hj, 2, by omega, by omega, rfl⟩
  ·exact ⟨_, _, Zhj m _ _ (by omega), Zhl m _ _ (by omega), 3, by omega, by omega, rfl⟩
 obtain ⟨k, hkk, hk4, hkt⟩ := hidx
 obtain rfl : k = m.k := by omega
 have hk4' : (m.k : Int) < 4 := by omega
 have hk5 : 2 ≤ 8 - m.k * 2 := by omega
 generalize hmz : jH m ta.length tb.length = mz at *
 generalize hcz : qI m ta.length tb.length = cz at *
 obtain ⟨r1, r2⟩ := cz
 generalize hkl : Qd = kl at hkt
 have hkinds := Zan
 rw [hkl] at hkinds
 have hkll : kl.length = 8 := by rw [← hkl]; rfl
 clear hkl
 repeat apply za
 refine pwY (some [nx + 1]) (Row.pures [0, 1, 2, 3] (.alt 4 (.alt 5 (.done) .stop) .stop)) mixed (jn5 hkt hk4 hk4' hkll hk5) ?_
 refine pwP (hkinds) (jn5 hkt hk4 hk4' hkll hk5) ?_
 intro v5
 intros
 repeat apply za
 refine pwn ?_
 refine pwc hmf ?_
 intros
 cases mz with
 | false =>
  repeat apply za
  refine zj rfl ?_
  (repeat apply za); refine pwn ?_; intros
  repeat apply za
  exact ze (zh hd (by simp; rfl) (by simp [zk, rw0, pc0]))
 | true =>
  repeat apply za
  refine zi rfl ?_
  refine zb ?_
  repeat apply za
  refine pwn ?_
  refine pwc hcf ?_
  intro v6 v7
  intros
  repeat apply za
  refine pwY (some [nx + 6, nx + 7]) (Row.pures [0, 1] (.alt 2 (.alt 3 (Row.pures [4] .done) .stop) .stop)) mixed trivial ?_
  intros
  repeat apply za
  exact ze (zh hd (by simp; rfl) (by simp [zk]))
open Go Go.Proofs
theorem Zao (l : List Stop) (k : Nat) (s : Stop) (h : k < l.length) : zJ (l.flatMap Enc.enc) (k * 2) [I s.c, I s.q] = (l.set k s).flatMap Enc.enc := by
 unfold zJ
 rw [List.set_eq_take_append_cons_drop, if_pos h, List.flatMap_append, List.flatMap_cons, ← ve Enc.enc 2 (fun _ => rfl) l k, ← uI Enc.enc 2 (fun _ => rfl) l (k + 1)]
 simp [show k * 2 + 2 = (k + 1) * 2 by omega]
def yX (l : List Stop) (k : Nat) : List Stop := (List.range l.length).map fun q => if q < k ∨ l.length - 1 - q < k then l.getD (l.length - 1 - q) default else l.getD q default
theorem xi (l : List Stop) (k : Nat) : (yX l k).length = l.length := by simp [yX]
theorem u6 {l : List Stop} {k q : Nat} (hq : q < l.length) : (yX l k)[q]? = some (if q < k ∨ l.length - 1 - q < k then l.getD (l.length - 1 - q) default else l.getD q default) := by
 unfold yX; rw [List.getElem?_map, List.getElem?_range hq]; rfl
theorem Zho (l : List Stop) : yX l 0 = l := by
 apply List.ext_getElem?
 intro q
 by_cases h : q < l.length
 ·rw [u6 h, if_neg (by omega), List.getD_eq_getElem?_getD, List.getElem?_eq_getElem h]; rfl
 ·rw [List.getElem?_eq_none (by rw [xi]; omega), List.getElem?_eq_none (by omega)]
theorem Zhp {l : List Stop} {k : Nat} (hk : l.length - 1 ≤ k + k) : yX l k = l.reverse := by
 apply List.ext_getElem?
 intro q
 by_cases h : q < l.length
 ·rw [u6 h, List.getElem?_reverse h]
  by_cases h1 : q < k ∨ l.length - 1 - q < k
  ·rw [if_pos h1, List.getD_eq_getElem?_getD, List.getElem?_eq_getElem (by omega)]; rfl
  ·rw [if_neg h1, List.getD_eq_getElem?_getD]
   have : q = l.length - 1 - q := by omega
   rw [← this, List.getElem?_eq_getElem h]; rfl
 ·rw [List.getElem?_eq_none (by rw [xi]; omega), List.getElem?_eq_none (by simp; omega)]
theorem Zhq {l : List Stop} {k : Nat} (h : k < l.length - 1 - k) {a b : Stop} (ha : (yX l k)[k]? = some a) (hb : (yX l k)[l.length - 1 - k]? = some b) : ((yX l k).set k b).set (l.length - 1 - k) a = yX l (k + 1) := by
 rw [u6 (by omega), if_neg (by omega)] at ha
 rw [u6 (by omega), if_neg (by omega)] at hb
 cases ha; cases hb
 apply List.ext_getElem?
 intro q
 by_cases hq : q < l.length
 ·rw [u6 hq, List.getElem?_set, List.getElem?_set]
  by_cases e1 : l.length - 1 - k = q
  ·rw [if_pos e1, if_pos (by rw [List.length_set, xi]; omega), if_pos (by omega)]
   congr 2; omega
  ·rw [if_neg e1]
   by_cases e2 : k = q
   ·subst e2
    rw [if_pos rfl, if_pos (by rw [xi]; exact hq), if_pos (by omega)]
   ·rw [if_neg e2, u6 hq]
    by_cases h1 : q < k ∨ l.length - 1 - q < k
    ·rw [if_pos h1, if_pos (by omega)]
    ·rw [if_neg h1, if_neg (by omega)]
 ·rw [List.getElem?_eq_none (by rw [List.length_set, List.length_set, xi]; omega), List.getElem?_eq_none (by rw [xi]; omega)]
theorem Qe (S : Store) (i : Nat) (a b : Ob) : (S.set i a).set i b = S.set i b := by
 funext o
 by_cases h : o = i
 ·subst h; rw [Store.set_same, Store.set_same]
 ·rw [Store.set_other _ _ _ _ h, Store.set_other _ _ _ _ h, Store.set_other _ _ _ _ h]
set_option maxRecDepth 20000 in
set_option maxHeartbeats 1600000 in
theorem Zhr {S : Store} {id ver : Nat} (pre l : List Stop) (hn : (pre ++ l).length ≤ 1048576) (hid : S id = .cells ver 50 ((pre ++ l).flatMap Enc.enc)) :
  Spec Tryz.prog 201 [.sl id ver 2 (pre.length * 2) l.length] S (fun _ S' => S' = S.set id (.cells ver 50 ((pre ++ l.reverse).flatMap Enc.enc))) := by
 refine y9 Tryz.func201 Tryz.ntmps201 Tryz.results201 fun nx hd => ?_
 have hlt : id < nx := yP hd hid (by simp)
 simp only [List.length_append] at hn
 have w0 : IntKind.i64.wrap ((l.length : Int) - 1) = (l.length : Int) - 1 := wr _ (by omega) (by omega)
 repeat apply za
 refine pwN [] w0 ?_
 intros
 repeat apply za
 refine zg (jd (σ := Nat) (fun k => k ≤ l.length) (fun k => [(0, .sl id ver 2 (pre.length * 2) l.length), (2, I k), (3, I ((l.length : Int) - 1 - k))]) (fun k => S.set id (.cells ver 50 ((pre ++ yX l k).flatMap Enc.enc))) (fun _ => []) (fun k => l.length - k) (zA 0 [] (by simp) (by simp) (by rw [Zho]; exact uS S id _ hid) (by simp)) ?_)
 rintro k hk
 show PW _ _ _ _ _ _ _ (ext (S.set id (.cells ver 50 ((pre ++ yX l k).flatMap Enc.enc))) nx [])
 obtain ⟨T, hT⟩ : ∃ T, T = S.set id (.cells ver 50 ((pre ++ yX l k).flatMap Enc.enc)) := ⟨_, rfl⟩
 rw [← hT]
 (repeat apply za); refine pwn ?_; intros
 repeat apply za
 refine zn rfl (fun hc => ?_) (fun hc => ?_)
 ·simp at hc
  have h1 : k < l.length - 1 - k := by omega
  have x1 := xi l k
  obtain ⟨a, ta, a1, -, -, -, a0⟩ := el 2 rfl (pre ++ yX l k) (pre.length + k) (by simp [xi]; omega)
  obtain ⟨b, tb, b1, -, -, -, b0⟩ := el 2 rfl (pre ++ yX l k) (pre.length + (l.length - 1 - k)) (by simp [xi]; omega)
  have hst := Zhq h1 (a := a) (b := b) (by rw [← a1, List.getElem?_append_right (by omega), Nat.add_sub_cancel_left]) (by rw [← b1, List.getElem?_append_right (by omega), Nat.add_sub_cancel_left])
  have sp1 := Zao (pre ++ yX l k) (pre.length + k) b (by simp [xi]; omega)
  have sp2 := Zao ((pre ++ yX l k).set (pre.length + k) b) (pre.length + (l.length - 1 - k)) a (by simp [xi]; omega)
  have hs2 : ((pre ++ yX l k).set (pre.length + k) b).set (pre.length + (l.length - 1 - k)) a = pre ++ yX l (k + 1) := by
   rw [List.set_append_right _ _ (by omega), List.set_append_right _ _ (by omega), Nat.add_sub_cancel_left, Nat.add_sub_cancel_left, hst]
  rw [hs2] at sp2
  have hjj : (l.length : Int) - 1 - k = ((l.length - 1 - k : Nat) : Int) := by omega
  generalize l.length - 1 - k = j at *
  generalize hw0 : ((pre ++ yX l k).flatMap Enc.enc : List PV) = c0 at *
  generalize hw1 : (((pre ++ yX l k).set (pre.length + k) b).flatMap Enc.enc : List PV) = c1 at *
  have l0 : c0.length = (pre.length + l.length) * 2 := by rw [← hw0, vX]; simp [xi]
  have l1 : c1.length = (pre.length + l.length) * 2 := by rw [← hw1, vX]; simp [xi]
  have hTid : T id = .cells ver 50 c0 := by rw [hT]; exact Store.set_same _ _ _
  have xid := fun obs => zy (S := T) (obs := obs) hlt
  have xid1 := fun obs => zy (S := T.set id (.cells ver 50 c1)) (obs := obs) hlt
  have hs1 : (T.set id (.cells ver 50 c1)) id = .cells ver 50 c1 := Store.set_same _ _ _
  have hq1 : k + 1 ≤ l.length := by omega
  have q1 : pre.length * 2 + k * 2 = (pre.length + k) * 2 := by omega
  have q2 : pre.length * 2 + j * 2 = (pre.length + j) * 2 := by omega
  have q3 : j < l.length := by omega
  have q4 : k < l.length := by omega
  have q5 : ¬ nx ≤ id := by omega
  refine zb (za (zg ?_))
  rw [hjj]
  repeat apply za
  refine pwY (some []) (Row.pures [0, 1, 2, 3, 4, 5, 6, 8, 9, 10] (.alt 7 (.alt 11 (Row.pures [12] (.alt 13 (Row.pures [14] (.alt 15 (.done) .stop)) .stop)) .stop) (.alt 11 (.alt 7 (Row.pures [12] (.alt 13 (Row.pures [14] (.alt 15 (.done) .stop)) .stop)) .stop) .stop))) mixed (jn6 xid hTid q1 q2 a0 (jn2 (jn6 b0 q3 q4 q5 l0 sp1) (jn4 hs1 xid1 sp2 l1))) ?_
  have wj : IntKind.i64.wrap ((j : Int) - 1) = (l.length : Int) - 1 - ((k + 1 : Nat) : Int) := by rw [wr _ (by omega) (by omega)]; omega
  have wk := wrN k (by omega)
  have hfin : S.set id (.cells ver 50 ((pre ++ yX l (k + 1)).flatMap Enc.enc)) = (T.set id (.cells ver 50 c1)).set id (.cells ver 50 ((pre ++ yX l (k + 1)).flatMap Enc.enc)) := by rw [hT, Qe, Qe]
  have happ : ((pre ++ yX l (k + 1)).flatMap Enc.enc : List PV) = pre.flatMap Enc.enc ++ (yX l (k + 1)).flatMap Enc.enc := by rw [List.flatMap_append]
  rw [happ] at hfin
  refine ⟨?_, ?_⟩
  ·refine ⟨by omega, by omega, ?_⟩
   intros
   repeat apply za
   refine pwN [] (jn2 wk wj) ?_
   intros
   exact zm (k + 1) [] hq1 (by omega) (by simp) (by rw [happ, hT]; simp only [Qe]) (by simp)
  ·refine ⟨by omega, by omega, ?_⟩
   intros
   repeat apply za
   refine pwN [] (jn2 wk wj) ?_
   intros
   exact zm (k + 1) [] hq1 (by omega) (by simp) (by rw [happ, hT]; simp only [Qe]) (by simp)
 ·simp at hc
  refine zo ?_
  refine ⟨[], T, rfl, ?_, zO ?_⟩
  ·rw [hT, Zhp (by omega)]
  ·rw [hT]
   intro i hi
   rw [Store.set_other _ _ _ _ (by omega)]; exact hd i hi
end Go.Proofs.YtaiplainginmaaaGreat.Pv
