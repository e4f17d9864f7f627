/- A part of the proof of the statement that the last text of this claim proves; no condition is added. Packed by a program of the prover. -/
import Derived.Test.YtaiplainginmaaaGreatX6
namespace Go.Proofs.YtaiplainginmaaaGreat.Pv
open Go Go.Proofs Hp
set_option maxRecDepth 20000 in
theorem ZbG (p : Nat) (hp : p < 2 ^ 64) : Pure Tryz.prog 208 [U p] (L (zV p 0 64)) := by
 have h := Zh3 p 0 hp (by decide)
 refine pwe Tryz.func208 Tryz.ntmps208 Tryz.results208 fun S nx hd => ?_
 (repeat apply za); refine pwn ?_; intros
 repeat apply za
 refine pwn ?_
 refine pwc h ?_
 intros
 repeat apply za
 exact zb (zg hd rfl rfl)
set_option maxRecDepth 20000 in
theorem Zjf (c : Cust) (p : Nat) (hp : p < 2 ^ 64) : Pure Tryz.prog 169 [.agg (zN c), U p] (L (jP c p)) := by
 have hall := ZbG p hp
 have hln := uk p 0 64
 unfold jP
 generalize zV p 0 64 = l at hall hln
 refine pwe Tryz.func169 Tryz.ntmps169 Tryz.results169 fun S nx hd => ?_
 repeat apply za
 refine pwn ?_
 intro v0
 (repeat apply za); refine pwn ?_; intros
 refine za (yQ 5 103 2 rfl fun v1 => ?_)
 repeat apply za
 refine pwn ?_
 refine pwc hall ?_
 intros
 repeat apply za
 refine ze (zq (fun s : Nat × List Visit × Nat => s.1 ≤ l.length ∧ s.2.1 = (l.take s.1).map fun d => ⟨d, c.demand⟩) (fun (k, out, v1) => [(2, .ptr nx v0 0), (5, .sl (nx + 1) v1 2 0 out.length), (9, L l), (10, I l.length), (11, I k)]) (fun (k, out, v1) => [.cells v0 41 (zN c), .cells v1 103 (out.flatMap Enc.enc)]) (fun s => l.length - s.1) (0, [], v1) [] (by simp) (by simp) (by simp) ?_)
 rintro ⟨k, out, v1⟩ ⟨hk, ho⟩
 simp only at hk ho ⊢
 have hol : out.length = k := by rw [ho]; simp; omega
 (repeat apply za); refine pwn ?_; intros
 repeat apply za
 refine zl rfl (fun hc => ?_) (fun hc => ?_)
 ·simp at hc
  obtain ⟨d, tl, a1, a2, a3, e0⟩ := el1 rfl l k hc
  refine zd (za (ze ?_))
  repeat apply za
  refine pwN [] (jn2 e0 hc) ?_
  intros
  repeat apply za
  refine pwn ?_
  refine ⟨by omega, ?_⟩
  intros
  (repeat apply za); refine pwn ?_; intros
  exact zk (k + 1, out ++ [⟨d, c.demand⟩], v1 + 1) [] ⟨hc, by rw [a3, ho]; simp⟩ (by simp; omega) (by simp [wrN k (by omega)]) rfl (by simp)
 ·simp at hc
  obtain rfl : k = l.length := by omega
  rw [List.take_length] at ho
  refine zm ?_
  refine zB 1 rfl ?_
  (repeat apply za); refine pwn ?_; intros
  repeat apply za
  exact zb (zg hd (by simp; rfl) (by simp [zi, ho]))
def jD (price : List Int) (ds : List Int) : Int := ds.foldl (fun (s d : Int) => if d < price.length then wN s (price.getD d.toNat 0) else s) 0
def Z3 (price : List Int) (p : Nat) : Int := jD price (zV p 0 64)
def yV (price : List Int) (l : List Nat) : Nat → Int × Int
 | 0 => (-1, 0)
 | k + 1 => if (yV price l k).1 < 0 ∨ Z3 price (l.getD k 0) < (yV price l k).2 then (k, Z3 price (l.getD k 0)) else yV price l k
theorem ZbH (price : List Int) (l : List Nat) : ∀ k : Nat, (yV price l k).1 < k ∧ -1 ≤ (yV price l k).1 ∧ (0 < k → 0 ≤ (yV price l k).1)
 | 0 => by simp [yV]
 | k + 1 => by
  have := ZbH price l k
  unfold yV
  split
  ·dsimp only; omega
  ·rename_i h; omega
theorem Zjg (a b : Int) (ha : I64 a) (hb : I64 b) : I64 (wN a b) := by
 unfold I64 wN at *
 split
 ·omega
 ·split <;> omega
theorem Zjh (price ds : List Int) (d : Int) : jD price (ds ++ [d]) = if d < price.length then wN (jD price ds) (price.getD d.toNat 0) else jD price ds := by simp [jD]
theorem Zji (price : List Int) (hp : ∀ z ∈ price, I64 z) (ds : List Int) : I64 (jD price ds) := by
 unfold jD
 have : ∀ (ds : List Int) (s : Int), I64 s → I64 (ds.foldl (fun (s d : Int) => if d < price.length then wN s (price.getD d.toNat 0) else s) s) := by
  intro ds
  induction ds with
  | nil => intro s h; exact h
  | cons d ds ih =>
   intro s h
   rw [List.foldl_cons]
   apply ih
   split
   ·refine Zjg _ _ h ?_
    rw [List.getD_eq_getElem?_getD]
    cases hq : price[d.toNat]? with
    | none => unfold I64; simp
    | some z => exact hp z (List.mem_of_getElem? hq)
   ·exact h
 exact this ds 0 (by unfold I64; omega)
set_option maxRecDepth 20000 in
theorem Zjj {S : Store} {pl : PV} {price : List Int} (l : List Nat) (hR : RowOf S pl price) (hp : ∀ z ∈ price, I64 z) (hpl : price.length ≤ 1000) (hl : l.length ≤ 1000) (h64 : ∀ p ∈ l, p < 2 ^ 64) :
  Spec Tryz.prog 168 [L l, pl] S (fun q S' => q = .tup [I (yV price l l.length).1, I (yV price l l.length).2] ∧ S' = S) := by
 refine jg Tryz.func168 Tryz.ntmps168 Tryz.results168 fun nx hd => ?_
 (repeat apply za); refine pwn ?_; intros
 (repeat apply za); refine pwn ?_; intros
 (repeat apply za); refine pwn ?_; intros
 repeat apply za
 refine ze (zq (fun k : Nat => k ≤ l.length) (fun k => [(1, pl), (6, I (yV price l k).1), (7, I (yV price l k).2), (13, L l), (14, I l.length), (15, I k)]) (fun _ => []) (fun k => l.length - k) 0 [] (by simp) (by simp [yV]) (by simp) ?_)
 rintro k hk
 have hb : yV price l (k + 1) = if (yV price l k).1 < 0 ∨ Z3 price (l.getD k 0) < (yV price l k).2 then (↑k, Z3 price (l.getD k 0)) else yV price l k := rfl
 generalize hst : yV price l k = st at hb ⊢
 obtain ⟨place, least⟩ := st
 simp only at hb ⊢
 (repeat apply za); refine pwn ?_; intros
 repeat apply za
 refine zl rfl (fun hc => ?_) (fun hc => ?_)
 ·simp at hc
  obtain ⟨p, tl, a1, a2, a3, e0⟩ := el1 rfl l k hc
  have hall := ZbG p (h64 p (List.mem_of_getElem? a1))
  have hgp : l.getD k 0 = p := by rw [List.getD_eq_getElem?_getD, a1]; rfl
  rw [hgp] at hb
  have hds : ∀ d ∈ zV p 0 64, ∃ i : Nat, d = i := fun d hd => by obtain ⟨i, h, _⟩ := Zbn hd; exact ⟨i, h⟩
  have hdl := uk p 0 64
  rw [show Z3 price p = jD price (zV p 0 64) from rfl] at hb
  generalize zV p 0 64 = ds at hall hds hdl hb
  refine zd (za (ze ?_))
  repeat apply za
  refine pwN [] (jn2 e0 hc) ?_
  intros
  (repeat apply za); refine pwn ?_; intros
  repeat apply za
  refine pwn ?_
  refine pwc hall ?_
  intros
  repeat apply za
  refine ze (zq (fun j : Nat => j ≤ ds.length) (fun j => [(1, pl), (6, I place), (7, I least), (8, I k), (10, I (jD price (ds.take j))), (13, L l), (14, I l.length), (15, I k), (21, L ds), (22, I ds.length), (23, I j)]) (fun _ => []) (fun j => ds.length - j) 0 [] (by simp) (by simp [jD]) (by simp) ?_)
  rintro j hj
  (repeat apply za); refine pwn ?_; intros
  repeat apply za
  refine zl rfl (fun hc2 => ?_) (fun hc2 => ?_)
  ·simp at hc2
   obtain ⟨d, tl2, b1, b2, b3, f0⟩ := el1 rfl ds j hc2
   obtain ⟨i, rfl⟩ := hds d (List.mem_of_getElem? b1)
   have hsn := Zjh price (ds.take j) (i : Int)
   rw [← b3, Int.toNat_natCast] at hsn
   have hsi := Zji price hp (ds.take j)
   refine zd (za (ze ?_))
   repeat apply za
   refine pwN [] (jn2 f0 hc2) ?_
   intros
   by_cases hi : i < price.length
   ·obtain ⟨z, tl3, c1, -, -, g0⟩ := el1 rfl price i hi
    have hgz : price.getD i 0 = z := by rw [List.getD_eq_getElem?_getD, c1]; rfl
    rw [if_pos (by omega), hgz] at hsn
    have hsat := ZhK (jD price (ds.take j)) z hsi (hp z (List.mem_of_getElem? c1))
    rw [← hsn] at hsat
    rcases hR with rfl | ⟨id, ver, rfl, hS⟩
    ·repeat apply za
     refine pwN [] hi ?_
     intros
     repeat apply za
     refine zh rfl ?_
     repeat apply za
     refine pwN [] (jn2 g0 hi) ?_
     refine pwc hsat ?_
     intros
     (repeat apply za); refine pwn ?_; intros
     exact zk (j + 1) [] hc2 (by omega) (by simp [wrN j (by omega)]) rfl (by simp)
    ·have hlt : id < nx := yL hd hS (by simp)
     have xr := fun obs => (zy (S := S) (obs := obs) hlt).trans hS
     repeat apply za
     refine pwN [] hi ?_
     intros
     repeat apply za
     refine zh rfl ?_
     repeat apply za
     refine pwN [] (jn3 xr g0 hi) ?_
     refine pwc hsat ?_
     intros
     (repeat apply za); refine pwn ?_; intros
     exact zk (j + 1) [] hc2 (by omega) (by simp [wrN j (by omega)]) rfl (by simp)
   ·rw [if_neg (by omega)] at hsn
    rcases hR with rfl | ⟨id, ver, rfl, hS⟩
    ·repeat apply za
     refine pwN [] hi ?_
     intros
     repeat apply za
     refine zj rfl ?_
     refine zd ?_
     (repeat apply za); refine pwn ?_; intros
     exact zk (j + 1) [] hc2 (by omega) (by simp [wrN j (by omega), hsn]) rfl (by simp)
    ·repeat apply za
     refine pwN [] hi ?_
     intros
     repeat apply za
     refine zj rfl ?_
     refine zd ?_
     (repeat apply za); refine pwn ?_; intros
     exact zk (j + 1) [] hc2 (by omega) (by simp [wrN j (by omega), hsn]) rfl (by simp)
  ·simp at hc2
   obtain rfl : j = ds.length := by omega
   rw [List.take_length]
   refine zm ?_
   repeat apply za
   refine zW (nx := nx) (σ := Bool) (fun t => t = decide (place < 0 ∨ jD price ds < least)) (fun t => [(1, pl), (6, I place), (7, I least), (8, I k), (10, I (jD price ds)), (13, L l), (14, I l.length), (15, I k), (44, B t)]) (fun _ => S) (fun _ => []) ?_ ?_
   ·by_cases h1 : place < 0
    ·repeat apply za
     refine pwN [(2, 40)] (jn2 h1 zn) ?_
     intros
     exact zu true [] (by simp [h1]) (by simp) rfl (by simp)
    ·repeat apply za
     refine pwN [(2, 40)] h1 ?_
     intros
     exact zu (decide (jD price ds < least)) [] (by simp [h1]) (by simp) rfl (by simp)
   rintro t rfl
   by_cases h : place < 0 ∨ jD price ds < least
   ·rw [decide_eq_true h]
    rw [if_pos h] at hb
    repeat apply za
    refine zh rfl ?_
    (repeat apply za); refine pwn ?_; intros
    (repeat apply za); refine pwn ?_; intros
    exact zk (k + 1) [] hc (by omega) (by simp [wrN k (by omega), hb]) rfl (by simp)
   ·rw [decide_eq_false h]
    rw [if_neg h] at hb
    repeat apply za
    refine zj rfl ?_
    refine zd ?_
    (repeat apply za); refine pwn ?_; intros
    exact zk (k + 1) [] hc (by omega) (by simp [wrN k (by omega), hb]) rfl (by simp)
 ·simp at hc
  obtain rfl : k = l.length := by omega
  refine zm ?_
  (repeat apply za); refine pwn ?_; intros
  repeat apply za
  exact zb ⟨_, S, rfl, ⟨by simp [zi, hst], rfl⟩, zM hd⟩
def xK (c : Cust) (cap : Int) : List Nat := c.pats.filter fun p => decide (p = 0) || decide (c.demand ≤ cap)
set_option maxRecDepth 20000 in
theorem Zjk (c : Cust) (cap : Int) (hl : c.pats.length ≤ 1000) : Pure Tryz.prog 167 [.agg (zN c), I cap] (L (xK c cap)) := by
 unfold xK
 refine pwe Tryz.func167 Tryz.ntmps167 Tryz.results167 fun S nx hd => ?_
 repeat apply za
 refine pwn ?_
 intro v0
 (repeat apply za); refine pwn ?_; intros
 refine za (yQ 5 99 1 rfl fun v1 => ?_)
 (repeat apply za); refine pwn ?_; intros
 repeat apply za
 refine ze (zq (fun s : Nat × List Nat × Nat => s.1 ≤ c.pats.length ∧ s.2.1 = (c.pats.take s.1).filter (fun p => decide (p = 0) || decide (c.demand ≤ cap)) ∧ s.2.1.length ≤ s.1) (fun (k, out, w) => [(1, I cap), (2, .ptr nx v0 0), (5, .sl (nx + 1) w 1 0 out.length), (9, L c.pats), (10, I c.pats.length), (11, I k)]) (fun (k, out, w) => [.cells v0 41 (zN c), .cells w 99 (out.flatMap Enc.enc)]) (fun s => c.pats.length - s.1) (0, [], v1) [] (by simp) (by simp) (by simp) ?_)
 rintro ⟨k, out, w⟩ ⟨hk, ho, hol⟩
 simp only at hk ho hol ⊢
 (repeat apply za); refine pwn ?_; intros
 repeat apply za
 refine zl rfl (fun hc => ?_) (fun hc => ?_)
 ·simp at hc
  obtain ⟨p, tl, a1, a2, a3, e0⟩ := el1 rfl c.pats k hc
  refine zd (za (ze ?_))
  repeat apply za
  refine pwN [] (jn2 e0 hc) ?_
  intros
  repeat apply za
  refine zW (nx := nx) (σ := Bool × Nat) (fun s => s.1 = (decide (p = 0) || decide (c.demand ≤ cap))) (fun (t, w) => [(1, I cap), (2, .ptr nx v0 0), (5, .sl (nx + 1) w 1 0 out.length), (7, U p), (9, L c.pats), (10, I c.pats.length), (11, I k), (22, B t)]) (fun _ => S) (fun (t, w) => [.cells v0 41 (zN c), .cells w 99 (out.flatMap Enc.enc)]) ?_ ?_
  ·by_cases h1 : p = 0
   ·repeat apply za
    refine pwN [(2, 17)] (jn2 h1 zn) ?_
    intros
    exact zu (true, w) [] (by simp [h1]) (by simp [h1]) rfl (by simp)
   ·repeat apply za
    refine pwN [(2, 17)] h1 ?_
    intros
    exact zu (decide (c.demand ≤ cap), w) [] (by simp [h1]) (by simp) rfl (by simp)
  rintro ⟨t, w⟩ ht
  simp only at ht ⊢
  subst ht
  have hstep : (c.pats.take (k + 1)).filter (fun p => decide (p = 0) || decide (c.demand ≤ cap)) = out ++ (if (decide (p = 0) || decide (c.demand ≤ cap)) = true then [p] else []) := by
   rw [a3, List.filter_append, ho]
   congr 1
   simp only [List.filter_cons, List.filter_nil]
  cases ht : (decide (p = 0) || decide (c.demand ≤ cap)) with
  | true =>
   rw [ht, if_pos rfl] at hstep
   repeat apply za
   refine zh rfl ?_
   repeat apply za
   refine pwn ?_
   refine ⟨by omega, ?_⟩
   intros
   (repeat apply za); refine pwn ?_; intros
   exact zk (k + 1, out ++ [p], w + 1) [] ⟨hc, hstep.symm, by simp; omega⟩ (by simp; omega) (by simp [wrN k (by omega)]) rfl (by simp)
  | false =>
   rw [ht, if_neg (by decide), List.append_nil] at hstep
   repeat apply za
   refine zj rfl ?_
   refine zd ?_
   (repeat apply za); refine pwn ?_; intros
   exact zk (k + 1, out, w) [] ⟨hc, hstep.symm, by dsimp only; omega⟩ (by simp; omega) (by simp [wrN k (by omega)]) rfl (by simp)
 ·simp at hc
  obtain rfl : k = c.pats.length := by omega
  rw [List.take_length] at ho
  refine zm ?_
  refine zB 1 rfl ?_
  (repeat apply za); refine pwn ?_; intros
  repeat apply za
  exact zb (zg hd (by simp; rfl) (by simp [zi, ho]))
def wS (c : Cust) (cap : Int) (price : List Int) : List Visit × Bool :=
 if (yV price (xK c cap) (xK c cap).length).1 < 0 then ([], false) else (jP c ((xK c cap).getD (yV price (xK c cap) (xK c cap).length).1.toNat 0), true)
set_option maxRecDepth 20000 in
theorem Zjl {S : Store} {pl : PV} {price : List Int} (c : Cust) (cap : Int) (hR : RowOf S pl price) (hp : ∀ z ∈ price, I64 z) (hpl : price.length ≤ 1000) (hl : c.pats.length ≤ 1000) (h64 : ∀ p ∈ c.pats, p < 2 ^ 64) :
  Spec Tryz.prog 127 [.agg (zN c), I cap, pl] S (fun q S' => q = .tup [L (wS c cap price).1, B (wS c cap price).2] ∧ S' = S) := by
 have hca := Zjk c cap hl
 have hsub : ∀ p ∈ xK c cap, p < 2 ^ 64 := fun p hp => h64 p (List.mem_filter.1 hp).1
 have hcl : (xK c cap).length ≤ 1000 := Nat.le_trans (List.length_filter_le _ _) hl
 unfold wS
 generalize xK c cap = l at *
 have hb := fun S (hR : RowOf S pl price) => Zjj l hR hp hpl hcl hsub
 obtain ⟨b1, b2, b3⟩ := ZbH price l l.length
 generalize yV price l l.length = r at *
 obtain ⟨place, least⟩ := r
 simp only at hb b1 b2 b3 ⊢
 refine jg Tryz.func127 Tryz.ntmps127 Tryz.results127 fun nx hd => ?_
 repeat apply za
 refine pwn ?_
 intro v0
 repeat apply za
 refine pwn ?_
 refine pwc hca ?_
 intros
 repeat apply za
 refine zO [] (by rfl) (by rfl) fun K Gc Gh hK hGc hGh X hX0 hX => ?_
 simp -implicitDefEqProofs [hX0, hX]
 try clear hX0 hX X
 refine hGc _ _ _ _ _ _ _ fun hsuf => ((hb _ (hR.ext hd _)).mono ?_).v
 rintro _ _ ⟨rfl, rfl⟩
 refine ⟨_, _, rfl, ?_⟩
 clear hGc hGh
 clear Gc Gh
 refine zJ hsuf (D := []) (by rfl) fun Gc Gh hGc hGh X hX0 hX => ?_
 simp -implicitDefEqProofs [hX0, hX]
 clear hX0 hX X
 intros
 refine hK _ _ _ ?_
 clear hK hGc hGh
 clear K Gc Gh
 (repeat apply za); refine pwn ?_; intros
 by_cases h : place < 0
 ·rw [if_pos h]
  repeat apply za
  refine zh (by simp [h]) ?_
  (repeat apply za); refine pwn ?_; intros
  refine xR 6 rfl ?_
  repeat apply za
  exact zb ⟨_, S, rfl, ⟨by simp [zi], rfl⟩, zM hd⟩
 ·rw [if_neg h]
  obtain ⟨i, rfl⟩ := Int.eq_ofNat_of_zero_le (show 0 ≤ place by omega)
  have hil : i < l.length := by omega
  obtain ⟨p, tl, a1, a2, a3, e0⟩ := el1 rfl l i hil
  have hgp : l.getD (i : Int).toNat 0 = p := by rw [Int.toNat_natCast, List.getD_eq_getElem?_getD, a1]; rfl
  rw [hgp]
  have hon := Zjf c p (hsub p (List.mem_of_getElem? a1))
  repeat apply za
  refine zj (by simp) ?_
  refine zd ?_
  repeat apply za
  refine pwY (some [nx]) (Row.pures [0, 1, 2, 3, 4, 5, 6, 7] .done) mixed (jn2 e0 hil) ?_
  refine pwP (hon) (jn2 e0 hil) ?_
  intros
  repeat apply za
  exact zb ⟨_, S, (by simp; rfl), ⟨by simp [zi], rfl⟩, zM hd⟩
set_option maxRecDepth 20000 in
theorem Zjm {S : Store} {pl : PV} {price : List Int} (c : Cust) (n cap : Int) (hk : c.kind = 1) (hR : RowOf S pl price) (hp : ∀ z ∈ price, I64 z) (hpl : price.length ≤ 1000) (hl : c.pats.length ≤ 1000) (h64 : ∀ p ∈ c.pats, p < 2 ^ 64) :
  Spec Tryz.prog 88 [.agg (zN c), I n, I cap, pl] S (fun q S' => q = .tup [L (wS c cap price).1, B (wS c cap price).2] ∧ S' = S) := by
 have hs := fun S (hR : RowOf S pl price) => Zjl c cap hR hp hpl hl h64
 generalize wS c cap price = r at *
 obtain ⟨v, ok⟩ := r
 simp only at hs ⊢
 refine jg Tryz.func88 Tryz.ntmps88 Tryz.results88 fun nx hd => ?_
 repeat apply za
 refine pwn ?_
 intro v0
 repeat apply za
 refine ze ?_
 repeat apply za
 refine pwN [] hk ?_
 intros
 repeat apply za
 refine zh rfl ?_
 repeat apply za
 refine zO [] (by rfl) (by rfl) fun K Gc Gh hK hGc hGh X hX0 hX => ?_
 simp -implicitDefEqProofs [hX0, hX]
 try clear hX0 hX X
 refine hGc _ _ _ _ _ _ _ fun hsuf => ((hs _ (hR.ext hd _)).mono ?_).v
 rintro _ _ ⟨rfl, rfl⟩
 refine ⟨_, _, rfl, ?_⟩
 clear hGc hGh
 clear Gc Gh
 refine zJ hsuf (D := []) (by rfl) fun Gc Gh hGc hGh X hX0 hX => ?_
 simp -implicitDefEqProofs [hX0, hX]
 clear hX0 hX X
 intros
 refine hK _ _ _ ?_
 clear hK hGc hGh
 clear K Gc Gh
 repeat apply za
 exact zb ⟨_, S, (by simp; rfl), ⟨by simp [zi], rfl⟩, zM hd⟩
open Go Go.Proofs Hp
def vB : Cust := ⟨1, 1, [1], 0, 0, 0, 0, 0⟩
def x19 : Inst := ⟨1, 1, 9, 9, [vB], [[0, 3], [4, 0]]⟩
def up (c : Cust) (l : List Int) : List Visit × Bool := wS c 9 l
theorem XA : InstH x19 := by
 refine ⟨by decide, by decide, Zag fun row hr d hd => ?_, by decide⟩
 simp only [x19, List.mem_cons, List.not_mem_nil, or_false] at hr
 rcases hr with rfl | rfl <;> simp only [List.mem_cons, List.not_mem_nil, or_false] at hd <;> rcases hd with rfl | rfl <;> decide
theorem Zjn (l : List Int) : wS vB 9 l = ([⟨0, 1⟩], true) := by
 have h1 : xK vB 9 = [1] := by decide
 have h2 : jP vB 1 = [⟨0, 1⟩] := by decide
 unfold wS
 rw [h1]
 have h3 : (yV l [1] 1).1 = 0 := by
  unfold yV
  rw [if_pos (.inl (by simp [yV]))]; rfl
 simp only [List.length_cons, List.length_nil, Nat.zero_add, h3]
 rw [if_neg (by decide)]
 show (jP vB 1, true) = _
 rw [h2]
theorem Zjo : Xz x19 1 up := by
 intro c hc l hl hi S pl hR
 have : c = vB := by simpa [x19] using hc
 subst this
 exact Zjm vB 1 9 rfl hR hi (by omega) (by decide) (by decide)
theorem ZbI (pr : List (List Int)) : qu x19 up pr = ([[⟨0, 1⟩]], 0) := by
 have h : xJ x19 up pr x19.cust.length = [([⟨0, 1⟩], true)] := by
  show [up vB (pr.getD 0 [])] = _
  unfold up; rw [Zjn]
 unfold qu
 rw [h]; rfl
theorem ZbJ : VsOk 1 1 [[⟨0, 1⟩]] := by
 refine ⟨rfl, fun l hl w hw => ?_, fun l hl => ?_, fun l hl => ?_⟩
 ·simp at hl; subst hl; simp at hw; subst hw; decide
 ·simp at hl; subst hl; simp
 ·simp at hl; subst hl; simp
theorem Zjp : ZbF x19 1 up := by
 intro pr _ _
 rw [ZbI]; exact ZbJ
theorem Zjq {d : Day} {s : Stop} (h : d.flatten.Perm [s]) (hn : ∀ t ∈ d, t ≠ []) : d = [[s]] := by
 have h1 : d.flatten = [s] := List.perm_singleton.1 h
 match d, h1, hn with
 | [], h1, _ => simp at h1
 | [t], h1, _ => simpa using h1
 | t :: u :: r, h1, hn =>
  exfalso
  have a := hn t (by simp)
  have b := hn u (by simp)
  have := congrArg List.length h1
  simp only [List.flatten_cons, List.length_append, List.length_cons, List.length_nil] at this
  have := List.length_pos_iff.2 a
  have := List.length_pos_iff.2 b
  omega
theorem Zjr {x : Inst} {s : Stop} (h : SOk x [s]) (h0 : arc x 0 0 = 0) (hf : qz x [s] = 0) (hv : 1 ≤ x.veh) (b : Int) : qZ x b [s] = ([[s]], 0) := by
 have he : (qZ x b [s]).2 = 0 := by
  apply Classical.byContradiction
  intro hne
  rcases (ZhF h b hne).2 with q | q
  ·exact q hf
  ·simp at q; omega
 obtain ⟨-, h2, h3, -⟩ := ZhE h h0 b he
 have := Zjq h3 (JM h2)
 exact Prod.ext this he
theorem Zjs : Z2 x19 up 0 1 = ([[[⟨0, 1⟩]]], 0) := by
 have hs : qa [[⟨0, 1⟩]] (0 : Nat) 1 = [⟨0, 1⟩] := by decide
 have hk := Za8 XA ZbJ 0
 have hb : un x19 [[⟨0, 1⟩]] 0 1 = [([[⟨0, 1⟩]], 0)] := by
  show [qZ x19 0 (qa [[⟨0, 1⟩]] (0 : Nat) 1)] = _
  rw [hs]
  rw [show qa [[(⟨0, 1⟩ : Visit)]] 0 x19.cust.length = [⟨0, 1⟩] from hs] at hk
  rw [Zjr hk XA.diag (by decide) (by decide) 0]
 have h1 : yS x19 [[⟨0, 1⟩]] 0 1 = [0] := by unfold yS; rw [hb]; rfl
 have h2 : qP x19 [[⟨0, 1⟩]] 0 1 = [[[⟨0, 1⟩]]] := by unfold qP; rw [hb]; rfl
 unfold Z2 vA
 rw [ZbI]
 simp only [h1, h2]
 rfl
theorem Zjt : Pure Tryz.prog 13 [.agg (zo x19), I 0] (.tup [.agg [L ([[[⟨0, 1⟩]]] : zF)], I 0]) := by
 have h := Zje (b := 0) XA (n := 1) rfl (by decide) Zjo Zjp (by decide)
 rw [Zjs] at h
 exact h
set_option maxRecDepth 20000 in
theorem Zju : Pure Tryz.prog 17 [] (B true) := by
 have h1 := Zjt
 have h2 := Zih [[[⟨0, 1⟩]]] 0 (by decide) (by decide) (by decide)
 rw [show woP 0 [[[(⟨0, 1⟩ : Stop)]]] = [[]] from by decide] at h2
 refine pwe Tryz.func17 Tryz.ntmps17 Tryz.results17 fun S nx hd => ?_
 (repeat apply za); refine pwn ?_; intros
 repeat apply za
 refine pwn ?_
 intro v0
 repeat apply za
 refine pwn ?_
 refine pwc h1 ?_
 intro v1
 intros
 repeat apply za
 refine pwN [(2, 18), (8, 24), (17, 33)] trivial ?_
 refine pwC [(2, 18), (8, 24), (17, 33)] h2 trivial ?_
 intros
 repeat apply za
 exact zb (zg hd (by simp; rfl) rfl)
open Go Go.Proofs Hp
theorem Zjv {l m : List Stop} (h : l.Perm m) (hn : (l.map (·.c)).Nodup) (c : Int) : l.filter (fun s => decide (s.c = c)) = m.filter (fun s => decide (s.c = c)) := by
 have hp := h.filter (fun s => decide (s.c = c))
 have h1 : ∀ s ∈ l.filter (fun s => decide (s.c = c)), s.c = c := fun s hs => by simpa using (List.mem_filter.1 hs).2
 have h2 := hn.sublist ((List.filter_sublist (p := fun s : Stop => decide (s.c = c)) (l := l)).map (·.c))
 generalize l.filter (fun s => decide (s.c = c)) = a at hp h1 h2
 generalize m.filter (fun s => decide (s.c = c)) = b at hp
 match a, hp, h1, h2 with
 | [], hp, _, _ => exact (List.nil_perm.1 hp).symm
 | [s], hp, _, _ => exact List.singleton_perm.1 hp
 | s :: t :: r, _, h1, h2 =>
  exfalso
  have ea := h1 s (by simp)
  have eb := h1 t (by simp)
  simp only [List.map_cons, List.nodup_cons, List.mem_cons] at h2
  exact h2.1 (.inl (by rw [ea, eb]))
theorem Zjw (c : Int) (i : Nat) (l : List Stop) : zQ c (l.map (·, i)) = (l.filter (fun s => decide (s.c = c))).map fun s => ⟨i, s.q⟩ := by
 unfold zQ
 rw [List.filter_map, List.map_map]
 rfl
theorem ZbK {d e : Day} (hp : e.flatten.Perm d.flatten) (hn : (d.flatten.map (·.c)).Nodup) (c : Int) : ∀ (p : zF) (k i : Nat), p[k]? = some d → zQ c (told i (p.set k e)) = zQ c (told i p)
 | [], k, i, h => by cases h
 | a :: p, 0, i, h => by
  simp only [List.getElem?_cons_zero, Option.some.injEq] at h
  subst h
  simp only [List.set_cons_zero, told, uZ, Zjw]
  rw [Zjv hp ((hp.map _).nodup_iff.2 hn) c]
 | a :: p, k + 1, i, h => by
  simp only [List.set_cons_succ, told, uZ]
  rw [ZbK hp hn c p k (i + 1) (by simpa using h)]
theorem ZbL (x : Inst) (e : Day) : ∀ (p : zF) (k : Nat) (d : Day), p[k]? = some d → ((p.set k e).map (zA x)).sum = (p.map (zA x)).sum - zA x d + zA x e
 | [], k, d, h => by cases h
 | a :: p, 0, d, h => by
  simp only [List.getElem?_cons_zero, Option.some.injEq] at h
  subst h
  simp only [List.set_cons_zero, List.map_cons, List.sum_cons]; omega
 | a :: p, k + 1, d, h => by
  have := ZbL x e p k d (by simpa using h)
  simp only [List.set_cons_succ, List.map_cons, List.sum_cons, this]; omega
theorem Zjx {x : Inst} {p q : zF} (h : ∀ c : Int, zQ c (told 0 q) = zQ c (told 0 p)) (k : Nat) : qG x q k = qG x p k := by
 unfold qG we
 simp only [h]
theorem Zjy {x : Inst} {p q : zF} (h : ∀ c : Int, zQ c (told 0 q) = zQ c (told 0 p)) (i : Nat) : jO x q i = jO x p i := by
 unfold jO
 simp only [h]
theorem Zjz {x : Inst} {p : zF} (h : PlanM x p) (hs : ∀ c ∈ x.cust, CustSm c) {day b : Int} (hl : (jB x p day b).2 = true) :
  ∃ (k : Nat) (d e : Day), day = k ∧ p[k]? = some d ∧ (jB x p day b).1 = p.set k e ∧ zH x e = 0 ∧ (∀ d' ∈ p.set k e, zH x d' = 0) ∧ (∀ c : Int, zQ c (told 0 (p.set k e)) = zQ c (told 0 p)) ∧ uo x (p.set k e) < uo x p := by
 unfold jB at hl ⊢
 by_cases h0 : day < 0 ∨ (p.length : Int) ≤ day
 ·rw [if_pos h0] at hl; cases hl
 rw [if_neg h0] at hl ⊢
 obtain ⟨k, rfl⟩ := Int.eq_ofNat_of_zero_le (show 0 ≤ day by omega)
 have hk : k < p.length := by omega
 obtain ⟨d, hd⟩ : ∃ d, p[k]? = some d := ⟨_, List.getElem?_eq_getElem hk⟩
 have hgd : p.getD (k : Int).toNat [] = d := by rw [Int.toNat_natCast, List.getD_eq_getElem?_getD, hd]; rfl
 rw [hgd] at hl ⊢
 have hdm := List.mem_of_getElem? hd
 obtain ⟨i1, i2, i3⟩ := Zby h.cust h.inst (h.may d hdm) b
 generalize qN x b d = e at *
 split at hl
 ·cases hl
 rename_i hle
 rw [if_neg hle, Int.toNat_natCast]
 have hmay : ∀ d' ∈ p.set k e, zH x d' = 0 := fun d' hd' => by
  rcases List.mem_or_eq_of_mem_set hd' with q | rfl
  ·exact h.may d' q
  ·exact i1
 have hvis : ∀ c : Int, zQ c (told 0 (p.set k e)) = zQ c (told 0 p) := fun c => ZbK i2 ((qV x d).1 (h.may d hdm)).2.1 c p k 0 hd
 refine ⟨k, d, e, rfl, hd, rfl, i1, hmay, hvis, ?_⟩
 have hcu := h.cust
 obtain ⟨s1, s2, s3⟩ := Za hcu (h.may d hdm)
 obtain ⟨t1, t2, t3⟩ := Za hcu i1
 rw [VU h.inst.arc (by omega) (by omega), VU h.inst.arc (by omega) (by omega)] at hle
 rw [Zbx h.inst.arc hs hcu (by simpa using h.len) hmay, Zbx h.inst.arc hs hcu h.len h.may, Zjx hvis, ZbL x e p k d hd]
 omega
set_option maxHeartbeats 6400000 in
theorem ZjA (x : Inst) (pick : List Int) (joins : List Bool) (day b : Int) (hx : InstOk x) (hpk : ∀ z ∈ pick, I64 z) (hb : I64 b) : Pure Tryz.prog 7 [.agg (zo x), L pick, L joins, I day, I b] (B true) := by
 have hgd := ZY x
 have hgc := Ziz x
 have hgn := Xv x
 have hmade := Ziw (u9 x 6 (zP x).cap 1000) (zP x).days.toNat pick joins (ZiA x _ _ _ (by omega)) hpk
 have hgood := Zdx x hx
 have hgo : InstOk (u9 x 6 (zP x).cap 1000) := ZiB x 6 (zP x).cap 1000 (by unfold I64; omega) (by unfold I64; omega) (by unfold I64; omega)
 have hiH := ZiJ x (zP x).cap 1000
 have hfit := ZiC x
 have hsm := ZiI x
 have hlv := Zju
 have hSm := ZiN b
 have hbb : Z0 b ≤ 9223372036854775807 := by unfold Z0; unfold I64 at hb; split <;> omega
 generalize Z0 b = bb at *
 obtain ⟨y, hy⟩ : ∃ y, y = u9 x 6 (zP x).cap 1000 := ⟨_, rfl⟩
 have e1 : PV.agg (zo y) = .agg [I (zP x).days, I 6, I (zP x).cap, I 1000, L (zP x).cust, L (zP x).dist] := by rw [hy]; rfl
 rw [← hy] at hmade hgo hiH
 have hyc : y.cust.length ≤ 6 := by rw [hy]; exact hgn
 have hfy : ∀ c ∈ y.cust, CustFits c := by rw [hy]; exact hfit
 have hsy : ∀ c ∈ y.cust, CustSm c := by rw [hy]; exact hsm
 have hnn : (zP x).days.toNat ≤ 7 := by omega
 generalize (zP x).days.toNat = n at hmade hnn
 rw [e1] at hmade
 generalize zP x = g at *
 refine pwe Tryz.func7 Tryz.ntmps7 Tryz.results7 fun S nx hd => ?_
 repeat apply za
 refine pwn ?_
 intro v0
 repeat apply za
 refine pwn ?_
 refine pwc hgood ?_
 intro v1
 intros
 (repeat apply za); refine pwn ?_; intros
 (repeat apply za); refine pwn ?_; intros
 repeat apply za
 refine zO [] (by rfl) (by rfl) fun K Gc Gh hK hGc hGh X hX0 hX => ?_
 simp -implicitDefEqProofs [hX0, hX]
 try clear hX0 hX X
 refine hGc _ _ _ _ _ _ _ fun hsuf => ((hmade _).mono ?_).v
 rintro _ _ ⟨⟨pl, b, rfl, hg⟩, rfl⟩
 refine ⟨_, _, rfl, ?_⟩
 clear hGc hGh
 clear Gc Gh
 refine zJ hsuf (D := []) (by rfl) fun Gc Gh hGc hGh X hX0 hX => ?_
 simp -implicitDefEqProofs [hX0, hX]
 try clear hX0 hX X
 intro v2
 intros
 refine hK _ _ _ ?_
 clear hK hGc hGh
 clear K Gc Gh
 cases b with
 | false =>
  repeat apply za
  refine pwN [(2, 30)] zn ?_
  intros
  repeat apply za
  refine zh rfl ?_
  repeat apply za
  refine pwn ?_
  refine pwc hlv ?_
  intros
  repeat apply za
  exact zb (zg hd (by simp; rfl) rfl)
 | true =>
  obtain ⟨hm, hcnt⟩ := hg rfl
  have hpl := hm.len
  have hsz := Zbr hm (by omega) (by omega) hcnt
  have hsv := ZiE (x := y) hm (by omega) (by omega) hcnt
  have hdo := ZiD hm (by omega)
  have hPR := Za5 y pl hgo hsz
  have hRC := Zbd y pl hsv (by omega) hfy hdo
  simp only [e1] at hPR hRC
  by_cases hpe : xH y pl = 0
  case neg =>
   repeat apply za
   refine pwN [(2, 30)] hpe ?_
   refine pwC [(2, 30)] hPR hpe ?_
   intros
   repeat apply za
   refine zh (by simp [hpe]) ?_
   repeat apply za
   refine pwn ?_
   refine pwc hlv ?_
   intros
   repeat apply za
   exact zb (zg hd (by simp; rfl) rfl)
  obtain ⟨hmi, hdl, hdm, hcu⟩ := ZiF hpe
  have hPM : PlanM y pl := ⟨by omega, hiH, by omega, hdm⟩
  have hPol := ZiM hPM day bb hbb
  have hless := Zjz (day := day) (b := bb) hPM hsy
  have hstay : (jB y pl day bb).2 = false → (jB y pl day bb).1 = pl := by
   unfold jB
   split
   ·intro _; rfl
   ·split
    ·intro _; rfl
    ·intro h; cases h
  generalize jB y pl day bb = r at *
  obtain ⟨q, less⟩ := r
  simp only [e1] at hPol hless hstay
  repeat apply za
  refine pwN [(2, 30)] hpe ?_
  refine pwC [(2, 30)] hPR hpe ?_
  intros
  repeat apply za
  refine zj (by simp [hpe]) ?_
  refine zd ?_
  repeat apply za
  refine pwY (some [nx + 1, nx + 2]) (Row.pures [0, 1, 2, 3, 4, 5, 6, 7, 8] (.alt 9 (.alt 10 (Row.pures [11] .done) .stop) .stop)) mixed trivial ?_
  refine pwP (hSm) trivial ?_
  refine pwP (hPol) trivial ?_
  intro v3
  intros
  (repeat apply za); refine pwn ?_; intros
  cases less with
  | false =>
   have := hstay rfl
   subst this
   have hS := ZiP q q (by omega) (fun d hd => (hdo d hd).n) (fun d hd => (hdo d hd).t)
   rw [decide_eq_true rfl] at hS
   repeat apply za
   refine zh rfl ?_
   repeat apply za
   refine pwN [(3, 51)] trivial ?_
   refine pwC [(3, 51)] hS trivial ?_
   refine pwC [(3, 51)] hlv trivial ?_
   intros
   repeat apply za
   exact zb (zg hd (by simp; rfl) rfl)
  | true =>
   obtain ⟨k, d0, e, rfl, hk0, rfl, he, hmay, hvis, hcost⟩ := hless rfl
   have hk : k < pl.length := (List.getElem?_eq_some_iff.1 hk0).1
   have hpe2 : xH y (pl.set k e) = 0 := ZiG hmi (by simpa using hdl) hmay fun i hi => by rw [Zjy hvis]; exact hcu i hi
   have hql : (pl.set k e).length = pl.length := by simp
   have hPM2 : PlanM y (pl.set k e) := ⟨by omega, hiH, by omega, hmay⟩
   have hsz2 := hPM2.sizes
   have hcnt2 : (told 0 (pl.set k e)).length ≤ 1048576 := by
    rw [Xu]
    have : ∀ p : zF, (∀ d ∈ p, d.flatten.length ≤ 1000) → qH p ≤ 1000 * p.length := by
     intro p
     induction p with
     | nil => intro _; simp [qH]
     | cons d p ih =>
      intro h
      have h1 := h d (by simp)
      have h2 := ih fun e he => h e (by simp [he])
      simp only [qH, List.map_cons, List.sum_cons, List.length_cons] at h2 ⊢
      omega
    have := this _ fun d hd => (hsz2 d hd).2.2.2
    omega
   have hps2 : PlanSz (pl.set k e) := ⟨⟨by omega, fun d hd => by have := (hsz2 d hd).1; omega, fun d hd t ht => by have := (hsz2 d hd).2.1 t ht; omega, hcnt2⟩, fun d hd => by have := (hsz2 d hd).2.2.2; omega⟩
   have hPR2 := Za5 y (pl.set k e) hgo hps2
   have hsv2 := Za4 hps2 hgo hmi (by simpa using hdl) hmay
   have hRC2 := Zbd y (pl.set k e) hsv2 (by omega) hfy (fun d hd => (hsz2 d hd).2.2.1)
   simp only [e1] at hPR2 hRC2
   rw [hpe2] at hPR2
   have hq : ∀ i, i < pl.length → i ≠ k → ∀ d, pl[i]? = some d → ∃ tl, ((pl.set k e).flatMap Enc.enc).drop i = L d :: tl := by
    intro i hi hik d hd
    obtain ⟨s, tl, a1, -, -, a0⟩ := el1 rfl (pl.set k e) i (by omega)
    rw [List.getElem?_set_ne (fun h => hik h.symm), hd] at a1
    cases a1
    exact ⟨tl, a0⟩
   generalize hqq : pl.set k e = q at *
   generalize uo y q = z2 at *
   generalize uo y pl = z1 at *
   repeat apply za
   refine zj rfl ?_
   refine zd ?_
   have hk' : ¬ (pl.length : Int) ≤ (k : Int) := by omega
   have hk'' : ¬ (k : Int) < 0 := by omega
   repeat apply za
   refine pwN [(2, 56), (9, 63)] (jn3 hk' hk'' hql) ?_
   intros
   repeat apply za
   refine zj rfl ?_
   refine zd ?_
   (repeat apply za); refine pwn ?_; intros
   repeat apply za
   refine ze (zq (fun i : Nat => i ≤ pl.length) (fun i => [(3, I k), (11, .ptr (nx + 1) v1 0), (12, .ptr (nx + 2) v2 0), (14, .ptr (nx + 3) v3 0), (16, I i)]) (fun _ => [.cells v0 25 (zo x), .cells v1 25 [I g.days, I 6, I g.cap, I 1000, L g.cust, L g.dist], .cells v2 29 [L pl], .cells v3 29 [L q]]) (fun i => pl.length - i) 0 [] (by simp) (by simp) (by simp) ?_)
   rintro i hi
   (repeat apply za); refine pwn ?_; intros
   repeat apply za
   refine zl rfl (fun hc => ?_) (fun hc => ?_)
   ·simp at hc
    refine zd (za (ze ?_))
    by_cases hik : i = k
    ·subst hik
     repeat apply za
     refine pwY (some [nx + 2, nx + 3]) (Row.pures [0, 1, 2, 3, 4, 5, 6, 7, 8, 9, 10, 11, 12, 13, 14, 15, 16] .done) mixed zn ?_
     intros
     repeat apply za
     refine zj rfl ?_
     refine zd ?_
     (repeat apply za); refine pwn ?_; intros
     exact zk (i + 1) [] hc (by omega) (by simp [wrN i (by omega)]) rfl (by simp)
    ·obtain ⟨d, tl, a1, -, -, f0⟩ := el1 rfl pl i hc
     obtain ⟨tl2, g0⟩ := hq i hc hik d a1
     have hdo := hdo d (List.mem_of_getElem? a1)
     have hS := ZgD d d hdo.n hdo.t
     rw [decide_eq_true rfl] at hS
     have hiq : i < q.length := by omega
     have q1 : 1 ≤ pl.length - i := by omega
     have q2 : 1 ≤ q.length - i := by omega
     have hik' : ¬ (i : Int) = (k : Int) := by omega
     repeat apply za
     refine pwY (some [nx + 2, nx + 3]) (Row.pures [0, 1, 2, 3, 4, 5, 6, 7, 8, 9, 10, 11, 12, 13, 14, 15, 16] .done) mixed (jn6 hik' f0 g0 hc hiq (jn2 q1 q2)) ?_
     refine pwP (hS) (jn6 hik' f0 g0 hc hiq (jn2 q1 q2)) ?_
     intros
     repeat apply za
     refine zj rfl ?_
     refine zd ?_
     (repeat apply za); refine pwn ?_; intros
     exact zk (i + 1) [] hc (by omega) (by simp [wrN i (by omega)]) rfl (by simp)
   ·simp at hc
    obtain rfl : i = pl.length := by omega
    refine zm ?_
    repeat apply za
    refine pwY (some [nx + 1, nx + 2, nx + 3]) (Row.pures [0, 1, 2, 3, 4, 5, 6, 7, 8, 9, 10, 11, 12, 13, 14, 15, 16] .done) mixed hcost ?_
    refine pwP (hPR2) hcost ?_
    refine pwP (hRC2) hcost ?_
    refine pwP (hRC) hcost ?_
    refine pwP (hlv) hcost ?_
    intros
    repeat apply za
    exact zb (zg hd (by simp; rfl) rfl)
end Go.Proofs.YtaiplainginmaaaGreat.Pv
namespace Go.Proofs.YtaiplainginmaaaGreat
open Go Go.ChangeShapes Go.WideShapes Go.ChangeAt Go.RowKit Pv
theorem ZjB {H : Type} {enc : TypeId × Value → H} {P : Program} {w : World} {base : Nat} {spare : Nat → Bool} {held : Bool} {t0 t1 t2 t3 t4 : TypeId} {args : Array Value} {ds : List (DataW H)} {ps : List MemPlace} (h : DataW.TrodAll enc P w base spare held [t0, t1, t2, t3, t4] args.toList ds ps) :
  ∃ v0 v1 v2 v3 v4 d0 d1 d2 d3 d4 p0 p1 p2 p3 p4, args = #[v0, v1, v2, v3, v4] ∧ ds = [d0, d1, d2, d3, d4] ∧ ps = p0 ++ p1 ++ p2 ++ p3 ++ p4 ∧ DataW.Trod enc P w base spare held t0 v0 d0 p0 ∧ DataW.Trod enc P w base spare held t1 v1 d1 p1 ∧ DataW.Trod enc P w base spare held t2 v2 d2 p2 ∧ DataW.Trod enc P w base spare held t3 v3 d3 p3 ∧ DataW.Trod enc P w base spare held t4 v4 d4 p4 := by
 obtain ⟨v0, vs0, d0, ds0, p0, q0, hargs, rfl, rfl, h0, r0⟩ := trodAll_cons h
 obtain ⟨v1, vs1, d1, ds1, p1, q1, rfl, rfl, rfl, h1, r1⟩ := trodAll_cons r0
 obtain ⟨v2, vs2, d2, ds2, p2, q2, rfl, rfl, rfl, h2, r2⟩ := trodAll_cons r1
 obtain ⟨v3, vs3, d3, ds3, p3, q3, rfl, rfl, rfl, h3, r3⟩ := trodAll_cons r2
 obtain ⟨v4, vs4, d4, ds4, p4, q4, rfl, rfl, rfl, h4, r4⟩ := trodAll_cons r3
 obtain ⟨rfl, rfl, rfl⟩ := trodAll_nil r4
 exact ⟨v0, v1, v2, v3, v4, d0, d1, d2, d3, d4, p0, p1, p2, p3, p4, by cases args; simp_all, rfl, by simp, h0, h1, h2, h3, h4⟩
set_option maxRecDepth 100000 in
theorem ZjC (os : Os) (started : os.Started) (H : Type) (enc : TypeId × Value → H) :
  ReturnsInHanded {} Tryz.checked os 7 .any (Rows.horizonPolishesSpec.pre6 enc Tryz.prog Tryz.f7 Rows.horizonPolishesRow.domain false) (Rows.horizonPolishesSpec.post enc Tryz.prog Tryz.f7 false true false false) := by
 refine returnsInHanded_of_change (C := Tryz.checked) Zc2 started (by kernel_rfl) Tryz.func7
  (ChangeSpec.witness6 (enc := enc) (C := Tryz.checked) false ⟨#[], #[.agg #[.int .i64 0, .int .i64 0, .int .i64 0, .int .i64 0, .slice none 0 0, .slice none 0 0], .slice none 0 0, .slice none 0 0, .int .i64 0, .int .i64 0], []⟩ 8 (by kernel_rfl) (by kernel_rfl) (by kernel_rfl) (by kernel_rfl)) ?_
 intro W base args ds gs before hval0 hW hcnd _
 have hval : ∀ (j : Nat) t v, Tryz.f7.params[j]? = some t → args[j]? = some v → Value.okWide Tryz.prog W .any base t v := hval0
 have hW' := hW
 obtain ⟨p, q, hA0, hV, rfl, hfz, hnd⟩ := hW
 have hA : DataW.TrodAll enc Tryz.prog W 0 (fun _ => true) true Tryz.f7.params.toList args.toList ds p := hA0
 rw [Tryz.params7] at hA hval
 obtain ⟨v0, v1, v2, v3, v4, d0, d1, d2, d3, d4, p0, p1, p2, p3, p4, rfl, rfl, rfl, h0, h1, h2, h3, h4⟩ := ZjB hA
 obtain ⟨rfl, rfl⟩ := trodVars_none hV
 obtain ⟨c0, rfl, _⟩ := okWide_struct Tryz.underlying25 (hval 0 _ v0 rfl rfl)
 obtain ⟨a0, k0, r0⟩ := Zc1 (Zdz W) h0
 obtain ⟨b1, n1, m1, rfl⟩ := okWide_slice Tryz.underlying54 (hval 1 _ v1 rfl rfl)
 obtain ⟨a1, k1, r1⟩ := YL (ZdB W) rfl h1
 have r1 := r1 _ rfl
 obtain ⟨b2, n2, m2, rfl⟩ := okWide_slice Tryz.underlying55 (hval 2 _ v2 rfl rfl)
 obtain ⟨a2, k2, r2⟩ := YL (ZdA W) rfl h2
 have r2 := r2 _ rfl
 obtain ⟨z3, rfl⟩ := okWide_int Tryz.underlying3 (hval 3 _ v3 rfl rfl)
 obtain ⟨a3, k3, r3⟩ := YL ((jt Tryz.underlying3 : jU Tryz.prog W 3 Int I64)) rfl h3
 have r3 := r3 _ rfl
 obtain ⟨z4, rfl⟩ := okWide_int Tryz.underlying3 (hval 4 _ v4 rfl rfl)
 obtain ⟨a4, k4, r4⟩ := YL ((jt Tryz.underlying3 : jU Tryz.prog W 3 Int I64)) rfl h4
 have r4 := r4 _ rfl
 refine (Zc4 ((ZjA a0 a1 a2 a3 a4 k0 k1.2 k4)) rfl (fun i c v hc hv => ?_)).mono fun e W' hq => ?_
 ·match i with
  | 0 => cases hc; cases hv; exact r0
  | 1 => cases hc; cases hv; exact r1
  | 2 => cases hc; cases hv; exact r2
  | 3 => cases hc; cases hv; exact r3
  | 4 => cases hc; cases hv; exact r4
  | i + 5 => cases hc
 exact ⟨_, hq.1, Zc5 rfl rfl (of_decide_eq_true (by kernel_rfl)) hW' rfl rfl rfl hq.2⟩
set_option maxRecDepth 100000 in
theorem ZjD : Rows.horizonPolishesRow.wf (OpenSpec.ofChange Rows.horizonPolishesSpec) = true := by kernel_rfl
set_option maxRecDepth 100000 in
theorem ZjE : Tryz.f7.params.all (Tryz.pinned.checked.prog.readableRec ·) = true := by kernel_rfl
set_option maxRecDepth 100000 in
theorem ZjF : namedTie Tryz.pinned.checked.prog Rows.horizonPolishesRow.named Rows.horizonPolishesSpec.vars = true := by kernel_rfl
set_option maxRecDepth 100000 in
theorem ZjG : (Rows.horizonPolishesRow.inPlace == Tryz.pinned.checked.prog.inPlace 7) = true := by kernel_rfl
set_option maxRecDepth 100000 in
theorem ZjH : (Rows.horizonPolishesRow.unfollowed == Tryz.pinned.checked.prog.unfollowed 7) = true := by kernel_rfl
set_option maxRecDepth 100000 in
theorem ZjI : (Rows.horizonPolishesRow.recurses == Tryz.pinned.checked.prog.recurses 7) = true := by kernel_rfl
set_option maxRecDepth 100000 in
theorem ZjJ : (Rows.horizonPolishesRow.named == Tryz.pinned.checked.prog.varsNamed 7) = true := by kernel_rfl
set_option maxRecDepth 100000 in
theorem ZjK : (Rows.horizonPolishesRow.maps == (Tryz.f7.params.toList ++ Rows.horizonPolishesSpec.plain.varTypes Tryz.pinned.checked.prog).any (Tryz.pinned.checked.prog.mapsRec ·)) = true := by kernel_rfl
set_option maxRecDepth 100000 in
theorem ZjL : (Rows.horizonPolishesRow.ifaces == (Tryz.f7.params.toList ++ Rows.horizonPolishesSpec.plain.varTypes Tryz.pinned.checked.prog).any (Tryz.pinned.checked.prog.ifacesRec ·)) = true := by kernel_rfl
set_option maxRecDepth 100000 in
theorem ZjM : (Rows.horizonPolishesRow.mapsOut == Tryz.pinned.checked.prog.mapsAmong Tryz.f7.resultTypes.toList) = true := by kernel_rfl
set_option maxRecDepth 100000 in
theorem ZjN : (Rows.horizonPolishesRow.loops == (Tryz.f7.params.toList ++ Rows.horizonPolishesSpec.plain.varTypes Tryz.pinned.checked.prog).any (Tryz.pinned.checked.prog.loopsFrom ·)) = true := by kernel_rfl
set_option maxRecDepth 100000 in
theorem ZjO : (Rows.horizonPolishesRow.wideKeys == (Tryz.f7.params.toList ++ Rows.horizonPolishesSpec.plain.varTypes Tryz.pinned.checked.prog ++ Tryz.f7.resultTypes.toList).any (Tryz.pinned.checked.prog.wideKeysFrom ·)) = true := by kernel_rfl
set_option maxRecDepth 100000 in
theorem ZjP : Rows.horizonPolishesSpec.vars.all (Tryz.pinned.checked.prog.varReadable ·) = true := by kernel_rfl
set_option maxRecDepth 100000 in
theorem ZjQ : Tryz.f7.resultTypes.all (fun t => Tryz.pinned.checked.prog.readableRec t && decide (t < Tryz.pinned.checked.prog.types.size)) = true := by kernel_rfl
set_option maxRecDepth 100000 in
theorem ZjR : (Rows.horizonPolishesRow.ifacesOut == Tryz.f7.resultTypes.toList.any (Tryz.pinned.checked.prog.ifacesRec ·)) = true := by kernel_rfl
set_option maxRecDepth 100000 in
theorem ZjS : (Rows.horizonPolishesRow.loopsOut == Tryz.f7.resultTypes.toList.any (Tryz.pinned.checked.prog.loopsFrom ·)) = true := by kernel_rfl
set_option maxRecDepth 100000 in
theorem ZjT : (Rows.horizonPolishesRow.plainKeys == Tryz.pinned.checked.prog.plainKeys) = true := by kernel_rfl
set_option maxRecDepth 100000 in
theorem ZjU : (Rows.horizonPolishesRow.lifted == Tryz.pinned.checked.prog.liftsFinal) = true := by kernel_rfl
set_option maxRecDepth 100000 in
theorem ZjV : (Tryz.pinned.checked.prog.make == some Rows.horizonPolishesRow.make) = true := by kernel_rfl
set_option maxRecDepth 100000 in
theorem ZjW : (Rows.horizonPolishesRow.kinds == (if Rows.horizonPolishesRow.domain.isEmpty then [] else Tryz.f7.params.toList.map fun t => match Tryz.pinned.checked.prog.underlying t with | some (.int k) => some k | _ => none)) = true := by kernel_rfl
set_option maxRecDepth 100000 in
theorem ZjX : (Rows.horizonPolishesRow.veiled == (Tryz.f7.params.toList ++ Rows.horizonPolishesSpec.plain.varTypes Tryz.pinned.checked.prog ++ Tryz.f7.resultTypes.toList).any (Tryz.pinned.checked.prog.veiledRec ·)) = true := by kernel_rfl
set_option maxRecDepth 100000 in
theorem ZjY : Rows.horizonPolishesRow.veiledFits Tryz.pinned.checked.prog Tryz.f7.params.toList (Tryz.f7.params.toList ++ Rows.horizonPolishesSpec.plain.varTypes Tryz.pinned.checked.prog ++ Tryz.f7.resultTypes.toList) = true := by kernel_rfl
theorem ZjZ : Tryz.pinned.checked.prog.funcNamed Rows.horizonPolishesRow.func = some 7 := by kernel_rfl
theorem Zj0 : Tryz.f7.isInstance Tryz.pinned.checked.prog Rows.horizonPolishesRow.origin Rows.horizonPolishesRow.targs := of_decide_eq_true (by kernel_rfl)
theorem Zj1 : Tryz.f7.isWrapper Tryz.pinned.checked.prog Rows.horizonPolishesRow.wrapper Rows.horizonPolishesRow.mainSum := by unfold Func.isWrapper; first | (rw [if_pos (by decide +kernel)]; kernel_rfl) | (rw [if_neg (by decide +kernel)]; exact ⟨rfl, rfl⟩)
set_option maxRecDepth 20000 in
theorem horizonPolishes_holds : Rows.HorizonPolishesSaid :=
 OpenClaim.holds_of_wide 7 Tryz.f7 rfl rfl rfl rfl rfl rfl rfl ⟨rfl, rfl, rfl, rfl, rfl⟩ rfl rfl rfl rfl rfl ZjZ Tryz.func7 (Zc6 ZjD Zc7 Zc8 ZjE ZjF rfl Zc9 rfl Zda ZjG ZjH ZjI ZjJ ZjK ZjL ZjM ZjN ZjO ZjP ZjQ ZjR ZjS ZjT rfl Zdb Zdc ZjU ZjV ZjW rfl ZjX ZjY)
  Zj0 Zj1
  (fun os started H enc _ => ZjC os started H enc)
end Go.Proofs.YtaiplainginmaaaGreat
