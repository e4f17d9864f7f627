/- A part of the proof of the statement that the last text of this claim proves; no condition is added. Packed by a program of the prover. -/
import Derived.Test.YtaiplainginmaaaGreatP6
namespace Go.Proofs.YtaiplainginmaaaGreat.Pv
open Go Go.Proofs Hp
set_option maxRecDepth 20000 in
theorem Zbm (p : Nat) (hp : p < 2 ^ 64) : Pure Tryz.prog 208 [U p] (L (qc p 0 64)) := by
 have h := ZhG p 0 hp (by decide)
 refine pwe Tryz.func208 Tryz.ntmps208 Tryz.results208 fun S nx hd => ?_
 (repeat apply za); refine pwn ?_; intros
 repeat apply za
 refine pwn ?_
 refine pwc h ?_
 intros
 repeat apply za
 exact zd (zg hd rfl rfl)
set_option maxRecDepth 20000 in
theorem ZiA (c : Cust) (p : Nat) (hp : p < 2 ^ 64) : Pure Tryz.prog 169 [.agg (jO c), U p] (L (ZQ c p)) := by
 have hall := Zbm p hp
 have hln := Xi p 0 64
 unfold ZQ
 generalize qc p 0 64 = l at hall hln
 refine pwe Tryz.func169 Tryz.ntmps169 Tryz.results169 fun S nx hd => ?_
 repeat apply za
 refine pwn ?_
 intro v0
 (repeat apply za); refine pwn ?_; intros
 refine za (qm 5 103 2 rfl fun v1 => ?_)
 repeat apply za
 refine pwn ?_
 refine pwc hall ?_
 intros
 repeat apply za
 refine ze (zq (fun s : Nat × List Visit × Nat => s.1 ≤ l.length ∧ s.2.1 = (l.take s.1).map fun d => ⟨d, c.demand⟩) (fun (k, out, v1) => [(2, .ptr nx v0 0), (5, .sl (nx + 1) v1 2 0 out.length), (9, L l), (10, I l.length), (11, I k)]) (fun (k, out, v1) => [.cells v0 41 (jO c), .cells v1 103 (out.flatMap Enc.enc)]) (fun s => l.length - s.1) (0, [], v1) [] (by simp) (by simp) (by simp) ?_)
 rintro ⟨k, out, v1⟩ ⟨hk, ho⟩
 simp only at hk ho ⊢
 have hol : out.length = k := by rw [ho]; simp; omega
 (repeat apply za); refine pwn ?_; intros
 repeat apply za
 refine zk rfl (fun hc => ?_) (fun hc => ?_)
 ·simp at hc
  obtain ⟨d, tl, a1, a2, a3, e0⟩ := el1 rfl l k hc
  refine zb (za (ze ?_))
  repeat apply za
  refine pwN [] (jn2 e0 hc) ?_
  intros
  repeat apply za
  refine pwn ?_
  refine ⟨by omega, ?_⟩
  intros
  (repeat apply za); refine pwn ?_; intros
  exact zh (k + 1, out ++ [⟨d, c.demand⟩], v1 + 1) [] ⟨hc, by rw [a3, ho]; simp⟩ (by simp; omega) (by simp [wrN k (by omega)]) rfl (by simp)
 ·simp at hc
  obtain rfl : k = l.length := by omega
  rw [List.take_length] at ho
  refine zo ?_
  refine zC 1 rfl ?_
  (repeat apply za); refine pwn ?_; intros
  repeat apply za
  exact zd (zg hd (by simp; rfl) (by simp [zl, ho]))
def jK (price : List Int) (ds : List Int) : Int := ds.foldl (fun (s d : Int) => if d < price.length then wP s (price.getD d.toNat 0) else s) 0
def ZS (price : List Int) (p : Nat) : Int := jK price (qc p 0 64)
def qa (price : List Int) (l : List Nat) : Nat → Int × Int
 | 0 => (-1, 0)
 | k + 1 => if (qa price l k).1 < 0 ∨ ZS price (l.getD k 0) < (qa price l k).2 then (k, ZS price (l.getD k 0)) else qa price l k
theorem Zbn (price : List Int) (l : List Nat) : ∀ k : Nat, (qa price l k).1 < k ∧ -1 ≤ (qa price l k).1 ∧ (0 < k → 0 ≤ (qa price l k).1)
 | 0 => by simp [qa]
 | k + 1 => by
  have := Zbn price l k
  unfold qa
  split
  ·dsimp only; omega
  ·rename_i h; omega
theorem ZiB (a b : Int) (ha : I64 a) (hb : I64 b) : I64 (wP a b) := by
 unfold I64 wP at *
 split
 ·omega
 ·split <;> omega
theorem ZiC (price ds : List Int) (d : Int) : jK price (ds ++ [d]) = if d < price.length then wP (jK price ds) (price.getD d.toNat 0) else jK price ds := by simp [jK]
theorem ZiD (price : List Int) (hp : ∀ z ∈ price, I64 z) (ds : List Int) : I64 (jK price ds) := by
 unfold jK
 have : ∀ (ds : List Int) (s : Int), I64 s → I64 (ds.foldl (fun (s d : Int) => if d < price.length then wP s (price.getD d.toNat 0) else s) s) := by
  intro ds
  induction ds with
  | nil => intro s h; exact h
  | cons d ds ih =>
   intro s h
   rw [List.foldl_cons]
   apply ih
   split
   ·refine ZiB _ _ h ?_
    rw [List.getD_eq_getElem?_getD]
    cases hq : price[d.toNat]? with
    | none => unfold I64; simp
    | some z => exact hp z (List.mem_of_getElem? hq)
   ·exact h
 exact this ds 0 (by unfold I64; omega)
set_option maxRecDepth 20000 in
theorem ZiE {S : Store} {pl : PV} {price : List Int} (l : List Nat) (hR : RowOf S pl price) (hp : ∀ z ∈ price, I64 z) (hpl : price.length ≤ 1000) (hl : l.length ≤ 1000) (h64 : ∀ p ∈ l, p < 2 ^ 64) :
  Spec Tryz.prog 168 [L l, pl] S (fun q S' => q = .tup [I (qa price l l.length).1, I (qa price l l.length).2] ∧ S' = S) := by
 refine jm Tryz.func168 Tryz.ntmps168 Tryz.results168 fun nx hd => ?_
 (repeat apply za); refine pwn ?_; intros
 (repeat apply za); refine pwn ?_; intros
 (repeat apply za); refine pwn ?_; intros
 repeat apply za
 refine ze (zq (fun k : Nat => k ≤ l.length) (fun k => [(1, pl), (6, I (qa price l k).1), (7, I (qa price l k).2), (13, L l), (14, I l.length), (15, I k)]) (fun _ => []) (fun k => l.length - k) 0 [] (by simp) (by simp [qa]) (by simp) ?_)
 rintro k hk
 have hb : qa price l (k + 1) = if (qa price l k).1 < 0 ∨ ZS price (l.getD k 0) < (qa price l k).2 then (↑k, ZS price (l.getD k 0)) else qa price l k := rfl
 generalize hst : qa price l k = st at hb ⊢
 obtain ⟨place, least⟩ := st
 simp only at hb ⊢
 (repeat apply za); refine pwn ?_; intros
 repeat apply za
 refine zk rfl (fun hc => ?_) (fun hc => ?_)
 ·simp at hc
  obtain ⟨p, tl, a1, a2, a3, e0⟩ := el1 rfl l k hc
  have hall := Zbm p (h64 p (List.mem_of_getElem? a1))
  have hgp : l.getD k 0 = p := by rw [List.getD_eq_getElem?_getD, a1]; rfl
  rw [hgp] at hb
  have hds : ∀ d ∈ qc p 0 64, ∃ i : Nat, d = i := fun d hd => by obtain ⟨i, h, _⟩ := Ziy hd; exact ⟨i, h⟩
  have hdl := Xi p 0 64
  rw [show ZS price p = jK price (qc p 0 64) from rfl] at hb
  generalize qc p 0 64 = ds at hall hds hdl hb
  refine zb (za (ze ?_))
  repeat apply za
  refine pwN [] (jn2 e0 hc) ?_
  intros
  (repeat apply za); refine pwn ?_; intros
  repeat apply za
  refine pwn ?_
  refine pwc hall ?_
  intros
  repeat apply za
  refine ze (zq (fun j : Nat => j ≤ ds.length) (fun j => [(1, pl), (6, I place), (7, I least), (8, I k), (10, I (jK price (ds.take j))), (13, L l), (14, I l.length), (15, I k), (21, L ds), (22, I ds.length), (23, I j)]) (fun _ => []) (fun j => ds.length - j) 0 [] (by simp) (by simp [jK]) (by simp) ?_)
  rintro j hj
  (repeat apply za); refine pwn ?_; intros
  repeat apply za
  refine zk rfl (fun hc2 => ?_) (fun hc2 => ?_)
  ·simp at hc2
   obtain ⟨d, tl2, b1, b2, b3, f0⟩ := el1 rfl ds j hc2
   obtain ⟨i, rfl⟩ := hds d (List.mem_of_getElem? b1)
   have hsn := ZiC price (ds.take j) (i : Int)
   rw [← b3, Int.toNat_natCast] at hsn
   have hsi := ZiD price hp (ds.take j)
   refine zb (za (ze ?_))
   repeat apply za
   refine pwN [] (jn2 f0 hc2) ?_
   intros
   by_cases hi : i < price.length
   ·obtain ⟨z, tl3, c1, -, -, g0⟩ := el1 rfl price i hi
    have hgz : price.getD i 0 = z := by rw [List.getD_eq_getElem?_getD, c1]; rfl
    rw [if_pos (by omega), hgz] at hsn
    have hsat := ZhC (jK price (ds.take j)) z hsi (hp z (List.mem_of_getElem? c1))
    rw [← hsn] at hsat
    rcases hR with rfl | ⟨id, ver, rfl, hS⟩
    ·repeat apply za
     refine pwN [] hi ?_
     intros
     repeat apply za
     refine zj rfl ?_
     repeat apply za
     refine pwN [] (jn2 g0 hi) ?_
     refine pwc hsat ?_
     intros
     (repeat apply za); refine pwn ?_; intros
     exact zh (j + 1) [] hc2 (by omega) (by simp [wrN j (by omega)]) rfl (by simp)
    ·have hlt : id < nx := yO hd hS (by simp)
     have xr := fun obs => (zx (S := S) (obs := obs) hlt).trans hS
     repeat apply za
     refine pwN [] hi ?_
     intros
     repeat apply za
     refine zj rfl ?_
     repeat apply za
     refine pwN [] (jn3 xr g0 hi) ?_
     refine pwc hsat ?_
     intros
     (repeat apply za); refine pwn ?_; intros
     exact zh (j + 1) [] hc2 (by omega) (by simp [wrN j (by omega)]) rfl (by simp)
   ·rw [if_neg (by omega)] at hsn
    rcases hR with rfl | ⟨id, ver, rfl, hS⟩
    ·repeat apply za
     refine pwN [] hi ?_
     intros
     repeat apply za
     refine zi rfl ?_
     refine zb ?_
     (repeat apply za); refine pwn ?_; intros
     exact zh (j + 1) [] hc2 (by omega) (by simp [wrN j (by omega), hsn]) rfl (by simp)
    ·repeat apply za
     refine pwN [] hi ?_
     intros
     repeat apply za
     refine zi rfl ?_
     refine zb ?_
     (repeat apply za); refine pwn ?_; intros
     exact zh (j + 1) [] hc2 (by omega) (by simp [wrN j (by omega), hsn]) rfl (by simp)
  ·simp at hc2
   obtain rfl : j = ds.length := by omega
   rw [List.take_length]
   refine zo ?_
   repeat apply za
   refine yc (nx := nx) (σ := Bool) (fun t => t = decide (place < 0 ∨ jK price ds < least)) (fun t => [(1, pl), (6, I place), (7, I least), (8, I k), (10, I (jK price ds)), (13, L l), (14, I l.length), (15, I k), (44, B t)]) (fun _ => S) (fun _ => []) ?_ ?_
   ·by_cases h1 : place < 0
    ·repeat apply za
     refine pwN [(2, 40)] (jn2 h1 zr) ?_
     intros
     exact zu true [] (by simp [h1]) (by simp) rfl (by simp)
    ·repeat apply za
     refine pwN [(2, 40)] h1 ?_
     intros
     exact zu (decide (jK price ds < least)) [] (by simp [h1]) (by simp) rfl (by simp)
   rintro t rfl
   by_cases h : place < 0 ∨ jK price ds < least
   ·rw [decide_eq_true h]
    rw [if_pos h] at hb
    repeat apply za
    refine zj rfl ?_
    (repeat apply za); refine pwn ?_; intros
    (repeat apply za); refine pwn ?_; intros
    exact zh (k + 1) [] hc (by omega) (by simp [wrN k (by omega), hb]) rfl (by simp)
   ·rw [decide_eq_false h]
    rw [if_neg h] at hb
    repeat apply za
    refine zi rfl ?_
    refine zb ?_
    (repeat apply za); refine pwn ?_; intros
    exact zh (k + 1) [] hc (by omega) (by simp [wrN k (by omega), hb]) rfl (by simp)
 ·simp at hc
  obtain rfl : k = l.length := by omega
  refine zo ?_
  (repeat apply za); refine pwn ?_; intros
  repeat apply za
  exact zd ⟨_, S, rfl, ⟨by simp [zl, hst], rfl⟩, yg hd⟩
def xU (c : Cust) (cap : Int) : List Nat := c.pats.filter fun p => decide (p = 0) || decide (c.demand ≤ cap)
set_option maxRecDepth 20000 in
theorem ZiF (c : Cust) (cap : Int) (hl : c.pats.length ≤ 1000) : Pure Tryz.prog 167 [.agg (jO c), I cap] (L (xU c cap)) := by
 unfold xU
 refine pwe Tryz.func167 Tryz.ntmps167 Tryz.results167 fun S nx hd => ?_
 repeat apply za
 refine pwn ?_
 intro v0
 (repeat apply za); refine pwn ?_; intros
 refine za (qm 5 99 1 rfl fun v1 => ?_)
 (repeat apply za); refine pwn ?_; intros
 repeat apply za
 refine ze (zq (fun s : Nat × List Nat × Nat => s.1 ≤ c.pats.length ∧ s.2.1 = (c.pats.take s.1).filter (fun p => decide (p = 0) || decide (c.demand ≤ cap)) ∧ s.2.1.length ≤ s.1) (fun (k, out, w) => [(1, I cap), (2, .ptr nx v0 0), (5, .sl (nx + 1) w 1 0 out.length), (9, L c.pats), (10, I c.pats.length), (11, I k)]) (fun (k, out, w) => [.cells v0 41 (jO c), .cells w 99 (out.flatMap Enc.enc)]) (fun s => c.pats.length - s.1) (0, [], v1) [] (by simp) (by simp) (by simp) ?_)
 rintro ⟨k, out, w⟩ ⟨hk, ho, hol⟩
 simp only at hk ho hol ⊢
 (repeat apply za); refine pwn ?_; intros
 repeat apply za
 refine zk rfl (fun hc => ?_) (fun hc => ?_)
 ·simp at hc
  obtain ⟨p, tl, a1, a2, a3, e0⟩ := el1 rfl c.pats k hc
  refine zb (za (ze ?_))
  repeat apply za
  refine pwN [] (jn2 e0 hc) ?_
  intros
  repeat apply za
  refine yc (nx := nx) (σ := Bool × Nat) (fun s => s.1 = (decide (p = 0) || decide (c.demand ≤ cap))) (fun (t, w) => [(1, I cap), (2, .ptr nx v0 0), (5, .sl (nx + 1) w 1 0 out.length), (7, U p), (9, L c.pats), (10, I c.pats.length), (11, I k), (22, B t)]) (fun _ => S) (fun (t, w) => [.cells v0 41 (jO c), .cells w 99 (out.flatMap Enc.enc)]) ?_ ?_
  ·by_cases h1 : p = 0
   ·repeat apply za
    refine pwN [(2, 17)] (jn2 h1 zr) ?_
    intros
    exact zu (true, w) [] (by simp [h1]) (by simp [h1]) rfl (by simp)
   ·repeat apply za
    refine pwN [(2, 17)] h1 ?_
    intros
    exact zu (decide (c.demand ≤ cap), w) [] (by simp [h1]) (by simp) rfl (by simp)
  rintro ⟨t, w⟩ ht
  simp only at ht ⊢
  subst ht
  have hstep : (c.pats.take (k + 1)).filter (fun p => decide (p = 0) || decide (c.demand ≤ cap)) = out ++ (if (decide (p = 0) || decide (c.demand ≤ cap)) = true then [p] else []) := by
   rw [a3, List.filter_append, ho]
   congr 1
   simp only [List.filter_cons, List.filter_nil]
  cases ht : (decide (p = 0) || decide (c.demand ≤ cap)) with
  | true =>
   rw [ht, if_pos rfl] at hstep
   repeat apply za
   refine zj rfl ?_
   repeat apply za
   refine pwn ?_
   refine ⟨by omega, ?_⟩
   intros
   (repeat apply za); refine pwn ?_; intros
   exact zh (k + 1, out ++ [p], w + 1) [] ⟨hc, hstep.symm, by simp; omega⟩ (by simp; omega) (by simp [wrN k (by omega)]) rfl (by simp)
  | false =>
   rw [ht, if_neg (by decide), List.append_nil] at hstep
   repeat apply za
   refine zi rfl ?_
   refine zb ?_
   (repeat apply za); refine pwn ?_; intros
   exact zh (k + 1, out, w) [] ⟨hc, hstep.symm, by dsimp only; omega⟩ (by simp; omega) (by simp [wrN k (by omega)]) rfl (by simp)
 ·simp at hc
  obtain rfl : k = c.pats.length := by omega
  rw [List.take_length] at ho
  refine zo ?_
  refine zC 1 rfl ?_
  (repeat apply za); refine pwn ?_; intros
  repeat apply za
  exact zd (zg hd (by simp; rfl) (by simp [zl, ho]))
def wU (c : Cust) (cap : Int) (price : List Int) : List Visit × Bool :=
 if (qa price (xU c cap) (xU c cap).length).1 < 0 then ([], false) else (ZQ c ((xU c cap).getD (qa price (xU c cap) (xU c cap).length).1.toNat 0), true)
set_option maxRecDepth 20000 in
theorem ZiG {S : Store} {pl : PV} {price : List Int} (c : Cust) (cap : Int) (hR : RowOf S pl price) (hp : ∀ z ∈ price, I64 z) (hpl : price.length ≤ 1000) (hl : c.pats.length ≤ 1000) (h64 : ∀ p ∈ c.pats, p < 2 ^ 64) :
  Spec Tryz.prog 127 [.agg (jO c), I cap, pl] S (fun q S' => q = .tup [L (wU c cap price).1, B (wU c cap price).2] ∧ S' = S) := by
 have hca := ZiF c cap hl
 have hsub : ∀ p ∈ xU c cap, p < 2 ^ 64 := fun p hp => h64 p (List.mem_filter.1 hp).1
 have hcl : (xU c cap).length ≤ 1000 := Nat.le_trans (List.length_filter_le _ _) hl
 unfold wU
 generalize xU c cap = l at *
 have hb := fun S (hR : RowOf S pl price) => ZiE l hR hp hpl hcl hsub
 obtain ⟨b1, b2, b3⟩ := Zbn price l l.length
 generalize qa price l l.length = r at *
 obtain ⟨place, least⟩ := r
 simp only at hb b1 b2 b3 ⊢
 refine jm Tryz.func127 Tryz.ntmps127 Tryz.results127 fun nx hd => ?_
 repeat apply za
 refine pwn ?_
 intro v0
 repeat apply za
 refine pwn ?_
 refine pwc hca ?_
 intros
 repeat apply za
 refine zM [] (by rfl) (by rfl) fun K Gc Gh hK hGc hGh X hX0 hX => ?_
 simp -implicitDefEqProofs [hX0, hX]
 try clear hX0 hX X
 refine hGc _ _ _ _ _ _ _ fun hsuf => ((hb _ (hR.ext hd _)).mono ?_).v
 rintro _ _ ⟨rfl, rfl⟩
 refine ⟨_, _, rfl, ?_⟩
 clear hGc hGh
 clear Gc Gh
 refine zK hsuf (D := []) (by rfl) fun Gc Gh hGc hGh X hX0 hX => ?_
 simp -implicitDefEqProofs [hX0, hX]
 clear hX0 hX X
 intros
 refine hK _ _ _ ?_
 clear hK hGc hGh
 clear K Gc Gh
 (repeat apply za); refine pwn ?_; intros
 by_cases h : place < 0
 ·rw [if_pos h]
  repeat apply za
  refine zj (by simp [h]) ?_
  (repeat apply za); refine pwn ?_; intros
  refine Yu 6 rfl ?_
  repeat apply za
  exact zd ⟨_, S, rfl, ⟨by simp [zl], rfl⟩, yg hd⟩
 ·rw [if_neg h]
  obtain ⟨i, rfl⟩ := Int.eq_ofNat_of_zero_le (show 0 ≤ place by omega)
  have hil : i < l.length := by omega
  obtain ⟨p, tl, a1, a2, a3, e0⟩ := el1 rfl l i hil
  have hgp : l.getD (i : Int).toNat 0 = p := by rw [Int.toNat_natCast, List.getD_eq_getElem?_getD, a1]; rfl
  rw [hgp]
  have hon := ZiA c p (hsub p (List.mem_of_getElem? a1))
  repeat apply za
  refine zi (by simp) ?_
  refine zb ?_
  repeat apply za
  refine pwY (some [nx]) (Row.pures [0, 1, 2, 3, 4, 5, 6, 7] .done) mixed (jn2 e0 hil) ?_
  refine pwP (hon) (jn2 e0 hil) ?_
  intros
  repeat apply za
  exact zd ⟨_, S, (by simp; rfl), ⟨by simp [zl], rfl⟩, yg hd⟩
set_option maxRecDepth 20000 in
theorem ZiH {S : Store} {pl : PV} {price : List Int} (c : Cust) (n cap : Int) (hk : c.kind = 1) (hR : RowOf S pl price) (hp : ∀ z ∈ price, I64 z) (hpl : price.length ≤ 1000) (hl : c.pats.length ≤ 1000) (h64 : ∀ p ∈ c.pats, p < 2 ^ 64) :
  Spec Tryz.prog 88 [.agg (jO c), I n, I cap, pl] S (fun q S' => q = .tup [L (wU c cap price).1, B (wU c cap price).2] ∧ S' = S) := by
 have hs := fun S (hR : RowOf S pl price) => ZiG c cap hR hp hpl hl h64
 generalize wU c cap price = r at *
 obtain ⟨v, ok⟩ := r
 simp only at hs ⊢
 refine jm Tryz.func88 Tryz.ntmps88 Tryz.results88 fun nx hd => ?_
 repeat apply za
 refine pwn ?_
 intro v0
 repeat apply za
 refine ze ?_
 repeat apply za
 refine pwN [] hk ?_
 intros
 repeat apply za
 refine zj rfl ?_
 repeat apply za
 refine zM [] (by rfl) (by rfl) fun K Gc Gh hK hGc hGh X hX0 hX => ?_
 simp -implicitDefEqProofs [hX0, hX]
 try clear hX0 hX X
 refine hGc _ _ _ _ _ _ _ fun hsuf => ((hs _ (hR.ext hd _)).mono ?_).v
 rintro _ _ ⟨rfl, rfl⟩
 refine ⟨_, _, rfl, ?_⟩
 clear hGc hGh
 clear Gc Gh
 refine zK hsuf (D := []) (by rfl) fun Gc Gh hGc hGh X hX0 hX => ?_
 simp -implicitDefEqProofs [hX0, hX]
 clear hX0 hX X
 intros
 refine hK _ _ _ ?_
 clear hK hGc hGh
 clear K Gc Gh
 repeat apply za
 exact zd ⟨_, S, (by simp; rfl), ⟨by simp [zl], rfl⟩, yg hd⟩
open Go Go.Proofs Hp
def woP (c : Int) (p : jP) : jP := p.map (qT c)
set_option maxHeartbeats 1600000 in
theorem ZiI (p : jP) (c : Int) (hp : p.length ≤ 1000) (hd0 : ∀ d ∈ p, d.length ≤ 1048576) (ht : ∀ d ∈ p, ∀ t ∈ d, t.length ≤ 1048576) : Pure Tryz.prog 28 [.agg [L p], I c] (.agg [L (woP c p)]) := by
 unfold woP
 refine pwe Tryz.func28 Tryz.ntmps28 Tryz.results28 fun S nx hd => ?_
 repeat apply za
 refine pwn ?_
 intro v0 v1
 repeat apply za
 refine pwn ?_
 intro v2
 refine yN 2 0 66 1 rfl rfl fun v3 => ?_
 (repeat apply za); refine pwn ?_; intros
 repeat apply za
 refine ze (zq (fun s : Nat × jP × Nat => s.1 ≤ p.length ∧ s.2.1 = (p.take s.1).map (qT c)) (fun (k, q, w) => [(1, I c), (4, .ptr (nx + 1) v1 0), (5, .ptr (nx + 2) v2 0), (11, L p), (12, I p.length), (13, I k)]) (fun (k, q, w) => [.cells v0 29 [L p], .cells v1 29 [zJ], .cells v2 29 [.sl (nx + 3) w 1 0 q.length], .cells w 66 (q.flatMap Enc.enc)]) (fun s => p.length - s.1) (0, [], v3) [] (by simp) (by simp) (by simp) ?_)
 rintro ⟨k, q, w⟩ ⟨hk, hq⟩
 simp only at hk hq ⊢
 have hql : q.length = k := by rw [hq]; simp; omega
 (repeat apply za); refine pwn ?_; intros
 repeat apply za
 refine zk rfl (fun hc => ?_) (fun hc => ?_)
 ·simp at hc
  obtain ⟨d, tl, a1, a2, a3, e0⟩ := el1 rfl p k hc
  have hdm := List.mem_of_getElem? a1
  have hr := ZgA d c (hd0 d hdm) (ht d hdm)
  generalize hrd : qT c d = rd at hr
  have hk1 : 1 ≤ p.length - k := by omega
  have hqf : (q.flatMap Enc.enc : List PV).length = q.length := yD q
  have hqt : (q.flatMap Enc.enc : List PV).take q.length = q.flatMap Enc.enc := List.take_of_length_le (by omega)
  refine zb (za (ze ?_))
  repeat apply za
  refine pwN [] (jn3 hc e0 hk1) ?_
  intro v4
  repeat apply za
  refine pwn ?_
  refine pwc hr ?_
  intro v5
  intros
  repeat apply za
  refine pwN [] (jn2 hqf hqt) ?_
  refine ⟨by omega, ?_⟩
  intros
  (repeat apply za); refine pwn ?_; intros
  exact zh (k + 1, q ++ [rd], w + 1) [_, _] ⟨hc, by rw [a3, List.map_append, hq, ← hrd]; rfl⟩ (by simp; omega) (by simp [wrN k (by omega)]) rfl (by simp; exact ⟨rfl, rfl⟩)
 ·simp at hc
  obtain rfl : k = p.length := by omega
  rw [List.take_length] at hq
  refine zo ?_
  refine zC 3 rfl ?_
  (repeat apply za); refine pwn ?_; intros
  repeat apply za
  exact zd (zg hd (by simp; rfl) (by simp [zl, hq]))
open Go Go.Proofs Hp
def vx : Cust := ⟨1, 1, [1], 0, 0, 0, 0, 0⟩
def x19 : Inst := ⟨1, 1, 9, 9, [vx], [[0, 3], [4, 0]]⟩
def ug (c : Cust) (l : List Int) : List Visit × Bool := wU c 9 l
theorem Xp : InstH x19 := by
 refine ⟨by decide, by decide, V8 fun row hr d hd => ?_, by decide⟩
 simp only [x19, List.mem_cons, List.not_mem_nil, or_false] at hr
 rcases hr with rfl | rfl <;> simp only [List.mem_cons, List.not_mem_nil, or_false] at hd <;> rcases hd with rfl | rfl <;> decide
theorem ZiJ (l : List Int) : wU vx 9 l = ([⟨0, 1⟩], true) := by
 have h1 : xU vx 9 = [1] := by decide
 have h2 : ZQ vx 1 = [⟨0, 1⟩] := by decide
 unfold wU
 rw [h1]
 have h3 : (qa l [1] 1).1 = 0 := by
  unfold qa
  rw [if_pos (.inl (by simp [qa]))]; rfl
 simp only [List.length_cons, List.length_nil, Nat.zero_add, h3]
 rw [if_neg (by decide)]
 show (ZQ vx 1, true) = _
 rw [h2]
theorem ZiK : Xo x19 1 ug := by
 intro c hc l hl hi S pl hR
 have : c = vx := by simpa [x19] using hc
 subst this
 exact ZiH vx 1 9 rfl hR hi (by omega) (by decide) (by decide)
theorem Zbo (pr : List (List Int)) : qy x19 ug pr = ([[⟨0, 1⟩]], 0) := by
 have h : xT x19 ug pr x19.cust.length = [([⟨0, 1⟩], true)] := by
  show [ug vx (pr.getD 0 [])] = _
  unfold ug; rw [ZiJ]
 unfold qy
 rw [h]; rfl
theorem Zbp : VsOk 1 1 [[⟨0, 1⟩]] := by
 refine ⟨rfl, fun l hl w hw => ?_, fun l hl => ?_, fun l hl => ?_⟩
 ·simp at hl; subst hl; simp at hw; subst hw; decide
 ·simp at hl; subst hl; simp
 ·simp at hl; subst hl; simp
theorem ZiL : Zbl x19 1 ug := by
 intro pr _ _
 rw [Zbo]; exact Zbp
theorem ZiM {d : Day} {s : Stop} (h : d.flatten.Perm [s]) (hn : ∀ t ∈ d, t ≠ []) : d = [[s]] := by
 have h1 : d.flatten = [s] := List.perm_singleton.1 h
 match d, h1, hn with
 | [], h1, _ => simp at h1
 | [t], h1, _ => simpa using h1
 | t :: u :: r, h1, hn =>
  exfalso
  have a := hn t (by simp)
  have b := hn u (by simp)
  have := congrArg List.length h1
  simp only [List.flatten_cons, List.length_append, List.length_cons, List.length_nil] at this
  have := List.length_pos_iff.2 a
  have := List.length_pos_iff.2 b
  omega
theorem ZiN {x : Inst} {s : Stop} (h : SOk x [s]) (h0 : arc x 0 0 = 0) (hf : yk x [s] = 0) (hv : 1 ≤ x.veh) (b : Int) : yI x b [s] = ([[s]], 0) := by
 have he : (yI x b [s]).2 = 0 := by
  apply Classical.byContradiction
  intro hne
  rcases (ZhA h b hne).2 with q | q
  ·exact q hf
  ·simp at q; omega
 obtain ⟨-, h2, h3, -⟩ := Zhz h h0 b he
 have := ZiM h3 (Y6 h2)
 exact Prod.ext this he
theorem ZiO : ZR x19 ug 0 1 = ([[[⟨0, 1⟩]]], 0) := by
 have hs : yp [[⟨0, 1⟩]] (0 : Nat) 1 = [⟨0, 1⟩] := by decide
 have hk := Qq Xp Zbp 0
 have hb : wB x19 [[⟨0, 1⟩]] 0 1 = [([[⟨0, 1⟩]], 0)] := by
  show [yI x19 0 (yp [[⟨0, 1⟩]] (0 : Nat) 1)] = _
  rw [hs]
  rw [show yp [[(⟨0, 1⟩ : Visit)]] 0 x19.cust.length = [⟨0, 1⟩] from hs] at hk
  rw [ZiN hk Xp.diag (by decide) (by decide) 0]
 have h1 : z8 x19 [[⟨0, 1⟩]] 0 1 = [0] := by unfold z8; rw [hb]; rfl
 have h2 : qe x19 [[⟨0, 1⟩]] 0 1 = [[[⟨0, 1⟩]]] := by unfold qe; rw [hb]; rfl
 unfold ZR vw
 rw [Zbo]
 simp only [h1, h2]
 rfl
theorem ZiP : Pure Tryz.prog 13 [.agg (zm x19), I 0] (.tup [.agg [L ([[[⟨0, 1⟩]]] : jP)], I 0]) := by
 have h := Zix (b := 0) Xp (n := 1) rfl (by decide) ZiK ZiL (by decide)
 rw [ZiO] at h
 exact h
set_option maxRecDepth 20000 in
theorem ZiQ : Pure Tryz.prog 17 [] (B true) := by
 have h1 := ZiP
 have h2 := ZiI [[[⟨0, 1⟩]]] 0 (by decide) (by decide) (by decide)
 rw [show woP 0 [[[(⟨0, 1⟩ : Stop)]]] = [[]] from by decide] at h2
 refine pwe Tryz.func17 Tryz.ntmps17 Tryz.results17 fun S nx hd => ?_
 (repeat apply za); refine pwn ?_; intros
 repeat apply za
 refine pwn ?_
 intro v0
 repeat apply za
 refine pwn ?_
 refine pwc h1 ?_
 intro v1
 intros
 repeat apply za
 refine pwN [(2, 18), (8, 24), (17, 33)] trivial ?_
 refine pwC [(2, 18), (8, 24), (17, 33)] h2 trivial ?_
 intros
 repeat apply za
 exact zd (zg hd (by simp; rfl) rfl)
open Go Go.Proofs Hp
theorem ZiR (x : Inst) : InstH (qK x) := ⟨Nat.le_trans (Vy x) (by decide), Zhu x, Zho x, Zhp x⟩
theorem ZiS {x : Inst} (hx : InstH x) {v : List (List Visit)} {n : Nat} (hv : VsOk x.cust.length n v) (b : Int) : ∀ d ∈ qe x v b n, DayOk d ∧ d.length ≤ 1000 ∧ d.flatten.length ≤ 1000 := by
 intro d hd
 obtain ⟨r, hr, rfl⟩ := List.mem_map.1 hd
 obtain ⟨k, -, rfl⟩ := List.mem_map.1 hr
 exact Zhy (Qq hx hv k) hx.diag b
set_option maxHeartbeats 3200000 in
theorem ZiT (x : Inst) (l : List Visit) (b day : Int) (hx : InstOk x) (hl : l.length ≤ 9223372036854775807) (hs : ∀ w ∈ l, VisitOk w) (hb : I64 b) : Pure Tryz.prog 5 [.agg (zm x), L l, I b, I day] (B true) := by
 have hgd := Ziz x
 have hG := Zdd x hx
 have hH := ZiR x
 have h6 := Vy x
 have hlv := ZiQ
 have hSm := ZhK b
 obtain ⟨n, hn⟩ : ∃ n : Nat, (qK x).days = n := ⟨(qK x).days.toNat, by omega⟩
 have hV := Zic (qK x) l n hH.cust hn (by omega) (by omega) hl hs
 have hbb : ZO b ≤ 9223372036854775807 := by unfold ZO; unfold I64 at hb; split <;> omega
 generalize ZO b = bb at *
 generalize qK x = y at *
 refine pwe Tryz.func5 Tryz.ntmps5 Tryz.results5 fun S nx hd => ?_
 repeat apply za
 refine pwn ?_
 intro v0
 repeat apply za
 refine pwn ?_
 refine pwc hG ?_
 intro v1
 intros
 repeat apply za
 refine zM [] (by rfl) (by rfl) fun K Gc Gh hK hGc hGh X hX0 hX => ?_
 simp -implicitDefEqProofs [hX0, hX]
 try clear hX0 hX X
 refine hGc _ _ _ _ _ _ _ fun hsuf => ((hV _).mono ?_).v
 rintro _ _ ⟨⟨v, rfl, hv⟩, rfl⟩
 refine ⟨_, _, rfl, ?_⟩
 clear hGc hGh
 clear Gc Gh
 refine zK hsuf (D := []) (by rfl) fun Gc Gh hGc hGh X hX0 hX => ?_
 simp -implicitDefEqProofs [hX0, hX]
 try clear hX0 hX X
 intros
 refine hK _ _ _ ?_
 clear hK hGc hGh
 clear K Gc Gh
 have hS1 := ZaX y v day n hH.cust hv
 have hS2 := ZaY v day y.cust.length n hH.cust hv
 have hB1 := Zia hH hn (by omega) hv hbb
 have hB2 := Zib hH h6 hn (by omega) hv hbb
 have hps := ZiS hH hv bb
 have hpl := ZN y v bb n
 have hsl := (uS hv day y.cust.length).1
 have hsame : Pure Tryz.prog 26 [.agg [L (jI y v bb n).1], .agg [L (jI y v bb n).1]] (B true) := by
  have := ZhL (jI y v bb n).1 (jI y v bb n).1 (by unfold jI; split <;> simp; omega) (fun d hd => by
   unfold jI at hd; split at hd
   ·have := hps d hd; omega
   ·cases hd) (fun d hd t ht => by
   unfold jI at hd; split at hd
   ·exact (hps d hd).1.t t ht
   ·cases hd)
  simpa using this
 generalize jI y v bb n = r at *
 obtain ⟨p, e⟩ := r
 generalize yp v day y.cust.length = st at *
 simp only at hB1 hB2 hsame
 repeat apply za
 refine pwn ?_
 refine pwc hSm ?_
 intros
 repeat apply za
 refine pwn ?_
 refine pwc hS1 ?_
 intros
 repeat apply za
 refine pwn ?_
 refine pwc hS2 ?_
 intros
 (repeat apply za); refine pwn ?_; intros
 repeat apply za
 refine zi (by simp) ?_
 refine zb ?_
 (repeat apply za); refine pwn ?_; intros
 repeat apply za
 refine ze (zq (fun k : Nat => k ≤ st.length) (fun k => [(2, I bb), (9, .ptr (nx + 1) v1 0), (10, L v), (11, L st), (12, L st), (13, I k)]) (fun _ => [.cells v0 25 (zm x), .cells v1 25 (zm y)]) (fun k => st.length - k) 0 [] (by simp) (by simp) (by simp) ?_)
 rintro k hk
 (repeat apply za); refine pwn ?_; intros
 repeat apply za
 refine zk rfl (fun hc => ?_) (fun hc => ?_)
 ·simp at hc
  obtain ⟨s, tl, a1, -, -, -, e0⟩ := el 2 rfl st k hc
  refine zb (za (ze ?_))
  repeat apply za
  refine pwY none (Row.pures [0, 1, 2, 3, 4, 5, 6, 7, 8] .done) mixed (jn2 e0 hc) ?_
  intros
  repeat apply za
  refine zi (by simp) ?_
  refine zb ?_
  (repeat apply za); refine pwn ?_; intros
  exact zh (k + 1) [] hc (by omega) (by simp [wrN k (by omega)]) rfl (by simp)
 ·simp at hc
  obtain rfl : k = st.length := by omega
  refine zo ?_
  repeat apply za
  refine pwn ?_
  refine pwc hB1 ?_
  intro v2
  intros
  repeat apply za
  refine pwn ?_
  refine pwc hB2 ?_
  intro v3
  intros
  repeat apply za
  refine pwN [(3, 69), (8, 74)] trivial ?_
  refine pwC [(3, 69), (8, 74)] hsame trivial ?_
  refine pwC [(3, 69), (8, 74)] hlv trivial ?_
  intros
  repeat apply za
  exact zd (zg hd (by simp; rfl) rfl)
end Go.Proofs.YtaiplainginmaaaGreat.Pv
namespace Go.Proofs.YtaiplainginmaaaGreat
open Go Go.ChangeShapes Go.WideShapes Go.ChangeAt Go.RowKit Pv
set_option maxRecDepth 100000 in
theorem ZiU (os : Os) (started : os.Started) (H : Type) (enc : TypeId × Value → H) :
  ReturnsInHanded {} Tryz.checked os 5 .any (Rows.horizonBuildsSpec.pre6 enc Tryz.prog Tryz.f5 Rows.horizonBuildsRow.domain false) (Rows.horizonBuildsSpec.post enc Tryz.prog Tryz.f5 false true false false) := by
 refine returnsInHanded_of_change (C := Tryz.checked) ZcD started (by kernel_rfl) Tryz.func5
  (ChangeSpec.witness6 (enc := enc) (C := Tryz.checked) false ⟨#[], #[.agg #[.int .i64 0, .int .i64 0, .int .i64 0, .int .i64 0, .slice none 0 0, .slice none 0 0], .slice none 0 0, .int .i64 0, .int .i64 0], []⟩ 8 (by kernel_rfl) (by kernel_rfl) (by kernel_rfl) (by kernel_rfl)) ?_
 intro W base args ds gs before hval0 hW hcnd _
 have hval : ∀ (j : Nat) t v, Tryz.f5.params[j]? = some t → args[j]? = some v → Value.okWide Tryz.prog W .any base t v := hval0
 have hW' := hW
 obtain ⟨p, q, hA0, hV, rfl, hfz, hnd⟩ := hW
 have hA : DataW.TrodAll enc Tryz.prog W 0 (fun _ => true) true Tryz.f5.params.toList args.toList ds p := hA0
 rw [Tryz.params5] at hA hval
 obtain ⟨v0, v1, v2, v3, d0, d1, d2, d3, p0, p1, p2, p3, rfl, rfl, rfl, h0, h1, h2, h3⟩ := trodAll_four hA
 obtain ⟨rfl, rfl⟩ := trodVars_none hV
 obtain ⟨c0, rfl, _⟩ := okWide_struct Tryz.underlying25 (hval 0 _ v0 rfl rfl)
 obtain ⟨a0, k0, r0⟩ := ZcC (Zdf W) h0
 obtain ⟨b1, n1, m1, rfl⟩ := okWide_slice Tryz.underlying42 (hval 1 _ v1 rfl rfl)
 obtain ⟨a1, k1, r1⟩ := Q9 (Zie W) rfl h1
 have r1 := r1 _ rfl
 obtain ⟨z2, rfl⟩ := okWide_int Tryz.underlying3 (hval 2 _ v2 rfl rfl)
 obtain ⟨a2, k2, r2⟩ := Q9 ((jn Tryz.underlying3 : xy Tryz.prog W 3 Int I64)) rfl h2
 have r2 := r2 _ rfl
 obtain ⟨z3, rfl⟩ := okWide_int Tryz.underlying3 (hval 3 _ v3 rfl rfl)
 obtain ⟨a3, k3, r3⟩ := Q9 ((jn Tryz.underlying3 : xy Tryz.prog W 3 Int I64)) rfl h3
 have r3 := r3 _ rfl
 refine (ZcF ((ZiT a0 a1 a2 a3 k0 k1.1 k1.2 k2)) rfl (fun i c v hc hv => ?_)).mono fun e W' hq => ?_
 ·match i with
  | 0 => cases hc; cases hv; exact r0
  | 1 => cases hc; cases hv; exact r1
  | 2 => cases hc; cases hv; exact r2
  | 3 => cases hc; cases hv; exact r3
  | i + 4 => cases hc
 exact ⟨_, hq.1, ZcG rfl rfl (of_decide_eq_true (by kernel_rfl)) hW' rfl rfl rfl hq.2⟩
set_option maxRecDepth 100000 in
theorem ZiV : Rows.horizonBuildsRow.wf (OpenSpec.ofChange Rows.horizonBuildsSpec) = true := by kernel_rfl
set_option maxRecDepth 100000 in
theorem ZiW : Tryz.f5.params.all (Tryz.pinned.checked.prog.readableRec ·) = true := by kernel_rfl
set_option maxRecDepth 100000 in
theorem ZiX : namedTie Tryz.pinned.checked.prog Rows.horizonBuildsRow.named Rows.horizonBuildsSpec.vars = true := by kernel_rfl
set_option maxRecDepth 100000 in
theorem ZiY : (Rows.horizonBuildsRow.inPlace == Tryz.pinned.checked.prog.inPlace 5) = true := by kernel_rfl
set_option maxRecDepth 100000 in
theorem ZiZ : (Rows.horizonBuildsRow.unfollowed == Tryz.pinned.checked.prog.unfollowed 5) = true := by kernel_rfl
set_option maxRecDepth 100000 in
theorem Zi0 : (Rows.horizonBuildsRow.recurses == Tryz.pinned.checked.prog.recurses 5) = true := by kernel_rfl
set_option maxRecDepth 100000 in
theorem Zi1 : (Rows.horizonBuildsRow.named == Tryz.pinned.checked.prog.varsNamed 5) = true := by kernel_rfl
set_option maxRecDepth 100000 in
theorem Zi2 : (Rows.horizonBuildsRow.maps == (Tryz.f5.params.toList ++ Rows.horizonBuildsSpec.plain.varTypes Tryz.pinned.checked.prog).any (Tryz.pinned.checked.prog.mapsRec ·)) = true := by kernel_rfl
set_option maxRecDepth 100000 in
theorem Zi3 : (Rows.horizonBuildsRow.ifaces == (Tryz.f5.params.toList ++ Rows.horizonBuildsSpec.plain.varTypes Tryz.pinned.checked.prog).any (Tryz.pinned.checked.prog.ifacesRec ·)) = true := by kernel_rfl
set_option maxRecDepth 100000 in
theorem Zi4 : (Rows.horizonBuildsRow.mapsOut == Tryz.pinned.checked.prog.mapsAmong Tryz.f5.resultTypes.toList) = true := by kernel_rfl
set_option maxRecDepth 100000 in
theorem Zi5 : (Rows.horizonBuildsRow.loops == (Tryz.f5.params.toList ++ Rows.horizonBuildsSpec.plain.varTypes Tryz.pinned.checked.prog).any (Tryz.pinned.checked.prog.loopsFrom ·)) = true := by kernel_rfl
set_option maxRecDepth 100000 in
theorem Zi6 : (Rows.horizonBuildsRow.wideKeys == (Tryz.f5.params.toList ++ Rows.horizonBuildsSpec.plain.varTypes Tryz.pinned.checked.prog ++ Tryz.f5.resultTypes.toList).any (Tryz.pinned.checked.prog.wideKeysFrom ·)) = true := by kernel_rfl
set_option maxRecDepth 100000 in
theorem Zi7 : Rows.horizonBuildsSpec.vars.all (Tryz.pinned.checked.prog.varReadable ·) = true := by kernel_rfl
set_option maxRecDepth 100000 in
theorem Zi8 : Tryz.f5.resultTypes.all (fun t => Tryz.pinned.checked.prog.readableRec t && decide (t < Tryz.pinned.checked.prog.types.size)) = true := by kernel_rfl
set_option maxRecDepth 100000 in
theorem Zi9 : (Rows.horizonBuildsRow.ifacesOut == Tryz.f5.resultTypes.toList.any (Tryz.pinned.checked.prog.ifacesRec ·)) = true := by kernel_rfl
set_option maxRecDepth 100000 in
theorem Zja : (Rows.horizonBuildsRow.loopsOut == Tryz.f5.resultTypes.toList.any (Tryz.pinned.checked.prog.loopsFrom ·)) = true := by kernel_rfl
set_option maxRecDepth 100000 in
theorem Zjb : (Rows.horizonBuildsRow.plainKeys == Tryz.pinned.checked.prog.plainKeys) = true := by kernel_rfl
set_option maxRecDepth 100000 in
theorem Zjc : (Rows.horizonBuildsRow.lifted == Tryz.pinned.checked.prog.liftsFinal) = true := by kernel_rfl
set_option maxRecDepth 100000 in
theorem Zjd : (Tryz.pinned.checked.prog.make == some Rows.horizonBuildsRow.make) = true := by kernel_rfl
set_option maxRecDepth 100000 in
theorem Zje : (Rows.horizonBuildsRow.kinds == (if Rows.horizonBuildsRow.domain.isEmpty then [] else Tryz.f5.params.toList.map fun t => match Tryz.pinned.checked.prog.underlying t with | some (.int k) => some k | _ => none)) = true := by kernel_rfl
set_option maxRecDepth 100000 in
theorem Zjf : (Rows.horizonBuildsRow.veiled == (Tryz.f5.params.toList ++ Rows.horizonBuildsSpec.plain.varTypes Tryz.pinned.checked.prog ++ Tryz.f5.resultTypes.toList).any (Tryz.pinned.checked.prog.veiledRec ·)) = true := by kernel_rfl
set_option maxRecDepth 100000 in
theorem Zjg : Rows.horizonBuildsRow.veiledFits Tryz.pinned.checked.prog Tryz.f5.params.toList (Tryz.f5.params.toList ++ Rows.horizonBuildsSpec.plain.varTypes Tryz.pinned.checked.prog ++ Tryz.f5.resultTypes.toList) = true := by kernel_rfl
theorem Zjh : Tryz.pinned.checked.prog.funcNamed Rows.horizonBuildsRow.func = some 5 := by kernel_rfl
theorem Zji : Tryz.f5.isInstance Tryz.pinned.checked.prog Rows.horizonBuildsRow.origin Rows.horizonBuildsRow.targs := of_decide_eq_true (by kernel_rfl)
theorem Zjj : Tryz.f5.isWrapper Tryz.pinned.checked.prog Rows.horizonBuildsRow.wrapper Rows.horizonBuildsRow.mainSum := by unfold Func.isWrapper; first | (rw [if_pos (by decide +kernel)]; kernel_rfl) | (rw [if_neg (by decide +kernel)]; exact ⟨rfl, rfl⟩)
set_option maxRecDepth 20000 in
theorem horizonBuilds_holds : Rows.HorizonBuildsSaid :=
 OpenClaim.holds_of_wide 5 Tryz.f5 rfl rfl rfl rfl rfl rfl rfl ⟨rfl, rfl, rfl, rfl, rfl⟩ rfl rfl rfl rfl rfl Zjh Tryz.func5 (ZcH ZiV ZcI ZcJ ZiW ZiX rfl ZcK rfl ZcL ZiY ZiZ Zi0 Zi1 Zi2 Zi3 Zi4 Zi5 Zi6 Zi7 Zi8 Zi9 Zja Zjb rfl ZcM ZcN Zjc Zjd Zje rfl Zjf Zjg)
  Zji Zjj
  (fun os started H enc _ => ZiU os started H enc)
end Go.Proofs.YtaiplainginmaaaGreat
