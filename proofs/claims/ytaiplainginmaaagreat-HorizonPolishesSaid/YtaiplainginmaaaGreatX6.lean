/- A part of the proof of the statement that the last text of this claim proves; no condition is added. Packed by a program of the prover. -/
import Derived.Test.YtaiplainginmaaaGreatX5
namespace Go.Proofs.YtaiplainginmaaaGreat.Pv
open Go
def ZW (v : List Visit) (k : Nat) : List Int := (List.range k).map fun (d : Nat) => ((v.filter fun s => decide (s.d = (d : Int))).map (·.q)).sum
set_option maxRecDepth 20000 in
theorem Xh (v : List Visit) (n : Int) (hv : VisOk v) : Pure Tryz.prog 62 [L v, I n] (L (qO v n)) := by
 have hvn := hv.n
 have hres : qO v n = ZW v (min (max n 0) 64).toNat := rfl
 rw [hres]
 refine pwe Tryz.func62 Tryz.ntmps62 Tryz.results62 fun S nx hd => ?_
 (repeat apply za); refine pwn ?_; intros
 (repeat apply za); refine pwn ?_; intros
 repeat apply za
 refine zW (nx := nx) (σ := Unit) (fun _ => True) (fun _ => [(0, L v), (1, I (min n 64))]) (fun _ => S) (fun _ => []) ?_ ?_
 ·by_cases h : (64 : Int) < n
  ·refine zh (by simp [h]) ?_
   (repeat apply za); refine pwn ?_; intros
   exact zu () [] trivial (by simp; omega) rfl (by simp)
  ·refine zj (by simp; omega) ?_
   refine zd ?_
   exact zu () [] trivial (by simp; omega) rfl (by simp)
 intro _ _
 generalize hm : (min (max n 0) 64).toNat = m
 have hm64 : m ≤ 64 := by omega
 have hcmp : ∀ k : Nat, ((k : Int) < min n 64) = (k < m) := fun k => propext ⟨fun h => by omega, fun h => by omega⟩
 (repeat apply za); refine pwn ?_; intros
 refine yQ 5 3 1 rfl fun v1 => ?_
 (repeat apply za); refine pwn ?_; intros
 repeat apply za
 refine ze (zq (fun s : Nat × List Int × Nat => s.1 ≤ m ∧ s.2.1 = ZW v s.1) (fun (k, out, v1) => [(0, L v), (1, I (min n 64)), (5, .sl nx v1 1 0 out.length), (6, I k)]) (fun (k, out, v1) => [.cells v1 3 (out.flatMap Enc.enc)]) (fun s => m - s.1) (0, [], v1) [] (by simp [ZW]) (by simp) (by simp) ?_)
 rintro ⟨k, out, v1⟩ ⟨hk, ho⟩
 simp only at hk ho ⊢
 have hol : out.length = k := by rw [ho]; simp [ZW]
 by_cases hc : k < m
 ·repeat apply za
  refine pwN [] (jn2 hcmp hc) ?_
  intros
  repeat apply za
  refine zh (by simp) ?_
  refine zd (za (ze ?_))
  (repeat apply za); refine pwn ?_; intros
  (repeat apply za); refine pwn ?_; intros
  repeat apply za
  refine zW (nx := nx) (σ := Nat) (fun _ => True) (fun v1 => [(0, L v), (1, I (min n 64)), (5, .sl nx v1 1 0 out.length), (6, I k), (7, I ((v.filter fun s => decide (s.d = (k : Int))).map (·.q)).sum)]) (fun _ => S) (fun v1 => [.cells v1 3 (out.flatMap Enc.enc)]) ?_ ?_
  ·refine ze (zq (fun s : Nat => s ≤ v.length) (fun j => [(0, L v), (1, I (min n 64)), (5, .sl nx v1 1 0 out.length), (6, I k), (7, I (((v.take j).filter fun s => decide (s.d = (k : Int))).map (·.q)).sum), (8, I j)]) (fun _ => [.cells v1 3 (out.flatMap Enc.enc)]) (fun s => v.length - s) 0 [] (by simp) (by simp) (by simp) ?_)
   rintro j hj
   (repeat apply za); refine pwn ?_; intros
   repeat apply za
   refine zl rfl (fun hc2 => ?_) (fun hc2 => ?_)
   ·simp at hc2
    obtain ⟨s, tl, a1, a2, a3, e1, e0⟩ := el 2 rfl v j hc2
    have hsq := hv.q s (List.mem_of_getElem? a1)
    have hlj : (v.take j).length ≤ 1048576 := by simp; omega
    have hle := ZhL (v.take j) (fun s => decide (s.d = (k : Int))) (fun x hx => hv.q x (List.mem_of_mem_take hx))
    have e11 := e1 1 (by omega)
    refine zd (za (ze ?_))
    by_cases h : s.d = (k : Int)
    ·have hsum : (((v.take j).filter fun s => decide (s.d = (k : Int))).map (·.q)).sum + s.q = (((v.take (j + 1)).filter fun s => decide (s.d = (k : Int))).map (·.q)).sum := by rw [a3]; simp [h]
     repeat apply za
     refine pwN [] (jn3 e0 hc2 h) ?_
     intros
     repeat apply za
     refine zh (by simp) ?_
     repeat apply za
     refine pwN [] (jn2 e11 hc2) ?_
     refine pwc (ZhZ _ _ hle.1 hsq.1 (by omega)) ?_
     intros
     (repeat apply za); refine pwn ?_; intros
     exact zk (j + 1) [] hc2 (by omega) (by simp [wrN j (by omega)]; exact hsum) rfl (by simp)
    ·have hsum : (((v.take j).filter fun s => decide (s.d = (k : Int))).map (·.q)).sum = (((v.take (j + 1)).filter fun s => decide (s.d = (k : Int))).map (·.q)).sum := by rw [a3]; simp [h]
     repeat apply za
     refine pwN [] (jn3 e0 hc2 h) ?_
     intros
     repeat apply za
     refine zj (by simp) ?_
     refine zd ?_
     (repeat apply za); refine pwn ?_; intros
     exact zk (j + 1) [] hc2 (by omega) (by simp [wrN j (by omega)]; exact hsum) rfl (by simp)
   ·simp at hc2
    obtain rfl : j = v.length := by omega
    rw [List.take_length]
    exact zm (zu v1 [] trivial (by simp) rfl (by simp))
  ·intro v1 _
   repeat apply za
   refine pwn ?_
   refine ⟨by omega, ?_⟩
   intros
   (repeat apply za); refine pwn ?_; intros
   exact zk (k + 1, out ++ [((v.filter fun s => decide (s.d = (k : Int))).map (·.q)).sum], v1 + 1) [] ⟨hc, by rw [ho]; simp [ZW, List.range_succ]⟩ (by simp; omega) (by simp [wrN k (by omega)]) rfl (by simp)
 ·obtain rfl : k = m := by omega
  repeat apply za
  refine pwN [] hcmp ?_
  intros
  repeat apply za
  refine zj (by simp) ?_
  refine zm ?_
  (repeat apply za); refine pwn ?_; intros
  refine zB 0 rfl ?_
  repeat apply za
  exact zb (zg hd (by simp; rfl) (by rw [ho]; simp [zi]))
set_option maxRecDepth 20000 in
theorem ZaU (p : zF) (c : Int) (hp : PlanOk p) : Pure Tryz.prog 20 [.agg [L p], I c] (L (zQ c (told 0 p))) := by
 have hlen := hp.told
 have ol : ∀ pre rest, told 0 p = pre ++ rest → (zQ c pre).length ≤ 1048576 := fun pre rest e => by
  have := ZaR c pre
  have := congrArg List.length e
  simp at this; omega
 refine pwe Tryz.func20 Tryz.ntmps20 Tryz.results20 fun S nx hd => ?_
 repeat apply za
 refine pwn ?_
 intro v0
 (repeat apply za); refine pwn ?_; intros
 refine za (yQ 5 103 2 rfl fun v1 => ?_)
 (repeat apply za); refine pwn ?_; intros
 repeat apply za
 refine ze (zq (fun s : Nat × List (Stop × Nat) × Nat => s.1 ≤ p.length ∧ told 0 p = s.2.1 ++ told s.1 (p.drop s.1)) (fun (a, pre, v1) => [(1, I c), (2, .ptr nx v0 0), (5, .sl (nx + 1) v1 2 0 (zQ c pre).length), (6, I a)]) (fun (a, pre, v1) => [.cells v0 29 [L p], .cells v1 103 ((zQ c pre).flatMap Enc.enc)]) (fun s => p.length - s.1) (0, [], v1) [] (by simp) (by simp [zQ]) (by simp [zQ]) ?_)
 rintro ⟨a, pre, v1⟩ ⟨ha, hr⟩
 simp only at ha hr ⊢
 have hpn := hp.n
 (repeat apply za); refine pwn ?_; intros
 repeat apply za
 refine zl rfl (fun hc => ?_) (fun hc => ?_)
 ·simp at hc
  obtain ⟨d, tl, a1, a2, a3, e0⟩ := el1 rfl p a hc
  have hdm := List.mem_of_getElem? a1
  have hdl := hp.d d hdm
  rw [a2] at hr
  simp only [told] at hr
  refine zd (za (ze ?_))
  (repeat apply za); refine pwn ?_; intros
  repeat apply za
  refine ze (zq (fun s : Nat × List (Stop × Nat) × Nat => s.1 ≤ d.length ∧ told 0 p = s.2.1 ++ ((d.drop s.1).flatten.map (·, a) ++ told (a + 1) (p.drop (a + 1)))) (fun (b, pre, v1) => [(1, I c), (2, .ptr nx v0 0), (5, .sl (nx + 1) v1 2 0 (zQ c pre).length), (6, I a), (7, I b)]) (fun (b, pre, v1) => [.cells v0 29 [L p], .cells v1 103 ((zQ c pre).flatMap Enc.enc)]) (fun s => d.length - s.1) (0, pre, v1) [] (by simp [hr]) (by simp) (by simp) ?_)
  rintro ⟨b, pre, v1⟩ ⟨hb, hr⟩
  simp only at hb hr ⊢
  repeat apply za
  refine pwN [] (jn2 e0 hc) ?_
  intros
  repeat apply za
  refine zl rfl (fun hc2 => ?_) (fun hc2 => ?_)
  ·simp at hc2
   obtain ⟨t, tl2, b1, b2, b3, e2⟩ := el1 rfl d b hc2
   have htl := hp.t d hdm t (List.mem_of_getElem? b1)
   rw [b2] at hr
   simp only [List.flatten_cons, List.map_append, List.append_assoc] at hr
   refine zd (za (ze ?_))
   repeat apply za
   refine pwN [] (jn4 e0 hc e2 hc2) ?_
   intros
   (repeat apply za); refine pwn ?_; intros
   repeat apply za
   refine ze (zq (fun s : Nat × List (Stop × Nat) × Nat => s.1 ≤ t.length ∧ told 0 p = s.2.1 ++ ((t.drop s.1).map (·, a) ++ ((d.drop (b + 1)).flatten.map (·, a) ++ told (a + 1) (p.drop (a + 1))))) (fun (j, pre, v1) => [(1, I c), (2, .ptr nx v0 0), (5, .sl (nx + 1) v1 2 0 (zQ c pre).length), (6, I a), (7, I b), (8, L t), (9, I j)]) (fun (j, pre, v1) => [.cells v0 29 [L p], .cells v1 103 ((zQ c pre).flatMap Enc.enc)]) (fun s => t.length - s.1) (0, pre, v1) [] (by simp [hr]) (by simp) (by simp) ?_)
   rintro ⟨j, pre, v1⟩ ⟨hj, hr⟩
   simp only at hj hr ⊢
   (repeat apply za); refine pwn ?_; intros
   repeat apply za
   refine zl rfl (fun hc3 => ?_) (fun hc3 => ?_)
   ·simp at hc3
    obtain ⟨s, tl3, c1, c2, c3, e4, e3⟩ := el 2 rfl t j hc3
    have e31 := e4 1 (by omega)
    rw [c2] at hr
    simp only [List.map_cons, List.cons_append] at hr
    have hl := ol pre _ hr
    refine zd (za (ze ?_))
    by_cases h : s.c = c
    ·repeat apply za
     refine pwN [] (jn3 e3 hc3 h) ?_
     intros
     repeat apply za
     refine zh (by simp) ?_
     repeat apply za
     refine pwN [] (jn2 e31 hc3) ?_
     refine ⟨by omega, ?_⟩
     intros
     (repeat apply za); refine pwn ?_; intros
     exact zk (j + 1, pre ++ [(s, a)], v1 + 1) [] ⟨hc3, by simp [hr]⟩ (by simp; omega) (by simp [wrN j (by omega), uZ, Qd, h]) rfl (by simp [uZ, Qd, h])
    ·repeat apply za
     refine pwN [] (jn3 e3 hc3 h) ?_
     intros
     repeat apply za
     refine zj (by simp) ?_
     refine zd ?_
     (repeat apply za); refine pwn ?_; intros
     exact zk (j + 1, pre ++ [(s, a)], v1) [] ⟨hc3, by simp [hr]⟩ (by simp; omega) (by simp [wrN j (by omega), uZ, Qd, h]) rfl (by simp [uZ, Qd, h])
   ·simp at hc3
    obtain rfl : j = t.length := by omega
    simp only [List.drop_length, List.map_nil, List.nil_append] at hr
    refine zm ?_
    (repeat apply za); refine pwn ?_; intros
    exact zk (b + 1, pre, v1) [] ⟨hc2, hr⟩ (by simp; omega) (by simp [wrN b (by omega)]) rfl (by simp)
  ·simp at hc2
   obtain rfl : b = d.length := by omega
   simp only [List.drop_length, List.flatten_nil, List.map_nil, List.nil_append] at hr
   refine zm ?_
   (repeat apply za); refine pwn ?_; intros
   exact zk (a + 1, pre, v1) [] ⟨hc, hr⟩ (by simp; omega) (by simp [wrN a (by omega)]) rfl (by simp)
 ·simp at hc
  obtain rfl : a = p.length := by omega
  simp only [List.drop_length, told, List.append_nil] at hr
  refine zm ?_
  (repeat apply za); refine pwn ?_; intros
  refine zB 1 rfl ?_
  repeat apply za
  exact zb (zg hd (by simp; rfl) (by rw [hr]; simp [zi]))
open Go
theorem Zh1 (n d : Nat) : ((n : Int).fdiv (2 ^ d)) = ((n / 2 ^ d : Nat) : Int) := by
 have h : (2 : Int) ^ d = ((2 ^ d : Nat) : Int) := by simp
 rw [h, Int.fdiv_eq_ediv_of_nonneg _ (Int.natCast_nonneg _)]
 rfl
set_option maxRecDepth 20000 in
theorem Zh2 (n : Nat) (d : Int) (hn : n < 2 ^ 64) : Pure Tryz.prog 242 [U n, I d] (B (decide (0 ≤ d ∧ d < 64 ∧ yv n d.toNat = 1))) := by
 by_cases h : 0 ≤ d ∧ d < 64
 ·have h1 : ¬ d < 0 := by omega
  have h2 : min d.toNat 64 = d.toNat := by omega
  have hlt : n / 2 ^ d.toNat ≤ n := Nat.div_le_self _ _
  have h3 := Zh1 n d.toNat
  have hb : yv n d.toNat = n / 2 ^ d.toNat % 2 := rfl
  generalize n / 2 ^ d.toNat = m at hlt h3 hb
  have h4 := and_one_u64 (m : Int) (by omega) (by omega)
  have h5 : IntKind.u64.wrap (m : Int) = (m : Int) := by
   simp only [IntKind.wrap, IntKind.bits, IntKind.signed]
   simp
   omega
  have h6 : ((m : Int) % 2 = 1) = (yv n d.toNat = 1) := by rw [hb]; exact propext ⟨fun q => by omega, fun q => by omega⟩
  refine pwe Tryz.func242 Tryz.ntmps242 Tryz.results242 fun S nx hd => ?_
  (repeat apply za); refine pwn ?_; intros
  repeat apply za
  refine zO [(2, 7)] (by rfl) (by rfl) fun K Gc Gh hK hGc hGh X hX0 hX => ?_
  simp -implicitDefEqProofs [hX0, hX]
  try clear hX0 hX X
  refine hGc _ _ _ _ _ _ _ fun hsuf => ((ZaS d _).mono ?_).v
  rintro _ _ ⟨rfl, rfl⟩
  refine ⟨_, _, rfl, ?_⟩
  clear hGc hGh
  clear Gc Gh
  refine zJ hsuf (D := [(2, 7)]) (by rfl) fun Gc Gh hGc hGh X hX0 hX => ?_
  simp -implicitDefEqProofs [hX0, hX, h, h1, h2, h3, h5, h4, IntKind.bits]
  try clear hX0 hX X
  intros
  refine hK _ _ _ ?_
  clear hK hGc hGh
  clear K Gc Gh
  repeat apply za
  exact zb (zg hd (by simp; rfl) (by simp [h, zi, h6]))
 ·refine pwe Tryz.func242 Tryz.ntmps242 Tryz.results242 fun S nx hd => ?_
  (repeat apply za); refine pwn ?_; intros
  repeat apply za
  refine pwN [(2, 7)] trivial ?_
  refine pwC [(2, 7)] (ZaS d) (jn2 h zn) ?_
  intros
  have h7 : ¬ (0 ≤ d ∧ d < 64 ∧ yv n d.toNat = 1) := fun q => h ⟨q.1, q.2.1⟩
  repeat apply za
  exact zb (zg hd (by simp; rfl) (by simp only [h7, zi, decide_false]))
def zV (n a k : Nat) : List Int := ((List.range k).filter fun i => decide (a ≤ i) && decide (yv n i = 1)).map fun (i : Nat) => (i : Int)
theorem uk (n a k : Nat) : (zV n a k).length ≤ k := by
 simp only [zV, List.length_map]
 exact Nat.le_trans (List.length_filter_le _ _) (by simp)
theorem ZaV (n a k : Nat) (h : a ≤ k) : zV n a (k + 1) = zV n a k ++ (if yv n k = 1 then [(k : Int)] else []) := by
 simp only [zV, List.range_succ, List.filter_append, List.map_append]
 by_cases q : yv n k = 1 <;> simp [q, h]
theorem Xi (n a k : Nat) (h : k ≤ a) : zV n a k = [] := by
 simp only [zV, List.map_eq_nil_iff, List.filter_eq_nil_iff, List.mem_range]
 intro i hi; simp; omega
set_option maxRecDepth 20000 in
theorem Zh3 (n : Nat) (d : Int) (hn : n < 2 ^ 64) (hdl : d ≤ 1000) : Pure Tryz.prog 241 [.fn (.func 242) [U n] [], I d] (L (zV n d.toNat 64)) := by
 have hmax : ut d 0 = ((d.toNat : Nat) : Int) := by unfold ut; split <;> omega
 have h64 : zV n d.toNat (max d.toNat 64) = zV n d.toNat 64 := by
  by_cases q : d.toNat ≤ 64
  ·rw [Nat.max_eq_right q]
  ·rw [Nat.max_eq_left (by omega), Xi _ _ _ (Nat.le_refl _), Xi _ _ _ (by omega)]
 have ha : d.toNat ≤ 1000 := by omega
 have main : ∀ a : Nat, a ≤ 1000 → zV n a (max a 64) = zV n d.toNat 64 → ut d 0 = (a : Int) → Pure Tryz.prog 241 [.fn (.func 242) [U n] [], I d] (L (zV n d.toNat 64)) := by
  intro a ha h64 hmax
  refine pwe Tryz.func241 Tryz.ntmps241 Tryz.results241 fun S nx hd => ?_
  (repeat apply za); refine pwn ?_; intros
  (repeat apply za); refine pwn ?_; intros
  refine za (yQ 5 3 1 rfl fun v1 => ?_)
  repeat apply za
  refine pwN [] hmax ?_
  intros
  repeat apply za
  refine ze (zq (fun s : Nat × List Int × Nat => a ≤ s.1 ∧ s.1 ≤ max a 64 ∧ s.2.1 = zV n a s.1) (fun (k, out, v1) => [(0, .fn (.func 242) [U n] []), (5, .sl nx v1 1 0 out.length), (6, I k)]) (fun (k, out, v1) => [.cells v1 3 (out.flatMap Enc.enc)]) (fun s => max a 64 - s.1) (a, [], v1) [] (by simp [Xi]; omega) (by simp) (by simp) ?_)
  rintro ⟨k, out, v1⟩ ⟨hk0, hk, ho⟩
  simp only at hk0 hk ho ⊢
  have hol : out.length ≤ k := by rw [ho]; exact uk _ _ _
  (repeat apply za); refine pwn ?_; intros
  repeat apply za
  refine zl rfl (fun hc => ?_) (fun hc => ?_)
  ·simp at hc
   have hc' : k < 64 := by omega
   refine zd (za (ze ?_))
   repeat apply za
   refine pwn ?_
   refine pwc (Zh2 n k hn) ?_
   intros
   have hs := ZaV n a k hk0
   repeat apply za
   refine zl rfl (fun hb => ?_) (fun hb => ?_)
   ·simp at hb
    repeat apply za
    refine pwn ?_
    refine ⟨by omega, ?_⟩
    intros
    (repeat apply za); refine pwn ?_; intros
    exact zk (k + 1, out ++ [(k : Int)], v1 + 1) [] ⟨by omega, by omega, by rw [hs, if_pos hb.2, ho]⟩ (by simp; omega) (by simp [wrN k (by omega)]) rfl (by simp)
   ·have hb' : ¬ yv n k = 1 := by simp at hb; exact hb (by omega)
    refine zd ?_
    (repeat apply za); refine pwn ?_; intros
    exact zk (k + 1, out, v1) [] ⟨by omega, by omega, by rw [hs, if_neg hb', ho]; simp⟩ (by simp; omega) (by simp [wrN k (by omega)]) rfl (by simp)
  ·simp at hc
   obtain rfl : k = max a 64 := by omega
   refine zm ?_
   (repeat apply za); refine pwn ?_; intros
   refine zB 0 rfl ?_
   repeat apply za
   exact zb (zg hd (by simp; rfl) (by simp [ho, h64, zi]))
 exact main d.toNat ha h64 hmax
def vw (n : Nat) (d : Int) : Int := (zV n d.toNat 64).headD (-1)
open Go
def zz (n lo hi : Int) : Bool := decide (lo ≤ n ∧ n ≤ hi)
def ul (c : Cust) (days : Int) : Bool := (c.pats.all fun p => decide (vw p days < 0)) && zz c.pats.length 1 64
def xG (c : Cust) : Bool := decide (c.rate = 0 ∧ c.size = 0 ∧ c.start = 0 ∧ c.rule = 0 ∧ c.hold = 0)
def wO (c : Cust) : Bool := decide (c.rule = 1 ∨ c.rule = 2)
def vx (c : Cust) : Bool := decide (c.pats.length = 0 ∧ c.demand = 0)
structure Must where
 f : FuncId
 b : Bool
instance : Enc Must := ⟨fun m => [.fn (.func m.f) [] []], 1, fun _ => rfl, fun _ => rfl⟩
@[simp] theorem ZlQ (m : Must) : Enc.enc m = [.fn (.func m.f) [] []] := rfl
@[simp high] theorem ZlR (l : List Must) : (l.flatMap Enc.enc).length = l.length := (jf l).trans (Nat.mul_one _)
def xk (c : Cust) (d : Int) : Bool :=
 if c.kind = 1 then (zz c.demand 1 2147483648 && ul c d && xG c)
 else if c.kind = 2 then (zz c.rate 0 2147483648 && zz c.size 1 2147483648 && zz c.start 0 c.size && wO c && zz c.hold 0 1024 && vx c) else false
open Go
def vy (n : Nat) : Nat → List (List Int) → Bool
 | _, [] => true
 | a, row :: l => (decide (row.length = n) && decide (row.getD a 0 = 0) && row.all (zz · 0 2147483648)) && vy n (a + 1) l
def Xj (l : List (List Int)) (n : Nat) : Bool := decide (l.length = n) && vy n 0 l
def qt (x : Inst) : Bool :=
 zz x.days 1 64 && decide (x.cust.length ≤ 2000) && zz x.veh 0 2147483648 && zz x.cap 0 2147483648 && zz x.len 0 2147483648 && x.cust.all (xk · x.days) && Xj x.dist (x.cust.length + 1)
open Go
set_option maxRecDepth 20000 in
theorem ZaW (n : Nat) (hn : n < 2 ^ 64) : Pure Tryz.prog 99 [U n] (L (zV n 0 64)) := by
 have hl := vS n
 refine pwe Tryz.func99 Tryz.ntmps99 Tryz.results99 fun S nx hd => ?_
 (repeat apply za); refine pwn ?_; intros
 (repeat apply za); refine pwn ?_; intros
 refine za (yQ 3 3 1 rfl fun v1 => ?_)
 repeat apply za
 refine pwn ?_
 refine pwc (WF n hn) ?_
 intros
 (repeat apply za); refine pwn ?_; intros
 repeat apply za
 refine ze (zq (fun s : Nat × List Int × Nat => s.1 ≤ 64 ∧ s.2.1 = zV n 0 s.1) (fun (k, out, v1) => [(3, .sl nx v1 1 0 out.length), (4, L (yY n)), (5, I k)]) (fun (k, out, v1) => [.cells v1 3 (out.flatMap Enc.enc)]) (fun s => 64 - s.1) (0, [], v1) [] (by simp [zV]) (by simp) (by simp) ?_)
 rintro ⟨k, out, v1⟩ ⟨hk, ho⟩
 simp only at hk ho ⊢
 have hol : out.length ≤ k := by rw [ho]; exact uk _ _ _
 have hs := ZaV n 0 k (by omega)
 (repeat apply za); refine pwn ?_; intros
 repeat apply za
 refine zl rfl (fun hc => ?_) (fun hc => ?_)
 ·simp at hc
  have hc' : k < 64 := by omega
  obtain ⟨b, tl, a1, a2, a3, e0⟩ := el1 rfl (yY n) k (by omega)
  rw [Q7 n k hc'] at a1; cases a1
  have g1 : (k : Int) < 64 := by omega
  refine zd (za (ze ?_))
  repeat apply za
  refine pwN [] (jn3 e0 hl g1) ?_
  intros
  repeat apply za
  refine zl rfl (fun hb => ?_) (fun hb => ?_)
  ·have hb' : yv n k = 1 := by simp at hb; omega
   repeat apply za
   refine pwn ?_
   refine ⟨by omega, ?_⟩
   intros
   (repeat apply za); refine pwn ?_; intros
   exact zk (k + 1, out ++ [(k : Int)], v1 + 1) [] ⟨by omega, by rw [hs, if_pos hb', ho]⟩ (by simp; omega) (by simp [wrN k (by omega)]) rfl (by simp)
  ·have hb' : ¬ yv n k = 1 := by simp at hb; omega
   refine zd ?_
   (repeat apply za); refine pwn ?_; intros
   exact zk (k + 1, out, v1) [] ⟨by omega, by rw [hs, if_neg hb', ho]; simp⟩ (by simp; omega) (by simp [wrN k (by omega)]) rfl (by simp)
 ·simp at hc
  obtain rfl : k = 64 := by omega
  refine zm ?_
  (repeat apply za); refine pwn ?_; intros
  refine zB 0 rfl ?_
  repeat apply za
  exact zb (zg hd (by simp; rfl) (by simp [ho, zi]))
theorem Zh4 (n : Nat) (d : Int) : zV n d.toNat 64 = (zV n 0 64).filter fun x => decide (d ≤ x) := by
 simp only [zV, List.filter_map, List.filter_filter, Nat.zero_le, decide_true, Bool.true_and]
 congr 1
 apply List.filter_congr
 intro i _
 have : (d.toNat ≤ i) = (d ≤ (i : Int)) := propext ⟨fun h => by omega, fun h => by omega⟩
 simp only [Function.comp, this]
set_option maxRecDepth 20000 in
theorem Zh5 (n : Nat) (d : Int) (hn : n < 2 ^ 64) : Pure Tryz.prog 133 [U n, I d] (I (vw n d)) := by
 have hln := uk n 0 64
 have hnx : vw n d = ((zV n 0 64).filter fun x => decide (d ≤ x)).headD (-1) := by rw [vw, Zh4]
 have hall := ZaW n hn
 generalize zV n 0 64 = l at hln hnx hall
 refine pwe Tryz.func133 Tryz.ntmps133 Tryz.results133 fun S nx hd => ?_
 (repeat apply za); refine pwn ?_; intros
 repeat apply za
 refine pwn ?_
 refine pwc hall ?_
 intros
 (repeat apply za); refine pwn ?_; intros
 repeat apply za
 refine ze (zq (fun s : Nat => s ≤ l.length ∧ vw n d = ((l.drop s).filter fun x => decide (d ≤ x)).headD (-1)) (fun k => [(1, I d), (5, L l), (6, I k)]) (fun _ => []) (fun s => l.length - s) 0 [] (by simp [hnx]) (by simp) (by simp) ?_)
 rintro k ⟨hk, ho⟩
 (repeat apply za); refine pwn ?_; intros
 repeat apply za
 refine zl rfl (fun hc => ?_) (fun hc => ?_)
 ·simp at hc
  obtain ⟨e, tl, a1, a2, a3, e0⟩ := el1 rfl l k hc
  rw [a2] at ho
  refine zd (za (ze ?_))
  repeat apply za
  refine pwN [] (jn2 e0 hc) ?_
  intros
  repeat apply za
  refine zl rfl (fun h => ?_) (fun h => ?_)
  ·simp at h
   repeat apply za
   refine pwN [] (jn2 e0 hc) ?_
   intros
   repeat apply za
   exact zb (zg hd (by simp; rfl) (by rw [ho]; simp [h, zi]))
  ·simp at h
   refine zd ?_
   (repeat apply za); refine pwn ?_; intros
   exact zk (k + 1) [] ⟨hc, by rw [ho]; simp [h]⟩ (by omega) (by simp [wrN k (by omega)]) rfl (by simp)
 ·simp at hc
  obtain rfl : k = l.length := by omega
  rw [List.drop_length] at ho
  refine zm ?_
  (repeat apply za); refine pwn ?_; intros
  repeat apply za
  exact zb (zg hd (by simp; rfl) (by rw [ho]; rfl))
theorem Xk (c : Cust) (d : Int) (h : c.kind = 1) : xk c d = (zz c.demand 1 2147483648 && ul c d && xG c) := by simp [xk, h]
theorem Xl (c : Cust) (d : Int) (h : c.kind = 2) : xk c d = (zz c.rate 0 2147483648 && zz c.size 1 2147483648 && zz c.start 0 c.size && wO c && zz c.hold 0 1024 && vx c) := by simp [xk, h]
theorem ZaX (c : Cust) (d : Int) (h : ¬ c.kind = 1) (h2 : ¬ c.kind = 2) : xk c d = false := by simp [xk, h, h2]
set_option maxRecDepth 20000 in
theorem Zh6 (c : Cust) (d : Int) (hp : ∀ p ∈ c.pats, p < 2 ^ 64) (hl : c.pats.length ≤ 9223372036854775807) : Pure Tryz.prog 95 [.agg (zN c), I d] (B (xk c d)) := by
 refine pwe Tryz.func95 Tryz.ntmps95 Tryz.results95 fun S nx hd => ?_
 repeat apply za
 refine pwn ?_
 intro v0
 (repeat apply za); refine pwn ?_; intros
 repeat apply za
 refine zl rfl (fun hk1 => ?_) (fun hk1 => ?_)
 ·simp at hk1
  rw [Xk c d hk1]
  by_cases h1 : c.demand < 1
  ·repeat apply za
   refine pwN [(3, 12), (8, 17), (14, 23), (20, 29), (25, 34), (30, 39), (35, 44), (40, 49)] (jn2 h1 zn) ?_
   intros
   repeat apply za
   refine zh rfl ?_
   (repeat apply za); refine pwn ?_; intros
   repeat apply za
   exact zb (zg hd rfl (by simp only [zz, show ¬ (1 ≤ c.demand ∧ c.demand ≤ 2147483648) by omega]; rfl))
  by_cases h2 : (2147483648 : Int) < c.demand
  ·repeat apply za
   refine pwN [(3, 12), (8, 17), (14, 23), (20, 29), (25, 34), (30, 39), (35, 44), (40, 49)] (jn3 h2 h1 zn) ?_
   intros
   repeat apply za
   refine zh rfl ?_
   (repeat apply za); refine pwn ?_; intros
   repeat apply za
   exact zb (zg hd rfl (by simp only [zz, show ¬ (1 ≤ c.demand ∧ c.demand ≤ 2147483648) by omega]; rfl))
  by_cases h3 : c.pats = []
  ·repeat apply za
   refine pwN [(3, 12), (8, 17), (14, 23), (20, 29), (25, 34), (30, 39), (35, 44), (40, 49)] (jn4 h3 h1 h2 zn) ?_
   intros
   repeat apply za
   refine zh rfl ?_
   (repeat apply za); refine pwn ?_; intros
   repeat apply za
   exact zb (zg hd rfl (by simp [ul, h3, zz, zi]))
  have h3' : ¬ (c.pats.length : Int) < 1 := by have := List.length_pos_iff.2 h3; omega
  by_cases h4 : (64 : Int) < (c.pats.length : Int)
  ·repeat apply za
   refine pwN [(3, 12), (8, 17), (14, 23), (20, 29), (25, 34), (30, 39), (35, 44), (40, 49)] (jn6 h4 h1 h2 h3 h3' zn) ?_
   intros
   repeat apply za
   refine zh rfl ?_
   (repeat apply za); refine pwn ?_; intros
   repeat apply za
   exact zb (zg hd rfl (by simp [ul, zz, zi, show ¬ ((c.pats.length : Int) ≤ 64) by omega]))
  by_cases h5 : c.rate = 0
  case neg =>
   repeat apply za
   refine pwN [(3, 12), (8, 17), (14, 23), (20, 29), (25, 34), (30, 39), (35, 44), (40, 49)] (jn6 h5 h1 h2 h3 h3' (jn2 h4 zn)) ?_
   intros
   repeat apply za
   refine zh rfl ?_
   (repeat apply za); refine pwn ?_; intros
   repeat apply za
   exact zb (zg hd rfl (by simp [xG, h5, zi]))
  by_cases h6 : c.size = 0
  case neg =>
   repeat apply za
   refine pwN [(3, 12), (8, 17), (14, 23), (20, 29), (25, 34), (30, 39), (35, 44), (40, 49)] (jn6 h6 h1 h2 h3 h3' (jn3 h4 h5 zn)) ?_
   intros
   repeat apply za
   refine zh rfl ?_
   (repeat apply za); refine pwn ?_; intros
   repeat apply za
   exact zb (zg hd rfl (by simp [xG, h6, zi]))
  by_cases h7 : c.start = 0
  case neg =>
   repeat apply za
   refine pwN [(3, 12), (8, 17), (14, 23), (20, 29), (25, 34), (30, 39), (35, 44), (40, 49)] (jn6 h7 h1 h2 h3 h3' (jn4 h4 h5 h6 zn)) ?_
   intros
   repeat apply za
   refine zh rfl ?_
   (repeat apply za); refine pwn ?_; intros
   repeat apply za
   exact zb (zg hd rfl (by simp [xG, h7, zi]))
  by_cases h8 : c.rule = 0
  case neg =>
   repeat apply za
   refine pwN [(3, 12), (8, 17), (14, 23), (20, 29), (25, 34), (30, 39), (35, 44), (40, 49)] (jn6 h8 h1 h2 h3 h3' (jn5 h4 h5 h6 h7 zn)) ?_
   intros
   repeat apply za
   refine zh rfl ?_
   (repeat apply za); refine pwn ?_; intros
   repeat apply za
   exact zb (zg hd rfl (by simp [xG, h8, zi]))
  by_cases h9 : c.hold = 0
  case neg =>
   repeat apply za
   refine pwN [(3, 12), (8, 17), (14, 23), (20, 29), (25, 34), (30, 39), (35, 44), (40, 49)] (jn6 h9 h1 h2 h3 h3' (jn6 h4 h5 h6 h7 h8 zn)) ?_
   intros
   repeat apply za
   refine zh rfl ?_
   (repeat apply za); refine pwn ?_; intros
   repeat apply za
   exact zb (zg hd rfl (by simp [xG, h9, zi]))
  repeat apply za
  refine pwN [(3, 12), (8, 17), (14, 23), (20, 29), (25, 34), (30, 39), (35, 44), (40, 49)] (jn6 h1 h2 h3 h3' h4 (jn5 h5 h6 h7 h8 h9)) ?_
  intros
  repeat apply za
  refine zj rfl ?_
  refine zd ?_
  have hres : (zz c.demand 1 2147483648 && ul c d && xG c) = c.pats.all fun p => decide (vw p d < 0) := by
   have e1 : zz c.demand 1 2147483648 = true := by simp [zz]; omega
   have e2 : zz c.pats.length 1 64 = true := by simp [zz]; omega
   have e3 : xG c = true := by simp [xG, h5, h6, h7, h8, h9]
   rw [e1, e3, ul, e2]; simp
  rw [hres]
  (repeat apply za); refine pwn ?_; intros
  repeat apply za
  refine ze (zq (fun s : Nat => s ≤ c.pats.length ∧ (c.pats.take s).all (fun p => decide (vw p d < 0)) = true) (fun k => [(1, I d), (2, .ptr nx v0 0), (5, I k)]) (fun _ => [.cells v0 41 (zN c)]) (fun s => c.pats.length - s) 0 [] (by simp) (by simp) (by simp) ?_)
  rintro k ⟨hk, ho⟩
  (repeat apply za); refine pwn ?_; intros
  repeat apply za
  refine zl rfl (fun hc => ?_) (fun hc => ?_)
  ·simp at hc
   obtain ⟨p, tl, a1, a2, a3, e0⟩ := el1 rfl c.pats k hc
   have hpm := List.mem_of_getElem? a1
   refine zd (za (ze ?_))
   repeat apply za
   refine pwN [] (jn2 e0 hc) ?_
   refine pwc (Zh5 p d (hp p hpm)) ?_
   intros
   repeat apply za
   refine zl rfl (fun h => ?_) (fun h => ?_)
   ·simp at h
    have hr2 : (c.pats.all fun p => decide (vw p d < 0)) = false := by rw [List.all_eq_false]; exact ⟨p, hpm, by simp; omega⟩
    (repeat apply za); refine pwn ?_; intros
    repeat apply za
    exact zb (zg hd (by simp; rfl) (by simp only [hr2, zi]))
   ·simp at h
    refine zd ?_
    (repeat apply za); refine pwn ?_; intros
    exact zk (k + 1) [] ⟨hc, by rw [a3, List.all_append, ho]; simp [h]⟩ (by omega) (by simp [wrN k (by omega)]) rfl (by simp)
  ·simp at hc
   obtain rfl : k = c.pats.length := by omega
   rw [List.take_length] at ho
   refine zm ?_
   (repeat apply za); refine pwn ?_; intros
   repeat apply za
   exact zb (zg hd (by simp; rfl) (by rw [ho]; rfl))
 ·simp at hk1
  refine zd ?_
  by_cases hk2 : c.kind = 2
  ·rw [Xl c d hk2]
   by_cases h1 : 0 < c.pats.length
   ·repeat apply za
    refine pwN [(3, 72), (9, 78)] (jn3 h1 hk2 zn) ?_
    intros
    repeat apply za
    refine zh rfl ?_
    (repeat apply za); refine pwn ?_; intros
    repeat apply za
    exact zb (zg hd rfl (by simp [vx, List.ne_nil_of_length_pos h1, zi]))
   have h1' : c.pats = [] := List.eq_nil_of_length_eq_zero (by omega)
   by_cases h2 : c.demand = 0
   case neg =>
    repeat apply za
    refine pwN [(3, 72), (9, 78)] (jn4 h2 hk2 h1 zn) ?_
    intros
    repeat apply za
    refine zh rfl ?_
    (repeat apply za); refine pwn ?_; intros
    repeat apply za
    exact zb (zg hd rfl (by simp [vx, h2, zi]))
   repeat apply za
   refine pwN [(3, 72), (9, 78)] (jn3 hk2 h1 h2) ?_
   intros
   repeat apply za
   refine zj rfl ?_
   refine zd ?_
   by_cases h3 : c.rate < 0
   ·repeat apply za
    refine pwN [(3, 86), (8, 91), (13, 96), (18, 101), (23, 106)] (jn2 h3 zn) ?_
    intros
    repeat apply za
    refine zh rfl ?_
    (repeat apply za); refine pwn ?_; intros
    repeat apply za
    exact zb (zg hd rfl (by simp only [zz, show ¬ (0 ≤ c.rate ∧ c.rate ≤ 2147483648) by omega]; rfl))
   by_cases h4 : (2147483648 : Int) < c.rate
   ·repeat apply za
    refine pwN [(3, 86), (8, 91), (13, 96), (18, 101), (23, 106)] (jn3 h4 h3 zn) ?_
    intros
    repeat apply za
    refine zh rfl ?_
    (repeat apply za); refine pwn ?_; intros
    repeat apply za
    exact zb (zg hd rfl (by simp only [zz, show ¬ (0 ≤ c.rate ∧ c.rate ≤ 2147483648) by omega]; rfl))
   by_cases h5 : c.size < 1
   ·repeat apply za
    refine pwN [(3, 86), (8, 91), (13, 96), (18, 101), (23, 106)] (jn4 h5 h3 h4 zn) ?_
    intros
    repeat apply za
    refine zh rfl ?_
    (repeat apply za); refine pwn ?_; intros
    repeat apply za
    exact zb (zg hd rfl (by simp [zz, zi, show ¬ 1 ≤ c.size by omega]))
   by_cases h6 : (2147483648 : Int) < c.size
   ·repeat apply za
    refine pwN [(3, 86), (8, 91), (13, 96), (18, 101), (23, 106)] (jn5 h6 h3 h4 h5 zn) ?_
    intros
    repeat apply za
    refine zh rfl ?_
    (repeat apply za); refine pwn ?_; intros
    repeat apply za
    exact zb (zg hd rfl (by simp [zz, zi, show ¬ c.size ≤ 2147483648 by omega]))
   by_cases h7 : c.start < 0
   ·repeat apply za
    refine pwN [(3, 86), (8, 91), (13, 96), (18, 101), (23, 106)] (jn6 h7 h3 h4 h5 h6 zn) ?_
    intros
    repeat apply za
    refine zh rfl ?_
    (repeat apply za); refine pwn ?_; intros
    repeat apply za
    exact zb (zg hd rfl (by simp [zz, zi, show ¬ 0 ≤ c.start by omega]))
   by_cases h8 : c.size < c.start
   ·repeat apply za
    refine pwN [(3, 86), (8, 91), (13, 96), (18, 101), (23, 106)] (jn6 h8 h3 h4 h5 h6 (jn2 h7 zn)) ?_
    intros
    repeat apply za
    refine zh rfl ?_
    (repeat apply za); refine pwn ?_; intros
    repeat apply za
    exact zb (zg hd rfl (by simp [zz, zi, show ¬ c.start ≤ c.size by omega]))
   repeat apply za
   refine pwN [(3, 86), (8, 91), (13, 96), (18, 101), (23, 106)] (jn6 h3 h4 h5 h6 h7 h8) ?_
   intros
   repeat apply za
   refine zj rfl ?_
   refine zd ?_
   have hres : (zz c.rate 0 2147483648 && zz c.size 1 2147483648 && zz c.start 0 c.size && wO c && zz c.hold 0 1024 && vx c) = (wO c && zz c.hold 0 1024) := by
    have e1 : zz c.rate 0 2147483648 = true := by simp [zz]; omega
    have e2 : zz c.size 1 2147483648 = true := by simp [zz]; omega
    have e3 : zz c.start 0 c.size = true := by simp [zz]; omega
    have e4 : vx c = true := by simp [vx, h1', h2]
    rw [e1, e2, e3, e4]; simp
   rw [hres]
   by_cases r1 : c.rule = 1
   ·by_cases r3 : 0 ≤ c.hold
    ·repeat apply za
     refine pwN [(3, 116), (8, 121), (13, 126)] (jn3 r1 r3 zn) ?_
     intros
     repeat apply za
     exact zb (zg hd (by simp; rfl) (by simp [wO, r1, zz, r3, zi]))
    ·repeat apply za
     refine pwN [(3, 116), (8, 121), (13, 126)] (jn3 r1 r3 zn) ?_
     intros
     repeat apply za
     exact zb (zg hd (by simp; rfl) (by simp [wO, r1, zz, r3, zi]))
   ·by_cases r2 : c.rule = 2
    ·by_cases r3 : 0 ≤ c.hold
     ·repeat apply za
      refine pwN [(3, 116), (8, 121), (13, 126)] (jn4 r1 r2 r3 zn) ?_
      intros
      repeat apply za
      exact zb (zg hd (by simp; rfl) (by simp [wO, r2, zz, r3, zi]))
     ·repeat apply za
      refine pwN [(3, 116), (8, 121), (13, 126)] (jn4 r1 r2 r3 zn) ?_
      intros
      repeat apply za
      exact zb (zg hd (by simp; rfl) (by simp [wO, r2, zz, r3, zi]))
    ·repeat apply za
     refine pwN [(3, 116), (8, 121), (13, 126)] (jn3 r1 r2 zn) ?_
     intros
     repeat apply za
     exact zb (zg hd (by simp; rfl) (by simp [wO, r1, r2, zi]))
  ·rw [ZaX c d hk1 hk2]
   have hk2' : (c.kind != 2) = true := by simpa using hk2
   repeat apply za
   refine pwN [(3, 72), (9, 78)] (jn2 hk2' zn) ?_
   intros
   repeat apply za
   refine zh rfl ?_
   (repeat apply za); refine pwn ?_; intros
   repeat apply za
   exact zb (zg hd (by simp; rfl) rfl)
open Go
set_option maxRecDepth 20000 in
theorem Zh7 (x : Inst) (hx : InstOk x) : Pure Tryz.prog 57 [.agg (zo x)] (B (qt x)) := by
 have hnc := hx.ncust
 refine pwe Tryz.func57 Tryz.ntmps57 Tryz.results57 fun S nx hd => ?_
 repeat apply za
 refine pwn ?_
 intro v0
 (repeat apply za); refine pwn ?_; intros
 by_cases h1 : x.days < 1
 ·repeat apply za
  refine pwN [(3, 14), (8, 19), (13, 24), (18, 29), (23, 34), (28, 39), (33, 44), (38, 49), (42, 53)] (jn2 h1 zn) ?_
  intros
  repeat apply za
  refine zh rfl ?_
  (repeat apply za); refine pwn ?_; intros
  repeat apply za
  exact zb (zg hd rfl (by simp [qt, zz, zi, show ¬ 1 ≤ x.days by omega]))
 by_cases h2 : (64 : Int) < x.days
 ·repeat apply za
  refine pwN [(3, 14), (8, 19), (13, 24), (18, 29), (23, 34), (28, 39), (33, 44), (38, 49), (42, 53)] (jn3 h2 h1 zn) ?_
  intros
  repeat apply za
  refine zh rfl ?_
  (repeat apply za); refine pwn ?_; intros
  repeat apply za
  exact zb (zg hd rfl (by simp [qt, zz, zi, show ¬ x.days ≤ 64 by omega]))
 by_cases h3 : x.veh < 0
 ·repeat apply za
  refine pwN [(3, 14), (8, 19), (13, 24), (18, 29), (23, 34), (28, 39), (33, 44), (38, 49), (42, 53)] (jn4 h3 h1 h2 zn) ?_
  intros
  repeat apply za
  refine zh rfl ?_
  (repeat apply za); refine pwn ?_; intros
  repeat apply za
  exact zb (zg hd rfl (by simp [qt, zz, zi, show ¬ 0 ≤ x.veh by omega]))
 by_cases h4 : (2147483648 : Int) < x.veh
 ·repeat apply za
  refine pwN [(3, 14), (8, 19), (13, 24), (18, 29), (23, 34), (28, 39), (33, 44), (38, 49), (42, 53)] (jn5 h4 h1 h2 h3 zn) ?_
  intros
  repeat apply za
  refine zh rfl ?_
  (repeat apply za); refine pwn ?_; intros
  repeat apply za
  exact zb (zg hd rfl (by simp [qt, zz, zi, show ¬ x.veh ≤ 2147483648 by omega]))
 by_cases h5 : x.cap < 0
 ·repeat apply za
  refine pwN [(3, 14), (8, 19), (13, 24), (18, 29), (23, 34), (28, 39), (33, 44), (38, 49), (42, 53)] (jn6 h5 h1 h2 h3 h4 zn) ?_
  intros
  repeat apply za
  refine zh rfl ?_
  (repeat apply za); refine pwn ?_; intros
  repeat apply za
  exact zb (zg hd rfl (by simp [qt, zz, zi, show ¬ 0 ≤ x.cap by omega]))
 by_cases h6 : (2147483648 : Int) < x.cap
 ·repeat apply za
  refine pwN [(3, 14), (8, 19), (13, 24), (18, 29), (23, 34), (28, 39), (33, 44), (38, 49), (42, 53)] (jn6 h6 h1 h2 h3 h4 (jn2 h5 zn)) ?_
  intros
  repeat apply za
  refine zh rfl ?_
  (repeat apply za); refine pwn ?_; intros
  repeat apply za
  exact zb (zg hd rfl (by simp [qt, zz, zi, show ¬ x.cap ≤ 2147483648 by omega]))
 by_cases h7 : x.len < 0
 ·repeat apply za
  refine pwN [(3, 14), (8, 19), (13, 24), (18, 29), (23, 34), (28, 39), (33, 44), (38, 49), (42, 53)] (jn6 h7 h1 h2 h3 h4 (jn3 h5 h6 zn)) ?_
  intros
  repeat apply za
  refine zh rfl ?_
  (repeat apply za); refine pwn ?_; intros
  repeat apply za
  exact zb (zg hd rfl (by simp [qt, zz, zi, show ¬ 0 ≤ x.len by omega]))
 by_cases h8 : (2147483648 : Int) < x.len
 ·repeat apply za
  refine pwN [(3, 14), (8, 19), (13, 24), (18, 29), (23, 34), (28, 39), (33, 44), (38, 49), (42, 53)] (jn6 h8 h1 h2 h3 h4 (jn4 h5 h6 h7 zn)) ?_
  intros
  repeat apply za
  refine zh rfl ?_
  (repeat apply za); refine pwn ?_; intros
  repeat apply za
  exact zb (zg hd rfl (by simp [qt, zz, zi, show ¬ x.len ≤ 2147483648 by omega]))
 by_cases h9 : (2000 : Int) < (x.cust.length : Int)
 ·repeat apply za
  refine pwN [(3, 14), (8, 19), (13, 24), (18, 29), (23, 34), (28, 39), (33, 44), (38, 49), (42, 53)] (jn6 h9 h1 h2 h3 h4 (jn5 h5 h6 h7 h8 zn)) ?_
  intros
  repeat apply za
  refine zh rfl ?_
  (repeat apply za); refine pwn ?_; intros
  repeat apply za
  exact zb (zg hd rfl (by simp [qt, zi, show ¬ x.cust.length ≤ 2000 by omega]))
 have w1 := wrN x.cust.length (by omega)
 have w1' : IntKind.i64.wrap ((x.cust.length : Int) + 1) = (x.cust.length : Int) + 1 := by rw [w1]; omega
 by_cases h10 : (x.dist.length : Int) = (x.cust.length : Int) + 1
 case neg =>
  repeat apply za
  refine pwN [(3, 14), (8, 19), (13, 24), (18, 29), (23, 34), (28, 39), (33, 44), (38, 49), (42, 53)] (jn6 h1 h2 h3 h4 h5 (jn6 h6 h7 h8 h9 h10 w1')) ?_
  intros
  repeat apply za
  refine zh (by simp [h10]) ?_
  (repeat apply za); refine pwn ?_; intros
  repeat apply za
  exact zb (zg hd rfl (by simp [qt, Xj, zi, show ¬ x.dist.length = x.cust.length + 1 by omega]))
 have h10' : x.dist.length = x.cust.length + 1 := by omega
 repeat apply za
 refine pwN [(3, 14), (8, 19), (13, 24), (18, 29), (23, 34), (28, 39), (33, 44), (38, 49), (42, 53)] (jn6 h1 h2 h3 h4 h5 (jn6 h6 h7 h8 h9 h10 w1')) ?_
 intros
 repeat apply za
 refine zj (by simp [h10]) ?_
 refine zd ?_
 have hres : qt x = (x.cust.all (xk · x.days) && vy (x.cust.length + 1) 0 x.dist) := by
  have e1 : zz x.days 1 64 = true := by simp [zz]; omega
  have e2 : zz x.veh 0 2147483648 = true := by simp [zz]; omega
  have e3 : zz x.cap 0 2147483648 = true := by simp [zz]; omega
  have e4 : zz x.len 0 2147483648 = true := by simp [zz]; omega
  have e5 : x.cust.length ≤ 2000 := by omega
  simp [qt, e1, e2, e3, e4, e5, Xj, h10']
 rw [hres]
 clear hres
 (repeat apply za); refine pwn ?_; intros
 repeat apply za
 refine ze (zq (fun s : Nat => s ≤ x.cust.length ∧ (x.cust.take s).all (xk · x.days) = true) (fun k => [(1, .ptr nx v0 0), (3, I x.cust.length), (4, I k)]) (fun _ => [.cells v0 25 (zo x)]) (fun s => x.cust.length - s) 0 [] (by simp) (by simp) (by simp) ?_)
 rintro k ⟨hk, ho⟩
 (repeat apply za); refine pwn ?_; intros
 repeat apply za
 refine zl rfl (fun hc => ?_) (fun hc => ?_)
 ·simp at hc
  obtain ⟨c, tl, a1, a2, a3, _, e0⟩ := el 8 rfl x.cust k hc
  have hcm := List.mem_of_getElem? a1
  have hco := hx.cust c hcm
  refine zd (za (ze ?_))
  repeat apply za
  refine pwY none (Row.pures [0, 1, 2, 3, 4, 5, 6, 7, 8] .done) mixed (jn2 hc e0) ?_
  refine pwP (Zh6 c x.days hco.pats hco.npats) trivial ?_
  intros
  (repeat apply za); refine pwn ?_; intros
  cases hb : xk c x.days with
  | false =>
   have hr2 : x.cust.all (xk · x.days) = false := by rw [List.all_eq_false]; exact ⟨c, hcm, by simp [hb]⟩
   repeat apply za
   refine zh rfl ?_
   (repeat apply za); refine pwn ?_; intros
   repeat apply za
   exact zb (zg hd (by simp; rfl) (by simp only [hr2, zi, Bool.false_and]))
  | true =>
   repeat apply za
   refine zj rfl ?_
   refine zd ?_
   (repeat apply za); refine pwn ?_; intros
   exact zk (k + 1) [] ⟨hc, by rw [a3, List.all_append, ho]; simp [hb]⟩ (by omega) (by simp [wrN k (by omega)]) rfl (by simp)
 ·simp at hc
  obtain rfl : k = x.cust.length := by omega
  rw [List.take_length] at ho
  rw [ho, Bool.true_and]
  refine zm ?_
  (repeat apply za); refine pwn ?_; intros
  generalize hn : x.cust.length = n at *
  repeat apply za
  refine ze (zq (fun s : Nat => s ≤ n + 1 ∧ vy (n + 1) 0 x.dist = vy (n + 1) s (x.dist.drop s)) (fun k => [(1, .ptr nx v0 0), (3, I n), (6, I k)]) (fun _ => [.cells v0 25 (zo x)]) (fun s => n + 1 - s) 0 [] (by simp) (by simp) (by simp) ?_)
  rintro a ⟨ha, hr⟩
  (repeat apply za); refine pwn ?_; intros
  repeat apply za
  refine zl rfl (fun hc2 => ?_) (fun hc2 => ?_)
  ·simp at hc2
   have hal : a < x.dist.length := by omega
   obtain ⟨row, tl, a1, a2, a3, e0⟩ := el1 rfl x.dist a hal
   have hrow := hx.dist row (List.mem_of_getElem? a1)
   rw [a2] at hr
   simp only [vy] at hr
   have bad : (row.length = n + 1 ∧ row.getD a 0 = 0 → row.all (zz · 0 2147483648) = false) → vy (n + 1) 0 x.dist = false := by
    intro q
    rw [hr]
    by_cases q1 : row.length = n + 1
    ·by_cases q2 : row.getD a 0 = 0
     ·rw [q ⟨q1, q2⟩]; simp
     ·simp only [q2, decide_false, Bool.and_false, Bool.false_and]
    ·simp only [q1, decide_false, Bool.and_false, Bool.false_and]
   refine zd (za (ze ?_))
   by_cases h2 : row.length = n + 1
   case neg =>
    have hres := bad (fun q => absurd q.1 h2)
    have h2' : ¬ ((row.length : Int) = (n : Int) + 1) := by omega
    repeat apply za
    refine pwN [] (jn4 hal e0 h2' w1') ?_
    intros
    repeat apply za
    refine zh (by simp [h2']) ?_
    (repeat apply za); refine pwn ?_; intros
    repeat apply za
    exact zb (zg hd (by simp; rfl) (by simp only [hres, zi]))
   have h2' : ((row.length : Int) = (n : Int) + 1) := by omega
   repeat apply za
   refine pwN [] (jn4 hal e0 h2' w1') ?_
   intros
   repeat apply za
   refine zj (by simp [h2']) ?_
   refine zd ?_
   (repeat apply za); refine pwn ?_; intros
   repeat apply za
   refine ze (zq (fun s : Nat => s ≤ n + 1 ∧ (row.take s).all (zz · 0 2147483648) = true ∧ (a < s → row.getD a 0 = 0)) (fun j => [(1, .ptr nx v0 0), (3, I n), (6, I a), (7, I j)]) (fun _ => [.cells v0 25 (zo x)]) (fun s => n + 1 - s) 0 [] (by simp) (by simp) (by simp) ?_)
   rintro b ⟨hb, hr1, hr2⟩
   (repeat apply za); refine pwn ?_; intros
   repeat apply za
   refine zl rfl (fun hc3 => ?_) (fun hc3 => ?_)
   ·simp at hc3
    have hbl : b < row.length := by omega
    obtain ⟨d, tl2, b1, b2, b3, e2⟩ := el1 rfl row b hbl
    have hdm := List.mem_of_getElem? b1
    have hbn : b < n + 1 := by omega
    refine zd (za (ze ?_))
    by_cases g1 : d < 0
    ·have hres := bad (fun _ => by rw [List.all_eq_false]; exact ⟨d, hdm, by simp [zz]; omega⟩)
     repeat apply za
     refine pwN [(9, 104), (20, 115), (24, 119)] (jn6 hal e0 hbl e2 g1 zn) ?_
     intros
     repeat apply za
     refine zh rfl ?_
     (repeat apply za); refine pwn ?_; intros
     repeat apply za
     exact zb (zg hd (by simp; rfl) (by simp only [hres, zi]))
    by_cases g2 : (2147483648 : Int) < d
    ·have hres := bad (fun _ => by rw [List.all_eq_false]; exact ⟨d, hdm, by simp [zz]; omega⟩)
     repeat apply za
     refine pwN [(9, 104), (20, 115), (24, 119)] (jn6 hal e0 hbl e2 g1 (jn2 g2 zn)) ?_
     intros
     repeat apply za
     refine zh rfl ?_
     (repeat apply za); refine pwn ?_; intros
     repeat apply za
     exact zb (zg hd (by simp; rfl) (by simp only [hres, zi]))
    have hfr : zz d 0 2147483648 = true := by simp [zz]; omega
    by_cases g3 : a = b
    ·subst g3
     have hd0 : row.getD a 0 = d := by rw [List.getD_eq_getElem?_getD, b1]; rfl
     by_cases g4 : d = 0
     ·repeat apply za
      refine pwN [(9, 104), (20, 115), (24, 119)] (jn6 hal e0 hbl e2 g1 (jn2 g2 g4)) ?_
      intros
      repeat apply za
      refine zj (by simp) ?_
      refine zd ?_
      (repeat apply za); refine pwn ?_; intros
      exact zk (a + 1) [] ⟨by omega, by rw [b3, List.all_append, hr1]; simp [hfr], fun _ => hd0.trans g4⟩ (by omega) (by simp [wrN a (by omega)]) rfl (by simp)
     ·have hres := bad (fun q => absurd (hd0.symm.trans q.2) g4)
      repeat apply za
      refine pwN [(9, 104), (20, 115), (24, 119)] (jn6 hal e0 hbl e2 g1 (jn2 g2 g4)) ?_
      intros
      repeat apply za
      refine zh (by simp [g4]) ?_
      (repeat apply za); refine pwn ?_; intros
      repeat apply za
      exact zb (zg hd (by simp; rfl) (by simp only [hres, zi]))
    ·have g3' : ¬ ((a : Int) = (b : Int)) := by omega
     repeat apply za
     refine pwN [(9, 104), (20, 115), (24, 119)] (jn6 hal e0 hbl e2 g1 (jn4 g2 g3 g3' zn)) ?_
     intros
     repeat apply za
     refine zj (by simp) ?_
     refine zd ?_
     (repeat apply za); refine pwn ?_; intros
     exact zk (b + 1) [] ⟨by omega, by rw [b3, List.all_append, hr1]; simp [hfr], fun q => hr2 (by omega)⟩ (by omega) (by simp [wrN b (by omega)]) rfl (by simp)
   ·simp at hc3
    obtain rfl : b = n + 1 := by omega
    rw [List.take_of_length_le (by omega)] at hr1
    have h0 := hr2 (by omega)
    refine zm ?_
    (repeat apply za); refine pwn ?_; intros
    exact zk (a + 1) [] ⟨by omega, by rw [hr, hr1, h0]; simp [h2]⟩ (by omega) (by simp [wrN a (by omega)]) rfl (by simp)
  ·simp at hc2
   obtain rfl : a = n + 1 := by omega
   rw [List.drop_of_length_le (by omega)] at hr
   simp only [vy] at hr
   refine zm ?_
   (repeat apply za); refine pwn ?_; intros
   repeat apply za
   exact zb (zg hd (by simp; rfl) (by simp [hr, zi]))
open Go
def Xm (c : Cust) (v : List Visit) : Int := if (v.any fun s => decide (s.q ≠ c.demand)) = true then 9 else if ofD (v.map (·.d)) ∈ c.pats then 0 else 10
def jO (x : Inst) (p : zF) (i : Nat) : Int :=
 match x.cust[i]? with
 | none => 5
 | some c => if c.kind = 2 then u5 c (qO (zQ i (told 0 p)) x.days) else Xm c (zQ i (told 0 p))
structure Serves (x : Inst) (p : zF) : Prop where
 sz : PlanOk p
 q : ∀ s ∈ told 0 p, 0 ≤ s.1.q ∧ s.1.q ≤ 2147483648
 days : p.length ≤ 64
theorem ZaY : ∀ (p : zF) (i : Nat) (x : Stop × Nat), x ∈ told i p → i ≤ x.2 ∧ x.2 < i + p.length
 | [], _, _, h => by cases h
 | d :: p, i, x, h => by
  simp only [told, List.mem_append, List.mem_map] at h
  simp only [List.length_cons]
  rcases h with ⟨s, _, rfl⟩ | h
  ·simp only; omega
  ·have := ZaY p (i + 1) x h; omega
theorem ZaZ {x : Inst} {p : zF} (h : Serves x p) (c : Int) : VisOk (zQ c (told 0 p)) ∧ ∀ s ∈ zQ c (told 0 p), 0 ≤ s.d ∧ s.d ≤ 63 := by
 have hd : ∀ s ∈ zQ c (told 0 p), (0 ≤ s.q ∧ s.q ≤ 2147483648) ∧ 0 ≤ s.d ∧ s.d ≤ 63 := by
  intro s hs
  simp only [zQ, List.mem_map, List.mem_filter] at hs
  obtain ⟨y, ⟨hy, _⟩, rfl⟩ := hs
  have h1 := h.q y hy
  have h2 := ZaY p 0 y hy
  have h3 := h.days
  simp only; omega
 exact ⟨⟨Nat.le_trans (ZaR _ _) h.sz.told, fun s hs => (hd s hs).1, fun s hs => by have := (hd s hs).2; unfold I64; omega⟩, fun s hs => (hd s hs).2⟩
structure CustsOk (x : Inst) : Prop where
 n : x.cust.length ≤ 1048576
 kind : ∀ c ∈ x.cust, c.kind = 1 ∨ c.kind = 2
 fits : ∀ c ∈ x.cust, CustFits c
 pats : ∀ c ∈ x.cust, c.pats.length ≤ 1048576
 plt : ∀ c ∈ x.cust, ∀ p ∈ c.pats, p < 2 ^ 64
open Go
theorem Za0 : ∀ (l : List Int), (∀ b ∈ l, b = 0 ∨ b = 1) → ∀ i : Nat, (qx l).toNat.testBit i = decide (l[i]? = some 1)
 | [], _, i => by simp [qx]
 | b :: l, h, i => by
  have hl : ∀ b ∈ l, b = 0 ∨ b = 1 := fun x hx => h x (by simp [hx])
  have h0 := (Q5 l hl).1
  have hb := h b (by simp)
  have hn : qx (b :: l) = 2 * qx l + b := rfl
  cases i with
  | zero =>
   rw [Nat.testBit_zero, hn]
   simp only [List.getElem?_cons_zero, Option.some.injEq]
   apply decide_eq_decide.2
   omega
  | succ i =>
   rw [Nat.testBit_succ, hn]
   have : (2 * qx l + b).toNat / 2 = (qx l).toNat := by omega
   rw [this, Za0 l hl i]
   simp
theorem Xn (n i : Nat) : n.testBit i = decide (yv n i = 1) := by rw [Nat.testBit_eq_decide_div_mod_eq]; rfl
theorem Za1 (n d : Nat) (hn : n < 2 ^ 64) (hd : d < 64) : uH n d = vp n d := by
 have h01 : ∀ b ∈ (yY n).set d 1, b = 0 ∨ b = 1 := fun b hb => by
  rcases Q8 hb with h | h
  ·exact Q4 n b h
  ·exact .inr h
 apply Nat.eq_of_testBit_eq
 intro i
 unfold uH Zy vp
 rw [Za0 _ h01, if_pos (by omega), Nat.testBit_or, Int.toNat_natCast, Nat.testBit_two_pow, List.getElem?_set]
 have hl := vS n
 by_cases h : d = i
 ·subst h; simp [hl, hd]
 ·rw [if_neg h]
  by_cases hi : i < 64
  ·rw [Q7 n i hi, Xn]
   simp [h]; omega
  ·rw [List.getElem?_eq_none (by omega)]
   have : n.testBit i = false := Nat.testBit_lt_two_pow (Nat.lt_of_lt_of_le hn (Nat.pow_le_pow_right (by decide) (by omega)))
   simp [this, h]
set_option maxRecDepth 20000 in
theorem Zh8 (x : Inst) (p : zF) (i : Nat) (h : Serves x p) (hx : CustsOk x) (hi : i < x.cust.length) : Pure Tryz.prog 59 [.agg (zo x), .agg [L p], I i] (I (jO x p i)) := by
 obtain ⟨c, tl, a1, a2, a3, _, e0⟩ := el 8 rfl x.cust i hi
 have hcm := List.mem_of_getElem? a1
 have hres : jO x p i = if c.kind = 2 then u5 c (qO (zQ i (told 0 p)) x.days) else Xm c (zQ i (told 0 p)) := by simp only [jO, a1]
 rw [hres]
 have g0 : ¬ (i : Int) < 0 := by omega
 have g1 : ¬ (x.cust.length : Int) ≤ (i : Int) := by omega
 have hvi := ZaU p i h.sz
 obtain ⟨hv1, hv2⟩ := ZaZ h i
 generalize zQ (i : Int) (told 0 p) = v at hvi hv1 hv2
 have hvl := hv1.n
 refine pwe Tryz.func59 Tryz.ntmps59 Tryz.results59 fun S nx hd => ?_
 repeat apply za
 refine pwn ?_
 intro v0 v1
 repeat apply za
 refine pwN [(2, 14)] (jn3 g0 g1 hi) ?_
 intros
 repeat apply za
 refine zj (by simp) ?_
 refine zd ?_
 repeat apply za
 refine pwN [] (jn2 hi e0) ?_
 intro v2
 repeat apply za
 refine pwn ?_
 refine pwc hvi ?_
 intros
 (repeat apply za); refine pwn ?_; intros
 by_cases hk : c.kind = 2
 ·have hb := Xh v x.days hv1
  have hh := Xg c (qO v x.days) (hx.fits c hcm) (by rw [Qf]; omega)
  generalize qO v x.days = q at hb hh ⊢
  repeat apply za
  refine zh (by simp [hk]) ?_
  repeat apply za
  refine pwY (some [nx, nx + 2]) (Row.pures [0, 1, 2, 3, 4, 5, 6] .done) mixed trivial ?_
  refine pwP (hb) trivial ?_
  refine pwP (hh) trivial ?_
  intros
  repeat apply za
  exact zb (zg hd (by simp; rfl) (by simp [hk, zi]))
 ·have hpl := hx.pats c hcm
  rw [if_neg hk]
  unfold Xm
  repeat apply za
  refine zj (by simp [hk]) ?_
  refine zd ?_
  (repeat apply za); refine pwn ?_; intros
  (repeat apply za); refine pwn ?_; intros
  repeat apply za
  refine zW (nx := nx) (σ := Unit) (fun _ => (v.any fun s => decide (s.q ≠ c.demand)) = false) (fun _ => [(7, .ptr (nx + 2) v2 0), (9, U (ofD (v.map (·.d))))]) (fun _ => S) (fun _ => [.cells v0 25 (zo x), .cells v1 29 [L p], .cells v2 41 (zN c)]) ?_ ?_
  ·refine ze (zq (fun s : Nat => s ≤ v.length ∧ ((v.take s).any fun s => decide (s.q ≠ c.demand)) = false) (fun k => [(7, .ptr (nx + 2) v2 0), (8, L v), (9, U (ofD ((v.map (·.d)).take k))), (10, I k)]) (fun _ => [.cells v0 25 (zo x), .cells v1 29 [L p], .cells v2 41 (zN c)]) (fun s => v.length - s) 0 [] (by simp) (by simp [ofD]) (by simp) ?_)
   rintro k ⟨hk2, ho⟩
   (repeat apply za); refine pwn ?_; intros
   repeat apply za
   refine zl rfl (fun hc1 => ?_) (fun hc1 => ?_)
   ·simp at hc1
    obtain ⟨s, tl2, b1, b2, b3, e1, e2⟩ := el 2 rfl v k hc1
    have e21 := e1 1 (by omega)
    have hs := hv2 s (List.mem_of_getElem? b1)
    have hol := ZhH ((v.map (·.d)).take k)
    refine zd (za (ze ?_))
    by_cases hq : s.q = c.demand
    ·repeat apply za
     refine pwY (some [nx + 2]) (Row.pures [0, 1, 2, 3, 4, 5, 6, 7] .done) mixed (jn3 hc1 e21 hq) ?_
     intros
     repeat apply za
     refine zj (by simp) ?_
     refine zd ?_
     obtain ⟨dn, hdn⟩ := Int.eq_ofNat_of_zero_le hs.1
     have hpt := WH (ofD ((v.map (·.d)).take k)) s.d hol hs.1 hs.2
     rw [(Q9 _ _).1, hdn, Int.toNat_natCast, Za1 _ dn hol (by omega)] at hpt
     have hnx : vp (ofD ((v.map (·.d)).take k)) dn = ofD ((v.map (·.d)).take (k + 1)) := by rw [← List.map_take, ← List.map_take, b3]; simp [ofD, hdn]
     rw [hnx] at hpt
     repeat apply za
     refine pwN [] (jn3 hc1 e2 hdn) ?_
     refine pwc hpt ?_
     intros
     (repeat apply za); refine pwn ?_; intros
     exact zk (k + 1) [] ⟨hc1, by rw [b3, List.any_append, ho]; simp [hq]⟩ (by omega) (by simp [wrN k (by omega)]) rfl (by simp)
    ·have hany : (v.any fun s => decide (s.q ≠ c.demand)) = true := by rw [List.any_eq_true]; exact ⟨s, List.mem_of_getElem? b1, by simpa using hq⟩
     repeat apply za
     refine pwY (some [nx + 2]) (Row.pures [0, 1, 2, 3, 4, 5, 6, 7] .done) mixed (jn3 hc1 e21 hq) ?_
     intros
     repeat apply za
     refine zh (by simp [hq]) ?_
     (repeat apply za); refine pwn ?_; intros
     repeat apply za
     exact zb (zg hd (by simp; rfl) (by rw [if_pos hany]; rfl))
   ·simp at hc1
    obtain rfl : k = v.length := by omega
    rw [List.take_length] at ho
    have htl : (v.map (·.d)).take v.length = v.map (·.d) := List.take_of_length_le (by simp)
    exact zm (zu () [] ho (by simp [htl]) rfl (by simp))
  intro _ ho
  rw [ho]
  generalize ofD (v.map (·.d)) = set
  (repeat apply za); refine pwn ?_; intros
  repeat apply za
  refine ze (zq (fun s : Nat => s ≤ c.pats.length ∧ set ∉ c.pats.take s) (fun k => [(7, .ptr (nx + 2) v2 0), (9, U set), (11, I k)]) (fun _ => [.cells v0 25 (zo x), .cells v1 29 [L p], .cells v2 41 (zN c)]) (fun s => c.pats.length - s) 0 [] (by simp) (by simp) (by simp) ?_)
  rintro k ⟨hk2, hno⟩
  (repeat apply za); refine pwn ?_; intros
  repeat apply za
  refine zl rfl (fun hc1 => ?_) (fun hc1 => ?_)
  ·simp at hc1
   obtain ⟨q, tl2, b1, b2, b3, e2⟩ := el1 rfl c.pats k hc1
   refine zd (za (ze ?_))
   by_cases hq : q = set
   ·subst hq
    repeat apply za
    refine pwN [] (jn2 hc1 e2) ?_
    intros
    repeat apply za
    refine zh (by simp) ?_
    (repeat apply za); refine pwn ?_; intros
    repeat apply za
    exact zb (zg hd (by simp; rfl) (by simp [List.mem_of_getElem? b1, zi]))
   ·have hq' : ¬ ((q : Int) = (set : Int)) := by omega
    repeat apply za
    refine pwN [] (jn4 hc1 e2 hq hq') ?_
    intros
    repeat apply za
    refine zj (by simp) ?_
    refine zd ?_
    (repeat apply za); refine pwn ?_; intros
    exact zk (k + 1) [] ⟨hc1, by rw [b3]; simp; exact ⟨hno, fun e => hq e.symm⟩⟩ (by omega) (by simp [wrN k (by omega)]) rfl (by simp)
  ·simp at hc1
   obtain rfl : k = c.pats.length := by omega
   rw [List.take_length] at hno
   refine zm ?_
   (repeat apply za); refine pwn ?_; intros
   repeat apply za
   exact zb (zg hd (by simp; rfl) (by simp [hno, zi]))
open Go
def y9 : List Int → Int
 | [] => 0
 | e :: l => if e ≠ 0 then e else y9 l
theorem u6 {l : List Int} (h : ∀ e ∈ l, e = 0) : y9 l = 0 := by
 induction l with
 | nil => rfl
 | cons e l ih => simp only [y9, h e (by simp), ne_eq, not_true, if_false]; exact ih fun x hx => h x (by simp [hx])
theorem Xo {l : List Int} {k : Nat} {e : Int} (h : ∀ e ∈ l.take k, e = 0) (hk : l[k]? = some e) (he : e ≠ 0) : y9 l = e := by
 induction l generalizing k with
 | nil => cases hk
 | cons a l ih =>
  cases k with
  | zero => simp at hk; subst hk; simp [y9, he]
  | succ k =>
   simp only [y9, h a (by simp), ne_eq, not_true, if_false]
   exact ih (k := k) (fun x hx => h x (by rw [List.take_succ_cons]; simp [hx])) (by simpa using hk)
theorem Za2 (l : List Int) : y9 l = 0 ↔ ∀ e ∈ l, e = 0 := by
 refine ⟨fun h => ?_, u6⟩
 induction l with
 | nil => intro e he; cases he
 | cons a l ih =>
  simp only [y9] at h
  split at h
  ·rename_i hne; exact absurd h hne
  ·rename_i hne
   intro e he
   rcases List.mem_cons.1 he with rfl | he
   ·simpa using hne
   ·exact ih h e he
def xH (x : Inst) (p : zF) : Int :=
 if qt x = false then 3 else if (p.length : Int) ≠ x.days then 1 else if y9 (p.map (zH x)) ≠ 0 then y9 (p.map (zH x)) else y9 ((List.range x.cust.length).map (jO x p))
structure PlanSz (p : zF) : Prop where
 ok : PlanOk p
 f : ∀ d ∈ p, d.flatten.length ≤ 1048576
theorem Xp : ∀ (p : zF) (i : Nat) (x : Stop × Nat), x ∈ told i p → ∃ d ∈ p, x.1 ∈ d.flatten
 | [], _, _, h => by cases h
 | d :: p, i, x, h => by
  simp only [told, List.mem_append, List.mem_map] at h
  rcases h with ⟨s, hs, rfl⟩ | h
  ·exact ⟨d, by simp, hs⟩
  ·obtain ⟨d', h1, h2⟩ := Xp p (i + 1) x h; exact ⟨d', by simp [h1], h2⟩
theorem Za3 {x : Inst} {d : Day} (h : zH x d = 0) : ∀ s ∈ d.flatten, yF x s = true := by
 intro s hs
 obtain ⟨t, ht, hst⟩ := List.mem_flatten.1 hs
 have hm : zr x t = 0 := by
  unfold zH at h
  split at h
  ·rename_i u hu
   have := List.find?_some hu
   simp [h] at this
  ·rename_i hn
   rw [List.find?_eq_none] at hn
   simpa using hn t ht
 have : yg x t = true := by
  by_cases q : yg x t = true
  ·exact q
  ·simp [zr, q] at hm
 unfold yg at this
 simp only [Bool.and_eq_true, List.all_eq_true] at this
 exact this.1 s hst
theorem Za4 {x : Inst} {p : zF} (hp : PlanSz p) (hx : InstOk x) (hm : qt x = true) (hd : (p.length : Int) = x.days) (h0 : ∀ d ∈ p, zH x d = 0) : Serves x p := by
 have hdays : 1 ≤ x.days ∧ x.days ≤ 64 := by
  unfold qt at hm; simp only [Bool.and_eq_true] at hm
  have := hm.1.1.1.1.1.1; simpa [zz] using this
 refine ⟨hp.ok, fun s hs => ?_, by omega⟩
 obtain ⟨d, hd, hsd⟩ := Xp p 0 s hs
 have := Za3 (h0 d hd) s.1 hsd
 simp [yF] at this
 omega
theorem Zh9 {x : Inst} (hx : InstOk x) (hm : qt x = true) : CustsOk x := by
 unfold qt at hm
 simp only [Bool.and_eq_true, decide_eq_true_eq, List.all_eq_true] at hm
 obtain ⟨⟨⟨⟨⟨⟨_, h1⟩, _⟩, _⟩, _⟩, h2⟩, _⟩ := hm
 have hk : ∀ c ∈ x.cust, c.kind = 1 ∨ c.kind = 2 := fun c hc => by
  have := h2 c hc
  by_cases k1 : c.kind = 1
  ·exact .inl k1
  ·by_cases k2 : c.kind = 2
   ·exact .inr k2
   ·rw [ZaX c _ k1 k2] at this; cases this
 refine ⟨by omega, hk, fun c hc => ?_, fun c hc => ?_, fun c hc => (hx.cust c hc).pats⟩
 ·have hb := h2 c hc
  rcases hk c hc with k | k
  ·rw [Xk c _ k] at hb
   simp only [Bool.and_eq_true, xG, decide_eq_true_eq] at hb
   obtain ⟨_, a, b, c, _⟩ := hb
   exact ⟨by omega, by omega, by omega⟩
  ·rw [Xl c _ k] at hb
   simp only [Bool.and_eq_true, zz, decide_eq_true_eq] at hb
   obtain ⟨⟨⟨⟨⟨a, b⟩, c⟩, _⟩, _⟩, _⟩ := hb
   exact ⟨by omega, by omega, by omega⟩
 ·have hb := h2 c hc
  rcases hk c hc with k | k
  ·rw [Xk c _ k] at hb
   simp only [Bool.and_eq_true, ul, zz, decide_eq_true_eq] at hb
   omega
  ·rw [Xl c _ k] at hb
   simp only [Bool.and_eq_true, vx, decide_eq_true_eq] at hb
   omega
set_option maxRecDepth 20000 in
theorem Za5 (x : Inst) (p : zF) (hx : InstOk x) (hp : PlanSz p) : Pure Tryz.prog 18 [.agg (zo x), .agg [L p]] (I (xH x p)) := by
 have hpn := hp.ok.n
 refine pwe Tryz.func18 Tryz.ntmps18 Tryz.results18 fun S nx hd => ?_
 repeat apply za
 refine pwn ?_
 intro v0 v1
 repeat apply za
 refine pwn ?_
 refine pwc (Zh7 x hx) ?_
 intros
 cases hm : qt x with
 | false =>
  (repeat apply za); refine pwn ?_; intros
  repeat apply za
  refine zh rfl ?_
  (repeat apply za); refine pwn ?_; intros
  repeat apply za
  exact zb (zg hd (by simp; rfl) (by simp [xH, hm, zi]))
 | true =>
  have hcs := Zh9 hx hm
  have hcn := hcs.n
  (repeat apply za); refine pwn ?_; intros
  repeat apply za
  refine zj rfl ?_
  refine zd ?_
  by_cases hpd : (p.length : Int) = x.days
  case neg =>
   repeat apply za
   refine pwN [] hpd ?_
   intros
   repeat apply za
   refine zh (by simp [hpd]) ?_
   (repeat apply za); refine pwn ?_; intros
   repeat apply za
   exact zb (zg hd (by simp; rfl) (by simp [xH, hm, hpd, zi]))
  have hres : xH x p = if y9 (p.map (zH x)) ≠ 0 then y9 (p.map (zH x)) else y9 ((List.range x.cust.length).map (jO x p)) := by simp [xH, hm, hpd]
  repeat apply za
  refine pwN [] hpd ?_
  intros
  repeat apply za
  refine zj (by simp [hpd]) ?_
  refine zd ?_
  (repeat apply za); refine pwn ?_; intros
  repeat apply za
  refine zW (nx := nx) (σ := Unit) (fun _ => ∀ d ∈ p, zH x d = 0) (fun _ => [(2, .ptr nx v0 0), (3, .ptr (nx + 1) v1 0)]) (fun _ => S) (fun _ => [.cells v0 25 (zo x), .cells v1 29 [L p]]) ?_ ?_
  ·refine ze (zq (fun s : Nat => s ≤ p.length ∧ ∀ d ∈ p.take s, zH x d = 0) (fun k => [(2, .ptr nx v0 0), (3, .ptr (nx + 1) v1 0), (6, I k)]) (fun _ => [.cells v0 25 (zo x), .cells v1 29 [L p]]) (fun s => p.length - s) 0 [] (by simp) (by simp) (by simp) ?_)
   rintro k ⟨hk, ho⟩
   (repeat apply za); refine pwn ?_; intros
   repeat apply za
   refine zl rfl (fun hc => ?_) (fun hc => ?_)
   ·simp at hc
    obtain ⟨d, tl, a1, a2, a3, e0⟩ := el1 rfl p k hc
    have hdm := List.mem_of_getElem? a1
    refine zd (za (ze ?_))
    repeat apply za
    refine pwY (some [nx, nx + 1]) (Row.pures [0, 1, 2, 3, 4, 5, 6, 7] .done) mixed (jn2 hc e0) ?_
    refine pwP (ZdP x d hcn (hp.ok.d d hdm) (hp.ok.t d hdm) (hp.f d hdm)) trivial ?_
    intros
    by_cases h0 : zH x d = 0
    ·repeat apply za
     refine pwN [] h0 ?_
     intros
     repeat apply za
     refine zj (by simp [h0]) ?_
     refine zd ?_
     (repeat apply za); refine pwn ?_; intros
     exact zk (k + 1) [] ⟨hc, fun e he => by rw [a3] at he; rcases List.mem_append.1 he with he | he; exact ho e he; rw [List.mem_singleton.1 he]; exact h0⟩ (by omega) (by simp [wrN k (by omega)]) rfl (by simp)
    ·have hf : y9 (p.map (zH x)) = zH x d := Xo (k := k) (fun e he => by rw [← List.map_take] at he; obtain ⟨u, hu, rfl⟩ := List.mem_map.1 he; exact ho u hu) (by rw [List.getElem?_map, a1]; rfl) h0
     repeat apply za
     refine pwN [] h0 ?_
     intros
     repeat apply za
     refine zh (by simp [h0]) ?_
     (repeat apply za); refine pwn ?_; intros
     repeat apply za
     exact zb (zg hd (by simp; rfl) (by rw [hres, hf]; simp [h0, zi]))
   ·simp at hc
    obtain rfl : k = p.length := by omega
    rw [List.take_length] at ho
    exact zm (zu () [] ho (by simp) rfl (by simp))
  intro _ hall
  have hsv := Za4 hp hx hm hpd hall
  have hf0 : y9 (p.map (zH x)) = 0 := u6 fun e he => by obtain ⟨u, hu, rfl⟩ := List.mem_map.1 he; exact hall u hu
  rw [hf0] at hres
  simp only [ne_eq, not_true, if_false] at hres
  rw [hres]
  (repeat apply za); refine pwn ?_; intros
  repeat apply za
  refine ze (zq (fun s : Nat => s ≤ x.cust.length ∧ ∀ i < s, jO x p i = 0) (fun k => [(2, .ptr nx v0 0), (3, .ptr (nx + 1) v1 0), (8, I k)]) (fun _ => [.cells v0 25 (zo x), .cells v1 29 [L p]]) (fun s => x.cust.length - s) 0 [] (by simp) (by simp) (by simp) ?_)
  rintro k ⟨hk, ho⟩
  (repeat apply za); refine pwn ?_; intros
  repeat apply za
  refine zl rfl (fun hc => ?_) (fun hc => ?_)
  ·simp at hc
   refine zd (za (ze ?_))
   repeat apply za
   refine pwn ?_
   refine pwc (Zh8 x p k hsv hcs hc) ?_
   intros
   by_cases h0 : jO x p k = 0
   ·repeat apply za
    refine pwN [] h0 ?_
    intros
    repeat apply za
    refine zj (by simp [h0]) ?_
    refine zd ?_
    (repeat apply za); refine pwn ?_; intros
    exact zk (k + 1) [] ⟨hc, fun i hi => by by_cases q : i = k; rw [q]; exact h0; exact ho i (by omega)⟩ (by omega) (by simp [wrN k (by omega)]) rfl (by simp)
   ·have hf : y9 ((List.range x.cust.length).map (jO x p)) = jO x p k := Xo (k := k) (fun e he => by rw [← List.map_take] at he; obtain ⟨u, hu, rfl⟩ := List.mem_map.1 he; rw [List.take_range] at hu; have := List.mem_range.1 hu; exact ho u (by omega)) (by rw [List.getElem?_map, List.getElem?_range hc]; rfl) h0
    repeat apply za
    refine pwN [] h0 ?_
    intros
    repeat apply za
    refine zh (by simp [h0]) ?_
    (repeat apply za); refine pwn ?_; intros
    repeat apply za
    exact zb (zg hd (by simp; rfl) (by rw [hf]; rfl))
  ·simp at hc
   obtain rfl : k = x.cust.length := by omega
   refine zm ?_
   (repeat apply za); refine pwn ?_; intros
   repeat apply za
   exact zb (zg hd (by simp; rfl) (by rw [u6 fun e he => by obtain ⟨u, hu, rfl⟩ := List.mem_map.1 he; exact ho u (List.mem_range.1 hu)]; rfl))
open Go Go.Proofs Hp
def um (l : List Visit) (day : Int) (i k : Nat) : List Stop := ((l.take k).filter (fun w => w.d = day)).map fun w => ⟨i, w.q⟩
def wP (v : List (List Visit)) (day : Int) (i : Nat) : List Stop := ((v.getD i []).filter (fun w => w.d = day)).map fun w => ⟨i, w.q⟩
def qa (v : List (List Visit)) (day : Int) (n : Nat) : List Stop := (List.range n).flatMap (wP v day)
theorem Za6 (v : List (List Visit)) (day : Int) (n : Nat) : qa v day (n + 1) = qa v day n ++ wP v day n := by simp [qa, List.range_succ]
theorem Zia (l : List Visit) (day : Int) (i : Nat) : um l day i 0 = [] := rfl
theorem Zib (v : List (List Visit)) (day : Int) (i : Nat) (l : List Visit) (h : v[i]? = some l) : um l day i l.length = wP v day i := by
 unfold um wP; rw [List.take_length, List.getD_eq_getElem?_getD, h]; rfl
theorem Za7 {l : List Visit} {k : Nat} {w : Visit} (h : l[k]? = some w) (day : Int) (i : Nat) : um l day i (k + 1) = um l day i k ++ (if w.d = day then [⟨i, w.q⟩] else []) := by
 unfold um
 rw [List.take_add_one, h]
 simp only [Option.toList_some, List.filter_append, List.map_append]
 split
 ·rename_i e; simp [e]
 ·rename_i e; simp [e]
structure VsOk (m n : Nat) (v : List (List Visit)) : Prop where
 len : v.length = m
 ok : ∀ l ∈ v, ∀ w ∈ l, (0 ≤ w.d ∧ w.d < n) ∧ 1 ≤ w.q ∧ w.q ≤ 2147483648
 nd : ∀ l ∈ v, (l.map (·.d)).Nodup
 few : ∀ l ∈ v, l.length ≤ 1000
theorem VsOk.at {m n : Nat} {v : List (List Visit)} (h : VsOk m n v) (i : Nat) : (∀ w ∈ v.getD i [], (0 ≤ w.d ∧ w.d < n) ∧ 1 ≤ w.q ∧ w.q ≤ 2147483648) ∧ ((v.getD i []).map (·.d)).Nodup := by
 rw [List.getD_eq_getElem?_getD]
 cases e : v[i]? with
 | none => exact ⟨by simp, by simp⟩
 | some l => exact ⟨h.ok l (List.mem_of_getElem? e), h.nd l (List.mem_of_getElem? e)⟩
theorem Zic {l : List Visit} (h : (l.map (·.d)).Nodup) (day : Int) : (l.filter (fun w => w.d = day)).length ≤ 1 := by
 have h1 := (List.filter_sublist (p := fun w : Visit => decide (w.d = day)) (l := l)).map (·.d)
 have h2 := h.sublist h1
 have h3 : ∀ w ∈ l.filter (fun w => w.d = day), w.d = day := fun w hw => by simpa using (List.mem_filter.1 hw).2
 generalize l.filter (fun w => decide (w.d = day)) = m at h2 h3
 match m, h2, h3 with
 | [], _, _ => simp
 | [_], _, _ => simp
 | a :: b :: m, h2, h3 =>
  exfalso
  have ea := h3 a (by simp)
  have eb := h3 b (by simp)
  simp only [List.map_cons, List.nodup_cons, List.mem_cons] at h2
  exact h2.1 (.inl (by rw [ea, eb]))
theorem Zid {m n : Nat} {v : List (List Visit)} (h : VsOk m n v) (day : Int) (i : Nat) : (wP v day i).length ≤ 1 := by
 unfold wP; rw [List.length_map]; exact Zic (h.at i).2 day
theorem Zie {m n : Nat} {v : List (List Visit)} (h : VsOk m n v) {day : Int} {i : Nat} {s : Stop} (hs : s ∈ wP v day i) : s.c = i ∧ 1 ≤ s.q ∧ s.q ≤ 2147483648 := by
 obtain ⟨w, hw, rfl⟩ := List.mem_map.1 hs
 exact ⟨rfl, ((h.at i).1 w (List.mem_filter.1 hw).1).2⟩
theorem Xq {m n : Nat} {v : List (List Visit)} (h : VsOk m n v) (day : Int) : ∀ k : Nat, (qa v day k).length ≤ k ∧ (∀ s ∈ qa v day k, (0 ≤ s.c ∧ s.c < k) ∧ 1 ≤ s.q ∧ s.q ≤ 2147483648) ∧ ((qa v day k).map (·.c)).Nodup
 | 0 => ⟨by simp [qa], by simp [qa], by simp [qa]⟩
 | k + 1 => by
  obtain ⟨h1, h2, h3⟩ := Xq h day k
  have h4 := Zid h day k
  have h5 : ∀ s ∈ wP v day k, s.c = k ∧ 1 ≤ s.q ∧ s.q ≤ 2147483648 := fun s hs => Zie h hs
  rw [Za6]
  refine ⟨by rw [List.length_append]; omega, fun s hs => ?_, ?_⟩
  ·rcases List.mem_append.1 hs with hs | hs
   ·have := h2 s hs; omega
   ·have := h5 s hs; omega
  ·rw [List.map_append]
   generalize wP v day k = e at h4 h5
   match e, h4, h5 with
   | [], _, _ => simpa using h3
   | [s], _, h5 =>
    refine ZB _ _ h3 fun hm => ?_
    obtain ⟨u, hu, e⟩ := List.mem_map.1 hm
    have q1 := h2 u hu
    have q2 := h5 s (by simp)
    have q3 : u.c = s.c := e
    omega
   | _ :: _ :: _, h4, _ => simp at h4
structure InstH (x : Inst) : Prop where
 cust : x.cust.length ≤ 1000
 diag : arc x 0 0 = 0
 arc : yG x
 veh : 0 ≤ x.veh
theorem Za8 {x : Inst} (hx : InstH x) {n : Nat} {v : List (List Visit)} (h : VsOk x.cust.length n v) (day : Int) : SOk x (qa v day x.cust.length) := by
 obtain ⟨h1, h2, h3⟩ := Xq h day x.cust.length
 have := hx.cust
 exact ⟨by omega, hx.arc, hx.veh, by omega, fun s hs => by have := h2 s hs; unfold small; omega, h3⟩
def un (x : Inst) (v : List (List Visit)) (b : Int) (n : Nat) : List (Day × Int) := (List.range n).map fun d : Nat => qZ x b (qa v d x.cust.length)
def qP (x : Inst) (v : List (List Visit)) (b : Int) (n : Nat) : zF := (un x v b n).map (·.1)
def yS (x : Inst) (v : List (List Visit)) (b : Int) (n : Nat) : List Int := (un x v b n).map (·.2)
theorem Za9 (x : Inst) (v : List (List Visit)) (b : Int) (n : Nat) : (qP x v b n).length = n := by simp [qP, un]
theorem Zba (x : Inst) (v : List (List Visit)) (b : Int) (n : Nat) : (yS x v b n).length = n := by simp [yS, un]
theorem Zif (x : Inst) (v : List (List Visit)) (b : Int) (n : Nat) : qP x v b (n + 1) = qP x v b n ++ [(qZ x b (qa v n x.cust.length)).1] := by simp [qP, un, List.range_succ]
theorem Zig (x : Inst) (v : List (List Visit)) (b : Int) (n : Nat) : yS x v b (n + 1) = yS x v b n ++ [(qZ x b (qa v n x.cust.length)).2] := by simp [yS, un, List.range_succ]
open Go Go.Proofs Hp
def woP (c : Int) (p : zF) : zF := p.map (qL c)
set_option maxHeartbeats 1600000 in
theorem Zih (p : zF) (c : Int) (hp : p.length ≤ 1000) (hd0 : ∀ d ∈ p, d.length ≤ 1048576) (ht : ∀ d ∈ p, ∀ t ∈ d, t.length ≤ 1048576) : Pure Tryz.prog 28 [.agg [L p], I c] (.agg [L (woP c p)]) := by
 unfold woP
 refine pwe Tryz.func28 Tryz.ntmps28 Tryz.results28 fun S nx hd => ?_
 repeat apply za
 refine pwn ?_
 intro v0 v1
 repeat apply za
 refine pwn ?_
 intro v2
 refine qc 2 0 66 1 rfl rfl fun v3 => ?_
 (repeat apply za); refine pwn ?_; intros
 repeat apply za
 refine ze (zq (fun s : Nat × zF × Nat => s.1 ≤ p.length ∧ s.2.1 = (p.take s.1).map (qL c)) (fun (k, q, w) => [(1, I c), (4, .ptr (nx + 1) v1 0), (5, .ptr (nx + 2) v2 0), (11, L p), (12, I p.length), (13, I k)]) (fun (k, q, w) => [.cells v0 29 [L p], .cells v1 29 [yi], .cells v2 29 [.sl (nx + 3) w 1 0 q.length], .cells w 66 (q.flatMap Enc.enc)]) (fun s => p.length - s.1) (0, [], v3) [] (by simp) (by simp) (by simp) ?_)
 rintro ⟨k, q, w⟩ ⟨hk, hq⟩
 simp only at hk hq ⊢
 have hql : q.length = k := by rw [hq]; simp; omega
 (repeat apply za); refine pwn ?_; intros
 repeat apply za
 refine zl rfl (fun hc => ?_) (fun hc => ?_)
 ·simp at hc
  obtain ⟨d, tl, a1, a2, a3, e0⟩ := el1 rfl p k hc
  have hdm := List.mem_of_getElem? a1
  have hr := ZgC d c (hd0 d hdm) (ht d hdm)
  generalize hrd : qL c d = rd at hr
  have hk1 : 1 ≤ p.length - k := by omega
  have hqf : (q.flatMap Enc.enc : List PV).length = q.length := qw q
  have hqt : (q.flatMap Enc.enc : List PV).take q.length = q.flatMap Enc.enc := List.take_of_length_le (by omega)
  refine zd (za (ze ?_))
  repeat apply za
  refine pwN [] (jn3 hc e0 hk1) ?_
  intro v4
  repeat apply za
  refine pwn ?_
  refine pwc hr ?_
  intro v5
  intros
  repeat apply za
  refine pwN [] (jn2 hqf hqt) ?_
  refine ⟨by omega, ?_⟩
  intros
  (repeat apply za); refine pwn ?_; intros
  exact zk (k + 1, q ++ [rd], w + 1) [_, _] ⟨hc, by rw [a3, List.map_append, hq, ← hrd]; rfl⟩ (by simp; omega) (by simp [wrN k (by omega)]) rfl (by simp; exact ⟨rfl, rfl⟩)
 ·simp at hc
  obtain rfl : k = p.length := by omega
  rw [List.take_length] at hq
  refine zm ?_
  refine zB 3 rfl ?_
  (repeat apply za); refine pwn ?_; intros
  repeat apply za
  exact zb (zg hd (by simp; rfl) (by simp [zi, hq]))
open Go
def we (x : Inst) (p : zF) (i : Nat) : Int :=
 match x.cust[i]? with
 | none => 0
 | some c => if c.kind = 2 then x9 c (yr c (qO (zQ i (told 0 p)) x.days)).1 else 0
def qG (x : Inst) (p : zF) (k : Nat) : Int := ((List.range k).map (we x p)).sum
theorem Zbb (x : Inst) (p : zF) (k : Nat) : qG x p (k + 1) = qG x p k + we x p k := by simp [qG, List.range_succ]
theorem Zii (c : Cust) (q : List Int) (hq : q.length ≤ 1048576) : (yr c q).1.length ≤ 1048576 := by
 unfold yr
 split
 ·simp
 ·cases h : yR c.size c.rate c.start q with
  | none => simp
  | some l => simp [Xf h]; exact hq
theorem Zbc (v : List Visit) (n : Int) : (qO v n).length ≤ 1048576 := by rw [Qf]; omega
set_option maxRecDepth 20000 in
theorem Zij (x : Inst) (p : zF) (h : Serves x p) (hx : x.cust.length ≤ 1048576) (hf : ∀ c ∈ x.cust, CustFits c) : Pure Tryz.prog 77 [.agg (zo x), .agg [L p]] (I (W (qG x p x.cust.length))) := by
 refine pwe Tryz.func77 Tryz.ntmps77 Tryz.results77 fun S nx hd => ?_
 repeat apply za
 refine pwn ?_
 intro v0 v1
 (repeat apply za); refine pwn ?_; intros
 (repeat apply za); refine pwn ?_; intros
 repeat apply za
 refine ze (zq (fun s : Nat => s ≤ x.cust.length) (fun k => [(2, .ptr nx v0 0), (3, .ptr (nx + 1) v1 0), (5, I (W (qG x p k))), (6, I k)]) (fun _ => [.cells v0 25 (zo x), .cells v1 29 [L p]]) (fun s => x.cust.length - s) 0 [] (by simp) (by simp [qG]) (by simp) ?_)
 rintro k hk
 (repeat apply za); refine pwn ?_; intros
 repeat apply za
 refine zl rfl (fun hc => ?_) (fun hc => ?_)
 ·simp at hc
  obtain ⟨c, tl, a1, a2, a3, _, e0⟩ := el 8 rfl x.cust k hc
  have hfc := hf c (List.mem_of_getElem? a1)
  have hs := Zbb x p k
  refine zd (za (ze ?_))
  repeat apply za
  refine pwN [] (jn2 hc e0) ?_
  intro v2
  (repeat apply za); refine pwn ?_; intros
  by_cases hk2 : c.kind = 2
  ·have hvi := ZaU p k h.sz
   have hb := Xh (zQ k (told 0 p)) x.days (ZaZ h k).1
   have hn := Xe c (qO (zQ k (told 0 p)) x.days) hfc (Zbc _ _)
   have hh := ZaT c (yr c (qO (zQ k (told 0 p)) x.days)).1 (Zii _ _ (Zbc _ _))
   have hC : we x p k = x9 c (yr c (qO (zQ k (told 0 p)) x.days)).1 := by simp only [we, a1, if_pos hk2]
   rw [hC] at hs
   generalize x9 c (yr c (qO (zQ k (told 0 p)) x.days)).1 = z at *
   generalize yr c (qO (zQ k (told 0 p)) x.days) = ne at *
   generalize qO (zQ k (told 0 p)) x.days = q at *
   generalize zQ (k : Int) (told 0 p) = v at *
   obtain ⟨ns, er⟩ := ne
   simp only at hn hh
   repeat apply za
   refine zh (by simp [hk2]) ?_
   repeat apply za
   refine pwY (some [nx, nx + 1, nx + 2]) (Row.pures [0, 1, 2, 3, 4, 5, 6, 7, 8, 9, 10, 11, 12] .done) mixed trivial ?_
   refine pwP (hvi) trivial ?_
   refine pwP (hb) trivial ?_
   refine pwP (hn) trivial ?_
   intros
   repeat apply za
   refine pwn ?_
   refine pwc hh ?_
   intros
   have hw : W (W (qG x p k) + z) = W (qG x p (k + 1)) := by rw [hs, jT]
   (repeat apply za); refine pwn ?_; intros
   exact zk (k + 1) [_] hc (by omega) (by simp [wrN k (by omega)]; exact hw) rfl rfl
  ·have hC : we x p k = 0 := by simp only [we, a1, if_neg hk2]
   rw [hC, Int.add_zero] at hs
   repeat apply za
   refine zj (by simp [hk2]) ?_
   refine zd ?_
   (repeat apply za); refine pwn ?_; intros
   exact zk (k + 1) [_] hc (by omega) (by simp [wrN k (by omega), hs]) rfl rfl
 ·simp at hc
  obtain rfl : k = x.cust.length := by omega
  refine zm ?_
  (repeat apply za); refine pwn ?_; intros
  repeat apply za
  exact zb (zg hd (by simp; rfl) rfl)
def uo (x : Inst) (p : zF) : Int := W (qG x p x.cust.length + (p.map (zA x)).sum)
set_option maxRecDepth 20000 in
theorem Zbd (x : Inst) (p : zF) (h : Serves x p) (hx : x.cust.length ≤ 1048576) (hf : ∀ c ∈ x.cust, CustFits c) (hd' : ∀ d ∈ p, DayOk d) : Pure Tryz.prog 35 [.agg (zo x), .agg [L p]] (I (uo x p)) := by
 have hpn := h.sz.n
 refine pwe Tryz.func35 Tryz.ntmps35 Tryz.results35 fun S nx hd => ?_
 repeat apply za
 refine pwn ?_
 intro v0 v1
 repeat apply za
 refine pwn ?_
 refine pwc (Zij x p h hx hf) ?_
 intros
 (repeat apply za); refine pwn ?_; intros
 repeat apply za
 refine ze (zq (fun s : Nat => s ≤ p.length) (fun k => [(2, .ptr nx v0 0), (3, .ptr (nx + 1) v1 0), (5, I (W (qG x p x.cust.length + ((p.take k).map (zA x)).sum))), (6, I k)]) (fun _ => [.cells v0 25 (zo x), .cells v1 29 [L p]]) (fun s => p.length - s) 0 [] (by simp) (by simp) (by simp) ?_)
 rintro k hk
 (repeat apply za); refine pwn ?_; intros
 repeat apply za
 refine zl rfl (fun hc => ?_) (fun hc => ?_)
 ·simp at hc
  obtain ⟨d, tl, a1, a2, a3, e0⟩ := el1 rfl p k hc
  have hw : W (W (qG x p x.cust.length + ((p.take k).map (zA x)).sum) + W (zA x d)) = W (qG x p x.cust.length + ((p.take (k + 1)).map (zA x)).sum) := by rw [a3, List.map_append, List.sum_append, jT, YG]; simp; congr 1; omega
  refine zd (za (ze ?_))
  repeat apply za
  refine pwY (some [nx, nx + 1]) (Row.pures [0, 1, 2, 3, 4, 5, 6, 7, 8, 9] .done) mixed (jn2 hc e0) ?_
  refine pwP (ZdQ x d (hd' d (List.mem_of_getElem? a1))) trivial ?_
  intros
  (repeat apply za); refine pwn ?_; intros
  exact zk (k + 1) [] hc (by omega) (by rw [← hw]; simp [wrN k (by omega)]) rfl (by simp)
 ·simp at hc
  obtain rfl : k = p.length := by omega
  have htl : (p.map (zA x)).take p.length = p.map (zA x) := List.take_of_length_le (by simp)
  refine zm ?_
  (repeat apply za); refine pwn ?_; intros
  repeat apply za
  exact zb (zg hd (by simp; rfl) (by simp [htl, uo, zi]))
open Go
def Qs (q : List Int) : Prop := ∀ z ∈ q, 0 ≤ z ∧ z ≤ 2147483648
structure GoodV (n : Nat) (v : List Visit) : Prop where
 len : v.length ≤ 64
 ok : ∀ s ∈ v, (0 ≤ s.d ∧ s.d < n) ∧ 1 ≤ s.q ∧ s.q ≤ 2147483648
 nd : (v.map (·.d)).Nodup
set_option maxRecDepth 20000 in
theorem Zbe (c : Cust) (there cap : Int) (hs : 0 ≤ c.size ∧ c.size ≤ 2147483648) (ht : 0 ≤ there ∧ there ≤ 4611686018427387904) (hc : cap ≤ 2147483648) :
  RSpec Tryz.prog 131 [.agg (zN c), I there, I cap] (fun p => ∃ q, p = I q ∧ 0 ≤ q ∧ q ≤ 2147483648) := by
 have w1 : IntKind.i64.wrap (c.size - there) = c.size - there := wr _ (by omega) (by omega)
 refine wC Tryz.func131 Tryz.ntmps131 Tryz.results131 fun S nx hd => ?_
 repeat apply za
 refine pwn ?_
 intro v0
 repeat apply za
 refine pwN [] w1 ?_
 intros
 (repeat apply za); refine pwn ?_; intros
 refine zW (nx := nx) (σ := Int) (fun r => 0 ≤ r ∧ r ≤ 2147483648) (fun r => [(2, I cap), (3, .ptr nx v0 0), (7, I r)]) (fun _ => S) (fun _ => [.cells v0 41 (zN c)]) ?_ ?_
 ·by_cases h : c.size - there < 0
  ·repeat apply za
   refine zh (by simp; omega) ?_
   (repeat apply za); refine pwn ?_; intros
   exact zu 0 [] (by omega) (by simp) rfl (by simp)
  ·repeat apply za
   refine zj (by simp; omega) ?_
   refine zd ?_
   exact zu (c.size - there) [] (by omega) (by simp) rfl (by simp)
 intro r hr
 (repeat apply za); refine pwn ?_; intros
 refine zW (nx := nx) (σ := Int) (fun k => 0 ≤ k ∧ k ≤ 2147483648) (fun k => [(2, I k), (3, .ptr nx v0 0), (7, I r)]) (fun _ => S) (fun _ => [.cells v0 41 (zN c)]) ?_ ?_
 ·by_cases h : cap < 0
  ·repeat apply za
   refine zh (by simp [h]) ?_
   (repeat apply za); refine pwn ?_; intros
   exact zu 0 [] (by omega) (by simp) rfl (by simp)
  ·repeat apply za
   refine zj (by simp; omega) ?_
   refine zd ?_
   exact zu cap [] (by omega) (by simp) rfl (by simp)
 intro k hk
 (repeat apply za); refine pwn ?_; intros
 repeat apply za
 refine zl rfl (fun h1 => ?_) (fun h1 => ?_)
 ·(repeat apply za); refine pwn ?_; intros
  repeat apply za
  exact zb ⟨_, S, (by simp; rfl), ⟨⟨r, by simp [zi], hr⟩, rfl⟩, zM hd⟩
 ·refine zd ?_
  (repeat apply za); refine pwn ?_; intros
  repeat apply za
  refine zl rfl (fun h2 => ?_) (fun h2 => ?_)
  ·(repeat apply za); refine pwn ?_; intros
   repeat apply za
   exact zb ⟨_, S, (by simp; rfl), ⟨⟨0, by simp [zi], by omega⟩, rfl⟩, zM hd⟩
  ·refine zd ?_
   (repeat apply za); refine pwn ?_; intros
   repeat apply za
   exact zb ⟨_, S, (by simp; rfl), ⟨⟨k, by simp [zi], hk⟩, rfl⟩, zM hd⟩
set_option maxRecDepth 20000 in
theorem Zbf (c : Cust) (n : Nat) (cap : Int) (late : Bool) (hc : CustFits c) (hn : n ≤ 64) (hcap : cap ≤ 2147483648) :
  RSpec Tryz.prog 92 [.agg (zN c), I n, I cap, B late] (fun p => ∃ q b, p = .tup [L q, B b] ∧ q.length = n ∧ Qs q) := by
 have hr := hc.rate
 have hst := hc.start
 refine wC Tryz.func92 Tryz.ntmps92 Tryz.results92 fun S nx hd => ?_
 repeat apply za
 refine pwn ?_
 intro v0
 (repeat apply za); refine pwn ?_; intros
 refine za (yQ 10 3 1 rfl fun v1 => ?_)
 (repeat apply za); refine pwn ?_; intros
 (repeat apply za); refine pwn ?_; intros
 repeat apply za
 refine ze (zq (fun s : Nat × Int × List Int × Nat => s.1 ≤ n ∧ (-4294967296 * (s.1 + 1 : Int) ≤ s.2.1 ∧ s.2.1 ≤ 4294967296 * (s.1 + 1 : Int)) ∧ s.2.2.1.length = s.1 ∧ Qs s.2.2.1) (fun (k, there, out, v1) => [(1, I n), (2, I cap), (3, B late), (4, .ptr nx v0 0), (10, .sl (nx + 1) v1 1 0 out.length), (11, I there), (12, I k)]) (fun (k, there, out, v1) => [.cells v0 41 (zN c), .cells v1 3 (out.flatMap Enc.enc)]) (fun s => n - s.1) (0, c.start, [], v1) [] ⟨by simp, by dsimp only; omega, rfl, by intro z hz; cases hz⟩ (by simp) (by simp) ?_)
 rintro ⟨k, there, out, v1⟩ ⟨hk, hth, hol, hq⟩
 simp only at hk hth hol hq ⊢
 (repeat apply za); refine pwn ?_; intros
 repeat apply za
 refine zl rfl (fun hc1 => ?_) (fun hc1 => ?_)
 ·simp at hc1
  refine zd (za (ze ?_))
  (repeat apply za); refine pwn ?_; intros
  repeat apply za
  refine zW (nx := nx) (σ := Bool × Nat) (fun _ => True) (fun (t, v1) => [(1, I n), (2, I cap), (3, B late), (4, .ptr nx v0 0), (10, .sl (nx + 1) v1 1 0 out.length), (11, I there), (12, I k), (13, I 0), (29, B t)]) (fun _ => S) (fun (t, v1) => [.cells v0 41 (zN c), .cells v1 3 (out.flatMap Enc.enc)]) ?_ ?_
  ·cases late with
   | true =>
    by_cases h : there < c.rate
    ·repeat apply za
     refine pwN [(2, 24)] h ?_
     intros
     exact zu (true, v1) [] trivial (by simp) rfl (by simp)
    ·repeat apply za
     refine pwN [(2, 24)] h ?_
     intros
     exact zu (false, v1) [] trivial (by simp) rfl (by simp)
   | false =>
    repeat apply za
    refine pwN [(2, 24)] zn ?_
    intros
    exact zu (true, v1) [] trivial (by simp) rfl (by simp)
  rintro ⟨t, v1⟩ -
  simp only
  repeat apply za
  refine zW (nx := nx) (σ := Int × Nat) (fun z => 0 ≤ z.1 ∧ z.1 ≤ 2147483648) (fun (z, v1) => [(1, I n), (2, I cap), (3, B late), (4, .ptr nx v0 0), (10, .sl (nx + 1) v1 1 0 out.length), (11, I there), (12, I k), (13, I z)]) (fun _ => S) (fun (z, v1) => [.cells v0 41 (zN c), .cells v1 3 (out.flatMap Enc.enc)]) ?_ ?_
  ·cases t with
   | true =>
    repeat apply za
    refine zh rfl ?_
    (repeat apply za); refine pwn ?_; intros
    (repeat apply za); refine pwn ?_; intros
    by_cases h0 : there < 0
    ·repeat apply za
     refine zh (by simp [h0]) ?_
     (repeat apply za); refine pwn ?_; intros
     repeat apply za
     refine zO [] (by rfl) (by rfl) fun K Gc Gh hK hGc hGh X hX0 hX => ?_
     simp -implicitDefEqProofs [hX0, hX]
     try clear hX0 hX X
     refine hGc _ _ _ _ _ _ _ fun hsuf => ((Zbe c 0 cap hc.size (by omega) hcap _).mono ?_).v
     rintro _ _ ⟨⟨q, rfl, h1, h2⟩, rfl⟩
     refine ⟨_, _, rfl, ?_⟩
     clear hGc hGh
     clear Gc Gh
     refine zJ hsuf (D := []) (by rfl) fun Gc Gh hGc hGh X hX0 hX => ?_
     simp -implicitDefEqProofs [hX0, hX]
     try clear hX0 hX X
     intros
     refine hK _ _ _ ?_
     clear hK hGc hGh
     clear K Gc Gh
     exact zu (q, v1) [] ⟨h1, h2⟩ (by simp) rfl (by simp)
    ·repeat apply za
     refine zj (by simp; omega) ?_
     refine zd ?_
     repeat apply za
     refine zO [] (by rfl) (by rfl) fun K Gc Gh hK hGc hGh X hX0 hX => ?_
     simp -implicitDefEqProofs [hX0, hX]
     try clear hX0 hX X
     refine hGc _ _ _ _ _ _ _ fun hsuf => ((Zbe c there cap hc.size (by omega) hcap _).mono ?_).v
     rintro _ _ ⟨⟨q, rfl, h1, h2⟩, rfl⟩
     refine ⟨_, _, rfl, ?_⟩
     clear hGc hGh
     clear Gc Gh
     refine zJ hsuf (D := []) (by rfl) fun Gc Gh hGc hGh X hX0 hX => ?_
     simp -implicitDefEqProofs [hX0, hX]
     try clear hX0 hX X
     intros
     refine hK _ _ _ ?_
     clear hK hGc hGh
     clear K Gc Gh
     exact zu (q, v1) [] ⟨h1, h2⟩ (by simp) rfl (by simp)
   | false =>
    repeat apply za
    refine zj rfl ?_
    refine zd ?_
    exact zu (0, v1) [] (by simp) (by simp) rfl (by simp)
  ·rintro ⟨z, v1⟩ hz
   simp only at hz ⊢
   have w1 : IntKind.i64.wrap (there + z) = there + z := wr _ (by omega) (by omega)
   have w2 : IntKind.i64.wrap (there + z - c.rate) = there + z - c.rate := wr _ (by omega) (by omega)
   repeat apply za
   refine pwn ?_
   refine ⟨by omega, ?_⟩
   intros
   repeat apply za
   refine pwN [] (jn2 w1 w2) ?_
   intros
   (repeat apply za); refine pwn ?_; intros
   exact zk (k + 1, there + z - c.rate, out ++ [z], v1 + 1) [] ⟨by omega, by dsimp only; omega, by simp [hol], fun y hy => by rcases List.mem_append.1 hy with h | h; exact hq y h; rw [List.mem_singleton.1 h]; exact hz⟩ (by simp; omega) (by simp [wrN k (by omega)]) rfl (by simp)
 ·simp at hc1
  obtain rfl : k = n := by omega
  refine zm ?_
  refine zB 1 rfl ?_
  repeat apply za
  refine pwn ?_
  refine pwc (Xg c out hc (by omega)) ?_
  intros
  repeat apply za
  exact zb ⟨_, S, (by simp; rfl), ⟨⟨out, _, by simp [zi]; rfl, hol, hq⟩, rfl⟩, zM hd⟩
set_option maxRecDepth 20000 in
theorem Zik (c : Cust) (n : Nat) (cap : Int) (set : Nat) (hc : CustFits c) (hn : n ≤ 64) (hcap : cap ≤ 2147483648) (hset : set < 2 ^ 64) :
  RSpec Tryz.prog 94 [.agg (zN c), I n, I cap, U set] (fun p => ∃ q b, p = .tup [L q, B b] ∧ q.length ≤ n ∧ Qs q) := by
 have hr := hc.rate
 have hst := hc.start
 have hsz := hc.size
 refine wC Tryz.func94 Tryz.ntmps94 Tryz.results94 fun S nx hd => ?_
 repeat apply za
 refine pwn ?_
 intro v0
 (repeat apply za); refine pwn ?_; intros
 refine za (yQ 10 3 1 rfl fun v1 => ?_)
 (repeat apply za); refine pwn ?_; intros
 (repeat apply za); refine pwn ?_; intros
 repeat apply za
 refine ze (zq (fun s : Nat × Int × List Int × Nat => s.1 ≤ n ∧ (-4294967296 * (s.1 + 1 : Int) ≤ s.2.1 ∧ s.2.1 ≤ 4294967296 * (s.1 + 1 : Int)) ∧ s.2.2.1.length = s.1 ∧ Qs s.2.2.1) (fun (k, there, out, v1) => [(1, I n), (2, I cap), (3, U set), (4, .ptr nx v0 0), (10, .sl (nx + 1) v1 1 0 out.length), (11, I there), (12, I k)]) (fun (k, there, out, v1) => [.cells v0 41 (zN c), .cells v1 3 (out.flatMap Enc.enc)]) (fun s => n - s.1) (0, c.start, [], v1) [] ⟨by simp, by dsimp only; omega, rfl, by intro z hz; cases hz⟩ (by simp) (by simp) ?_)
 rintro ⟨k, there, out, v1⟩ ⟨hk, hth, hol, hq⟩
 simp only at hk hth hol hq ⊢
 (repeat apply za); refine pwn ?_; intros
 repeat apply za
 refine zl rfl (fun hc1 => ?_) (fun hc1 => ?_)
 ·simp at hc1
  refine zd (za (ze ?_))
  (repeat apply za); refine pwn ?_; intros
  repeat apply za
  repeat apply za
  refine pwn ?_
  refine pwc (WG set k hset (by omega) (by omega)) ?_
  intros
  repeat apply za
  refine zW (nx := nx) (σ := Int × Nat) (fun z => 0 ≤ z.1 ∧ z.1 ≤ 2147483648) (fun (z, v1) => [(1, I n), (2, I cap), (3, U set), (4, .ptr nx v0 0), (10, .sl (nx + 1) v1 1 0 out.length), (11, I there), (12, I k), (13, I z)]) (fun _ => S) (fun (z, v1) => [.cells v0 41 (zN c), .cells v1 3 (out.flatMap Enc.enc)]) ?_ ?_
  ·repeat apply za
   refine zl rfl (fun hb => ?_) (fun hb => ?_)
   ·have w1 : IntKind.i64.wrap (c.size - there) = c.size - there := wr _ (by omega) (by omega)
    repeat apply za
    refine pwN [] w1 ?_
    intros
    by_cases h1 : c.size - there < 1
    ·repeat apply za
     refine pwN [(2, 30)] (jn2 h1 zn) ?_
     intros
     repeat apply za
     refine zh rfl ?_
     (repeat apply za); refine pwn ?_; intros
     refine xR 8 rfl ?_
     repeat apply za
     exact zb ⟨_, S, (by simp; rfl), ⟨⟨[], false, by simp [zi], by simp, by intro z hz; cases hz⟩, rfl⟩, zM hd⟩
    by_cases h2 : cap < c.size - there
    ·repeat apply za
     refine pwN [(2, 30)] (jn2 h1 h2) ?_
     intros
     repeat apply za
     refine zh rfl ?_
     (repeat apply za); refine pwn ?_; intros
     refine xR 8 rfl ?_
     repeat apply za
     exact zb ⟨_, S, (by simp; rfl), ⟨⟨[], false, by simp [zi], by simp, by intro z hz; cases hz⟩, rfl⟩, zM hd⟩
    repeat apply za
    refine pwN [(2, 30)] (jn2 h1 h2) ?_
    intros
    repeat apply za
    refine zj rfl ?_
    refine zd ?_
    exact zu (c.size - there, v1) [] (by dsimp only; omega) (by simp) rfl (by simp)
   ·refine zd ?_
    exact zu (0, v1) [] (by simp) (by simp) rfl (by simp)
  ·rintro ⟨z, v1⟩ hz
   simp only at hz ⊢
   have w1 : IntKind.i64.wrap (there + z) = there + z := wr _ (by omega) (by omega)
   have w2 : IntKind.i64.wrap (there + z - c.rate) = there + z - c.rate := wr _ (by omega) (by omega)
   repeat apply za
   refine pwn ?_
   refine ⟨by omega, ?_⟩
   intros
   repeat apply za
   refine pwN [] (jn2 w1 w2) ?_
   intros
   (repeat apply za); refine pwn ?_; intros
   exact zk (k + 1, there + z - c.rate, out ++ [z], v1 + 1) [] ⟨by omega, by dsimp only; omega, by simp [hol], fun y hy => by rcases List.mem_append.1 hy with h | h; exact hq y h; rw [List.mem_singleton.1 h]; exact hz⟩ (by simp; omega) (by simp [wrN k (by omega)]) rfl (by simp)
 ·simp at hc1
  obtain rfl : k = n := by omega
  refine zm ?_
  refine zB 1 rfl ?_
  repeat apply za
  refine pwn ?_
  refine pwc (Xg c out hc (by omega)) ?_
  intros
  repeat apply za
  exact zb ⟨_, S, (by simp; rfl), ⟨⟨out, _, by simp [zi]; rfl, by omega, hq⟩, rfl⟩, zM hd⟩
def yT : Nat → List Int → List Visit
 | _, [] => []
 | i, z :: l => if 0 < z then ⟨i, z⟩ :: yT (i + 1) l else yT (i + 1) l
theorem Zbg : ∀ (l : List Int) (i : Nat), (yT i l).length ≤ l.length
 | [], _ => by simp [yT]
 | z :: l, i => by
  have := Zbg l (i + 1)
  simp only [yT]; split <;> simp <;> omega
theorem Zbh : ∀ (l : List Int) (i : Nat), Qs l → ∀ s ∈ yT i l, ((i : Int) ≤ s.d ∧ s.d < (i + l.length : Nat)) ∧ 1 ≤ s.q ∧ s.q ≤ 2147483648
 | [], _, _ => by intro s hs; cases hs
 | z :: l, i, h => by
  have ih := Zbh l (i + 1) fun x hx => h x (by simp [hx])
  have hz := h z (by simp)
  intro s hs
  simp only [yT] at hs
  split at hs
  ·rcases List.mem_cons.1 hs with rfl | hs
   ·simp only [List.length_cons]; omega
   ·have := ih s hs; simp only [List.length_cons]; omega
  ·have := ih s hs; simp only [List.length_cons]; omega
theorem Zbi : ∀ (l : List Int) (i : Nat), ∀ s ∈ yT i l, (i : Int) ≤ s.d
 | [], _ => by intro s hs; cases hs
 | z :: l, i => by
  have ih := Zbi l (i + 1)
  intro s hs
  simp only [yT] at hs
  split at hs
  ·rcases List.mem_cons.1 hs with rfl | hs
   ·exact Int.le_refl _
   ·have := ih s hs; omega
  ·have := ih s hs; omega
theorem Zbj : ∀ (l : List Int) (i : Nat), ((yT i l).map (·.d)).Nodup
 | [], _ => by simp [yT]
 | z :: l, i => by
  have ih := Zbj l (i + 1)
  simp only [yT]
  split
  ·rw [List.map_cons, List.nodup_cons]
   refine ⟨fun h => ?_, ih⟩
   obtain ⟨s, hs, e⟩ := List.mem_map.1 h
   have := Zbi l (i + 1) s hs
   simp only at e; omega
  ·exact ih
theorem Zil (n a k : Nat) : (zV n a k).Nodup := by
 unfold zV
 refine List.Pairwise.map _ (fun x y (h : x ≠ y) => ?_) (List.Pairwise.filter _ List.nodup_range)
 intro e; apply h; omega
theorem Xr {q : List Int} {n : Nat} (hq : Qs q) (hl : q.length ≤ n) (hn : n ≤ 64) : GoodV n (yT 0 q) := by
 refine ⟨Nat.le_trans (Zbg q 0) (by omega), fun s hs => ?_, Zbj q 0⟩
 have := Zbh q 0 hq s hs
 omega
set_option maxRecDepth 20000 in
theorem Xs (q : List Int) (hq : q.length ≤ 1048576) : Pure Tryz.prog 63 [L q] (L (yT 0 q)) := by
 refine pwe Tryz.func63 Tryz.ntmps63 Tryz.results63 fun S nx hd => ?_
 (repeat apply za); refine pwn ?_; intros
 (repeat apply za); refine pwn ?_; intros
 refine za (yQ 3 103 2 rfl fun v1 => ?_)
 (repeat apply za); refine pwn ?_; intros
 repeat apply za
 refine ze (zq (fun s : Nat × List Visit × Nat => s.1 ≤ q.length ∧ s.2.1.length ≤ s.1 ∧ yT 0 q = s.2.1 ++ yT s.1 (q.drop s.1)) (fun (k, out, v1) => [(0, L q), (3, .sl nx v1 2 0 out.length), (4, I k)]) (fun (k, out, v1) => [.cells v1 103 (out.flatMap Enc.enc)]) (fun s => q.length - s.1) (0, [], v1) [] (by simp) (by simp) (by simp) ?_)
 rintro ⟨k, out, v1⟩ ⟨hk, hol, ho⟩
 simp only at hk hol ho ⊢
 (repeat apply za); refine pwn ?_; intros
 repeat apply za
 refine zl rfl (fun hc => ?_) (fun hc => ?_)
 ·simp at hc
  obtain ⟨z, tl, a1, a2, a3, e0⟩ := el1 rfl q k hc
  rw [a2] at ho
  simp only [yT] at ho
  refine zd (za (ze ?_))
  by_cases h : 0 < z
  ·rw [if_pos h] at ho
   repeat apply za
   refine pwN [] (jn2 e0 hc) ?_
   intros
   repeat apply za
   refine zh (by simp [h]) ?_
   repeat apply za
   refine pwN [] (jn2 e0 hc) ?_
   refine ⟨by omega, ?_⟩
   intros
   (repeat apply za); refine pwn ?_; intros
   exact zk (k + 1, out ++ [⟨k, z⟩], v1 + 1) [] ⟨hc, by simp; omega, by rw [ho]; simp⟩ (by simp; omega) (by simp [wrN k (by omega)]) rfl (by simp)
  ·rw [if_neg h] at ho
   repeat apply za
   refine pwN [] (jn2 e0 hc) ?_
   intros
   repeat apply za
   refine zj (by simp; omega) ?_
   refine zd ?_
   (repeat apply za); refine pwn ?_; intros
   exact zk (k + 1, out, v1) [] ⟨hc, Nat.le_succ_of_le hol, ho⟩ (by simp; omega) (by simp [wrN k (by omega)]) rfl (by simp)
 ·simp at hc
  obtain rfl : k = q.length := by omega
  rw [List.drop_length] at ho
  simp only [yT, List.append_nil] at ho
  refine zm ?_
  (repeat apply za); refine pwn ?_; intros
  refine zB 0 rfl ?_
  repeat apply za
  exact zb (zg hd (by simp; rfl) (by rw [ho]; simp [zi]))
set_option maxRecDepth 20000 in
theorem Zim (l : List Int) (d : Int) : RSpec Tryz.prog 132 [L l, I d] (fun p => ∃ z, p = I z) := by
 refine wC Tryz.func132 Tryz.ntmps132 Tryz.results132 fun S nx hd => ?_
 (repeat apply za); refine pwn ?_; intros
 by_cases h1 : d < 0
 ·repeat apply za
  refine pwN [(2, 7)] (jn2 h1 zn) ?_
  intros
  repeat apply za
  refine zh rfl ?_
  (repeat apply za); refine pwn ?_; intros
  repeat apply za
  exact zb ⟨_, S, (by simp; rfl), ⟨⟨0, rfl⟩, rfl⟩, zM hd⟩
 by_cases h2 : (l.length : Int) ≤ d
 ·repeat apply za
  refine pwN [(2, 7)] (jn2 h1 h2) ?_
  intros
  repeat apply za
  refine zh rfl ?_
  (repeat apply za); refine pwn ?_; intros
  repeat apply za
  exact zb ⟨_, S, (by simp; rfl), ⟨⟨0, rfl⟩, rfl⟩, zM hd⟩
 obtain ⟨k, rfl⟩ := Int.eq_ofNat_of_zero_le (show 0 ≤ d by omega)
 obtain ⟨z, tl, a1, a2, a3, e0⟩ := el1 rfl l k (by omega)
 have hk : k < l.length := by omega
 repeat apply za
 refine pwN [(2, 7)] (jn2 h1 h2) ?_
 intros
 repeat apply za
 refine zj rfl ?_
 refine zd ?_
 repeat apply za
 refine pwN [] (jn2 hk e0) ?_
 intros
 repeat apply za
 exact zb ⟨_, S, (by simp; rfl), ⟨⟨z, rfl⟩, rfl⟩, zM hd⟩
set_option maxRecDepth 20000 in
theorem Zbk (c : Cust) (n : Int) (l : List Int) (v : List Visit) (hc : CustFits c) (hv : VisOk v) : RSpec Tryz.prog 93 [.agg (zN c), I n, L l, L v] (fun p => ∃ z, p = I z) := by
 have hvn := hv.n
 have hb := Xh v n hv
 have hbn : (qO v n).length ≤ 1048576 := by rw [Qf]; omega
 generalize qO v n = q at hb hbn
 have hni := Xe c q hc hbn
 have hnl : (yr c q).1.length ≤ 1048576 := by
  unfold yr
  split
  ·simp
  ·cases h : yR c.size c.rate c.start q with
   | none => simp
   | some l => simp [Xf h]; exact hbn
 have hhe := ZaT c (yr c q).1 hnl
 generalize x9 c (yr c q).1 = hz at hhe
 generalize yr c q = ne at hni hhe
 obtain ⟨ns, er⟩ := ne
 simp only at hni hhe
 refine wC Tryz.func93 Tryz.ntmps93 Tryz.results93 fun S nx hd => ?_
 repeat apply za
 refine pwn ?_
 intro v0
 (repeat apply za); refine pwn ?_; intros
 (repeat apply za); refine pwn ?_; intros
 repeat apply za
 refine zW (nx := nx) (σ := Int) (fun _ => True) (fun z => [(1, I n), (3, L v), (4, .ptr nx v0 0), (9, I z)]) (fun _ => S) (fun _ => [.cells v0 41 (zN c)]) ?_ ?_
 ·refine ze (zq (fun s : Nat × Int => s.1 ≤ v.length) (fun (k, z) => [(1, I n), (2, L l), (3, L v), (4, .ptr nx v0 0), (9, I z), (10, I k)]) (fun _ => [.cells v0 41 (zN c)]) (fun s => v.length - s.1) (0, 0) [] (by simp) (by simp) (by simp) ?_)
  rintro ⟨k, z⟩ hk
  simp only at hk ⊢
  (repeat apply za); refine pwn ?_; intros
  repeat apply za
  refine zl rfl (fun hc1 => ?_) (fun hc1 => ?_)
  ·simp at hc1
   obtain ⟨s, tl, a1, a2, a3, _, e0⟩ := el 2 rfl v k hc1
   refine zd (za (ze ?_))
   repeat apply za
   refine zO [] (by rfl) (by rfl) fun K Gc Gh hK hGc hGh X hX0 hX => ?_
   simp -implicitDefEqProofs [hX0, hX, hc1, e0]
   try clear hX0 hX X
   refine hGc _ _ _ _ _ _ _ fun hsuf => ((Zim l s.d _).mono ?_).v
   rintro _ _ ⟨⟨y, rfl⟩, rfl⟩
   refine ⟨_, _, rfl, ?_⟩
   clear hGc hGh
   clear Gc Gh
   refine zJ hsuf (D := []) (by rfl) fun Gc Gh hGc hGh X hX0 hX => ?_
   simp -implicitDefEqProofs [hX0, hX]
   try clear hX0 hX X
   intros
   refine hK _ _ _ ?_
   clear hK hGc hGh
   clear K Gc Gh
   (repeat apply za); refine pwn ?_; intros
   exact zk (k + 1, IntKind.i64.wrap (z + y)) [] hc1 (by simp; omega) (by simp [wrN k (by omega)]) rfl (by simp)
  ·simp at hc1
   exact zm (zu z [] trivial (by simp) rfl (by simp))
 intro z _
 (repeat apply za); refine pwn ?_; intros
 refine zW (nx := nx) (σ := Int) (fun _ => True) (fun z => [(9, I z)]) (fun _ => S) (fun _ => []) ?_ ?_
 ·repeat apply za
  refine zl rfl (fun hk => ?_) (fun hk => ?_)
  ·repeat apply za
   refine pwY (some [nx]) (Row.pures [0, 1, 2, 3, 4, 5, 6, 7, 8, 9] .done) mixed trivial ?_
   refine pwP (hb) trivial ?_
   refine pwP (hni) trivial ?_
   intros
   repeat apply za
   refine pwn ?_
   refine pwc hhe ?_
   intros
   exact zu (IntKind.i64.wrap (z + hz)) [_] trivial (by simp) rfl rfl
  ·refine zd ?_
   exact zu z [_] trivial (by simp) rfl rfl
 intro z _
 (repeat apply za); refine pwn ?_; intros
 repeat apply za
 exact zb ⟨_, S, (by simp; rfl), ⟨⟨z, rfl⟩, rfl⟩, zM hd⟩
def jP (c : Cust) (p : Nat) : List Visit := (zV p 0 64).map fun d => ⟨d, c.demand⟩
set_option maxRecDepth 20000 in
theorem Zin (c : Cust) (p : Nat) (hp : p < 2 ^ 64) : Pure Tryz.prog 61 [.agg (zN c), U p] (L (jP c p)) := by
 have hall := ZaW p hp
 have hln := uk p 0 64
 unfold jP
 generalize zV p 0 64 = l at hall hln
 refine pwe Tryz.func61 Tryz.ntmps61 Tryz.results61 fun S nx hd => ?_
 repeat apply za
 refine pwn ?_
 intro v0
 (repeat apply za); refine pwn ?_; intros
 refine za (yQ 5 103 2 rfl fun v1 => ?_)
 repeat apply za
 refine pwn ?_
 refine pwc hall ?_
 intros
 (repeat apply za); refine pwn ?_; intros
 repeat apply za
 refine ze (zq (fun s : Nat × List Visit × Nat => s.1 ≤ l.length ∧ s.2.1 = (l.take s.1).map fun d => ⟨d, c.demand⟩) (fun (k, out, v1) => [(2, .ptr nx v0 0), (5, .sl (nx + 1) v1 2 0 out.length), (6, L l), (7, I k)]) (fun (k, out, v1) => [.cells v0 41 (zN c), .cells v1 103 (out.flatMap Enc.enc)]) (fun s => l.length - s.1) (0, [], v1) [] (by simp) (by simp) (by simp) ?_)
 rintro ⟨k, out, v1⟩ ⟨hk, ho⟩
 simp only at hk ho ⊢
 have hol : out.length = k := by rw [ho]; simp; omega
 (repeat apply za); refine pwn ?_; intros
 repeat apply za
 refine zl rfl (fun hc => ?_) (fun hc => ?_)
 ·simp at hc
  obtain ⟨d, tl, a1, a2, a3, e0⟩ := el1 rfl l k hc
  refine zd (za (ze ?_))
  repeat apply za
  refine pwY (some [nx]) (Row.pures [0, 1, 2, 3, 4, 5, 6, 7, 8] (.alt 9 (Row.pures [10] .done) .stop)) mixed (jn2 e0 hc) ?_
  refine ⟨by omega, ?_⟩
  intros
  (repeat apply za); refine pwn ?_; intros
  exact zk (k + 1, out ++ [⟨d, c.demand⟩], v1 + 1) [] ⟨hc, by rw [a3, ho]; simp⟩ (by simp; omega) (by simp [wrN k (by omega)]) rfl (by simp)
 ·simp at hc
  obtain rfl : k = l.length := by omega
  rw [List.take_length] at ho
  refine zm ?_
  (repeat apply za); refine pwn ?_; intros
  refine zB 1 rfl ?_
  repeat apply za
  exact zb (zg hd (by simp; rfl) (by rw [ho]; simp [zi]))
set_option maxRecDepth 20000 in
theorem Zio (c : Cust) (n : Nat) (cap : Int) (l : List Int) (hc : CustFits c) (hn : n ≤ 64) (hcap : cap ≤ 2147483648) :
  RSpec Tryz.prog 54 [.agg (zN c), I n, I cap, L l] (fun p => ∃ v b, p = .tup [L v, B b] ∧ (b = true → GoodV n v)) := by
 have vok : ∀ v, GoodV n v → VisOk v := fun v h => ⟨Nat.le_trans h.len (by decide), fun s hs => by have := h.ok s hs; omega, fun s hs => by have := h.ok s hs; unfold I64; omega⟩
 refine wC Tryz.func54 Tryz.ntmps54 Tryz.results54 fun S nx hd => ?_
 repeat apply za
 refine pwn ?_
 intro v0
 repeat apply za
 refine zO [] (by rfl) (by rfl) fun K Gc Gh hK hGc hGh X hX0 hX => ?_
 simp -implicitDefEqProofs [hX0, hX]
 try clear hX0 hX X
 refine hGc _ _ _ _ _ _ _ fun hsuf => ((Zbf c n cap false hc hn hcap _).mono ?_).v
 rintro _ _ ⟨⟨q, b, rfl, hq1, hq2⟩, rfl⟩
 refine ⟨_, _, rfl, ?_⟩
 clear hGc hGh
 clear Gc Gh
 refine zJ hsuf (D := []) (by rfl) fun Gc Gh hGc hGh X hX0 hX => ?_
 simp -implicitDefEqProofs [hX0, hX]
 try clear hX0 hX X
 intros
 refine hK _ _ _ ?_
 clear hK hGc hGh
 clear K Gc Gh
 have gq := Xr hq2 (Nat.le_of_eq hq1) hn
 cases b with
 | false =>
  (repeat apply za); refine pwn ?_; intros
  repeat apply za
  refine zh rfl ?_
  (repeat apply za); refine pwn ?_; intros
  refine xR 8 rfl ?_
  repeat apply za
  exact zb ⟨_, S, (by simp; rfl), ⟨⟨[], false, by simp [zi], fun h => nomatch h⟩, rfl⟩, zM hd⟩
 | true =>
  (repeat apply za); refine pwn ?_; intros
  repeat apply za
  refine zj rfl ?_
  refine zd ?_
  repeat apply za
  refine pwn ?_
  refine pwc (Xs q (by omega)) ?_
  intros
  repeat apply za
  refine zO [] (by rfl) (by rfl) fun K Gc Gh hK hGc hGh X hX0 hX => ?_
  simp -implicitDefEqProofs [hX0, hX]
  try clear hX0 hX X
  refine hGc _ _ _ _ _ _ _ fun hsuf => ((Zbf c n cap true hc hn hcap _).mono ?_).v
  rintro _ _ ⟨⟨q', b', rfl, hq1', hq2'⟩, rfl⟩
  refine ⟨_, _, rfl, ?_⟩
  clear hGc hGh
  clear Gc Gh
  refine zJ hsuf (D := []) (by rfl) fun Gc Gh hGc hGh X hX0 hX => ?_
  simp -implicitDefEqProofs [hX0, hX]
  try clear hX0 hX X
  intros
  refine hK _ _ _ ?_
  clear hK hGc hGh
  clear K Gc Gh
  have gq' := Xr hq2' (Nat.le_of_eq hq1') hn
  repeat apply za
  refine pwn ?_
  refine pwc (Xs q' (by omega)) ?_
  intros
  cases b' with
  | false =>
   repeat apply za
   refine pwY (some [nx]) (Row.pures [0, 1, 2, 3, 4, 5, 6, 7, 8, 9, 10, 11, 12, 13] .done) mixed zn ?_
   intros
   repeat apply za
   refine zj rfl ?_
   refine zd ?_
   (repeat apply za); refine pwn ?_; intros
   repeat apply za
   exact zb ⟨_, S, (by simp; rfl), ⟨⟨yT 0 q, true, by simp [zi], fun _ => gq⟩, rfl⟩, zM hd⟩
  | true =>
   have e1 := Zbk c n l (yT 0 q') hc (vok _ gq')
   have e2 := Zbk c n l (yT 0 q) hc (vok _ gq)
   generalize yT 0 q' = w at *
   generalize yT 0 q = v at *
   repeat apply za
   refine xQ (some [nx]) (Row.pures [0, 1, 2, 3, 4, 5, 7, 8, 9, 10] (.alt 6 (.alt 11 (Row.pures [12, 13] .done) .stop) .stop)) mixed (by rfl) (by rfl) (by rfl) fun K Gp Gc Gh hK hGp hGc hGh X hX0 hX1 hX2 hX => ?_
   simp -implicitDefEqProofs [hX0, hX1, hX2, hX]
   try clear hX0 hX1 hX2 hX X
   refine hGc _ _ _ _ _ _ _ (((e1 _).mono ?_).v)
   rintro _ _ ⟨⟨y, rfl⟩, rfl⟩
   refine ⟨by simp, ?_⟩
   clear hGp hGc hGh
   clear Gp Gc Gh
   refine js fun Gp Gc Gh hGp hGc hGh X hX0 hX1 hX2 hX => ?_
   simp -implicitDefEqProofs [hX0, hX1, hX2, hX]
   try clear hX0 hX1 hX2 hX X
   refine hGc _ _ _ _ _ _ _ (((e2 _).mono ?_).v)
   rintro _ _ ⟨⟨z, rfl⟩, rfl⟩
   refine ⟨by simp, ?_⟩
   clear hGp hGc hGh
   clear Gp Gc Gh
   refine js fun Gp Gc Gh hGp hGc hGh X hX0 hX1 hX2 hX => ?_
   simp -implicitDefEqProofs [hX0, hX1, hX2, hX]
   try clear hX0 hX1 hX2 hX X
   refine hK _ _ _ ?_
   clear hK hGp hGc hGh
   clear K Gp Gc Gh
   repeat apply za
   refine zl rfl (fun h => ?_) (fun h => ?_)
   ·(repeat apply za); refine pwn ?_; intros
    repeat apply za
    exact zb ⟨_, S, (by simp; rfl), ⟨⟨w, true, by simp [zi], fun _ => gq'⟩, rfl⟩, zM hd⟩
   ·refine zd ?_
    (repeat apply za); refine pwn ?_; intros
    repeat apply za
    exact zb ⟨_, S, (by simp; rfl), ⟨⟨v, true, by simp [zi], fun _ => gq⟩, rfl⟩, zM hd⟩
open Go
set_option maxRecDepth 20000 in
theorem Zip (c : Cust) (n : Nat) (cap : Int) (hc : CustFits c) (hn : n ≤ 16) (hcap : cap ≤ 2147483648) (hp : ∀ p ∈ c.pats, p < 2 ^ 64) (hpl : c.pats.length ≤ 1048576) (hpd : c.kind = 1 → (∀ p ∈ c.pats, ∀ d ∈ zV p 0 64, d < n) ∧ 1 ≤ c.demand ∧ c.demand ≤ 2147483648) :
  RSpec Tryz.prog 55 [.agg (zN c), I n, I cap] (fun p => ∃ vs : List (List Visit), p = L vs ∧ vs.length ≤ 1048576 ∧ ∀ v ∈ vs, GoodV n v) := by
 have patg : c.kind = 1 → ∀ p ∈ c.pats, GoodV n (jP c p) := fun hk p hpm => by
  obtain ⟨h1, h2⟩ := hpd hk
  refine ⟨by simp only [jP, List.length_map]; exact uk _ _ _, fun s hs => ?_, by simp only [jP, List.map_map]; exact (by simpa [Function.comp_def] using Zil p 0 64)⟩
  simp only [jP, List.mem_map] at hs
  obtain ⟨d, hd, rfl⟩ := hs
  have h0 : 0 ≤ d := by
   simp only [zV, List.mem_map] at hd
   obtain ⟨i, _, rfl⟩ := hd; omega
  exact ⟨⟨h0, h1 p hpm d hd⟩, h2⟩
 refine wC Tryz.func55 Tryz.ntmps55 Tryz.results55 fun S nx hd => ?_
 repeat apply za
 refine pwn ?_
 intro v0
 (repeat apply za); refine pwn ?_; intros
 refine za (yQ 7 42 1 rfl fun v1 => ?_)
 (repeat apply za); refine pwn ?_; intros
 repeat apply za
 refine zl rfl (fun hk => ?_) (fun hk => ?_)
 ·simp at hk
  (repeat apply za); refine pwn ?_; intros
  repeat apply za
  refine ze (zq (fun s : Nat × List (List Visit) × Nat => s.1 ≤ c.pats.length ∧ s.2.1.length ≤ s.1 ∧ ∀ v ∈ s.2.1, GoodV n v) (fun (k, out, v1) => [(1, I n), (2, I cap), (3, .ptr nx v0 0), (7, .sl (nx + 1) v1 1 0 out.length), (8, I k)]) (fun (k, out, v1) => [.cells v0 41 (zN c), .cells v1 42 (out.flatMap Enc.enc)]) (fun s => c.pats.length - s.1) (0, [], v1) [] (by simp) (by simp) (by simp) ?_)
  rintro ⟨k, out, v1⟩ ⟨hkl, hol, hg⟩
  simp only at hkl hol hg ⊢
  (repeat apply za); refine pwn ?_; intros
  repeat apply za
  refine zl rfl (fun hc1 => ?_) (fun hc1 => ?_)
  ·simp at hc1
   obtain ⟨p, tl, a1, a2, a3, e0⟩ := el1 rfl c.pats k hc1
   have hpm := List.mem_of_getElem? a1
   have hgp := patg hk p hpm
   refine zd (za (ze ?_))
   repeat apply za
   refine pwY (some [nx]) (Row.pures [0, 1, 2, 3, 4, 5, 6, 7] .done) mixed (jn2 hc1 e0) ?_
   refine pwP (Zin c p (hp p hpm)) trivial ?_
   intros
   repeat apply za
   refine zW (nx := nx) (σ := Bool × Nat) (fun _ => True) (fun (t, v1) => [(1, I n), (2, I cap), (3, .ptr nx v0 0), (7, .sl (nx + 1) v1 1 0 out.length), (8, I k), (9, L (jP c p)), (40, B t)]) (fun _ => S) (fun (t, v1) => [.cells v0 41 (zN c), .cells v1 42 (out.flatMap Enc.enc)]) ?_ ?_
   ·by_cases h0 : jP c p = []
    ·repeat apply za
     refine pwN [(3, 35)] (jn2 h0 zn) ?_
     intros
     exact zu (true, v1) [] trivial (by simp [h0]) rfl (by simp)
    ·repeat apply za
     refine pwN [(3, 35)] h0 ?_
     intros
     exact zu (_, v1) [] trivial (by simp; rfl) rfl (by simp)
   rintro ⟨t, v1⟩ -
   simp only
   cases t with
   | true =>
    repeat apply za
    refine zh rfl ?_
    repeat apply za
    refine pwn ?_
    refine ⟨by omega, ?_⟩
    intros
    (repeat apply za); refine pwn ?_; intros
    exact zk (k + 1, out ++ [jP c p], v1 + 1) [] ⟨hc1, by simp; omega, fun v hv => by rcases List.mem_append.1 hv with h | h; exact hg v h; rw [List.mem_singleton.1 h]; exact hgp⟩ (by simp; omega) (by simp [wrN k (by omega)]) rfl (by simp)
   | false =>
    repeat apply za
    refine zj rfl ?_
    refine zd ?_
    (repeat apply za); refine pwn ?_; intros
    exact zk (k + 1, out, v1) [] ⟨hc1, Nat.le_succ_of_le hol, hg⟩ (by simp; omega) (by simp [wrN k (by omega)]) rfl (by simp)
  ·simp at hc1
   refine zm ?_
   (repeat apply za); refine pwn ?_; intros
   refine zB 1 rfl ?_
   repeat apply za
   exact zb ⟨_, S, (by simp; rfl), ⟨⟨out, by simp [zi], by omega, hg⟩, rfl⟩, zM hd⟩
 ·simp at hk
  refine zd ?_
  (repeat apply za); refine pwn ?_; intros
  (repeat apply za); refine pwn ?_; intros
  repeat apply za
  have h2n : ∀ k : Nat, k ≤ n → 2 ^ k ≤ 65536 := fun k hk => by
   calc 2 ^ k ≤ 2 ^ 16 := Nat.pow_le_pow_right (by decide) (by omega)
    _ = 65536 := by decide
  refine zW (nx := nx) (σ := Nat) (fun _ => True) (fun v1 => [(1, I n), (2, I cap), (3, .ptr nx v0 0), (7, .sl (nx + 1) v1 1 0 0), (10, U (2 ^ n))]) (fun _ => S) (fun v1 => [.cells v0 41 (zN c), .cells v1 42 []]) ?_ ?_
  ·refine ze (zq (fun s : Nat => s ≤ n) (fun k => [(1, I n), (2, I cap), (3, .ptr nx v0 0), (7, .sl (nx + 1) v1 1 0 0), (10, U (2 ^ k)), (11, I k)]) (fun k => [.cells v0 41 (zN c), .cells v1 42 []]) (fun s => n - s) 0 [] (by simp) (by simp) (by simp) ?_)
   rintro k hkn
   (repeat apply za); refine pwn ?_; intros
   repeat apply za
   refine zl rfl (fun hc1 => ?_) (fun hc1 => ?_)
   ·simp at hc1
    have := h2n k hkn
    have u1 : IntKind.u64.wrap (2 * 2 ^ k) = 2 ^ (k + 1) := by
     have e2 : (2 : Int) ^ k = ((2 ^ k : Nat) : Int) := by simp
     have e3 : (2 : Int) ^ (k + 1) = 2 * 2 ^ k := by rw [Int.pow_succ, Int.mul_comm]
     rw [e3, e2]
     generalize 2 ^ k = m at this ⊢
     rw [IntWalk.u64_in _ (by omega)]
    refine zd (za (ze ?_))
    repeat apply za
    refine pwN [] u1 ?_
    intros
    (repeat apply za); refine pwn ?_; intros
    exact zk (k + 1) [] hc1 (by omega) (by simp [wrN k (by omega)]) rfl (by simp)
   ·simp at hc1
    obtain rfl : k = n := by omega
    exact zm (zu v1 [] trivial (by simp) rfl (by simp))
  intro v1 _
  have hl16 := h2n n (Nat.le_refl _)
  generalize 2 ^ n = last at hl16 ⊢
  (repeat apply za); refine pwn ?_; intros
  repeat apply za
  refine ze (zq (fun s : Nat × List (List Visit) × Nat => s.1 ≤ last ∧ s.2.1.length ≤ s.1 ∧ ∀ v ∈ s.2.1, GoodV n v) (fun (k, out, v1) => [(1, I n), (2, I cap), (3, .ptr nx v0 0), (7, .sl (nx + 1) v1 1 0 out.length), (10, U last), (12, U k)]) (fun (k, out, v1) => [.cells v0 41 (zN c), .cells v1 42 (out.flatMap Enc.enc)]) (fun s => last - s.1) (0, [], v1) [] (by simp) (by simp) (by simp) ?_)
  rintro ⟨k, out, v1⟩ ⟨hkl, hol, hg⟩
  simp only at hkl hol hg ⊢
  (repeat apply za); refine pwn ?_; intros
  repeat apply za
  refine zl rfl (fun hc1 => ?_) (fun hc1 => ?_)
  ·simp at hc1
   have u1 : IntKind.u64.wrap ((k : Int) + 1) = ((k + 1 : Nat) : Int) := by rw [IntWalk.u64_in _ (by omega)]; omega
   refine zd (za (ze ?_))
   repeat apply za
   refine zO [] (by rfl) (by rfl) fun K Gc Gh hK hGc hGh X hX0 hX => ?_
   simp -implicitDefEqProofs [hX0, hX]
   try clear hX0 hX X
   refine hGc _ _ _ _ _ _ _ fun hsuf => ((Zik c n cap k hc (by omega) hcap (by omega) _).mono ?_).v
   rintro _ _ ⟨⟨q, b, rfl, hq1, hq2⟩, rfl⟩
   refine ⟨_, _, rfl, ?_⟩
   clear hGc hGh
   clear Gc Gh
   refine zJ hsuf (D := []) (by rfl) fun Gc Gh hGc hGh X hX0 hX => ?_
   simp -implicitDefEqProofs [hX0, hX]
   try clear hX0 hX X
   intros
   refine hK _ _ _ ?_
   clear hK hGc hGh
   clear K Gc Gh
   (repeat apply za); refine pwn ?_; intros
   cases b with
   | true =>
    repeat apply za
    refine zh rfl ?_
    repeat apply za
    refine pwn ?_
    refine pwc (Xs q (by omega)) ?_
    refine ⟨by omega, ?_⟩
    intros
    repeat apply za
    refine pwN [] u1 ?_
    intros
    exact zk (k + 1, out ++ [yT 0 q], v1 + 1) [] ⟨hc1, by simp; omega, fun v hv => by rcases List.mem_append.1 hv with h | h; exact hg v h; rw [List.mem_singleton.1 h]; exact Xr hq2 hq1 (by omega)⟩ (by simp; omega) (by simp) rfl (by simp)
   | false =>
    repeat apply za
    refine zj rfl ?_
    refine zd ?_
    repeat apply za
    refine pwN [] u1 ?_
    intros
    exact zk (k + 1, out, v1) [] ⟨hc1, Nat.le_succ_of_le hol, hg⟩ (by simp; omega) (by simp) rfl (by simp)
  ·simp at hc1
   refine zm ?_
   (repeat apply za); refine pwn ?_; intros
   refine zB 1 rfl ?_
   repeat apply za
   exact zb ⟨_, S, (by simp; rfl), ⟨⟨out, by simp [zi], by omega, hg⟩, rfl⟩, zM hd⟩
structure CustMade (c : Cust) (n : Nat) : Prop where
 fits : CustFits c
 pats : ∀ p ∈ c.pats, p < 2 ^ 64
 npats : c.pats.length ≤ 1048576
 per : c.kind = 1 → (∀ p ∈ c.pats, ∀ d ∈ zV p 0 64, d < n) ∧ 1 ≤ c.demand ∧ c.demand ≤ 2147483648
set_option maxRecDepth 20000 in
theorem Ziq (x : Inst) (c : Cust) (n : Nat) (i : Nat) (pick : List Int) (hc : CustMade c n) (hxd : x.days = n) (hn : n ≤ 16) (hcap : x.cap ≤ 2147483648) (hpk : ∀ z ∈ pick, I64 z) :
  RSpec Tryz.prog 66 [.agg (zo x), .agg (zN c), I i, L pick] (fun p => ∃ v b, p = .tup [L v, B b] ∧ (b = true → GoodV n v)) := by
 have hany : RSpec Tryz.prog 54 [.agg (zN c), I n, I x.cap, .sc (.slice none 0 0)] (fun p => ∃ v b, p = .tup [L v, B b] ∧ (b = true → GoodV n v)) :=
  fun S => ZcL (.cons Wk.rfl (.cons Wk.rfl (.cons Wk.rfl (.cons Wk.nil .nil)))) (Zio c n x.cap [] hc.fits (by omega) hcap S)
 refine wC Tryz.func66 Tryz.ntmps66 Tryz.results66 fun S nx hd => ?_
 repeat apply za
 refine pwn ?_
 intro v0 v1
 (repeat apply za); refine pwn ?_; intros
 repeat apply za
 refine zl rfl (fun hr => ?_) (fun hr => ?_)
 ·repeat apply za
  refine zO [] (by rfl) (by rfl) fun K Gc Gh hK hGc hGh X hX0 hX => ?_
  simp -implicitDefEqProofs [hX0, hX, hxd]
  try clear hX0 hX X
  refine hGc _ _ _ _ _ _ _ fun hsuf => ((hany _).mono ?_).v
  rintro _ _ ⟨⟨v, b, rfl, hg⟩, rfl⟩
  refine ⟨_, _, rfl, ?_⟩
  clear hGc hGh
  clear Gc Gh
  refine zJ hsuf (D := []) (by rfl) fun Gc Gh hGc hGh X hX0 hX => ?_
  simp -implicitDefEqProofs [hX0, hX]
  try clear hX0 hX X
  intros
  refine hK _ _ _ ?_
  clear hK hGc hGh
  clear K Gc Gh
  repeat apply za
  exact zb ⟨_, S, (by simp; rfl), ⟨⟨v, b, by simp [zi], hg⟩, rfl⟩, zM hd⟩
 ·refine zd ?_
  repeat apply za
  refine zO [] (by rfl) (by rfl) fun K Gc Gh hK hGc hGh X hX0 hX => ?_
  simp -implicitDefEqProofs [hX0, hX, hxd]
  try clear hX0 hX X
  refine hGc _ _ _ _ _ _ _ fun hsuf => ((Zip c n x.cap hc.fits hn hcap hc.pats hc.npats hc.per _).mono ?_).v
  rintro _ _ ⟨⟨vs, rfl, hvl, hg⟩, rfl⟩
  refine ⟨_, _, rfl, ?_⟩
  clear hGc hGh
  clear Gc Gh
  refine zJ hsuf (D := []) (by rfl) fun Gc Gh hGc hGh X hX0 hX => ?_
  simp -implicitDefEqProofs [hX0, hX]
  try clear hX0 hX X
  intros
  refine hK _ _ _ ?_
  clear hK hGc hGh
  clear K Gc Gh
  by_cases h0 : vs = []
  ·repeat apply za
   refine pwN [] h0 ?_
   intros
   repeat apply za
   refine zh (by simp [h0]) ?_
   (repeat apply za); refine pwn ?_; intros
   refine xR 8 rfl ?_
   repeat apply za
   exact zb ⟨_, S, (by simp; rfl), ⟨⟨[], false, by simp [zi], fun h => nomatch h⟩, rfl⟩, zM hd⟩
  ·repeat apply za
   refine pwN [] h0 ?_
   intros
   repeat apply za
   refine zj (by simp [h0]) ?_
   refine zd ?_
   have hpos := List.length_pos_iff.2 h0
   (repeat apply za); refine pwn ?_; intros
   (repeat apply za); refine pwn ?_; intros
   repeat apply za
   refine zW (nx := nx) (σ := Int × Nat × Nat) (fun s => I64 s.1) (fun (z, v0, v1) => [(10, L vs), (11, I z)]) (fun _ => S) (fun (z, v0, v1) => []) ?_ ?_
   ·by_cases h1 : i < pick.length
    ·obtain ⟨z, tl, a1, a2, a3, e0⟩ := el1 rfl pick i h1
     repeat apply za
     refine zh (by simp [h1]) ?_
     repeat apply za
     refine pwN [] (jn2 h1 e0) ?_
     intros
     exact zu (z, v0, v1) [_, _] (hpk z (List.mem_of_getElem? a1)) (by simp) rfl rfl
    ·repeat apply za
     refine zj (by simp; omega) ?_
     refine zd ?_
     exact zu (0, v0, v1) [_, _] (by unfold I64; omega) (by simp) rfl rfl
   rintro ⟨z, v0, v1⟩ hz
   simp only at hz ⊢
   unfold I64 at hz
   (repeat apply za); refine pwn ?_; intros
   repeat apply za
   refine zW (nx := nx) (σ := Int) (fun z => 0 ≤ z ∧ z ≤ 9223372036854775807) (fun z => [(10, L vs), (11, I z)]) (fun _ => S) (fun z => []) ?_ ?_
   ·by_cases h1 : z < 0
    ·have q1 : IntKind.i64.wrap (z + 1) = z + 1 := wr _ (by omega) (by omega)
     have q2 : IntKind.i64.wrap (-(z + 1)) = -(z + 1) := wr _ (by omega) (by omega)
     repeat apply za
     refine zh (by simp [h1]) ?_
     repeat apply za
     refine pwN [] (jn2 q1 q2) ?_
     intros
     exact zu (-(z + 1)) [] (by omega) (by simp) rfl rfl
    ·repeat apply za
     refine zj (by simp; omega) ?_
     refine zd ?_
     exact zu z [] (by omega) (by simp) rfl rfl
   intro z hz
   have hvl' : ¬ vs.length = 0 := by omega
   obtain ⟨k, hk⟩ : ∃ k : Nat, z.tmod (vs.length : Int) = k := ⟨(z.tmod vs.length).toNat, by have := Int.tmod_nonneg (b := (vs.length : Int)) (a := z) hz.1; omega⟩
   have hkl : k < vs.length := by have := Int.tmod_lt_of_pos (a := z) (b := (vs.length : Int)) (by omega); omega
   obtain ⟨v, tl, a1, a2, a3, e0⟩ := el1 rfl vs k hkl
   repeat apply za
   refine pwN [] (jn4 hk hkl e0 h0) ?_
   intros
   repeat apply za
   exact zb ⟨_, S, (by simp; rfl), ⟨⟨v, true, by simp [zi], fun _ => hg v (List.mem_of_getElem? a1)⟩, rfl⟩, zM hd⟩
open Go
theorem Qk {α : Type} (l : List α) : l = [] ∨ ∃ m x, l = m ++ [x] := by
 rcases List.eq_nil_or_concat l with h | ⟨m, x, h⟩
 ·exact .inl h
 ·exact .inr ⟨m, x, by rw [h, List.concat_eq_append]⟩
def jA (x : Inst) (d : Day) (s : Stop) (join : Bool) : Day :=
 match d.reverse with
 | t :: r => if join = true ∧ zr x (t ++ [s]) = 0 then r.reverse ++ [t ++ [s]] else d ++ [[s]]
 | [] => [[s]]
theorem Xt (x : Inst) (s : Stop) (j : Bool) : jA x [] s j = [[s]] := rfl
theorem u7 (x : Inst) (d : Day) (t : zp) (s : Stop) (j : Bool) : jA x (d ++ [t]) s j = if j = true ∧ zr x (t ++ [s]) = 0 then d ++ [t ++ [s]] else (d ++ [t]) ++ [[s]] := by simp [jA]
theorem Ql (x : Inst) (d : Day) (s : Stop) (j : Bool) : (jA x d s j).flatten = d.flatten ++ [s] := by
 rcases Qk d with rfl | ⟨d', t, rfl⟩
 ·simp [Xt]
 ·rw [u7]; split <;> simp
theorem Zir (x : Inst) (d : Day) (s : Stop) (j : Bool) (h : ∀ t ∈ d, t ≠ []) : ∀ t ∈ jA x d s j, t ≠ [] := by
 rcases Qk d with rfl | ⟨d', t, rfl⟩
 ·simp [Xt]
 ·rw [u7]
  split
  ·intro u hu
   rcases List.mem_append.1 hu with hu | hu
   ·exact h u (by simp [hu])
   ·rw [List.mem_singleton.1 hu]; simp
  ·intro u hu
   rcases List.mem_append.1 hu with hu | hu
   ·exact h u hu
   ·rw [List.mem_singleton.1 hu]; simp
theorem Qm {α : Type} [Enc α] (h1 : Enc.sz α = 1) (l : List α) (k : Nat) (v : α) (h : k < l.length) : zK (l.flatMap Enc.enc) k (Enc.enc v) = (l.set k v).flatMap Enc.enc := by
 have e1 : (l.flatMap Enc.enc).take k = (l.take k).flatMap Enc.enc := by
  have := wW (α := α) Enc.enc (Enc.sz α) Enc.len l k; rwa [h1, Nat.mul_one] at this
 have e2 : (l.flatMap Enc.enc).drop (k + 1) = (l.drop (k + 1)).flatMap Enc.enc := by
  have := uz (α := α) Enc.enc (Enc.sz α) Enc.len l (k + 1); rwa [h1, Nat.mul_one] at this
 rw [zK, Enc.len, h1, e1, e2, List.set_eq_take_append_cons_drop, if_pos h]
 simp
set_option maxRecDepth 20000 in
theorem Zis (x : Inst) (d : Day) (s : Stop) (j : Bool) (hx : x.cust.length ≤ 1048576) (hd0 : d.length ≤ 1000000) (ht : ∀ t ∈ d, t.length ≤ 1000000) : Pure Tryz.prog 67 [.agg (zo x), .agg [L d], .agg [I s.c, I s.q], B j] (.agg [L (jA x d s j)]) := by
 refine pwe Tryz.func67 Tryz.ntmps67 Tryz.results67 fun S nx hd => ?_
 repeat apply za
 refine pwn ?_
 intro v0 v1 v2 v3
 repeat apply za
 refine pwn ?_
 intro v4
 repeat apply za
 refine pwn ?_
 refine ⟨by omega, fun v5 => ?_⟩
 intros
 (repeat apply za); refine pwn ?_; intros
 have last : (d = [] ∨ j = false ∨ jA x d s j = d ++ [[s]]) → jA x d s j = d ++ [[s]] := by
  intro h
  rcases Qk d with rfl | ⟨d', t, rfl⟩
  ·rfl
  ·rcases h with h | rfl | h
   ·simp at h
   ·rw [u7]; simp
   ·exact h
 rcases Qk d with rfl | ⟨d', t, rfl⟩
 ·repeat apply za
  refine zW (nx := nx) (σ := Unit) (fun _ => True) (fun _ => [(6, .ptr (nx + 2) v2 0), (8, .ptr (nx + 3) v3 0), (9, .ptr (nx + 4) v4 0), (25, B false)]) (fun _ => S) (fun _ => [.cells v0 25 (zo x), .cells v1 66 [L ([] : Day)], .cells v2 50 [I s.c, I s.q], .cells v3 66 [.sc (.slice none 0 0)], .cells v4 66 [.sl (nx + 5) v5 1 0 0], .cells v5 72 []]) ?_ ?_
  ·cases j with
   | true =>
    repeat apply za
    refine pwN [(1, 22)] trivial ?_
    intros
    exact zu () [] trivial (by simp) rfl (by simp)
   | false =>
    repeat apply za
    refine pwN [(1, 22)] zn ?_
    intros
    exact zu () [] trivial (by simp) rfl (by simp)
  intro _ _
  repeat apply za
  refine zj (by simp) ?_
  refine zd ?_
  (repeat apply za); refine pwn ?_; intros
  (repeat apply za); refine pwn ?_; intros
  refine zB 5 rfl ?_
  repeat apply za
  exact zb (zg hd (by simp; rfl) (by simp [Xt, zi]))
 ·have htl := ht t (by simp)
  have hdl : d'.length + 1 ≤ 1000000 := by simpa using hd0
  obtain ⟨t', tl, a1, a2, a3, e0⟩ := el1 rfl (d' ++ [t]) d'.length (by simp)
  obtain rfl : t' = t := by simp at a1; exact a1.symm
  have hw : IntKind.i64.wrap (((d'.length : Int) + 1) - 1) = (d'.length : Int) := by rw [wr _ (by omega) (by omega)]; omega
  have hw' : IntKind.i64.wrap (d'.length : Int) = (d'.length : Int) := wr _ (by omega) (by omega)
  have hlt : (d'.length : Int) < (d'.length : Int) + 1 := by omega
  have hpos : (0 : Int) < (d'.length : Int) + 1 := by omega
  have e0' : List.drop d'.length (List.flatMap Enc.enc d' ++ Enc.enc t') = Enc.enc t' ++ tl := by simpa using e0
  have hsp := Qm (α := zp) rfl (d' ++ [t']) d'.length (t' ++ [s]) (by simp)
  have hset : (d' ++ [t']).set d'.length (t' ++ [s]) = d' ++ [t' ++ [s]] := by simp
  rw [hset] at hsp
  have hsp' : zK (List.flatMap Enc.enc d' ++ [L t']) d'.length [L (t' ++ [s])] = List.flatMap Enc.enc d' ++ [L (t' ++ [s])] := by simpa using hsp
  have htk : List.take (d'.length + 1) (List.flatMap Enc.enc d' ++ [L t']) = List.flatMap Enc.enc d' ++ [L t'] := List.take_of_length_le (by simp)
  cases j with
  | false =>
   repeat apply za
   refine pwN [(1, 22)] zn ?_
   intros
   repeat apply za
   refine zj rfl ?_
   refine zd ?_
   repeat apply za
   refine pwN [] htk ?_
   refine ⟨by omega, ?_⟩
   intros
   (repeat apply za); refine pwn ?_; intros
   refine zB 5 rfl ?_
   repeat apply za
   exact zb (zg hd (by simp; rfl) (by simp [u7, zi]))
  | true =>
   repeat apply za
   refine pwN [(1, 22)] hpos ?_
   intros
   repeat apply za
   refine zh (by simp) ?_
   repeat apply za
   refine pwn ?_
   intro v6
   repeat apply za
   refine pwY (some [nx + 4, nx + 5]) (Row.pures [0, 2, 3, 4, 5, 6, 7, 8] (.alt 1 (.alt 9 (Row.pures [10] (.alt 11 (.done) .stop)) .stop) .stop)) mixed (jn4 hw hw' hlt e0') ?_
   refine ⟨by omega, fun v7 => ?_⟩
   intros
   repeat apply za
   refine pwn ?_
   refine ⟨by omega, ?_⟩
   intros
   refine zB 7 rfl ?_
   have hmay := W4 x (t' ++ [s]) hx (by simp; omega)
   have hLt : L (t' ++ [s]) = .lst (t'.length + 1) (List.flatMap Enc.enc t' ++ [I s.c, I s.q]) := by simp
   have hsp2 := hsp'
   rw [hLt] at hmay hsp2
   have ht2 : (t'.length + 1) * 2 = t'.length * 2 + 2 := by omega
   repeat apply za
   refine pwN [] ht2 ?_
   refine pwc hmay ?_
   intros
   by_cases hm : zr x (t' ++ [s]) = 0
   ·repeat apply za
    refine zh (by simp [hm]) ?_
    repeat apply za
    refine pwN [] (jn4 hw hw' hlt hsp2) ?_
    intros
    (repeat apply za); refine pwn ?_; intros
    refine zB 5 rfl ?_
    repeat apply za
    exact zb (zg hd (by simp; rfl) (by simp [u7, hm, zi]))
   ·repeat apply za
    refine zj (by simp [hm]) ?_
    refine zd ?_
    repeat apply za
    refine pwN [] htk ?_
    refine ⟨by omega, ?_⟩
    intros
    (repeat apply za); refine pwn ?_; intros
    refine zB 5 rfl ?_
    repeat apply za
    exact zb (zg hd (by simp; rfl) (by simp [u7, hm, zi]))
open Go
def qH (p : zF) : Nat := (p.map fun d => d.flatten.length).sum
theorem Zit {p : zF} {k : Nat} {d e : Day} (h : p[k]? = some d) (he : e.flatten.length = d.flatten.length + 1) : qH (p.set k e) = qH p + 1 := by
 induction p generalizing k with
 | nil => cases h
 | cons a p ih =>
  cases k with
  | zero =>
   simp only [List.getElem?_cons_zero, Option.some.injEq] at h; subst h
   simp only [List.set_cons_zero, qH, List.map_cons, List.sum_cons, he]; omega
  | succ k =>
   have := ih (k := k) (by simpa using h)
   simp only [List.set_cons_succ, qH, List.map_cons, List.sum_cons] at this ⊢; omega
theorem Xu : ∀ (p : zF) (i : Nat), (told i p).length = qH p
 | [], _ => rfl
 | d :: p, i => by
  have := Xu p (i + 1)
  simp only [told, List.length_append, List.length_map, qH, List.map_cons, List.sum_cons] at this ⊢; omega
structure MadeP (m : Nat) (n : Nat) (p : zF) : Prop where
 len : p.length = n
 ne : ∀ d ∈ p, ∀ t ∈ d, t ≠ []
 ok : ∀ d ∈ p, ∀ s ∈ d.flatten, (0 ≤ s.c ∧ s.c < m) ∧ 1 ≤ s.q ∧ s.q ≤ 2147483648
 nd : ∀ d ∈ p, (d.flatten.map (·.c)).Nodup
theorem Qn : ∀ (d : Day), (∀ t ∈ d, t ≠ []) → d.length ≤ d.flatten.length
 | [], _ => by simp
 | t :: d, h => by
  have h1 := Qn d fun u hu => h u (by simp [hu])
  have h2 := List.length_pos_iff.2 (h t (by simp))
  simp only [List.flatten_cons, List.length_cons, List.length_append]; omega
theorem ZX : ∀ (d : Day) (t : zp), t ∈ d → t.length ≤ d.flatten.length
 | [], _, h => by cases h
 | u :: d, t, h => by
  simp only [List.flatten_cons, List.length_append]
  rcases List.mem_cons.1 h with rfl | h
  ·omega
  ·have := ZX d t h; omega
theorem Zbl : ∀ (p : zF) (d : Day), d ∈ p → d.flatten.length ≤ qH p
 | [], _, h => by cases h
 | u :: p, d, h => by
  simp only [qH, List.map_cons, List.sum_cons]
  rcases List.mem_cons.1 h with rfl | h
  ·omega
  ·have := Zbl p d h; simp only [qH] at this; omega
theorem MadeP.set {m n : Nat} {p : zF} (h : MadeP m n p) {k : Nat} {d : Day} (hd : p[k]? = some d) (x : Inst) (s : Stop) (j : Bool) (hs : (0 ≤ s.c ∧ s.c < m) ∧ 1 ≤ s.q ∧ s.q ≤ 2147483648) (hno : ∀ u ∈ d.flatten, u.c ≠ s.c) : MadeP m n (p.set k (jA x d s j)) := by
 have hdm := List.mem_of_getElem? hd
 refine ⟨by simp [h.len], fun e he t ht => ?_, fun e he u hu => ?_, fun e he => ?_⟩
 ·rcases List.mem_or_eq_of_mem_set he with he | rfl
  ·exact h.ne e he t ht
  ·exact Zir x d s j (h.ne d hdm) t ht
 ·rcases List.mem_or_eq_of_mem_set he with he | rfl
  ·exact h.ok e he u hu
  ·rw [Ql] at hu
   rcases List.mem_append.1 hu with hu | hu
   ·exact h.ok d hdm u hu
   ·rw [List.mem_singleton.1 hu]; exact hs
 ·rcases List.mem_or_eq_of_mem_set he with he | rfl
  ·exact h.nd e he
  ·rw [Ql, List.map_append]
   exact ZB _ _ (h.nd d hdm) (fun hm => by obtain ⟨u, hu, e⟩ := List.mem_map.1 hm; exact hno u hu e)
theorem Ziu (n : Nat) : yW n (.agg #[.slice none 0 0]) = List.replicate n (.sc (.slice none 0 0)) := by
 induction n with
 | zero => simp
 | succ n ih => rw [wA, ih]; rfl
theorem Ziv (n : Nat) : (List.replicate n ([] : Day)).flatMap Enc.enc = List.replicate n (L ([] : Day)) := by
 induction n with
 | zero => simp
 | succ n ih => rw [List.replicate_succ, List.flatMap_cons, ih]; rfl
structure InstMade (x : Inst) (n : Nat) : Prop where
 days : x.days = n
 n16 : n ≤ 16
 cust : x.cust.length ≤ 1000
 made : ∀ c ∈ x.cust, CustMade c n
 cap : x.cap ≤ 2147483648
set_option maxRecDepth 20000 in
theorem Ziw (x : Inst) (n : Nat) (pick : List Int) (joins : List Bool) (hx : InstMade x n) (hpk : ∀ z ∈ pick, I64 z) :
  RSpec Tryz.prog 27 [.agg (zo x), L pick, L joins] (fun p => ∃ (pl : zF) (b : Bool), p = .tup [.agg [L pl], B b] ∧ (b = true → MadeP x.cust.length n pl ∧ qH pl ≤ 64000)) := by
 have hn := hx.n16
 have hxd := hx.days
 have hxc := hx.cust
 refine wC Tryz.func27 Tryz.ntmps27 Tryz.results27 fun S nx hd => ?_
 repeat apply za
 refine pwn ?_
 intro v0 v1
 repeat apply za
 refine pwn ?_
 intro v2
 repeat apply za
 refine pwN [] hxd ?_
 refine ⟨by omega, fun v3 => ?_⟩
 intros
 refine ZcP 3 ((List.replicate n ([] : Day)).flatMap Enc.enc) rfl (by rw [Ziu, Ziv]; exact Wv _ _ Wk.nil n) ?_
 simp only [List.set_cons_succ, List.set_cons_zero, List.append_eq, List.cons_append, List.nil_append]
 (repeat apply za); refine pwn ?_; intros
 repeat apply za
 refine ze (zq (fun s : Nat × zF => s.1 ≤ x.cust.length ∧ MadeP x.cust.length n s.2 ∧ qH s.2 ≤ 64 * s.1 ∧ ∀ d ∈ s.2, ∀ u ∈ d.flatten, u.c < s.1) (fun (i, pl) => [(1, L pick), (2, L joins), (3, .ptr nx v0 0), (6, .ptr (nx + 1) v1 0), (8, .ptr (nx + 2) v2 0), (9, I i)])
  (fun (i, pl) => [.cells v0 25 (zo x), .cells v1 29 [.sc (.slice none 0 0)], .cells v2 29 [.sl (nx + 3) v3 1 0 n], .cells v3 66 (pl.flatMap Enc.enc)]) (fun s => x.cust.length - s.1) (0, List.replicate n []) [] ?_ (by simp) (by simp [hxd]) ?_)
 ·refine ⟨by simp, ⟨by simp, fun d hd t ht => ?_, fun d hd s hs => ?_, fun d hd => ?_⟩, ?_, fun d hd u hu => ?_⟩
  ·rw [(List.mem_replicate.1 hd).2] at ht; cases ht
  ·rw [(List.mem_replicate.1 hd).2] at hs; simp at hs
  ·rw [(List.mem_replicate.1 hd).2]; simp
  ·have : ∀ k : Nat, qH (List.replicate k []) = 0 := by
    intro k; induction k with
    | zero => rfl
    | succ k ih => simp [qH, List.replicate_succ] at ih ⊢
   simp [this]
  ·rw [(List.mem_replicate.1 hd).2] at hu; simp at hu
 rintro ⟨i, pl⟩ ⟨hi, hm, hcnt, hlow⟩
 simp only at hi hm hcnt hlow ⊢
 (repeat apply za); refine pwn ?_; intros
 repeat apply za
 refine zl rfl (fun hc => ?_) (fun hc => ?_)
 ·simp at hc
  obtain ⟨c, tl, a1, a2, a3, _, e0⟩ := el 8 rfl x.cust i hc
  have hcm := hx.made c (List.mem_of_getElem? a1)
  refine zd (za (ze ?_))
  repeat apply za
  refine xQ (some [nx]) (Row.pures [0, 1, 2, 3, 4, 5, 6, 7] (.alt 8 (Row.pures [9, 10, 11, 12, 13] .done) .stop)) mixed (by rfl) (by rfl) (by rfl) fun K Gp Gc Gh hK hGp hGc hGh X hX0 hX1 hX2 hX => ?_
  simp -implicitDefEqProofs [hX0, hX1, hX2, hX, hc, e0]
  try clear hX0 hX1 hX2 hX X
  refine hGc _ _ _ _ _ _ _ (((Ziq x c n i pick hcm hxd hn hx.cap hpk _).mono ?_).v)
  rintro _ _ ⟨⟨v, b, rfl, hg⟩, rfl⟩
  refine ⟨by simp, ?_⟩
  clear hGp hGc hGh
  clear Gp Gc Gh
  refine js fun Gp Gc Gh hGp hGc hGh X hX0 hX1 hX2 hX => ?_
  simp -implicitDefEqProofs [hX0, hX1, hX2, hX]
  try clear hX0 hX1 hX2 hX X
  refine hK _ _ _ ?_
  clear hK hGp hGc hGh
  clear K Gp Gc Gh
  cases b with
  | false =>
   (repeat apply za); refine pwn ?_; intros
   repeat apply za
   refine zh rfl ?_
   (repeat apply za); refine pwn ?_; intros
   refine vN 1 0 rfl rfl ?_
   repeat apply za
   exact zb ⟨_, S, (by simp; rfl), ⟨⟨[], false, by simp [zi], fun h => nomatch h⟩, rfl⟩, zM hd⟩
  | true =>
   have hg := hg rfl
   have hvl := hg.len
   (repeat apply za); refine pwn ?_; intros
   repeat apply za
   refine zj rfl ?_
   refine zd ?_
   (repeat apply za); refine pwn ?_; intros
   repeat apply za
   refine ze (zq (fun s : Nat × zF => s.1 ≤ v.length ∧ MadeP x.cust.length n s.2 ∧ qH s.2 ≤ 64 * i + s.1 ∧ ∀ (dn : Nat) (d : Day), s.2[dn]? = some d → ∀ u ∈ d.flatten, u.c < i ∨ (u.c = i ∧ (dn : Int) ∈ (v.take s.1).map (·.d))) (fun (k, pl) => [(1, L pick), (2, L joins), (3, .ptr nx v0 0), (6, .ptr (nx + 1) v1 0), (8, .ptr (nx + 2) v2 0), (9, I i), (10, L v), (12, I k)])
    (fun (k, pl) => [.cells v0 25 (zo x), .cells v1 29 [.sc (.slice none 0 0)], .cells v2 29 [.sl (nx + 3) v3 1 0 n], .cells v3 66 (pl.flatMap Enc.enc)]) (fun s => v.length - s.1) (0, pl) [] ⟨by simp, hm, hcnt, fun dn d hd u hu => .inl (hlow d (List.mem_of_getElem? hd) u hu)⟩ (by simp) (by simp) ?_)
   clear hlow
   rintro ⟨k, pl⟩ ⟨hk, hm, hcnt, hlow⟩
   simp only at hk hm hcnt hlow ⊢
   (repeat apply za); refine pwn ?_; intros
   repeat apply za
   refine zl rfl (fun hc1 => ?_) (fun hc1 => ?_)
   ·simp at hc1
    obtain ⟨s, tl2, b1, b2, b3, e1, e2⟩ := el 2 rfl v k hc1
    have e21 := e1 1 (by omega)
    have hs := hg.ok s (List.mem_of_getElem? b1)
    obtain ⟨dn, hdn⟩ := Int.eq_ofNat_of_zero_le hs.1.1
    have hdl : dn < n := by omega
    obtain ⟨d, tl3, d1, d2, d3, e3⟩ := el1 rfl pl dn (by rw [hm.len]; exact hdl)
    have hdm := List.mem_of_getElem? d1
    refine zd (za (ze ?_))
    repeat apply za
    refine pwN [] (jn2 e21 hc1) ?_
    intro v4
    have w1 : IntKind.i64.wrap ((i : Int) + (dn : Int)) = ((i + dn : Nat) : Int) := by rw [wr _ (by omega) (by omega)]; omega
    repeat apply za
    refine zW (nx := nx) (σ := Bool) (fun _ => True) (fun t => [(1, L pick), (2, L joins), (3, .ptr nx v0 0), (6, .ptr (nx + 1) v1 0), (8, .ptr (nx + 2) v2 0), (9, I i), (10, L v), (12, I k), (13, .ptr (nx + 4) v4 0), (14, B t)]) (fun _ => S)
     (fun t => [.cells v0 25 (zo x), .cells v1 29 [.sc (.slice none 0 0)], .cells v2 29 [.sl (nx + 3) v3 1 0 n], .cells v3 66 (pl.flatMap Enc.enc), .cells v4 50 [I i, I s.q]]) ?_ ?_
    ·by_cases h : i + dn < joins.length
     ·obtain ⟨j, tl4, j1, j2, j3, e4⟩ := el1 rfl joins (i + dn) h
      have h' : (i : Int) + (dn : Int) < joins.length := by omega
      have h0 : (0 : Int) ≤ (i : Int) + (dn : Int) := by omega
      have hN : ((i : Int) + (dn : Int)).toNat = i + dn := by omega
      repeat apply za
      refine pwN [(10, 64)] (jn6 e2 hc1 hdn w1 h (jn4 h' e4 h0 hN)) ?_
      intros
      exact zu j [] trivial (by simp) rfl (by simp)
     ·have h' : ¬ (i : Int) + (dn : Int) < joins.length := by omega
      repeat apply za
      refine pwN [(10, 64)] (jn6 e2 hc1 hdn w1 h (jn2 h' zn)) ?_
      intros
      exact zu false [] trivial (by simp) rfl (by simp)
    intro j _
    have hpll := hm.len
    have hdf := Zbl pl d hdm
    have hdn2 := Qn d (hm.ne d hdm)
    have hput := Zis x d ⟨i, s.q⟩ j (by omega) (by omega) (fun t ht => by have := ZX d t ht; omega)
    have hsp := Qm (α := Day) rfl pl dn (jA x d ⟨i, s.q⟩ j) (by omega)
    have hsp' : zK (pl.flatMap Enc.enc) dn [L (jA x d ⟨i, s.q⟩ j)] = (pl.set dn (jA x d ⟨i, s.q⟩ j)).flatMap Enc.enc := hsp
    have hnew := hm.set d1 x ⟨i, s.q⟩ j ⟨⟨by dsimp only; omega, by dsimp only; omega⟩, hs.2⟩ (fun u hu => by
     rcases hlow dn d d1 u hu with q | ⟨_, q⟩
     ·dsimp only; omega
     ·exfalso
      have hnd := hg.nd
      rw [← List.take_append_drop k v, b2, List.map_append, List.nodup_append] at hnd
      exact hnd.2.2 _ q s.d (by simp) (by rw [hdn]))
    have hlow' : ∀ (dn' : Nat) (d' : Day), (pl.set dn (jA x d ⟨i, s.q⟩ j))[dn']? = some d' → ∀ u ∈ d'.flatten, u.c < i ∨ (u.c = i ∧ (dn' : Int) ∈ (v.take (k + 1)).map (·.d)) := by
     intro dn' d' hd' u hu
     rw [List.getElem?_set] at hd'
     rw [b3, List.map_append]
     split at hd'
     ·rename_i e
      subst e
      split at hd'
      ·cases hd'
       rw [Ql] at hu
       rcases List.mem_append.1 hu with hu | hu
       ·exact (hlow dn d d1 u hu).imp id (fun q => ⟨q.1, List.mem_append_left _ q.2⟩)
       ·rw [List.mem_singleton.1 hu]
        exact .inr ⟨rfl, List.mem_append_right _ (by simp; rw [hdn])⟩
      ·cases hd'
     ·exact (hlow dn' d' hd' u hu).imp id (fun q => ⟨q.1, List.mem_append_left _ q.2⟩)
    have hcn := Zit (e := jA x d ⟨i, s.q⟩ j) d1 (by rw [Ql]; simp)
    generalize jA x d ⟨i, s.q⟩ j = nd at hput hsp' hnew hcn hlow'
    have hfl : (pl.flatMap Enc.enc).length = n := by rw [qw, hpll]
    repeat apply za
    refine pwY (some [nx, nx + 2, nx + 4]) (Row.pures [0, 1, 2, 3, 4, 5, 6, 7, 8, 9, 10, 11, 12, 13, 14, 15, 17, 18] (.alt 16 (Row.pures [19, 20] (.alt 21 (.done) .stop)) .stop)) mixed (jn5 e2 hc1 hdn hdl e3) ?_
    refine pwP (hput) (jn3 hsp' hdl hdn) ?_
    refine ⟨by omega, ?_⟩
    intros
    (repeat apply za); refine pwn ?_; intros
    exact zk (k + 1, pl.set dn nd) [_] ⟨hc1, hnew, by dsimp only; omega, hlow'⟩ (by simp; omega) (by simp [wrN k (by omega)]) rfl (by simp; rfl)
   ·simp at hc1
    obtain rfl : k = v.length := by omega
    refine zm ?_
    (repeat apply za); refine pwn ?_; intros
    exact zk (i + 1, pl) [] ⟨hc, hm, by dsimp only; omega, fun d hd u hu => by
     obtain ⟨dn, _, hdn⟩ := List.getElem_of_mem hd
     rcases hlow dn d (by rw [List.getElem?_eq_getElem (by assumption), hdn]) u hu with q | q
     ·dsimp only; omega
     ·dsimp only; omega⟩ (by simp; omega) (by simp [wrN i (by omega)]) rfl (by simp)
 ·simp at hc
  obtain rfl : i = x.cust.length := by omega
  have hpll := hm.len
  refine zm ?_
  (repeat apply za); refine pwn ?_; intros
  refine zB 3 rfl ?_
  repeat apply za
  exact zb ⟨_, S, (by simp; rfl), ⟨⟨pl, true, by simp [zi, hpll], fun _ => ⟨hm, by omega⟩⟩, rfl⟩, zM hd⟩
open Go
def lx : Inst := ⟨1, 1, 9, 9, [], [[0]]⟩
def ly : Inst := ⟨1, 1, 9, 9, [⟨1, 1, [1], 0, 0, 0, 0, 0⟩], [[0, 3], [4, 0]]⟩
def lp : zF := [[]]
theorem Zix : ∀ i : Nat, yv 1 i = 1 ↔ i = 0 := by
 intro i
 cases i with
 | zero => simp [yv]
 | succ i => simp [yv, Nat.div_eq_of_lt (show 1 < 2 ^ (i + 1) from Nat.one_lt_two_pow (by omega))]
open Go
theorem Zbm (p : Nat) : ∀ k : Nat, k ≤ 64 → ∀ i : Nat, yv (qj p k) i = 1 → i < k
 | 0, _, i, h => by simp [qj, yv] at h
 | k + 1, hk, i, h => by
  have ih := Zbm p k (by omega) i
  unfold qj at h
  split at h
  ·rw [Za1 _ _ (Zz p k) (by omega)] at h
   have h2 : ((qj p k ||| 2 ^ k).testBit i) = true := by
    rw [Xn]; unfold vp at h; rw [if_pos (by omega), Int.toNat_natCast] at h; simp [h]
   rw [Nat.testBit_or, Nat.testBit_two_pow, Bool.or_eq_true] at h2
   rcases h2 with h2 | h2
   ·rw [Xn] at h2
    have := ih (by simpa using h2); omega
   ·have : k = i := by simpa using h2
    omega
  ·have := ih h; omega
theorem Zbn {p a k : Nat} {d : Int} (h : d ∈ zV p a k) : ∃ i : Nat, d = i ∧ i < k ∧ yv p i = 1 := by
 simp only [zV, List.mem_map, List.mem_filter, List.mem_range, Bool.and_eq_true, decide_eq_true_eq] at h
 obtain ⟨i, ⟨h1, _, h3⟩, rfl⟩ := h
 exact ⟨i, rfl, h1, h3⟩
theorem Zbo (c : Cust) (days : Int) (h1 : 1 ≤ days) (h7 : days ≤ 7) : CustMade (qk c days) days.toNat := by
 unfold qk
 split
 ·have a := qy c.rate 0 9 (by omega)
  have b := qy c.size 1 30 (by omega)
  have d := qy c.start 0 (rnd c.size 1 30) (by omega)
  exact ⟨⟨by dsimp only; omega, by dsimp only; omega, by dsimp only; omega⟩, by simp, by simp, fun h => by simp at h⟩
 ·have a := qy c.demand 1 15 (by omega)
  refine ⟨⟨by simp, by simp, by simp⟩, ?_, ?_, fun _ => ⟨?_, by dsimp only; omega, by dsimp only; omega⟩⟩
  ·intro p hp
   simp only [w9] at hp
   split at hp
   ·simp only [List.mem_singleton] at hp; omega
   ·obtain ⟨q, _, rfl⟩ := List.mem_map.1 hp; exact Zz q _
  ·simp only [w9]; split
   ·simp
   ·simp; omega
  ·intro p hp d hd
   obtain ⟨i, rfl, _, hb⟩ := Zbn hd
   simp only [w9] at hp
   split at hp
   ·simp only [List.mem_singleton] at hp; subst hp
    have := (Zix i).1 hb; omega
   ·obtain ⟨q, _, rfl⟩ := List.mem_map.1 hp
    have := Zbm q days.toNat (by omega) i hb; omega
theorem Ziy (c : Cust) (days : Int) : CustOk (qk c days) := by
 unfold qk
 split
 ·have a := qy c.rate 0 9 (by omega)
  have b := qy c.size 1 30 (by omega)
  have d := qy c.start 0 (rnd c.size 1 30) (by omega)
  have e := qy c.rule 1 2 (by omega)
  have f := qy c.hold 0 4 (by omega)
  refine ⟨?_, ?_, by simp, by simp, ?_, ?_, ?_, ?_, ?_⟩ <;> (unfold I64; dsimp only; omega)
 ·have a := qy c.demand 1 15 (by omega)
  refine ⟨?_, ?_, ?_, ?_, ?_, ?_, ?_, ?_, ?_⟩
  ·unfold I64; dsimp only; omega
  ·unfold I64; dsimp only; omega
  ·intro p hp
   simp only [w9] at hp
   split at hp
   ·simp only [List.mem_singleton] at hp; omega
   ·obtain ⟨q, _, rfl⟩ := List.mem_map.1 hp; exact Zz q _
  ·simp only [w9]; split
   ·simp
   ·simp; omega
  all_goals (unfold I64; dsimp only; omega)
theorem ZY (x : Inst) : 1 ≤ (zP x).days ∧ (zP x).days ≤ 7 := qy x.days 1 7 (by omega)
theorem Ziz (x : Inst) : 0 ≤ (zP x).cap ∧ (zP x).cap ≤ 40 := qy x.cap 0 40 (by omega)
theorem Xv (x : Inst) : (zP x).cust.length ≤ 6 := by simp [zP]; omega
theorem Qo (x : Inst) {c : Cust} (h : c ∈ (zP x).cust) : ∃ c0, c = qk c0 (zP x).days := by
 simp only [zP, List.mem_map] at h
 obtain ⟨c0, _, rfl⟩ := h
 exact ⟨c0, rfl⟩
def u9 (x : Inst) (v c l : Int) : Inst := ⟨(zP x).days, v, c, l, (zP x).cust, (zP x).dist⟩
theorem ZiA (x : Inst) (v c l : Int) (hc : c ≤ 2147483648) : InstMade (u9 x v c l) (zP x).days.toNat := by
 have h := ZY x
 refine ⟨?_, by omega, ?_, ?_, hc⟩
 ·show (zP x).days = _; omega
 ·have := Xv x; show (zP x).cust.length ≤ 1000; omega
 ·intro d hd
  obtain ⟨c0, rfl⟩ := Qo x hd
  exact Zbo c0 _ h.1 h.2
theorem ZiB (x : Inst) (v c l : Int) (hv : I64 v) (hc : I64 c) (hl : I64 l) : InstOk (u9 x v c l) := by
 have h := ZY x
 refine ⟨by unfold I64; show -9223372036854775808 ≤ (zP x).days ∧ (zP x).days ≤ _; omega, hv, hc, hl, ?_, ?_, ?_, ?_⟩
 ·have := Xv x; show (zP x).cust.length ≤ _; omega
 ·intro d hd
  obtain ⟨c0, rfl⟩ := Qo x hd
  exact Ziy c0 _
 ·show (zP x).dist.length ≤ _; simp [zP]; omega
 ·intro r hr
  have hr : r ∈ (zP x).dist := hr
  simp only [zP, List.mem_map] at hr
  obtain ⟨a, _, rfl⟩ := hr
  refine ⟨by simp [jx]; omega, fun d hd => ?_⟩
  simp only [jx, List.mem_map] at hd
  obtain ⟨b, _, rfl⟩ := hd
  split
  ·have := qy (arc x a b) 0 60 (by omega); unfold I64; omega
  ·unfold I64; omega
theorem ZiC (x : Inst) : ∀ c ∈ (zP x).cust, CustFits c := by
 intro c hc
 obtain ⟨c0, rfl⟩ := Qo x hc
 exact (Zbo c0 _ (ZY x).1 (ZY x).2).fits
theorem Zbp {d : Day} {t : zp} (ht : t ∈ d) {s : Stop} (hs : s ∈ t) : s ∈ d.flatten := List.mem_flatten.2 ⟨t, ht, hs⟩
theorem Zbq {m : Nat} : ∀ (l : List Int), l.Nodup → (∀ c ∈ l, 0 ≤ c ∧ c < m) → l.length ≤ m := by
 intro l hn hl
 have h1 : (l.map Int.toNat).Nodup := by
  refine List.Pairwise.map _ ?_ (List.Pairwise.and_mem.1 hn)
  rintro a b ⟨ha, hb, hab⟩ e
  have := hl a ha; have := hl b hb
  exact hab (by omega)
 have h2 : ∀ c ∈ l.map Int.toNat, c ∈ List.range m := by
  intro c hc
  obtain ⟨z, hz, rfl⟩ := List.mem_map.1 hc
  have := hl z hz
  exact List.mem_range.2 (by omega)
 have := h1.length_le_of_subset h2
 simpa using this
theorem ZZ {m n : Nat} {p : zF} (h : MadeP m n p) {d : Day} (hd : d ∈ p) : d.flatten.length ≤ m ∧ d.length ≤ m ∧ ∀ t ∈ d, t.length ≤ m := by
 have h1 := Zbq (m := m) _ (h.nd d hd) (fun c hc => by
  obtain ⟨s, hs, rfl⟩ := List.mem_map.1 hc
  exact (h.ok d hd s hs).1)
 rw [List.length_map] at h1
 have h2 := Qn d (h.ne d hd)
 exact ⟨h1, by omega, fun t ht => by have := ZX d t ht; omega⟩
theorem Zbr {m n : Nat} {p : zF} (h : MadeP m n p) (hm : m ≤ 1000) (hn : n ≤ 64) (hc : qH p ≤ 64000) : PlanSz p := by
 have hl := h.len
 refine ⟨⟨by omega, fun d hd => by have := (ZZ h hd).2.1; omega, fun d hd t ht => by have := (ZZ h hd).2.2 t ht; omega, by rw [Xu]; omega⟩, fun d hd => by have := (ZZ h hd).1; omega⟩
theorem ZiD {m n : Nat} {p : zF} (h : MadeP m n p) (hm : m ≤ 1000) : ∀ d ∈ p, DayOk d := by
 intro d hd
 refine ⟨by have := (ZZ h hd).2.1; omega, fun t ht => by have := (ZZ h hd).2.2 t ht; omega, fun t ht s hs => ?_⟩
 have := (h.ok d hd s (Zbp ht hs)).1
 unfold small; omega
theorem ZiE {x : Inst} {m n : Nat} {p : zF} (h : MadeP m n p) (hm : m ≤ 1000) (hn : n ≤ 64) (hc : qH p ≤ 64000) : Serves x p := by
 refine ⟨(Zbr h hm hn hc).ok, fun s hs => ?_, by have := h.len; omega⟩
 obtain ⟨d, hd, hsd⟩ := Xp p 0 s hs
 have := (h.ok d hd s.1 hsd).2
 omega
open Go Go.Proofs Hp
theorem ZiF {x : Inst} {p : zF} (h : xH x p = 0) : qt x = true ∧ (p.length : Int) = x.days ∧ (∀ d ∈ p, zH x d = 0) ∧ ∀ i, i < x.cust.length → jO x p i = 0 := by
 unfold xH at h
 split at h
 ·cases h
 split at h
 ·cases h
 rename_i h1 h2
 split at h
 ·rename_i h3; exact absurd h h3
 rename_i h3
 refine ⟨by simpa using h1, Classical.not_not.1 h2, fun d hd => (Za2 _).1 (Classical.not_not.1 h3) _ (List.mem_map.2 ⟨d, hd, rfl⟩), fun i hi => (Za2 _).1 h _ (List.mem_map.2 ⟨i, List.mem_range.2 hi, rfl⟩)⟩
theorem ZiG {x : Inst} {p : zF} (h1 : qt x = true) (h2 : (p.length : Int) = x.days) (h3 : ∀ d ∈ p, zH x d = 0) (h4 : ∀ i, i < x.cust.length → jO x p i = 0) : xH x p = 0 := by
 unfold xH
 rw [if_neg (by simp [h1]), if_neg (by simp [h2])]
 have e : y9 (p.map (zH x)) = 0 := u6 fun e he => by obtain ⟨d, hd, rfl⟩ := List.mem_map.1 he; exact h3 d hd
 rw [if_neg (by simp [e])]
 exact u6 fun e he => by obtain ⟨i, hi, rfl⟩ := List.mem_map.1 he; exact h4 i (List.mem_range.1 hi)
theorem Za {x : Inst} (hx : x.cust.length ≤ 900) {d : Day} (h : zH x d = 0) : d.flatten.length ≤ x.cust.length ∧ d.length ≤ x.cust.length ∧ RgOk x d [⟨0, 0⟩] := by
 obtain ⟨h1, h2, h3⟩ := (qV x d).1 h
 have hg := Za3 h
 have hl := Zbq (m := x.cust.length) _ h2 (fun c hc => by
  obtain ⟨s, hs, rfl⟩ := List.mem_map.1 hc
  have := hg s hs
  simp [yF] at this
  omega)
 rw [List.length_map] at hl
 have hn := JM h
 have hd := Qn d hn
 refine ⟨hl, by omega, ⟨by omega, fun t ht => ?_, fun t ht s hs => ?_⟩, h, by rw [List.length_singleton]; omega⟩
 ·have := ZX d t ht; omega
 ·have := hg s (Zbp ht hs)
  simp [yF] at this
  unfold small; omega
theorem Zbs {x : Inst} (hx : x.cust.length ≤ 900) (ha : yG x) (hv : 0 ≤ x.veh) {d : Day} (h : zH x d = 0) : SOk x d.flatten ∧ SG x d.flatten d := by
 obtain ⟨h1, h2, h3⟩ := (qV x d).1 h
 obtain ⟨g1, g2, g3⟩ := Za hx h
 refine ⟨⟨by omega, ha, hv, by omega, fun s hs => ?_, h2⟩, ⟨h1, .refl _⟩⟩
 obtain ⟨t, ht, hst⟩ := List.mem_flatten.1 hs
 exact g3.ok.s t ht s hst
theorem Zbt {size rate : Int} (hr : 0 ≤ rate) : ∀ (q : List Int) (there : Int) (l : List Int), yR size rate there q = some l → l.length = q.length ∧ ∀ z ∈ l, 0 ≤ z ∧ z ≤ size
 | [], _, l, h => by simp [yR] at h; subst h; simp
 | q :: qs, there, l, h => by
  unfold yR at h
  split at h
  ·cases h
  ·rename_i hc
   obtain ⟨m, hm, rfl⟩ := Option.map_eq_some_iff.1 h
   obtain ⟨h1, h2⟩ := Zbt hr qs _ m hm
   refine ⟨by simp [h1], fun z hz => ?_⟩
   rcases List.mem_cons.1 hz with rfl | hz
   ·omega
   ·exact h2 z hz
theorem Zbu {M : Int} : ∀ l : List Int, (∀ z ∈ l, 0 ≤ z ∧ z ≤ M) → 0 ≤ l.sum ∧ l.sum ≤ M * l.length
 | [], _ => by simp
 | a :: l, h => by
  have h1 := h a (by simp)
  have h2 := Zbu l fun z hz => h z (by simp [hz])
  simp only [List.sum_cons, List.length_cons]
  have e : M * ((l.length : Int) + 1) = M * l.length + M := by rw [Int.mul_add]; omega
  push_cast
  omega
structure CustSm (c : Cust) : Prop where
 rate : 0 ≤ c.rate
 size : 0 ≤ c.size ∧ c.size ≤ 2147483648
 hold : 0 ≤ c.hold ∧ c.hold ≤ 1024
theorem ZiH {c : Cust} (h : CustSm c) (q : List Int) (hq : q.length ≤ 64) : 0 ≤ x9 c (yr c q).1 ∧ x9 c (yr c q).1 ≤ 140737488355328 := by
 have key : ∀ l : List Int, l.length ≤ 64 → (∀ z ∈ l, 0 ≤ z ∧ z ≤ c.size) → 0 ≤ x9 c l ∧ x9 c l ≤ 140737488355328 := by
  intro l hl hz
  have h1 := Zbu (M := 2147483648) l fun z hz' => by have := hz z hz'; have := h.size; omega
  have h2 : (2147483648 : Int) * l.length ≤ 137438953472 := by omega
  have w1 : W l.sum = l.sum := wr _ (by omega) (by omega)
  unfold x9
  rw [w1]
  have h3 := h.hold
  have h4 : 0 ≤ c.hold * l.sum := Int.mul_nonneg h3.1 h1.1
  have h5 : c.hold * l.sum ≤ 1024 * 137438953472 := Int.mul_le_mul h3.2 (by omega) h1.1 (by omega)
  have w2 : W (c.hold * l.sum) = c.hold * l.sum := wr _ (by omega) (by omega)
  rw [w2]; omega
 unfold yr
 split
 ·exact key [] (by simp) (by simp)
 ·cases hr : yR c.size c.rate c.start q with
  | none => exact key [] (by simp) (by simp)
  | some l =>
   obtain ⟨h1, h2⟩ := Zbt h.rate q _ l hr
   exact key l (by omega) h2
theorem Zbv {x : Inst} (h : ∀ c ∈ x.cust, CustSm c) (p : zF) : ∀ k : Nat, 0 ≤ qG x p k ∧ qG x p k ≤ 140737488355328 * (k : Int)
 | 0 => by simp [qG]
 | k + 1 => by
  have h1 := Zbv h p k
  rw [Zbb]
  have h2 : 0 ≤ we x p k ∧ we x p k ≤ 140737488355328 := by
   unfold we
   split
   ·omega
   ·rename_i c hc
    split
    ·exact ZiH (h c (List.mem_of_getElem? hc)) _ (by rw [Qf]; omega)
    ·omega
  push_cast
  omega
theorem Zbw {x : Inst} (ha : yG x) : ∀ p : zF, (∀ d ∈ p, d.flatten.length ≤ 1000 ∧ d.length ≤ 1000) → 0 ≤ (p.map (zA x)).sum ∧ (p.map (zA x)).sum ≤ 4294967296000 * (p.length : Int)
 | [], _ => by simp
 | d :: p, h => by
  have h1 := h d (by simp)
  have h2 := Zbw ha p fun e he => h e (by simp [he])
  have h3 := JK ha d
  simp only [List.map_cons, List.sum_cons, List.length_cons]
  push_cast
  omega
theorem Zbx {x : Inst} (ha : yG x) (hc : ∀ c ∈ x.cust, CustSm c) (hx : x.cust.length ≤ 900) {p : zF} (hl : p.length ≤ 1000) (h : ∀ d ∈ p, zH x d = 0) : uo x p = qG x p x.cust.length + (p.map (zA x)).sum := by
 have h1 := Zbv hc p x.cust.length
 have h2 := Zbw ha p fun d hd => by have := Za hx (h d hd); omega
 exact wr _ (by omega) (by omega)
theorem ZiI (x : Inst) : ∀ c ∈ (zP x).cust, CustSm c := by
 intro c hc
 obtain ⟨c0, rfl⟩ := Qo x hc
 unfold qk
 split
 ·have a := qy c0.rate 0 9 (by omega)
  have b := qy c0.size 1 30 (by omega)
  have f := qy c0.hold 0 4 (by omega)
  exact ⟨by dsimp only; omega, by dsimp only; omega, by dsimp only; omega⟩
 ·exact ⟨by simp, by simp, by simp⟩
theorem ZiJ (x : Inst) (c l : Int) : InstH (u9 x 6 c l) := ⟨Nat.le_trans (ZfO x) (by decide), Zhy x, Zht x, by show (0 : Int) ≤ 6; decide⟩
open Go Go.Proofs Hp
theorem Xw {α : Type} [Enc α] (id v : Nat) (cs : List PV) (l : List (List α)) : (l.flatMap Enc.enc).map (ye id v cs) = (l.flatMap Enc.enc : List PV) := by
 refine (List.map_congr_left fun p hp => ?_).trans (List.map_id _)
 obtain ⟨t, _, ht⟩ := List.mem_flatMap.1 hp
 rw [ZcT, List.mem_singleton] at ht
 subst ht
 rfl
set_option maxHeartbeats 3200000 in
theorem ZiK (p : zF) (hp : p.length ≤ 1000) (hd0 : ∀ d ∈ p, d.length ≤ 1000) (ht : ∀ d ∈ p, ∀ t ∈ d, t.length ≤ 1000) {S : Store} {nx : Nat} (hd : zL nx S) :
  Spec Tryz.prog 75 [.agg [L p]] S (fun q S' => ∃ v, q = .agg [.sl (nx + 3) v 1 0 p.length] ∧ S' = S.set (nx + 3) (.cells v 66 (p.flatMap Enc.enc))) := by
 refine vR hd Tryz.func75 Tryz.ntmps75 Tryz.results75 ?_
 repeat apply za
 refine pwn ?_
 intro v0 v1
 repeat apply za
 refine pwn ?_
 intro v2
 refine qc 2 0 66 1 rfl rfl fun v3 => ?_
 (repeat apply za); refine pwn ?_; intros
 repeat apply za
 refine ze (zq (fun s : Nat × Nat => s.1 ≤ p.length) (fun (k, w) => [(2, .ptr (nx + 1) v1 0), (3, .ptr (nx + 2) v2 0), (10, L p), (11, I p.length), (12, I k)]) (fun (k, w) => [.cells v0 29 [L p], .cells v1 29 [yi], .cells v2 29 [.sl (nx + 3) w 1 0 k], .cells w 66 ((p.take k).flatMap Enc.enc)]) (fun s => p.length - s.1) (0, v3) [] (by simp) (by simp) (by simp) ?_)
 rintro ⟨k, w⟩ hk
 simp only at hk ⊢
 (repeat apply za); refine pwn ?_; intros
 repeat apply za
 refine zl rfl (fun hc => ?_) (fun hc => ?_)
 ·simp at hc
  obtain ⟨d, tl, a1, a2, a3, e0⟩ := el1 rfl p k hc
  have hdm := List.mem_of_getElem? a1
  have hdl := hd0 d hdm
  have hk1 : 1 ≤ p.length - k := by omega
  have htk : (p.take k).length = k := by rw [List.length_take]; omega
  generalize hpk : p.take k = pk at *
  have hqf : (pk.flatMap Enc.enc : List PV).length = k := (qw pk).trans htk
  have hqt : (pk.flatMap Enc.enc : List PV).take k = pk.flatMap Enc.enc := List.take_of_length_le (by omega)
  have hfp : ∀ id v cs, (pk.flatMap Enc.enc).map (ye id v cs) = (pk.flatMap Enc.enc : List PV) := fun id v cs => Xw id v cs pk
  refine zd (za (ze ?_))
  repeat apply za
  refine pwN [] (jn3 hc e0 hk1) ?_
  intro v4
  repeat apply za
  refine pwn ?_
  intro v5
  refine qc 5 0 72 1 rfl rfl fun v6 => ?_
  (repeat apply za); refine pwn ?_; intros
  repeat apply za
  refine ze (zq (fun s : Nat × Nat => s.1 ≤ d.length) (fun (j, w6) => [(2, .ptr (nx + 1) v1 0), (3, .ptr (nx + 2) v2 0), (6, .ptr (nx + 5) v5 0), (10, L p), (11, I p.length), (12, I k), (17, L d), (18, I d.length), (19, I j)])
   (fun (j, w6) => [.cells v0 29 [L p], .cells v1 29 [yi], .cells v2 29 [.sl (nx + 3) w 1 0 k], .cells w 66 (pk.flatMap Enc.enc), .cells v4 66 [L d], .cells v5 66 [.sl (nx + 6) w6 1 0 j], .cells w6 72 ((d.take j).flatMap Enc.enc)]) (fun s => d.length - s.1) (0, v6) [] (by simp) (by simp) (by simp) ?_)
  rintro ⟨j, w6⟩ hj
  simp only at hj ⊢
  (repeat apply za); refine pwn ?_; intros
  repeat apply za
  refine zl rfl (fun hcj => ?_) (fun hcj => ?_)
  ·simp at hcj
   obtain ⟨t, tl2, b1, b2, b3, f0⟩ := el1 rfl d j hcj
   have htl := ht d hdm t (List.mem_of_getElem? b1)
   have hj1 : 1 ≤ d.length - j := by omega
   have htj : (d.take j).length = j := by rw [List.length_take]; omega
   generalize hdj : d.take j = dj at *
   have hrf : (dj.flatMap Enc.enc : List PV).length = j := (qw dj).trans htj
   have hrt : (dj.flatMap Enc.enc : List PV).take j = dj.flatMap Enc.enc := List.take_of_length_le (by omega)
   have hfd : ∀ id v cs, (dj.flatMap Enc.enc).map (ye id v cs) = (dj.flatMap Enc.enc : List PV) := fun id v cs => Xw id v cs dj
   have htf : (t.flatMap Enc.enc : List PV).length = t.length * 2 := w8 t
   refine zd (za (ze ?_))
   repeat apply za
   refine pwN [] (jn3 hcj f0 hj1) ?_
   intro v7
   repeat apply za
   refine pwY (some [nx + 7]) (Row.pures [0, 2, 3] (.alt 1 (.alt 4 (Row.pures [5, 6] (.alt 7 (Row.pures [8] (.alt 9 (.done) .stop)) .stop)) .stop) (.alt 4 (Row.pures [5, 6] (.alt 1 (.alt 7 (Row.pures [8] (.alt 9 (.done) .stop)) .stop) .stop)) .stop))) mixed (jn2 hrf hrt) ?_
   refine ⟨⟨by omega, fun v8 => ⟨⟨by omega, by omega⟩, ?_⟩⟩, ⟨by omega, fun v8 => ⟨⟨by omega, by omega⟩, ?_⟩⟩⟩
   all_goals
    intros
    refine zB 8 rfl ?_
    simp only [List.map_cons, List.map_nil, List.set_cons_succ, List.set_cons_zero, qD, hfp, hfd, List.map_append]
    (repeat apply za); refine pwn ?_; intros
    exact zk (j + 1, w6 + 1) [_, _] (by simp; omega) (by simp; omega) (by simp [wrN j (by omega)]) rfl (by simp [b3, ye, htf]; exact ⟨rfl, rfl⟩)
  ·simp at hcj
   obtain rfl : j = d.length := by omega
   rw [List.take_length]
   have hfd : ∀ id v cs, (d.flatMap Enc.enc).map (ye id v cs) = (d.flatMap Enc.enc : List PV) := fun id v cs => Xw id v cs d
   refine zm ?_
   refine zB 6 rfl ?_
   simp only [List.map_cons, List.map_nil, List.set_cons_succ, List.set_cons_zero, qD, hfp, hfd]
   repeat apply za
   refine pwN [] (jn2 hqf hqt) ?_
   refine ⟨by omega, ?_⟩
   intros
   (repeat apply za); refine pwn ?_; intros
   exact zk (k + 1, w + 1) [_, _, _] (by simp; omega) (by simp; omega) (by simp [wrN k (by omega)]) rfl (by simp [a3]; exact ⟨rfl, rfl, rfl⟩)
 ·simp at hc
  obtain rfl : k = p.length := by omega
  rw [List.take_length]
  refine zm ?_
  (repeat apply za); refine pwn ?_; intros
  repeat apply za
  exact zb ⟨_, _, (by simp; rfl), ⟨w, by simp [zi], rfl⟩, QU (j := 3) hd (by simp)⟩
def jB (x : Inst) (p : zF) (day b : Int) : zF × Bool :=
 if day < 0 ∨ (p.length : Int) ≤ day then (p, false)
 else if W (zA x (p.getD day.toNat [])) ≤ W (zA x (qN x b (p.getD day.toNat []))) then (p, false)
 else (p.set day.toNat (qN x b (p.getD day.toNat [])), true)
structure PlanM (x : Inst) (p : zF) : Prop where
 cust : x.cust.length ≤ 900
 inst : InstH x
 len : p.length ≤ 1000
 may : ∀ d ∈ p, zH x d = 0
theorem PlanM.sizes {x : Inst} {p : zF} (h : PlanM x p) : ∀ d ∈ p, d.length ≤ 1000 ∧ (∀ t ∈ d, t.length ≤ 1000) ∧ DayOk d ∧ d.flatten.length ≤ 1000 := by
 intro d hd
 obtain ⟨h1, h2, h3⟩ := Za h.cust (h.may d hd)
 have := h.cust
 exact ⟨by omega, fun t ht => by have := ZX d t ht; omega, h3.ok, by omega⟩
theorem Zby {x : Inst} (hx : x.cust.length ≤ 900) (hi : InstH x) {d : Day} (h : zH x d = 0) (b : Int) : zH x (qN x b d) = 0 ∧ (qN x b d).flatten.Perm d.flatten ∧ zA x (qN x b d) ≤ zA x d := by
 obtain ⟨hs, hg⟩ := Zbs hx hi.arc hi.veh h
 obtain ⟨h1, h2, h3⟩ := Qc hs hi.diag b.toNat d hg
 obtain ⟨m1, m2, m3⟩ := (qV x d).1 h
 change SG x d.flatten (qN x b d) at h1
 change zA x (qN x b d) ≤ zA x d at h2
 change (qN x b d).length ≤ d.length at h3
 exact ⟨(qV x _).2 ⟨h1.may, (h1.perm.map _).nodup_iff.2 m2, by omega⟩, h1.perm, h2⟩
theorem ZiL {x : Inst} (hx : x.cust.length ≤ 900) (hi : InstH x) {d : Day} (h : zH x d = 0) {b : Int} (hb : b ≤ 9223372036854775807) : ∃ k : Int, Pure Tryz.prog 76 [.agg (zo x), .agg [L d], I b] (.tup [.agg [L (qN x b d)], I k]) := by
 obtain ⟨hs, hg⟩ := Zbs hx hi.arc hi.veh h
 have o := hg.ok hs
 exact ⟨_, Zak x d b (jN x) (SG x d.flatten) hb o.n o.t (fun _ => hg) (ZaM hs hi.diag)⟩
set_option maxHeartbeats 3200000 in
theorem ZiM {x : Inst} {p : zF} (h : PlanM x p) (day b : Int) (hb : b ≤ 9223372036854775807) :
  Pure Tryz.prog 33 [.agg (zo x), .agg [L p], I day, I b] (.tup [.agg [L (jB x p day b).1], B (jB x p day b).2]) := by
 have hsz := h.sizes
 have hpl := h.len
 refine pwe Tryz.func33 Tryz.ntmps33 Tryz.results33 fun S nx hd => ?_
 repeat apply za
 refine pwn ?_
 intro v0 v1 v2
 repeat apply za
 refine zO [] (by rfl) (by rfl) fun K Gc Gh hK hGc hGh X hX0 hX => ?_
 simp -implicitDefEqProofs [hX0, hX]
 try clear hX0 hX X
 refine hGc _ _ _ _ _ _ _ fun hsuf => ((ZiK p h.len (fun d hd => (hsz d hd).1) (fun d hd => (hsz d hd).2.1) jr).mono ?_).v
 rintro _ _ ⟨v3, rfl, rfl⟩
 refine ⟨_, _, QY 3 _, ?_⟩
 clear hGc hGh
 clear Gc Gh
 refine zJ hsuf (D := []) (by rfl) fun Gc Gh hGc hGh X hX0 hX => ?_
 simp -implicitDefEqProofs [hX0, hX, Nat.add_assoc]
 clear hX0 hX X
 intro v4
 intros
 refine hK _ _ _ ?_
 clear hK hGc hGh
 clear K Gc Gh
 by_cases h0 : day < 0
 ·have hz : jB x p day b = (p, false) := by unfold jB; rw [if_pos (.inl h0)]
  rw [hz]
  repeat apply za
  refine pwN [(2, 17)] (jn2 h0 zn) ?_
  intros
  repeat apply za
  refine zh rfl ?_
  refine zB 6 rfl ?_
  (repeat apply za); refine pwn ?_; intros
  repeat apply za
  exact zb (zg hd (by simp; rfl) rfl)
 by_cases h1 : (p.length : Int) ≤ day
 ·have hz : jB x p day b = (p, false) := by unfold jB; rw [if_pos (.inr h1)]
  rw [hz]
  repeat apply za
  refine pwN [(2, 17)] (jn2 h0 h1) ?_
  intros
  repeat apply za
  refine zh rfl ?_
  refine zB 6 rfl ?_
  (repeat apply za); refine pwn ?_; intros
  repeat apply za
  exact zb (zg hd (by simp; rfl) rfl)
 obtain ⟨k, rfl⟩ := Int.eq_ofNat_of_zero_le (show 0 ≤ day by omega)
 have hk : k < p.length := by omega
 obtain ⟨d, tl, a1, a2, a3, e0⟩ := el1 rfl p k hk
 have hdm := List.mem_of_getElem? a1
 have hgd : p.getD (k : Int).toNat [] = d := by rw [Int.toNat_natCast, List.getD_eq_getElem?_getD, a1]; rfl
 have hz : jB x p k b = if W (zA x d) ≤ W (zA x (qN x b d)) then (p, false) else (p.set k (qN x b d), true) := by
  unfold jB
  rw [if_neg (by omega), hgd, Int.toNat_natCast]
 obtain ⟨m, hI⟩ := ZiL h.cust h.inst (h.may d hdm) hb
 have him := Zby h.cust h.inst (h.may d hdm) b
 have hc1 := Je x d (hsz d hdm).2.2.1
 have hc2 := Je x (qN x b d) (Za h.cust him.1).2.2.ok
 rw [hz]
 generalize qN x b d = e at *
 generalize W (zA x d) = z1 at *
 generalize W (zA x e) = z2 at *
 have hk1 : 1 ≤ p.length - k := by omega
 have hpf : (p.flatMap Enc.enc : List PV).length = p.length := qw p
 have hsp := Qm (α := Day) rfl p k e hk
 have hsp' : zK (p.flatMap Enc.enc) k [L e] = (p.set k e).flatMap Enc.enc := by simpa using hsp
 repeat apply za
 refine pwN [(2, 17)] (jn2 h0 h1) ?_
 intros
 repeat apply za
 refine zj rfl ?_
 refine zd ?_
 repeat apply za
 refine pwY (some [nx, nx + 6, nx + 7]) (Row.pures [0, 1, 2, 3, 4, 5, 6, 7, 8, 9, 10] (.alt 11 (.alt 12 (Row.pures [13] .done) .stop) .stop)) mixed (jn3 e0 hk hk1) ?_
 refine pwP (hI) (jn3 e0 hk hk1) ?_
 intro v5
 intros
 by_cases hle : z1 ≤ z2
 ·rw [if_pos hle]
  repeat apply za
  refine pwY (some [nx, nx + 6, nx + 7, nx + 8]) (Row.pures [0, 1, 2, 3, 4, 5, 6, 7, 8, 9, 10] .done) mixed (jn4 e0 hk hk1 hle) ?_
  refine pwP (hc2) (jn4 e0 hk hk1 hle) ?_
  refine pwP (hc1) (jn4 e0 hk hk1 hle) ?_
  intros
  repeat apply za
  refine zh rfl ?_
  refine zB 6 rfl ?_
  (repeat apply za); refine pwn ?_; intros
  repeat apply za
  exact zb (zg hd (by simp; rfl) rfl)
 ·rw [if_neg hle]
  repeat apply za
  refine pwY (some [nx, nx + 6, nx + 7, nx + 8]) (Row.pures [0, 1, 2, 3, 4, 5, 6, 7, 8, 9, 10] .done) mixed (jn4 e0 hk hk1 hle) ?_
  refine pwP (hc2) (jn4 e0 hk hk1 hle) ?_
  refine pwP (hc1) (jn4 e0 hk hk1 hle) ?_
  intros
  repeat apply za
  refine zj rfl ?_
  refine zd ?_
  repeat apply za
  refine pwN [] (jn3 hk hsp' hpf) ?_
  refine ⟨by omega, ?_⟩
  intros
  refine zB 6 rfl ?_
  (repeat apply za); refine pwn ?_; intros
  repeat apply za
  exact zb (zg hd (by simp; rfl) (by simp [zi]))
open Go Go.Proofs Hp
def Z0 (b : Int) : Int := if 20 < b then b % 21 else b
set_option maxRecDepth 20000 in
theorem ZiN (b : Int) : Pure Tryz.prog 14 [I b] (I (Z0 b)) := by
 unfold Z0
 refine pwe Tryz.func14 Tryz.ntmps14 Tryz.results14 fun S nx hd => ?_
 (repeat apply za); refine pwn ?_; intros
 (repeat apply za); refine pwn ?_; intros
 by_cases h : 20 < b
 ·rw [if_pos h]
  have w : b.tmod 21 = b % 21 := Int.tmod_eq_emod_of_nonneg (by omega)
  repeat apply za
  refine zh (by simp [h]) ?_
  repeat apply za
  refine pwN [] w ?_
  intros
  repeat apply za
  exact zb (zg hd rfl rfl)
 ·rw [if_neg h]
  repeat apply za
  refine zj (by simp; omega) ?_
  refine zd ?_
  (repeat apply za); refine pwn ?_; intros
  repeat apply za
  exact zb (zg hd rfl rfl)
set_option maxRecDepth 20000 in
theorem ZiO (x : Inst) (v : List (List Visit)) (day : Int) (n : Nat) (hx : x.cust.length ≤ 1000) (hv : VsOk x.cust.length n v) : Pure Tryz.prog 22 [.agg (zo x), L v, I day] (L (qa v day x.cust.length)) := by
 have hvl := hv.len
 have hso := fun k => (Xq hv day k).1
 have hmi : vE (x.cust.length : Int) (x.cust.length : Int) = x.cust.length := by unfold vE; simp
 refine pwe Tryz.func22 Tryz.ntmps22 Tryz.results22 fun S nx hd => ?_
 repeat apply za
 refine pwn ?_
 intro v0
 (repeat apply za); refine pwn ?_; intros
 refine za (yQ 7 50 2 rfl fun v1 => ?_)
 (repeat apply za); refine pwn ?_; intros
 repeat apply za
 refine ze (zq (fun s : Nat × List Stop × Nat => s.1 ≤ x.cust.length ∧ s.2.1 = qa v day s.1) (fun (i, out, w) => [(1, L v), (2, I day), (7, .sl (nx + 1) w 2 0 out.length), (16, I x.cust.length), (17, I i)]) (fun (i, out, w) => [.cells v0 25 (zo x), .cells w 50 (out.flatMap Enc.enc)]) (fun s => x.cust.length - s.1) (0, [], v1) [] (by simp [qa]) (by simp [hvl, hmi]) (by simp) ?_)
 rintro ⟨i, out, w⟩ ⟨hi, ho⟩
 simp only at hi ho ⊢
 (repeat apply za); refine pwn ?_; intros
 repeat apply za
 refine zl rfl (fun hc => ?_) (fun hc => ?_)
 ·simp at hc
  have hiv : i < v.length := by omega
  obtain ⟨l, tl, a1, a2, a3, e0⟩ := el1 rfl v i hiv
  have hll := hv.few l (List.mem_of_getElem? a1)
  have hoi := hso i
  refine zd (za (ze ?_))
  (repeat apply za); refine pwn ?_; intros
  repeat apply za
  refine pwN [] (jn2 e0 hiv) ?_
  intros
  repeat apply za
  refine ze (zq (fun s : Nat × List Stop × Nat => s.1 ≤ l.length ∧ s.2.1 = qa v day i ++ um l day i s.1 ∧ s.2.1.length ≤ i + s.1) (fun (k, out, w) => [(1, L v), (2, I day), (7, .sl (nx + 1) w 2 0 out.length), (8, I i), (16, I x.cust.length), (17, I i), (23, L l), (24, I l.length), (25, I k)]) (fun (k, out, w) => [.cells v0 25 (zo x), .cells w 50 (out.flatMap Enc.enc)]) (fun s => l.length - s.1) (0, out, w) [] ⟨by simp, by simp [Zia, ho], by simp [ho]; omega⟩ (by simp) (by simp) ?_)
  clear ho
  rintro ⟨k, out, w⟩ ⟨hk, ho, hol⟩
  simp only at hk ho hol ⊢
  (repeat apply za); refine pwn ?_; intros
  repeat apply za
  refine zl rfl (fun hc2 => ?_) (fun hc2 => ?_)
  ·simp at hc2
   obtain ⟨s, tl2, b1, b2, b3, e1, e2⟩ := el 2 rfl l k hc2
   refine zd (za (ze ?_))
   repeat apply za
   refine pwN [] (jn3 e1 e2 hc2) ?_
   intro v2
   (repeat apply za); refine pwn ?_; intros
   by_cases hd : s.d = day
   ·repeat apply za
    refine zh (by simp [hd]) ?_
    repeat apply za
    refine pwn ?_
    refine ⟨by omega, ?_⟩
    intros
    (repeat apply za); refine pwn ?_; intros
    exact zk (k + 1, out ++ [⟨i, s.q⟩], w + 1) [_] ⟨hc2, by rw [Za7 b1, if_pos hd, ho]; simp, by simp; omega⟩ (by simp; omega) (by simp [wrN k (by omega)]) rfl (by simp; rfl)
   ·repeat apply za
    refine zj (by simp [hd]) ?_
    refine zd ?_
    (repeat apply za); refine pwn ?_; intros
    exact zk (k + 1, out, w) [_] ⟨hc2, by rw [Za7 b1, if_neg hd, ho]; simp, by dsimp only; omega⟩ (by simp; omega) (by simp [wrN k (by omega)]) rfl (by simp; rfl)
  ·simp at hc2
   obtain rfl : k = l.length := by omega
   rw [Zib v day i l a1, ← Za6] at ho
   refine zm ?_
   (repeat apply za); refine pwn ?_; intros
   exact zk (i + 1, out, w) [] ⟨hc, ho⟩ (by simp; omega) (by simp [wrN i (by omega)]) rfl (by simp)
 ·simp at hc
  obtain rfl : i = x.cust.length := by omega
  refine zm ?_
  refine zB 1 rfl ?_
  (repeat apply za); refine pwn ?_; intros
  repeat apply za
  exact zb (zg hd (by simp; rfl) (by simp [zi, ho]))
set_option maxHeartbeats 800000 in
theorem ZiP (a b : zF) (ha : a.length ≤ 1048576) (hat : ∀ t ∈ a, t.length ≤ 1048576) (hau : ∀ t ∈ a, ∀ u ∈ t, u.length ≤ 1048576) : Pure Tryz.prog 26 [.agg [L a], .agg [L b]] (B (decide (a = b))) := by
 refine pwe Tryz.func26 Tryz.ntmps26 Tryz.results26 fun S nx hd => ?_
 repeat apply za
 refine pwn ?_
 intro v0 v1
 by_cases hab : a.length = b.length
 case neg =>
  have : a ≠ b := fun e => hab (by rw [e])
  (repeat apply za); refine pwn ?_; intros
  repeat apply za
  refine zh (by simp; omega) ?_
  (repeat apply za); refine pwn ?_; intros
  repeat apply za
  exact zb (zg hd rfl (by simp [this]))
 (repeat apply za); refine pwn ?_; intros
 repeat apply za
 refine zj (by simp; omega) ?_
 refine zd ?_
 (repeat apply za); refine pwn ?_; intros
 repeat apply za
 refine ze (zq (fun k : Nat => k ≤ a.length ∧ a.take k = b.take k) (fun k => [(2, .ptr nx v0 0), (3, .ptr (nx + 1) v1 0), (5, I k)]) (fun _ => [.cells v0 29 [L a], .cells v1 29 [L b]]) (fun k => a.length - k) 0 [] (by simp) (by simp) (by simp) ?_)
 rintro k ⟨hk, hkt⟩
 (repeat apply za); refine pwn ?_; intros
 repeat apply za
 refine zl rfl (fun hc => ?_) (fun hc => ?_)
 ·simp at hc
  obtain ⟨s, ts, a1, -, a3, e1⟩ := el1 rfl a k hc
  obtain ⟨t, tt, b1, -, b3, e2⟩ := el1 rfl b k (by omega)
  have hcb : k < b.length := by omega
  have h1 : 1 ≤ a.length - k := by omega
  have h2 : 1 ≤ b.length - k := by omega
  have hsl := hat s (List.mem_of_getElem? a1)
  have hsu := hau s (List.mem_of_getElem? a1)
  refine zd (za (ze ?_))
  repeat apply za
  refine pwY (some [nx, nx + 1]) (Row.pures [0, 1, 2, 3, 4, 5, 6, 7, 8, 9, 10, 11, 12, 13, 14] .done) mixed (jn6 e1 e2 hc hcb h1 h2) ?_
  intros
  by_cases hst : s.length = t.length
  case neg =>
   have : a ≠ b := wG a1 b1 fun e => hst (by rw [e])
   repeat apply za
   refine zh (by simp; omega) ?_
   (repeat apply za); refine pwn ?_; intros
   repeat apply za
   exact zb (zg hd rfl (by simp [this]))
  repeat apply za
  refine zj (by simp; omega) ?_
  refine zd ?_
  (repeat apply za); refine pwn ?_; intros
  repeat apply za
  refine ze (zq (fun j : Nat => j ≤ s.length ∧ s.take j = t.take j) (fun j => [(2, .ptr nx v0 0), (3, .ptr (nx + 1) v1 0), (5, I k), (6, I j)]) (fun _ => [.cells v0 29 [L a], .cells v1 29 [L b]]) (fun j => s.length - j) 0 [] (by simp) (by simp) (by simp) ?_)
  rintro j ⟨hj, hjt⟩
  repeat apply za
  refine pwN [] (jn3 e1 hc h1) ?_
  intros
  repeat apply za
  refine zl rfl (fun hcj => ?_) (fun hcj => ?_)
  ·simp at hcj
   obtain ⟨p, tp, p1, -, p3, q1⟩ := el1 rfl s j hcj
   obtain ⟨q, tq, c1, -, c3, q2⟩ := el1 rfl t j (by omega)
   have hjb : j < t.length := by omega
   have g1 : 1 ≤ s.length - j := by omega
   have g2 : 1 ≤ t.length - j := by omega
   have hpl := hsu p (List.mem_of_getElem? p1)
   refine zd (za (ze ?_))
   repeat apply za
   refine pwN [] (jn6 e1 hc h1 q1 hcj g1) ?_
   intros
   repeat apply za
   refine pwN [] (jn6 e2 hcb h2 q2 hjb g2) ?_
   intros
   (repeat apply za); refine pwn ?_; intros
   by_cases hpq : p.length = q.length
   case neg =>
    have : a ≠ b := wG a1 b1 (wG p1 c1 fun e => hpq (by rw [e]))
    repeat apply za
    refine zh (by simp; omega) ?_
    (repeat apply za); refine pwn ?_; intros
    repeat apply za
    exact zb (zg hd rfl (by simp [this]))
   repeat apply za
   refine zj (by simp; omega) ?_
   refine zd ?_
   (repeat apply za); refine pwn ?_; intros
   repeat apply za
   refine ze (zq (fun i : Nat => i ≤ p.length ∧ p.take i = q.take i) (fun i => [(2, .ptr nx v0 0), (3, .ptr (nx + 1) v1 0), (5, I k), (6, I j), (7, L p), (8, L q), (9, I i)]) (fun _ => [.cells v0 29 [L a], .cells v1 29 [L b]]) (fun i => p.length - i) 0 [] (by simp) (by simp) (by simp) ?_)
   rintro i ⟨hi, hit⟩
   (repeat apply za); refine pwn ?_; intros
   repeat apply za
   refine zl rfl (fun hci => ?_) (fun hci => ?_)
   ·simp at hci
    obtain ⟨y, ty, y1, -, y3, -, r1⟩ := el 2 rfl p i hci
    obtain ⟨z, tz, z1, -, z3, -, r2⟩ := el 2 rfl q i (by omega)
    have hib : i < q.length := by omega
    refine zd (za (ze ?_))
    repeat apply za
    refine pwY none (Row.pures [0, 1, 2, 3, 4, 5, 6, 7, 8] .done) mixed (jn4 r1 r2 hci hib) ?_
    intros
    by_cases hyz : y = z
    ·subst hyz
     repeat apply za
     refine zj (by simp) ?_
     refine zd ?_
     (repeat apply za); refine pwn ?_; intros
     exact zk (i + 1) [] ⟨by omega, by rw [y3, z3, hit]⟩ (by omega) (by simp [wrN i (by omega)]) rfl (by simp)
    ·have hne : ¬ y.c = z.c ∨ ¬ y.q = z.q := by
      by_cases h1 : y.c = z.c
      ·right
       intro h2
       apply hyz
       cases y; cases z
       cases h1; cases h2; rfl
      ·exact .inl h1
     have : a ≠ b := wG a1 b1 (wG p1 c1 (wG y1 z1 hyz))
     repeat apply za
     refine zh (by simp; exact hne) ?_
     (repeat apply za); refine pwn ?_; intros
     repeat apply za
     exact zb (zg hd rfl (by simp [this]))
   ·simp at hci
    obtain rfl : i = p.length := by omega
    rw [List.take_length, hpq, List.take_length] at hit
    refine zm ?_
    (repeat apply za); refine pwn ?_; intros
    exact zk (j + 1) [] ⟨by omega, by rw [p3, c3, hjt, hit]⟩ (by omega) (by simp [wrN j (by omega)]) rfl (by simp)
  ·simp at hcj
   obtain rfl : j = s.length := by omega
   rw [List.take_length, hst, List.take_length] at hjt
   refine zm ?_
   (repeat apply za); refine pwn ?_; intros
   exact zk (k + 1) [] ⟨by omega, by rw [a3, b3, hkt, hjt]⟩ (by omega) (by simp [wrN k (by omega)]) rfl (by simp)
 ·simp at hc
  obtain rfl : k = a.length := by omega
  rw [List.take_length, hab, List.take_length] at hkt
  refine zm ?_
  (repeat apply za); refine pwn ?_; intros
  repeat apply za
  exact zb (zg hd rfl (by simp [hkt]))
open Go
section
variable {P : Program} {r : Rd} {n N : Nat} {Q : Exit → (Nat → PV) → Store → Prop} {F : Nat → PV} {c : Code}
theorem ZiQ {S1 T : Store} {G : Nat → PV} {id ver e : Nat} {cs : List PV} (hid : S1 id = .cells ver e cs) (hT : T id = .dead) (hat : ∀ o, T o = .dead ∨ T o = S1 o ∨ T o = qD id ver cs (S1 o))
  (hG : ∀ i, G i = F i ∨ G i = ye id ver cs (F i)) (h : PW P r n N c Q G T) : PW P r n N c Q F S1 := by
 refine wy (F' := G) (S' := T) (fun C w a st => ?_) h
 have hver : ∀ o v, (T o).ver = some v → (S1 o).ver = some v := by
  intro o v hv
  rcases hat o with q | q | q
  ·rw [q] at hv; cases hv
  ·rw [q] at hv; exact hv
  ·rw [q, Wp] at hv; exact hv
 have hne : ∀ o, T o ≠ .dead → S1 o ≠ .dead := by
  intro o ho hd
  rcases hat o with q | q | q
  ·exact ho q
  ·exact ho (q.trans hd)
  ·rw [hd] at q; exact ho q
 have hM : ∀ b, C.M T b → C.M S1 b := fun b ⟨o, k, ho, hl⟩ => ⟨o, k, hne o ho, hl⟩
 have hstep : Step C S1 w C T w := ⟨rfl, ⟨rfl, Nat.le_refl _⟩, rfl, Nat.le_refl _, Nat.le_refl _, Nat.le_refl _, fun b _ hb => ⟨rfl, fun h => hb (hM b h)⟩, fun o v1 hv => .inr ⟨v1, hver o v1 hv, Nat.le_refl _, fun _ => rfl⟩⟩
 have hrel : ∀ {p u}, Rel C S1 w p u → Rel C T w (ye id ver cs p) u := fun h => YF st.sim hid hT hne hstep h
 refine ⟨C, ⟨⟨fun o ho => st.sim.lt o (hne o ho), fun o v hv => st.sim.clk o v (hver o v hv), fun o o' b k k' ho ho' => st.sim.dist o o' b k k' (hne o ho) (hne o' ho'), ?_, ?_⟩, st.size, fun i => ?_, r.keep hstep st.v⟩, hstep⟩
 ·intro o v e' ds ho
  rcases hat o with q | q | q
  ·rw [q] at ho; cases ho
  ·rw [q] at ho
   rcases st.sim.cells o v e' ds ho with hn | ⟨b, k, c, h1, h2, h3, h4, h5, h6⟩
   ·exact .inl hn
   ·exact .inr ⟨b, k, c, h1, h2, h3, h4, h5, fun i p u hp hu => (h6 i p u hp hu).mono hstep⟩
  ·rw [q] at ho
   cases hs : S1 o with
   | dead => rw [hs] at ho; cases ho
   | map v es => rw [hs] at ho; cases ho
   | cells v2 e2 ds2 =>
    rw [hs] at ho
    cases ho
    rcases st.sim.cells o _ _ ds2 hs with ⟨h1, h2⟩ | ⟨b, k, c, h1, h2, h3, h4, h5, h6⟩
    ·exact .inl ⟨h1, by rw [h2]; rfl⟩
    ·refine .inr ⟨b, k, c, h1, h2, h3, by simpa using h4, fun i v hi hv => h5 i v (by simpa using hi) hv, fun i p u hp hu => ?_⟩
     rw [List.getElem?_map] at hp
     obtain ⟨p0, hp0, rfl⟩ := Option.map_eq_some_iff.1 hp
     exact hrel (h6 i p0 u hp0 hu)
 ·intro o v es ho
  have hs : S1 o = .map v es := by
   rcases hat o with q | q | q
   ·rw [q] at ho; cases ho
   ·rw [q] at ho; exact ho
   ·rw [q] at ho
    cases hs : S1 o with
    | dead => rw [hs] at ho; cases ho
    | map v es => rw [hs] at ho; exact ho
    | cells v2 e2 ds2 => rw [hs] at ho; cases ho
  obtain ⟨b, k, ms, cl, h1, h2, h3, h4⟩ := st.sim.maps o v es hs
  exact ⟨b, k, ms, cl, h1, h2, h3, fun i x m hx hm => ⟨(h4 i x m hx hm).1, (h4 i x m hx hm).2.mono hstep⟩⟩
 ·rcases hG i with q | q
  ·rw [q]; exact (st.fr i).mono hstep
  ·rw [q]; exact hrel (st.fr i)
def rwC {α : Type} (base sz : Nat) (ws : Nat → Nat) (rows : List (List α)) : List PV := (List.range rows.length).map fun i => .sl (base + i) (ws i) sz 0 (rows.getD i []).length
theorem Zb {α : Type} (base sz : Nat) (ws : Nat → Nat) (rows : List (List α)) : (rwC base sz ws rows).length = rows.length := by simp [rwC]
theorem Z1 {α : Type} (base sz : Nat) (ws : Nat → Nat) (rows : List (List α)) (i : Nat) (h : i < rows.length) : (rwC base sz ws rows)[i]? = some (.sl (base + i) (ws i) sz 0 (rows.getD i []).length) := by
 simp [rwC, h]
theorem Xx {α : Type} (base sz : Nat) (ws : Nat → Nat) (rows : List (List α)) (i : Nat) (h : i < rows.length) : ∃ tl, (rwC base sz ws rows).drop i = .sl (base + i) (ws i) sz 0 (rows.getD i []).length :: tl := by
 refine ⟨(rwC base sz ws rows).drop (i + 1), ?_⟩
 have hl : i < (rwC base sz ws rows).length := by rw [Zb]; exact h
 rw [List.drop_eq_getElem_cons hl]
 have := Z1 base sz ws rows i h
 rw [List.getElem?_eq_getElem hl] at this
 rw [Option.some.inj this]
structure RowsAt {α : Type} [Enc α] (T : Store) (A va tA base e sz : Nat) (ws : Nat → Nat) (rows : List (List α)) : Prop where
 arr : T A = .cells va tA (rwC base sz ws rows)
 row : ∀ i, i < rows.length → T (base + i) = .cells (ws i) e ((rows.getD i []).flatMap Enc.enc)
 out : A < base
theorem RowsAt.other {α : Type} [Enc α] {T T' : Store} {A va tA base e sz : Nat} {ws : Nat → Nat} {rows : List (List α)} (h : RowsAt T A va tA base e sz ws rows) (hT : ∀ o, o = A ∨ (base ≤ o ∧ o < base + rows.length) → T' o = T o) : RowsAt T' A va tA base e sz ws rows :=
 ⟨(hT A (.inl rfl)).trans h.arr, fun i hi => (hT _ (.inr ⟨by omega, by omega⟩)).trans (h.row i hi), h.out⟩
theorem RowsAt.turn {α : Type} [Enc α] {T T' : Store} {A va tA base e sz : Nat} {ws : Nat → Nat} {rows : List (List α)} (h : RowsAt T A va tA base e sz ws rows) {i : Nat} (hi : i < rows.length) (w : Nat) (l : List α)
  (hA : T' A = .cells va tA ((rwC base sz ws rows).set i (.sl (base + i) w sz 0 l.length))) (hB : T' (base + i) = .cells w e (l.flatMap Enc.enc)) (hT : ∀ o, o ≠ A → o ≠ base + i → T' o = T o) : RowsAt T' A va tA base e sz (fun k => if k = i then w else ws k) (rows.set i l) := by
 have hout := h.out
 refine ⟨?_, fun k hk => ?_, h.out⟩
 ·rw [hA]
  congr 1
  apply List.ext_getElem?
  intro k
  rw [List.getElem?_set, Zb]
  by_cases hki : i = k
  ·subst hki
   rw [if_pos rfl, if_pos hi, Z1 _ _ _ _ _ (by simpa using hi)]
   simp [hi]
  ·rw [if_neg hki]
   by_cases hk : k < rows.length
   ·rw [Z1 _ _ _ _ _ hk, Z1 _ _ _ _ _ (by simpa using hk)]
    simp only [List.getD_eq_getElem?_getD, List.getElem?_set_ne hki, if_neg (fun e : k = i => hki e.symm)]
   ·rw [List.getElem?_eq_none (by rw [Zb]; omega), List.getElem?_eq_none (by rw [Zb]; simp; omega)]
 ·rw [List.length_set] at hk
  by_cases hki : k = i
  ·subst hki
   rw [hB, if_pos rfl]
   simp [hi]
  ·rw [hT _ (by omega) (by omega), h.row k hk, if_neg hki]
   simp only [List.getD_eq_getElem?_getD, List.getElem?_set_ne (fun e : i = k => hki e.symm)]
theorem ZiR {α : Type} (base sz : Nat) (ws : Nat → Nat) (m : Nat) : rwC (α := α) base sz ws (List.replicate m []) = (List.range m).map fun i => .sl (base + i) (ws i) sz 0 0 := by
 unfold rwC
 rw [List.length_replicate]
 refine List.map_congr_left fun i hi => ?_
 have := List.mem_range.1 hi
 simp [this]
theorem Zbz {α : Type} [Enc α] (A va tA base e sz m : Nat) (hAb : A < base) : ∀ (j k : Nat) (T : Store) (ws : Nat → Nat), k + j = m → T A = .cells va tA ((List.range k).map (fun i => .sl (base + i) (ws i) sz 0 0) ++ List.replicate j (.sc (.slice none 0 0))) →
  (∀ i, i < k → T (base + i) = .cells (ws i) e []) → zL (base + k) T →
  (∀ (T' : Store) (ws' : Nat → Nat), RowsAt T' A va tA base e sz ws' (List.replicate m ([] : List α)) → (∀ o, o ≠ A → o < base → T' o = T o) → zL (base + m) T' → PW P r n N c Q F T') → PW P r n N c Q F T
 | 0, k, T, ws, hk, hA, hrow, hd, h => by
  obtain rfl : k = m := by omega
  refine h T ws ⟨by rw [hA, ZiR]; simp, fun i hi => ?_, hAb⟩ (fun _ _ _ => rfl) hd
  rw [List.length_replicate] at hi
  rw [hrow i hi]; simp [hi]
 | j + 1, k, T, ws, hk, hA, hrow, hd, h => by
  have hget : ((List.range k).map (fun i => PV.sl (base + i) (ws i) sz 0 0) ++ List.replicate (j + 1) (.sc (.slice none 0 0)))[k]? = some (.sc (.slice none 0 0)) := by
   rw [List.getElem?_append_right (by simp)]; simp
  refine QO (o := A) k e sz hA hget (xL (X := fun id v => PW P r n N c Q F ((T.set id (.cells v e [])).set A (.cells va tA (((List.range k).map (fun i => PV.sl (base + i) (ws i) sz 0 0) ++ List.replicate (j + 1) (PV.sc (.slice none 0 0))).set k (.sl id v sz 0 0))))) (base + k) (hd _ (Nat.le_refl _)) fun v => ?_)
  refine Zbz A va tA base e sz m hAb j (k + 1) _ (fun i => if i = k then v else ws i) (by omega) ?_ ?_ ?_ fun T' ws' hR hT' hd' => h T' ws' hR (fun o ho hob => ?_) hd'
  ·rw [Store.set_same]
   congr 1
   rw [List.set_append_right _ _ (by simp), List.range_succ, List.map_append]
   simp only [List.length_map, List.length_range, Nat.sub_self, List.replicate_succ, List.set_cons_zero, List.map_cons, List.map_nil, if_true]
   rw [List.append_assoc]
   congr 1
   refine List.map_congr_left fun i hi => ?_
   have := List.mem_range.1 hi
   rw [if_neg (by omega)]
  ·intro i hi
   rw [Store.set_other _ _ _ _ (by omega)]
   by_cases hik : i = k
   ·subst hik; rw [Store.set_same, if_pos rfl]
   ·rw [Store.set_other _ _ _ _ (by omega), if_neg hik]
    exact hrow i (by omega)
  ·intro i hi
   rw [Store.set_other _ _ _ _ (by omega), Store.set_other _ _ _ _ (by omega)]
   exact hd i (by omega)
  ·rw [hT' o ho hob, Store.set_other _ _ _ _ ho, Store.set_other _ _ _ _ (by omega)]
theorem ZiS {α : Type} [Enc α] (A va tA base e sz m : Nat) {T : Store} (hA : T A = .cells va tA (List.replicate m (.sc (.slice none 0 0)))) (hd : zL base T)
  (h : ∀ (T' : Store) (ws : Nat → Nat), RowsAt T' A va tA base e sz ws (List.replicate m ([] : List α)) → (∀ o, o ≠ A → o < base → T' o = T o) → zL (base + m) T' → PW P r n N c Q F T') : PW P r n N c Q F T := by
 have hAb : A < base := by
  rcases Nat.lt_or_ge A base with q | q
  ·exact q
  ·rw [hd A q] at hA; cases hA
 exact Zbz A va tA base e sz m hAb m 0 T (fun _ => 0) (by omega) (by simpa using hA) (fun i hi => by omega) (by simpa using hd) h
theorem ZbA {nx : Nat} {S : Store} {obs : List Ob} {id ver e0 : Nat} {cs : List PV} (i e sz : Nat) (hlt : id < nx) (hs : S id = .cells ver e0 cs) (hi : cs[i]? = some (.sc (.slice none 0 0)))
  (h : ∀ v, PW P r n N c Q F (ext (S.set id (.cells ver e0 (cs.set i (.sl (nx + obs.length) v sz 0 0)))) nx (obs ++ [.cells v e []]))) : PW P r n N c Q F (ext S nx obs) :=
 QO (o := id) i e sz (by rw [zy hlt]; exact hs) hi (xL (X := fun id' v => PW P r n N c Q F (((ext S nx obs).set id' (.cells v e [])).set id (.cells ver e0 (cs.set i (.sl id' v sz 0 0))))) _ xO fun v => by
  rw [qh, xp _ hlt]; exact h v)
end
open Go Go.Proofs
instance : Enc Mv := ⟨fun m => mvL m, 5, fun _ => rfl, fun _ => rfl⟩
@[simp] theorem ZlS (m : Mv) : Enc.enc m = mvL m := rfl
@[simp high] theorem ZlT (l : List Mv) : (l.flatMap Enc.enc).length = l.length * 5 := jf l
@[simp high] theorem ZlU (l : List Mv) : (l.flatMap Enc.enc).take (l.length * 5) = l.flatMap Enc.enc := wZ l
open Go Go.Proofs Hp
abbrev plL (x : Inst) (v : PV) (b : Int) (p f pr : PV) : List PV := [I x.days, I x.veh, I x.cap, I x.len, L x.cust, L x.dist, v, I b, p, f, pr]
set_option maxRecDepth 20000 in
theorem ZiT {S : Store} {id ver idF vF : Nat} (x : Inst) (v p pr : PV) (b : Int) (fs : List Int) (hS : S id = .cells ver 87 (plL x v b p (.sl idF vF 1 0 fs.length) pr)) (hF : S idF = .cells vF 30 (fs.flatMap Enc.enc)) (hl : fs.length ≤ 1000) :
  Spec Tryz.prog 90 [.ptr id ver 0] S (fun q S' => q = I (y9 fs) ∧ S' = S) := by
 refine jg Tryz.func90 Tryz.ntmps90 Tryz.results90 fun nx hd => ?_
 have hlt : id < nx := yL hd hS (by simp)
 have hltF : idF < nx := yL hd hF (by simp)
 have xw := fun obs => zy (S := S) (obs := obs) hlt
 have xf := fun obs => zy (S := S) (obs := obs) hltF
 (repeat apply za); refine pwn ?_; intros
 repeat apply za
 refine pwN [] (jn2 xw hS) ?_
 intros
 repeat apply za
 refine ze (zq (fun k : Nat => k ≤ fs.length ∧ ∀ e ∈ fs.take k, e = 0) (fun k => [(8, .sl idF vF 1 0 fs.length), (9, I fs.length), (10, I k)]) (fun _ => []) (fun k => fs.length - k) 0 [] (by simp) (by simp) (by simp) ?_)
 rintro k ⟨hk, h0⟩
 (repeat apply za); refine pwn ?_; intros
 repeat apply za
 refine zl rfl (fun hc => ?_) (fun hc => ?_)
 ·simp at hc
  obtain ⟨e, tl, a1, a2, a3, e0⟩ := el1 rfl fs k hc
  refine zd (za (ze ?_))
  repeat apply za
  refine pwN [] (jn4 xf hF e0 hc) ?_
  intros
  (repeat apply za); refine pwn ?_; intros
  by_cases he : e = 0
  ·repeat apply za
   refine zj (by simp [he]) ?_
   refine zd ?_
   (repeat apply za); refine pwn ?_; intros
   exact zk (k + 1) [] ⟨hc, fun y hy => by rw [a3] at hy; rcases List.mem_append.1 hy with h | h; exact h0 y h; rw [List.mem_singleton.1 h]; exact he⟩ (by omega) (by simp [wrN k (by omega)]) rfl (by simp)
  ·repeat apply za
   refine zh (by simp [he]) ?_
   (repeat apply za); refine pwn ?_; intros
   repeat apply za
   exact zb ⟨_, S, rfl, ⟨by simp [zi, Xo h0 a1 he], rfl⟩, zM hd⟩
 ·simp at hc
  obtain rfl : k = fs.length := by omega
  rw [List.take_length] at h0
  refine zm ?_
  (repeat apply za); refine pwn ?_; intros
  repeat apply za
  exact zb ⟨_, S, rfl, ⟨by simp [zi, u6 h0], rfl⟩, zM hd⟩
set_option maxRecDepth 20000 in
theorem ZiU {S : Store} {id ver idD vD idF vF : Nat} {x : Inst} {v : List (List Visit)} {b : Int} {pr : PV} {ds : zF} {fs : List Int} {n : Nat} (k : Nat) (hS : S id = .cells ver 87 (plL x (L v) b (.sl idD vD 1 0 ds.length) (.sl idF vF 1 0 fs.length) pr))
  (hD : S idD = .cells vD 66 (ds.flatMap Enc.enc)) (hF : S idF = .cells vF 30 (fs.flatMap Enc.enc)) (d1 : id ≠ idD) (d2 : id ≠ idF) (d3 : idD ≠ idF) (hx : InstH x) (hv : VsOk x.cust.length n v) (hb : b ≤ 9223372036854775807) (hdl : ds.length ≤ 1000) (hfl : fs.length ≤ 1000) :
  Spec Tryz.prog 89 [.ptr id ver 0, I k] S (fun _ S' => S' = ((S.set id (.cells ver 87 (plL x (L v) b (.sl idD (vD + 1) 1 0 (ds.length + 1)) (.sl idF (vF + 1) 1 0 (fs.length + 1)) pr))).set idD (.cells (vD + 1) 66 ((ds ++ [(qZ x b (qa v k x.cust.length)).1]).flatMap Enc.enc))).set idF
   (.cells (vF + 1) 30 ((fs ++ [(qZ x b (qa v k x.cust.length)).2]).flatMap Enc.enc))) := by
 have hst := ZiO x v k n hx.cust hv
 have hso := ZhB (Za8 hx hv k) hx.diag hb
 generalize qa v k x.cust.length = st at hst hso ⊢
 generalize qZ x b st = r at hso ⊢
 obtain ⟨d, e⟩ := r
 simp only at hso ⊢
 refine jg Tryz.func89 Tryz.ntmps89 Tryz.results89 fun nx hd => ?_
 have hlt : id < nx := yL hd hS (by simp)
 have hltD : idD < nx := yL hd hD (by simp)
 have hltF : idF < nx := yL hd hF (by simp)
 have xw := fun obs => (zy (S := S) (obs := obs) hlt).trans hS
 have xd := fun obs => (zy (S := S) (obs := obs) hltD).trans hD
 have xf := fun obs => (zy (S := S) (obs := obs) hltF).trans hF
 have g1 : ¬ nx ≤ id := by omega
 have g2 : ¬ nx ≤ idD := by omega
 have g3 : ¬ nx ≤ idF := by omega
 have yw := fun (o : Ob) obs => (zy (S := S.set idD o) (obs := obs) hlt).trans ((Store.set_other _ _ _ _ d1).trans hS)
 have zw := fun (o o' : Ob) obs => (zy (S := (S.set idD o).set id o') (obs := obs) hlt).trans (Store.set_same _ _ _)
 have zf := fun (o o' : Ob) obs => (zy (S := (S.set idD o).set id o') (obs := obs) hltF).trans ((Store.set_other _ _ _ _ d2.symm).trans ((Store.set_other _ _ _ _ d3.symm).trans hF))
 have uw := fun (o o' o'' : Ob) obs => (zy (S := ((S.set idD o).set id o').set idF o'') (obs := obs) hlt).trans ((Store.set_other _ _ _ _ d2).trans (Store.set_same _ _ _))
 repeat apply za
 refine pwY (some [id]) (Row.pures [0, 1, 2, 3, 4, 5, 6, 7, 8, 9, 10, 11, 12, 13, 14, 15, 16, 17, 18, 19, 20, 21] (.alt 22 (.alt 23 (Row.pures [24] .done) .stop) .stop)) mixed xw ?_
 refine pwP (hst) xw ?_
 refine pwP (hso) xw ?_
 intro v2
 intros
 repeat apply za
 refine pwY (some [nx]) (Row.pures [0, 1, 2, 3, 4, 6, 7] (.alt 5 (.alt 8 (Row.pures [9, 10, 11] (.alt 12 (.done) .stop)) .stop) .stop)) mixed (jn5 xw xd yw g1 g2) ?_
 refine ⟨by omega, ?_⟩
 intros
 repeat apply za
 refine pwN [] (jn5 zw zf uw g1 g3) ?_
 refine ⟨by omega, ?_⟩
 intros
 have e1 : ∀ (a b c d : Ob), (((S.set idD a).set id b).set idF c).set id d = ((S.set id d).set idD a).set idF c := by
  intro a b c d
  funext i
  simp only [Store.set]
  by_cases h1 : i = id
  ·subst h1; simp [d1, d2]
  ·simp only [h1, if_false]
 have hdd : ∀ (a b c : Ob), zL nx (((S.set id a).set idD b).set idF c) := by
  intro a b c i hi
  rw [Store.set_other _ _ _ _ (by omega), Store.set_other _ _ _ _ (by omega), Store.set_other _ _ _ _ (by omega)]
  exact hd i hi
 rw [e1]
 exact ⟨_, _, rfl, by simp, zM (hdd _ _ _)⟩
set_option maxRecDepth 20000 in
theorem ZiV {S : Store} {id ver : Nat} (x : Inst) (v p f pr : PV) (b : Int) (fn : FuncId) (fs : List PV) (n : Nat) (hn : x.days = n) (hn2 : n ≤ 1000) (hS : S id = .cells ver 87 (plL x v b p f pr)) (St : Nat → Store) (h0 : St 0 = S)
  (hSt : ∀ nx, zL nx S → ∀ k, k ≤ n → zL nx (St k)) (hstep : ∀ k, k < n → Spec Tryz.prog fn (fs ++ [I k]) (St k) (fun _ S' => S' = St (k + 1))) :
  Spec Tryz.prog 47 [.ptr id ver 0, .fn (.func fn) fs []] S (fun _ S' => S' = St n) := by
 refine jg Tryz.func47 Tryz.ntmps47 Tryz.results47 fun nx hd => ?_
 have hlt : id < nx := yL hd hS (by simp)
 have xw := fun obs => (zy (S := S) (obs := obs) hlt).trans hS
 have hSt := hSt nx hd
 repeat apply za
 refine pwN [] (jn2 xw hn) ?_
 intros
 repeat apply za
 refine ze (qT (σ := Nat) (fun k => k ≤ n) (fun k => [(1, .fn (.func fn) fs []), (9, I n), (10, I k)]) (fun k => St k) (fun _ => []) (fun k => n - k) (zu 0 [] (by simp) (by simp) h0 (by simp)) ?_)
 rintro k hk
 (repeat apply za); refine pwn ?_; intros
 repeat apply za
 refine zl rfl (fun hc => ?_) (fun hc => ?_)
 ·simp at hc
  refine zd (za (ze ?_))
  (repeat apply za); refine pwn ?_; intros
  repeat apply za
  refine zO [] (by rfl) (by rfl) fun K Gc Gh hK hGc hGh X hX0 hX => ?_
  simp -implicitDefEqProofs [hX0, hX]
  try clear hX0 hX X
  refine hGc _ _ _ _ _ _ _ fun hsuf => (Spec.mono (by rw [yo (hSt k hk)]; simpa using hstep k hc) ?_).v
  rintro _ _ rfl
  refine ⟨St (k + 1), [], (yo (hSt (k + 1) hc)).symm, ?_⟩
  clear hGc hGh
  clear Gc Gh
  refine zJ hsuf (D := []) (by rfl) fun Gc Gh hGc hGh X hX0 hX => ?_
  simp -implicitDefEqProofs [hX0, hX]
  clear hX0 hX X
  intros
  refine hK _ _ _ ?_
  clear hK hGc hGh
  clear K Gc Gh
  (repeat apply za); refine pwn ?_; intros
  exact zk (k + 1) [] hc (by omega) (by simp [wrN k (by omega)]) rfl (by simp)
 ·simp at hc
  obtain rfl : k = n := by omega
  refine zm ?_
  exact ⟨_, _, rfl, rfl, zM (hSt k (Nat.le_refl _))⟩
set_option maxRecDepth 20000 in
theorem ZiW {S : Store} {nx id ver : Nat} (hd : zL nx S) {x : Inst} {v : List (List Visit)} {v0 p0 f0 pr : PV} {b : Int} {n : Nat} (hS : S id = .cells ver 87 (plL x v0 b p0 f0 pr)) (hx : InstH x) (hn : x.days = n) (hn2 : n ≤ 1000) (hv : VsOk x.cust.length n v) (hb : b ≤ 9223372036854775807) :
  Spec Tryz.prog 50 [.ptr id ver 0, L v] S (fun q S' => q = I (y9 (yS x v b n)) ∧ ∃ vD vF, S' = ext (S.set id (.cells ver 87 (plL x (L v) b (.sl nx vD 1 0 (qP x v b n).length) (.sl (nx + 1) vF 1 0 (yS x v b n).length) pr))) nx
   [.cells vD 66 ((qP x v b n).flatMap Enc.enc), .cells vF 30 ((yS x v b n).flatMap Enc.enc)]) := by
 have hpl := Za9 x v b
 have hfl := Zba x v b
 refine vR hd Tryz.func50 Tryz.ntmps50 Tryz.results50 ?_
 have hlt : id < nx := yL hd hS (by simp)
 have g1 : ¬ nx ≤ id := by omega
 have xw := fun obs => (zy (S := S) (obs := obs) hlt).trans hS
 have yw := fun (o : Ob) obs => (zy (S := S.set id o) (obs := obs) hlt).trans (Store.set_same _ _ _)
 (repeat apply za); refine pwn ?_; intros
 repeat apply za
 refine pwN [] (jn4 xw yw g1 Store.set_set) ?_
 intros
 refine ZbA (id := id) 8 66 1 hlt (Store.set_same _ _ _) rfl fun vD => ?_
 rw [Store.set_set]
 refine ZbA (id := id) 9 30 1 hlt (Store.set_same _ _ _) rfl fun vF => ?_
 rw [Store.set_set]
 simp only [List.set_cons_succ, List.set_cons_zero, List.length_cons, List.length_nil, List.cons_append, List.nil_append, Nat.add_zero, Nat.zero_add]
 generalize hSt : (fun k : Nat => ext (S.set id (.cells ver 87 (plL x (L v) b (.sl nx (vD + k) 1 0 (qP x v b k).length) (.sl (nx + 1) (vF + k) 1 0 (yS x v b k).length) pr))) nx
   [.cells (vD + k) 66 ((qP x v b k).flatMap Enc.enc), .cells (vF + k) 30 ((yS x v b k).flatMap Enc.enc)]) = St
 have hSk : ∀ k, St k = ext (S.set id (.cells ver 87 (plL x (L v) b (.sl nx (vD + k) 1 0 (qP x v b k).length) (.sl (nx + 1) (vF + k) 1 0 (yS x v b k).length) pr))) nx
   [.cells (vD + k) 66 ((qP x v b k).flatMap Enc.enc), .cells (vF + k) 30 ((yS x v b k).flatMap Enc.enc)] := fun k => by rw [← hSt]
 have h0 : St 0 = ext (S.set id (.cells ver 87 (plL x (L v) b (.sl nx vD 1 0 0) (.sl (nx + 1) vF 1 0 0) pr))) nx [.cells vD 66 [], .cells vF 30 []] := hSk 0
 have hid : ∀ k, St k id = .cells ver 87 (plL x (L v) b (.sl nx (vD + k) 1 0 (qP x v b k).length) (.sl (nx + 1) (vF + k) 1 0 (yS x v b k).length) pr) := fun k => by rw [hSk k, zy hlt, Store.set_same]
 have hstep : ∀ k, k < n → Spec Tryz.prog 89 ([.ptr id ver 0] ++ [I k]) (St k) (fun _ S' => S' = St (k + 1)) := by
  intro k hk
  have h1 := hpl k
  have h2 := hfl k
  refine (ZiU (idD := nx) (idF := nx + 1) (n := n) k (hid k) (by rw [hSk k]; simp) (by rw [hSk k]; simp) (by omega) (by omega) (by omega) hx hv hb (by omega) (by omega)).mono ?_
  rintro _ _ rfl
  rw [hSk k, hSk (k + 1), xp _ hlt, Store.set_set, qb _ (by omega) (by simp), qb _ (by omega) (by simp), Zif, Zig]
  simp [Nat.add_assoc]
 have hdead : ∀ m, zL m (St 0) → ∀ k, k ≤ n → zL m (St k) := by
  intro m hm k _ i hi
  have hge : nx + 1 < m := by
   rcases Nat.lt_or_ge (nx + 1) m with q | q
   ·exact q
   ·have := hm (nx + 1) q; rw [hSk 0] at this; simp at this
  rw [hSk k]
  simp only [ext]
  rw [if_neg (by omega), List.getD_eq_getElem?_getD, List.getElem?_eq_none (by simp; omega)]; rfl
 rw [← h0]
 have hn0 := hid 0
 have hnx2 : nx + 2 = nx + [Ob.cells (vD + 0) 66 ((qP x v b 0).flatMap Enc.enc), .cells (vF + 0) 30 ((yS x v b 0).flatMap Enc.enc)].length := rfl
 have hb0 : ∀ k, St k = ext (St k) (nx + 2) [] := fun k => by
  refine (yo ?_).symm
  rw [hSk k]; exact jr (obs := [_, _])
 rw [hb0 0]
 repeat apply za
 refine zO [] (by rfl) (by rfl) fun K Gc Gh hK hGc hGh X hX0 hX => ?_
 simp -implicitDefEqProofs [hX0, hX]
 try clear hX0 hX X
 refine hGc _ _ _ _ _ _ _ fun hsuf => ((ZiV x (L v) _ _ pr b _ _ n hn hn2 (by rw [← hb0 0]; exact hn0) St (hb0 0) (fun m hm k hk => hdead m (by rw [hb0 0]; exact hm) k hk) hstep).mono ?_).v
 rintro _ _ rfl
 refine ⟨_, _, hb0 n, ?_⟩
 clear hGc hGh
 clear Gc Gh
 refine zJ hsuf (D := []) (by rfl) fun Gc Gh hGc hGh X hX0 hX => ?_
 simp -implicitDefEqProofs [hX0, hX]
 clear hX0 hX X
 intros
 refine hK _ _ _ ?_
 clear hK hGc hGh
 clear K Gc Gh
 repeat apply za
 refine zO [] (by rfl) (by rfl) fun K Gc Gh hK hGc hGh X hX0 hX => ?_
 simp -implicitDefEqProofs [hX0, hX]
 try clear hX0 hX X
 refine hGc _ _ _ _ _ _ _ fun hsuf => ((ZiT (idF := nx + 1) x _ _ _ _ (yS x v b n) (by rw [← hb0 n]; exact hid n) (by rw [← hb0 n, hSk n]; simp) (by rw [hfl]; exact hn2)).mono ?_).v
 rintro _ _ ⟨rfl, rfl⟩
 refine ⟨_, _, rfl, ?_⟩
 clear hGc hGh
 clear Gc Gh
 refine zJ hsuf (D := []) (by rfl) fun Gc Gh hGc hGh X hX0 hX => ?_
 simp -implicitDefEqProofs [hX0, hX]
 clear hX0 hX X
 intros
 refine hK _ _ _ ?_
 clear hK hGc hGh
 clear K Gc Gh
 repeat apply za
 refine zb ⟨_, St n, rfl, ⟨by simp [zi], vD + n, vF + n, hSk n⟩, fun o => .inl ?_⟩
 rw [← hb0 n]
open Go Go.Proofs Hp
def RowOf (S : Store) (pl : PV) (l : List Int) : Prop := pl = L l ∨ ∃ id ver, pl = .sl id ver 1 0 l.length ∧ S id = .cells ver 3 (l.flatMap Enc.enc)
theorem RowOf.ext {S : Store} {pl : PV} {l : List Int} (h : RowOf S pl l) {nx : Nat} (hd : zL nx S) (obs : List Ob) : RowOf (ext S nx obs) pl l := by
 rcases h with h | ⟨id, ver, h1, h2⟩
 ·exact .inl h
 ·exact .inr ⟨id, ver, h1, (zy (yL hd h2 (by simp))).trans h2⟩
set_option maxRecDepth 20000 in
theorem ZbB {S : Store} {nx id ver : Nat} (hd : zL nx S) (x : Inst) (v p f pr : PV) (b : Int) (fn : FuncId) (fs : List PV) (n : Nat) (hn : x.days = n) (hn2 : n ≤ 1000) (hS : S id = .cells ver 87 (plL x v b p f pr)) (Pk : Nat → Store → Prop) (h0 : Pk 0 S)
  (hPd : ∀ k T, Pk k T → zL nx T) (hstep : ∀ k, k < n → ∀ T, Pk k T → Spec Tryz.prog fn (fs ++ [I k]) T (fun _ S' => Pk (k + 1) S')) :
  Spec Tryz.prog 47 [.ptr id ver 0, .fn (.func fn) fs []] S (fun _ S' => Pk n S') := by
 refine vR hd Tryz.func47 Tryz.ntmps47 Tryz.results47 ?_
 have hlt : id < nx := yL hd hS (by simp)
 have xw := fun obs => (zy (S := S) (obs := obs) hlt).trans hS
 repeat apply za
 refine pwN [] (jn2 xw hn) ?_
 intros
 repeat apply za
 refine ze (qT (σ := Nat × Store) (fun s => s.1 ≤ n ∧ Pk s.1 s.2) (fun s => [(1, .fn (.func fn) fs []), (9, I n), (10, I s.1)]) (fun s => s.2) (fun _ => []) (fun s => n - s.1) (zu (0, S) [] ⟨by simp, h0⟩ (by simp) rfl (by simp)) ?_)
 rintro ⟨k, T⟩ ⟨hk, hP⟩
 simp only at hk hP ⊢
 (repeat apply za); refine pwn ?_; intros
 repeat apply za
 refine zl rfl (fun hc => ?_) (fun hc => ?_)
 ·simp at hc
  refine zd (za (ze ?_))
  (repeat apply za); refine pwn ?_; intros
  repeat apply za
  refine zO [] (by rfl) (by rfl) fun K Gc Gh hK hGc hGh X hX0 hX => ?_
  simp -implicitDefEqProofs [hX0, hX]
  try clear hX0 hX X
  refine hGc _ _ _ _ _ _ _ fun hsuf => (Spec.mono (by rw [yo (hPd k T hP)]; simpa using hstep k hc T hP) ?_).v
  rintro _ T' hP'
  refine ⟨T', [], (yo (hPd _ _ hP')).symm, ?_⟩
  clear hGc hGh
  clear Gc Gh
  refine zJ hsuf (D := []) (by rfl) fun Gc Gh hGc hGh X hX0 hX => ?_
  simp -implicitDefEqProofs [hX0, hX]
  clear hX0 hX X
  intros
  refine hK _ _ _ ?_
  clear hK hGc hGh
  clear K Gc Gh
  (repeat apply za); refine pwn ?_; intros
  exact zk (k + 1, T') [] ⟨hc, hP'⟩ (by simp; omega) (by simp [wrN k (by omega)]) rfl (by simp)
 ·simp at hc
  obtain rfl : k = n := by omega
  refine zm ?_
  exact ⟨_, T, rfl, hP, zM (hPd _ _ hP)⟩
def xI (x : Inst) (j : Nat) : Int := W (zC x [(j : Int)])
def yU (x : Inst) (k i : Nat) : List (List Int) := (List.range x.cust.length).map fun j => List.replicate (if j < i then k + 1 else k) (xI x j)
theorem wg (x : Inst) (k i : Nat) : (yU x k i).length = x.cust.length := by simp [yU]
theorem ZbC (x : Inst) (k i j : Nat) (h : j < x.cust.length) : (yU x k i).getD j [] = List.replicate (if j < i then k + 1 else k) (xI x j) := by
 rw [List.getD_eq_getElem?_getD]; simp [yU, h]
theorem ZiX (x : Inst) (k : Nat) : yU x k x.cust.length = yU x (k + 1) 0 := by
 unfold yU
 refine List.map_congr_left fun j hj => ?_
 rw [if_pos (List.mem_range.1 hj), if_neg (by omega)]
theorem ZiY (x : Inst) (k i : Nat) (h : i < x.cust.length) : (yU x k i).set i (List.replicate (k + 1) (xI x i)) = yU x k (i + 1) := by
 apply List.ext_getElem?
 intro j
 rw [List.getElem?_set, wg]
 by_cases hij : i = j
 ·subst hij; rw [if_pos rfl, if_pos h]; simp [yU, h]
 ·rw [if_neg hij]
  by_cases hj : j < x.cust.length
  ·simp only [yU, List.getElem?_map, List.getElem?_range hj, Option.map_some]
   congr 2
   by_cases h1 : j < i
   ·rw [if_pos h1, if_pos (by omega)]
   ·rw [if_neg h1, if_neg (by omega)]
  ·rw [List.getElem?_eq_none (by rw [wg]; omega), List.getElem?_eq_none (by rw [wg]; omega)]
set_option maxRecDepth 20000 in
theorem ZiZ {S : Store} {id ver A va base : Nat} {ws : Nat → Nat} {x : Inst} {v p f : PV} {b : Int} (k : Nat) (hx : x.cust.length ≤ 1000) (hk : k ≤ 1000) (hid : id < base) (hidA : id ≠ A) (hS : S id = .cells ver 87 (plL x v b p f (.sl A va 1 0 x.cust.length)))
  (hR : RowsAt S A va 54 base 3 1 ws (yU x k 0)) :
  Spec Tryz.prog 48 [.ptr id ver 0, I k] S (fun _ S' => (∃ ws', RowsAt S' A va 54 base 3 1 ws' (yU x (k + 1) 0)) ∧ ∀ o, o ≠ A → (o < base ∨ base + x.cust.length ≤ o) → S' o = S o) := by
 refine jg Tryz.func48 Tryz.ntmps48 Tryz.results48 fun nx hd => ?_
 have hlt : id < nx := yL hd hS (by simp)
 have hltA : A < nx := yL hd hR.arr (by simp)
 have hltR : ∀ i, i < x.cust.length → base + i < nx := fun i hi => yL hd (hR.row i (by rw [wg]; exact hi)) (by simp)
 have xw := fun obs => (zy (S := S) (obs := obs) hlt).trans hS
 repeat apply za
 refine pwN [] xw ?_
 intros
 repeat apply za
 refine ze (qT (σ := Nat × Store × (Nat → Nat)) (fun s => s.1 ≤ x.cust.length ∧ RowsAt s.2.1 A va 54 base 3 1 s.2.2 (yU x k s.1) ∧ ∀ o, o ≠ A → (o < base ∨ base + x.cust.length ≤ o) → s.2.1 o = S o)
  (fun s => [(0, .ptr id ver 0), (10, I x.cust.length), (11, I s.1)]) (fun s => s.2.1) (fun _ => []) (fun s => x.cust.length - s.1) (zu (0, S, ws) [] ⟨by simp, hR, fun _ _ _ => rfl⟩ (by simp) rfl (by simp)) ?_)
 clear hR
 rintro ⟨i, T, ws⟩ ⟨hi, hR, hT⟩
 simp only at hi hR hT ⊢
 (repeat apply za); refine pwn ?_; intros
 repeat apply za
 refine zl rfl (fun hc => ?_) (fun hc => ?_)
 ·simp at hc
  have hTw : T id = .cells ver 87 (plL x v b p f (.sl A va 1 0 x.cust.length)) := (hT id hidA (.inl hid)).trans hS
  have hAb := hR.out
  have hri := hR.row i (by rw [wg]; exact hc)
  rw [ZbC x k i i hc, if_neg (Nat.lt_irrefl i)] at hri
  have hlti := hltR i hc
  have xw := fun obs => (zy (S := T) (obs := obs) hlt).trans hTw
  have xa := fun obs => (zy (S := T) (obs := obs) hltA).trans hR.arr
  have xr := fun obs => (zy (S := T) (obs := obs) hlti).trans hri
  have ya := fun (o : Ob) obs => (zy (S := T.set (base + i) o) (obs := obs) hltA).trans ((Store.set_other _ _ _ _ (by omega)).trans hR.arr)
  have yw := fun (o : Ob) obs => (zy (S := T.set (base + i) o) (obs := obs) hlt).trans ((Store.set_other _ _ _ _ (by omega)).trans hTw)
  have zw := fun (o o' : Ob) obs => (zy (S := (T.set (base + i) o).set A o') (obs := obs) hlt).trans ((Store.set_other _ _ _ _ hidA).trans ((Store.set_other _ _ _ _ (by omega)).trans hTw))
  have g1 : ¬ nx ≤ base + i := by omega
  have g2 : ¬ nx ≤ A := by omega
  obtain ⟨tl, hdr⟩ := Xx base 1 ws (yU x k i) i (by rw [wg]; exact hc)
  rw [ZbC x k i i hc, if_neg (Nat.lt_irrefl i), List.length_replicate] at hdr
  have hcl : (rwC base 1 ws (yU x k i)).length = x.cust.length := by rw [Zb, wg]
  have hsp := Jy (rwC base 1 ws (yU x k i)) i (.sl (base + i) (ws i + 1) 1 0 (k + 1)) (by omega)
  have hway := WN x [(i : Int)] (by simp) (fun c hc => by rw [List.mem_singleton.1 hc]; unfold small; omega)
  have hfe : ∀ m : Nat, ((List.replicate m (xI x i)).flatMap Enc.enc).length = m := fun m => by rw [jf]; simp [Enc.sz]
  refine zd (za (ze ?_))
  (repeat apply za); refine pwn ?_; intros
  repeat apply za
  refine pwY (some [id]) (Row.pures [0, 1, 2, 3, 4, 5, 6, 7, 8, 9, 10, 12, 13, 14, 15, 16, 17, 18, 19] (.alt 11 (.alt 20 (Row.pures [21] (.alt 22 (.done) .stop)) .stop) .stop)) mixed (jn6 xw xa xr ya yw (jn2 (jn6 zw hdr g1 g2 hsp hcl) hc)) ?_
  refine pwP (hway) (jn6 xw xa xr ya yw (jn2 (jn6 zw hdr g1 g2 hsp hcl) hc)) ?_
  refine ⟨by omega, by omega, ?_⟩
  intros
  obtain ⟨T', hT'⟩ : ∃ T', T' = (T.set (base + i) (.cells (ws i + 1) 3 ((List.replicate (k + 1) (xI x i)).flatMap Enc.enc))).set A (.cells va 54 ((rwC base 1 ws (yU x k i)).set i (.sl (base + i) (ws i + 1) 1 0 (List.replicate (k + 1) (xI x i)).length))) := ⟨_, rfl⟩
  have hnew := hR.turn (i := i) (by rw [wg]; exact hc) (T' := T') (ws i + 1) (List.replicate (k + 1) (xI x i)) (by rw [hT']; exact Store.set_same _ _ _) (by rw [hT', Store.set_other _ _ _ _ (by omega), Store.set_same]) (fun o o1 o2 => by rw [hT', Store.set_other _ _ _ _ o1, Store.set_other _ _ _ _ o2])
  rw [ZiY x k i hc] at hnew
  (repeat apply za); refine pwn ?_; intros
  refine zk (i + 1, T', _) [] ⟨hc, hnew, fun o ho hob => ?_⟩ (by simp; omega) (by simp [wrN i (by omega)]) ?_ (by simp)
  ·dsimp only; rw [hT', Store.set_other _ _ _ _ ho, Store.set_other _ _ _ _ (by omega)]; exact hT o ho hob
  ·dsimp only; rw [hT']
   have htk : ((List.replicate k (xI x i)).flatMap Enc.enc).take k = (List.replicate k (xI x i)).flatMap Enc.enc := List.take_of_length_le (by rw [hfe]; exact Nat.le_refl _)
   simp only [List.length_replicate, List.replicate_succ', List.flatMap_append]
   unfold xI at htk
   simp [xI, htk]
 ·simp at hc
  obtain rfl : i = x.cust.length := by omega
  rw [ZiX] at hR
  refine zm ?_
  have hdT : zL nx T := fun o ho => by
   have h1 : o ≠ A := by omega
   by_cases h2 : o < base ∨ base + x.cust.length ≤ o
   ·rw [hT o h1 h2]; exact hd o ho
   ·have := hltR (o - base) (by omega); omega
  exact ⟨_, T, rfl, ⟨⟨ws, hR⟩, hT⟩, zM hdT⟩
def wh (k : Nat) (l : List Int) : List Int := l.set k (W (W (2 * l.getD k 0) + 1))
def jC (pr : List (List Int)) (k i : Nat) : List (List Int) := (List.range pr.length).map fun j => if j < i then wh k (pr.getD j []) else pr.getD j []
def Zc (fs : List Int) (pr : List (List Int)) (k : Nat) : List (List Int) := if fs.getD k 0 = 14 then pr.map (wh k) else pr
def Zd (fs : List Int) (pr : List (List Int)) : Nat → List (List Int)
 | 0 => pr
 | k + 1 => Zc fs (Zd fs pr k) k
theorem ZbD (k : Nat) (l : List Int) : (wh k l).length = l.length := by simp [wh]
theorem vz (pr : List (List Int)) (k i : Nat) : (jC pr k i).length = pr.length := by simp [jC]
theorem Xy (pr : List (List Int)) (k i j : Nat) (h : j < pr.length) : (jC pr k i).getD j [] = if j < i then wh k (pr.getD j []) else pr.getD j [] := by
 rw [List.getD_eq_getElem?_getD, jC]; simp [h]
theorem Zi0 (pr : List (List Int)) (k : Nat) : jC pr k 0 = pr := by
 apply List.ext_getElem?
 intro j
 simp only [jC, Nat.not_lt_zero, if_false, List.getElem?_map]
 by_cases h : j < pr.length
 ·rw [List.getElem?_range h]; simp [h]
 ·rw [List.getElem?_eq_none (by simp; omega), List.getElem?_eq_none (by omega)]; rfl
theorem Zi1 (pr : List (List Int)) (k : Nat) : jC pr k pr.length = pr.map (wh k) := by
 apply List.ext_getElem?
 intro j
 simp only [jC, List.getElem?_map]
 by_cases h : j < pr.length
 ·rw [List.getElem?_range h]; simp [h]
 ·rw [List.getElem?_eq_none (by simp; omega), List.getElem?_eq_none (by omega)]; rfl
theorem Zi2 (pr : List (List Int)) (k i : Nat) (h : i < pr.length) : (jC pr k i).set i (wh k (pr.getD i [])) = jC pr k (i + 1) := by
 apply List.ext_getElem?
 intro j
 rw [List.getElem?_set, vz]
 by_cases hij : i = j
 ·subst hij; rw [if_pos rfl, if_pos h]; simp [jC, h]
 ·rw [if_neg hij]
  by_cases hj : j < pr.length
  ·simp only [jC, List.getElem?_map, List.getElem?_range hj, Option.map_some]
   congr 1
   by_cases h1 : j < i
   ·rw [if_pos h1, if_pos (by omega)]
   ·rw [if_neg h1, if_neg (by omega)]
  ·rw [List.getElem?_eq_none (by rw [vz]; omega), List.getElem?_eq_none (by rw [vz]; omega)]
def wQ (m n : Nat) (pr : List (List Int)) : Prop := pr.length = m ∧ ∀ l ∈ pr, l.length = n ∧ ∀ z ∈ l, I64 z
theorem ZbE (x : Int) : I64 (W x) := by
 have key : ∀ m : Int, 0 ≤ m → m < 2 ^ 64 → I64 (if (true && decide (m ≥ 2 ^ (64 - 1))) = true then m - 2 ^ 64 else m) := by
  intro m h1 h2
  unfold I64
  by_cases h : m ≥ 2 ^ (64 - 1)
  ·simp [h]; omega
  ·simp [h]; omega
 exact key _ (Int.emod_nonneg x (by decide)) (Int.emod_lt_of_pos x (by decide))
theorem Zi3 {m n : Nat} {pr : List (List Int)} (fs : List Int) (k : Nat) (h : wQ m n pr) : wQ m n (Zc fs pr k) := by
 unfold Zc
 split
 ·refine ⟨by simp [h.1], fun l hl => ?_⟩
  obtain ⟨l', hl', rfl⟩ := List.mem_map.1 hl
  rw [ZbD]
  refine ⟨(h.2 l' hl').1, fun z hz => ?_⟩
  rcases List.mem_or_eq_of_mem_set hz with hz | rfl
  ·exact (h.2 l' hl').2 z hz
  ·exact ZbE _
 ·exact h
theorem Qp {m n : Nat} {pr : List (List Int)} (fs : List Int) (h : wQ m n pr) : ∀ k, wQ m n (Zd fs pr k)
 | 0 => h
 | k + 1 => Zi3 fs k (Qp fs h k)
theorem Zi4 (x : Inst) (n : Nat) : wQ x.cust.length n (yU x n 0) := by
 refine ⟨wg x n 0, fun l hl => ?_⟩
 obtain ⟨j, _, rfl⟩ := List.mem_map.1 hl
 refine ⟨by simp, fun z hz => ?_⟩
 rw [(List.mem_replicate.1 hz).2]; exact ZbE _
set_option maxRecDepth 20000 in
theorem Zi5 {S : Store} {id ver A va base idF vF : Nat} {ws : Nat → Nat} {x : Inst} {v p : PV} {b : Int} {m n : Nat} {pr : List (List Int)} {fs : List Int} (k : Nat) (hm : m ≤ 1000) (hn : n ≤ 1000) (hkn : k < n) (hid : id < base) (hidA : id ≠ A) (hF : S idF = .cells vF 30 (fs.flatMap Enc.enc)) (hfl : fs.length = n)
  (hS : S id = .cells ver 87 (plL x v b p (.sl idF vF 1 0 fs.length) (.sl A va 1 0 m))) (hP : wQ m n pr) (hR : RowsAt S A va 54 base 3 1 ws pr) :
  Spec Tryz.prog 53 [.ptr id ver 0, I k] S (fun _ S' => RowsAt S' A va 54 base 3 1 ws (Zc fs pr k) ∧ ∀ o, (o < base ∨ base + m ≤ o) → S' o = S o) := by
 obtain ⟨hPl, hPr⟩ := hP
 refine jg Tryz.func53 Tryz.ntmps53 Tryz.results53 fun nx hd => ?_
 have hlt : id < nx := yL hd hS (by simp)
 have hltF : idF < nx := yL hd hF (by simp)
 have hltA : A < nx := yL hd hR.arr (by simp)
 have hltR : ∀ i, i < m → base + i < nx := fun i hi => yL hd (hR.row i (by omega)) (by simp)
 have xw := fun obs => (zy (S := S) (obs := obs) hlt).trans hS
 have xf := fun obs => (zy (S := S) (obs := obs) hltF).trans hF
 obtain ⟨e, tl0, e1, -, -, e0⟩ := el1 rfl fs k (by omega)
 have hkf : k < fs.length := by omega
 have hge : fs.getD k 0 = e := by rw [List.getD_eq_getElem?_getD, e1]; rfl
 repeat apply za
 refine pwN [] (jn4 xw xf e0 hkf) ?_
 intros
 by_cases he : e = 14
 case neg =>
  repeat apply za
  refine zh (by simp [he]) ?_
  repeat apply za
  exact zb ⟨_, S, rfl, ⟨by unfold Zc; rw [hge, if_neg he]; exact hR, fun _ _ => rfl⟩, zM hd⟩
 repeat apply za
 refine zj (by simp [he]) ?_
 refine zd ?_
 repeat apply za
 refine pwN [] xw ?_
 intros
 have hkill : ∀ T : Store, (∀ o, (o < base ∨ base + m ≤ o) → T o = S o) → zL nx T := fun T hT o ho => by
  by_cases h2 : o < base ∨ base + m ≤ o
  ·rw [hT o h2]; exact hd o ho
  ·have := hltR (o - base) (by omega); omega
 repeat apply za
 refine ze (qT (σ := Nat × Store) (fun s => s.1 ≤ m ∧ RowsAt s.2 A va 54 base 3 1 ws (jC pr k s.1) ∧ ∀ o, (o < base ∨ base + m ≤ o) → s.2 o = S o)
  (fun s => [(0, .ptr id ver 0), (1, I k), (17, I m), (18, I s.1)]) (fun s => s.2) (fun _ => []) (fun s => m - s.1) (zu (0, S) [] ⟨by simp, by simpa only [Zi0] using hR, fun _ _ => rfl⟩ (by simp) rfl (by simp)) ?_)
 have hAb0 := hR.out
 clear hR
 rintro ⟨i, T⟩ ⟨hi, hR, hT⟩
 simp only at hi hR hT ⊢
 (repeat apply za); refine pwn ?_; intros
 repeat apply za
 refine zl rfl (fun hc => ?_) (fun hc => ?_)
 ·simp at hc
  have hil : i < pr.length := by omega
  have hTw : T id = .cells ver 87 (plL x v b p (.sl idF vF 1 0 fs.length) (.sl A va 1 0 m)) := (hT id (.inl hid)).trans hS
  have hri := hR.row i (by rw [vz]; exact hil)
  rw [Xy pr k i i hil, if_neg (Nat.lt_irrefl i)] at hri
  obtain ⟨tl, hdr⟩ := Xx base 1 ws (jC pr k i) i (by rw [vz]; exact hil)
  rw [Xy pr k i i hil, if_neg (Nat.lt_irrefl i)] at hdr
  have hcl : (rwC base 1 ws (jC pr k i)).length = m := by rw [Zb, vz, hPl]
  have hgl : (pr.getD i []).length = n := by
   rw [List.getD_eq_getElem?_getD, List.getElem?_eq_getElem hil]; exact (hPr _ (List.getElem_mem hil)).1
  generalize hrow : pr.getD i [] = row at hri hdr hgl
  obtain ⟨z, tl2, z1, -, -, z0⟩ := el1 rfl row k (by omega)
  have hgz : row.getD k 0 = z := by rw [List.getD_eq_getElem?_getD, z1]; rfl
  have hkr : k < row.length := by omega
  have hlti := hltR i hc
  have xw := fun obs => (zy (S := T) (obs := obs) hlt).trans hTw
  have xa := fun obs => (zy (S := T) (obs := obs) hltA).trans hR.arr
  have xr := fun obs => (zy (S := T) (obs := obs) hlti).trans hri
  have yw := fun (o : Ob) obs => (zy (S := T.set (base + i) o) (obs := obs) hlt).trans ((Store.set_other _ _ _ _ (by omega)).trans hTw)
  have ya := fun (o : Ob) obs => (zy (S := T.set (base + i) o) (obs := obs) hltA).trans ((Store.set_other _ _ _ _ (by omega)).trans hR.arr)
  have g1 : ¬ nx ≤ base + i := by omega
  have hsp := Qm (α := Int) rfl row k (W (W (2 * z) + 1)) hkr
  have hsp' : zK (row.flatMap Enc.enc) k [I (W (W (2 * z) + 1))] = (row.set k (W (W (2 * z) + 1))).flatMap Enc.enc := by simpa using hsp
  have hrl : (row.flatMap Enc.enc).length = n := by rw [jf, hgl]; simp [Enc.sz]
  refine zd (za (ze ?_))
  (repeat apply za); refine pwn ?_; intros
  repeat apply za
  refine pwY (some [id, A]) (Row.pures [0, 1, 2, 3, 4, 5, 6, 7, 8, 9, 10, 11, 12, 13, 15] (.alt 14 (Row.pures [16] (.alt 17 (Row.pures [18, 19, 20] (.alt 21 (.done) .stop)) .stop)) .stop)) mixed (jn6 xw xa xr yw ya (jn2 (jn6 hdr g1 hcl hc z0 hkr) (jn4 hsp' hrl hgl hkn))) ?_
  refine ⟨by omega, ?_⟩
  intros
  obtain ⟨T', hT'⟩ : ∃ T', T' = T.set (base + i) (.cells (ws i) 3 ((wh k row).flatMap Enc.enc)) := ⟨_, rfl⟩
  have hnew := hR.turn (i := i) (by rw [vz]; exact hil) (T' := T') (ws i) (wh k row) (by
   rw [hT', Store.set_other _ _ _ _ (by omega), hR.arr]
   congr 1
   refine (List.ext_getElem? fun j => ?_).symm
   rw [List.getElem?_set]
   split
   ·rename_i hij
    subst hij
    rw [if_pos (by omega), Z1 _ _ _ _ _ (by rw [vz]; exact hil), Xy pr k i i hil, if_neg (Nat.lt_irrefl i), hrow, ZbD]
   ·rfl) (by rw [hT']; exact Store.set_same _ _ _) (fun o o1 o2 => by rw [hT']; exact Store.set_other _ _ _ _ o2)
  have hws : (fun k => if k = i then ws i else ws k) = ws := by funext j; split <;> simp_all
  rw [hws, ← hrow, Zi2 pr k i hil] at hnew
  (repeat apply za); refine pwn ?_; intros
  refine zk (i + 1, T') [] ⟨hc, hnew, fun o hob => ?_⟩ (by simp; omega) (by simp [wrN i (by omega)]) ?_ (by simp)
  ·dsimp only; rw [hT', Store.set_other _ _ _ _ (by omega)]; exact hT o hob
  ·dsimp only; rw [hT']
   simp only [wh, hgz]
 ·simp at hc
  obtain rfl : i = m := by omega
  rw [← hPl, Zi1] at hR
  refine zm ?_
  exact ⟨_, T, rfl, ⟨by unfold Zc; rw [hge, if_pos he]; exact hR, hT⟩, zM (hkill T hT)⟩
def wR (e : Int) : Bool := decide (e ≠ 0) && decide (e ≠ 14)
set_option maxRecDepth 20000 in
theorem Zi6 (e : Int) : Pure Tryz.prog 52 [I e] (B (wR e)) := by
 unfold wR
 refine pwe Tryz.func52 Tryz.ntmps52 Tryz.results52 fun S nx hd => ?_
 (repeat apply za); refine pwn ?_; intros
 by_cases h1 : e = 0
 ·repeat apply za
  refine pwN [(2, 5)] (jn2 h1 zn) ?_
  intros
  repeat apply za
  exact zb (zg hd rfl (by simp [zi, h1]))
 ·by_cases h2 : e = 14
  ·repeat apply za
   refine pwN [(2, 5)] (jn3 h1 h2 zn) ?_
   intros
   repeat apply za
   exact zb (zg hd rfl (by simp [zi, h2]))
  ·repeat apply za
   refine pwN [(2, 5)] (jn3 h1 h2 zn) ?_
   intros
   repeat apply za
   exact zb (zg hd rfl (by simp [zi, h1, h2]))
set_option maxRecDepth 20000 in
theorem Zi7 {S : Store} {idF vF : Nat} (fs : List Int) (hF : S idF = .cells vF 30 (fs.flatMap Enc.enc)) (hl : fs.length ≤ 1000) :
  Spec Tryz.prog 91 [.sl idF vF 1 0 fs.length, .fn (.func 52) [] []] S (fun q S' => (∃ z : Int, q = I z ∧ (fs.any wR = decide (0 ≤ z))) ∧ S' = S) := by
 refine jg Tryz.func91 Tryz.ntmps91 Tryz.results91 fun nx hd => ?_
 have hltF : idF < nx := yL hd hF (by simp)
 have xf := fun obs => (zy (S := S) (obs := obs) hltF).trans hF
 (repeat apply za); refine pwn ?_; intros
 (repeat apply za); refine pwn ?_; intros
 repeat apply za
 refine ze (zq (fun k : Nat => k ≤ fs.length ∧ ∀ e ∈ fs.take k, wR e = false) (fun k => [(0, .sl idF vF 1 0 fs.length), (1, .fn (.func 52) [] []), (7, I fs.length), (8, I k)]) (fun _ => []) (fun k => fs.length - k) 0 [] (by simp) (by simp) (by simp) ?_)
 rintro k ⟨hk, h0⟩
 (repeat apply za); refine pwn ?_; intros
 repeat apply za
 refine zl rfl (fun hc => ?_) (fun hc => ?_)
 ·simp at hc
  obtain ⟨e, tl, a1, a2, a3, e0⟩ := el1 rfl fs k hc
  refine zd (za (ze ?_))
  (repeat apply za); refine pwn ?_; intros
  repeat apply za
  refine pwN [] (jn3 xf e0 hc) ?_
  refine pwc (Zi6 e) ?_
  intros
  cases hb : wR e with
  | true =>
   repeat apply za
   refine zh rfl ?_
   (repeat apply za); refine pwn ?_; intros
   repeat apply za
   exact zb ⟨_, S, rfl, ⟨⟨k, by simp [zi], by rw [List.any_eq_true.2 ⟨e, List.mem_of_getElem? a1, hb⟩]; simp⟩, rfl⟩, zM hd⟩
  | false =>
   repeat apply za
   refine zj rfl ?_
   refine zd ?_
   (repeat apply za); refine pwn ?_; intros
   exact zk (k + 1) [] ⟨hc, fun y hy => by rw [a3] at hy; rcases List.mem_append.1 hy with h | h; exact h0 y h; rw [List.mem_singleton.1 h]; exact hb⟩ (by omega) (by simp [wrN k (by omega)]) rfl (by simp)
 ·simp at hc
  obtain rfl : k = fs.length := by omega
  rw [List.take_length] at h0
  refine zm ?_
  (repeat apply za); refine pwn ?_; intros
  repeat apply za
  exact zb ⟨_, S, rfl, ⟨⟨-1, by simp [zi], by rw [List.any_eq_false.2 fun e he => by rw [h0 e he]; simp]; rfl⟩, rfl⟩, zM hd⟩
set_option maxRecDepth 20000 in
theorem Zi8 {S : Store} {idF vF : Nat} (fs : List Int) (hF : S idF = .cells vF 30 (fs.flatMap Enc.enc)) (hl : fs.length ≤ 1000) :
  Spec Tryz.prog 51 [.sl idF vF 1 0 fs.length, .fn (.func 52) [] []] S (fun q S' => q = B (fs.any wR) ∧ S' = S) := by
 refine jg Tryz.func51 Tryz.ntmps51 Tryz.results51 fun nx hd => ?_
 have hltF : idF < nx := yL hd hF (by simp)
 (repeat apply za); refine pwn ?_; intros
 repeat apply za
 refine zO [] (by rfl) (by rfl) fun K Gc Gh hK hGc hGh X hX0 hX => ?_
 simp -implicitDefEqProofs [hX0, hX]
 try clear hX0 hX X
 refine hGc _ _ _ _ _ _ _ fun hsuf => ((Zi7 fs ((zy hltF).trans hF) hl).mono ?_).v
 rintro _ _ ⟨⟨z, rfl, hz⟩, rfl⟩
 refine ⟨_, _, rfl, ?_⟩
 clear hGc hGh
 clear Gc Gh
 refine zJ hsuf (D := []) (by rfl) fun Gc Gh hGc hGh X hX0 hX => ?_
 simp -implicitDefEqProofs [hX0, hX]
 clear hX0 hX X
 intros
 refine hK _ _ _ ?_
 clear hK hGc hGh
 clear K Gc Gh
 repeat apply za
 exact zb ⟨_, S, rfl, ⟨by simp [zi, hz], rfl⟩, zM hd⟩
def xJ (x : Inst) (sol : Cust → List Int → List Visit × Bool) (pr : List (List Int)) (k : Nat) : List (List Visit × Bool) := (List.range k).map fun i => sol (x.cust.getD i default) (pr.getD i [])
def qu (x : Inst) (sol : Cust → List Int → List Visit × Bool) (pr : List (List Int)) : List (List Visit) × Int := if (xJ x sol pr x.cust.length).all (·.2) = true then ((xJ x sol pr x.cust.length).map (·.1), 0) else ([], 15)
theorem Zi9 (x : Inst) (sol : Cust → List Int → List Visit × Bool) (pr : List (List Int)) (k : Nat) : xJ x sol pr (k + 1) = xJ x sol pr k ++ [sol (x.cust.getD k default) (pr.getD k [])] := by simp [xJ, List.range_succ]
theorem Zja (x : Inst) (sol : Cust → List Int → List Visit × Bool) (pr : List (List Int)) {k m : Nat} (h : k < m) : sol (x.cust.getD k default) (pr.getD k []) ∈ xJ x sol pr m := List.mem_map.2 ⟨k, List.mem_range.2 h, rfl⟩
def Xz (x : Inst) (n : Nat) (sol : Cust → List Int → List Visit × Bool) : Prop :=
 ∀ c ∈ x.cust, ∀ (l : List Int), l.length = n → (∀ z ∈ l, I64 z) → ∀ (S : Store) (pl : PV), RowOf S pl l → Spec Tryz.prog 88 [.agg (zN c), I x.days, I x.cap, pl] S (fun q S' => q = .tup [L (sol c l).1, B (sol c l).2] ∧ S' = S)
set_option maxRecDepth 20000 in
theorem Zjb {S : Store} {A va base : Nat} {ws : Nat → Nat} {x : Inst} {n : Nat} {pr : List (List Int)} {sol : Cust → List Int → List Visit × Bool} (hx : x.cust.length ≤ 1000) (hP : wQ x.cust.length n pr) (hR : RowsAt S A va 54 base 3 1 ws pr) (hs : Xz x n sol) :
  Spec Tryz.prog 49 [.agg (zo x), .sl A va 1 0 x.cust.length] S (fun q S' => q = .tup [L (qu x sol pr).1, I (qu x sol pr).2] ∧ S' = S) := by
 obtain ⟨hPl, hPr⟩ := hP
 refine jg Tryz.func49 Tryz.ntmps49 Tryz.results49 fun nx hd => ?_
 have hltA : A < nx := yL hd hR.arr (by simp)
 have xa := fun obs => (zy (S := S) (obs := obs) hltA).trans hR.arr
 repeat apply za
 refine pwn ?_
 intro v0
 (repeat apply za); refine pwn ?_; intros
 refine za (yQ 6 42 1 rfl fun v1 => ?_)
 (repeat apply za); refine pwn ?_; intros
 repeat apply za
 refine ze (zq (fun s : Nat × List (List Visit) × Nat => s.1 ≤ x.cust.length ∧ s.2.1 = (xJ x sol pr s.1).map (·.1) ∧ (xJ x sol pr s.1).all (·.2) = true) (fun (i, out, w) => [(1, .sl A va 1 0 x.cust.length), (2, .ptr nx v0 0), (4, .sc (.slice none 0 0)), (6, .sl (nx + 1) w 1 0 out.length), (13, L x.cust), (14, I x.cust.length), (15, I i)]) (fun (i, out, w) => [.cells v0 25 (zo x), .cells w 42 (out.flatMap Enc.enc)]) (fun s => x.cust.length - s.1) (0, [], v1) [] (by simp [xJ]) (by simp) (by simp) ?_)
 rintro ⟨i, out, w⟩ ⟨hi, ho, hall⟩
 simp only at hi ho hall ⊢
 have hol : out.length = i := by rw [ho]; simp [xJ]
 (repeat apply za); refine pwn ?_; intros
 repeat apply za
 refine zl rfl (fun hc => ?_) (fun hc => ?_)
 ·simp at hc
  obtain ⟨c, tl, a1, a2, a3, e1, e0⟩ := el 8 rfl x.cust i hc
  have hcm := List.mem_of_getElem? a1
  have hgc : x.cust.getD i default = c := by rw [List.getD_eq_getElem?_getD, a1]; rfl
  have hil : i < pr.length := by omega
  obtain ⟨tl2, hdr⟩ := Xx base 1 ws pr i hil
  obtain ⟨hgl, hgi⟩ : (pr.getD i []).length = n ∧ ∀ z ∈ pr.getD i [], I64 z := by
   rw [List.getD_eq_getElem?_getD, List.getElem?_eq_getElem hil]; exact hPr _ (List.getElem_mem hil)
  have hrow : RowOf S (.sl (base + i) (ws i) 1 0 (pr.getD i []).length) (pr.getD i []) := .inr ⟨_, _, rfl, hR.row i hil⟩
  have hsol := hs c hcm (pr.getD i []) hgl hgi
  have hch := Zi9 x sol pr i
  have hcm2 := Zja x sol pr (k := i) hc
  rw [hgc] at hch hcm2
  generalize pr.getD i [] = row at hdr hgl hgi hrow hsol hch hcm2
  generalize hr : sol c row = r at hsol hch hcm2
  obtain ⟨vv, ok⟩ := r
  simp only at hsol hch
  refine zd (za (ze ?_))
  repeat apply za
  refine pwN [] (jn2 e0 hc) ?_
  intro v2
  (repeat apply za); refine pwn ?_; intros
  (repeat apply za); refine pwn ?_; intros
  repeat apply za
  refine zh (by simp [hc]) ?_
  repeat apply za
  refine pwN [] (jn3 xa hdr hc) ?_
  intros
  repeat apply za
  refine zO [] (by rfl) (by rfl) fun K Gc Gh hK hGc hGh X hX0 hX => ?_
  simp -implicitDefEqProofs [hX0, hX]
  try clear hX0 hX X
  refine hGc _ _ _ _ _ _ _ fun hsuf => ((hsol _ _ (hrow.ext hd _)).mono ?_).v
  rintro _ _ ⟨rfl, rfl⟩
  refine ⟨_, _, rfl, ?_⟩
  clear hGc hGh
  clear Gc Gh
  refine zJ hsuf (D := []) (by rfl) fun Gc Gh hGc hGh X hX0 hX => ?_
  simp -implicitDefEqProofs [hX0, hX]
  clear hX0 hX X
  intros
  refine hK _ _ _ ?_
  clear hK hGc hGh
  clear K Gc Gh
  (repeat apply za); refine pwn ?_; intros
  cases ok with
  | false =>
   have hno : qu x sol pr = ([], 15) := by
    unfold qu
    rw [if_neg]
    intro q
    have := List.all_eq_true.1 q _ hcm2
    cases this
   rw [hno]
   repeat apply za
   refine zh rfl ?_
   (repeat apply za); refine pwn ?_; intros
   refine xR 4 rfl ?_
   repeat apply za
   exact zb ⟨_, S, rfl, ⟨by simp [zi], rfl⟩, zM hd⟩
  | true =>
   repeat apply za
   refine zj rfl ?_
   refine zd ?_
   repeat apply za
   refine pwn ?_
   refine ⟨by omega, ?_⟩
   intros
   (repeat apply za); refine pwn ?_; intros
   exact zk (i + 1, out ++ [vv], w + 1) [_] ⟨hc, by rw [hch, List.map_append, ho]; rfl, by rw [hch, List.all_append, hall]; rfl⟩ (by simp; omega) (by simp [wrN i (by omega)]) rfl (by simp; rfl)
 ·simp at hc
  obtain rfl : i = x.cust.length := by omega
  have hyes : qu x sol pr = (out, 0) := by unfold qu; rw [if_pos hall, ← ho]
  rw [hyes]
  refine zm ?_
  refine zB 1 rfl ?_
  (repeat apply za); refine pwn ?_; intros
  repeat apply za
  exact zb ⟨_, S, (by simp; rfl), ⟨by simp [zi], rfl⟩, zM hd⟩
open Go Go.Proofs Hp
theorem Zjc (n : Nat) : yW n (.slice none 0 0) = List.replicate n (.sc (.slice none 0 0)) := by
 induction n with
 | zero => simp
 | succ n ih => rw [wA, ih]; rfl
structure RowsV (m n i : Nat) (v : List (List Visit)) : Prop where
 len : v.length = m
 ok : ∀ l ∈ v, ∀ w ∈ l, (0 ≤ w.d ∧ w.d < n) ∧ 1 ≤ w.q ∧ w.q ≤ 12
 nd : ∀ l ∈ v, (l.map (·.d)).Nodup
 few : ∀ l ∈ v, l.length ≤ i
theorem RowsV.vs {m n i : Nat} {v : List (List Visit)} (h : RowsV m n i v) (hi : i ≤ 12) : VsOk m n v :=
 ⟨h.len, fun l hl w hw => by have := h.ok l hl w hw; omega, h.nd, fun l hl => by have := h.few l hl; omega⟩
theorem RowsV.more {m n i : Nat} {v : List (List Visit)} (h : RowsV m n i v) : RowsV m n (i + 1) v := ⟨h.len, h.ok, h.nd, fun l hl => Nat.le_succ_of_le (h.few l hl)⟩
theorem RowsV.put {m n i : Nat} {v : List (List Visit)} (h : RowsV m n i v) {c : Nat} {l : List Visit} (hc : v[c]? = some l) (w : Visit) (hw : (0 ≤ w.d ∧ w.d < n) ∧ 1 ≤ w.q ∧ w.q ≤ 12) (hno : w.d ∉ l.map (·.d)) : RowsV m n (i + 1) (v.set c (l ++ [w])) := by
 have hlm := List.mem_of_getElem? hc
 refine ⟨by simp [h.len], fun k hk u hu => ?_, fun k hk => ?_, fun k hk => ?_⟩
 ·rcases List.mem_or_eq_of_mem_set hk with hk | rfl
  ·exact h.ok k hk u hu
  ·rcases List.mem_append.1 hu with hu | hu
   ·exact h.ok l hlm u hu
   ·rw [List.mem_singleton.1 hu]; exact hw
 ·rcases List.mem_or_eq_of_mem_set hk with hk | rfl
  ·exact h.nd k hk
  ·rw [List.map_append]; exact ZB _ _ (h.nd l hlm) hno
 ·rcases List.mem_or_eq_of_mem_set hk with hk | rfl
  ·exact Nat.le_succ_of_le (h.few k hk)
  ·have := h.few l hlm; simp; omega
open Go Go.Proofs Hp
section
variable {P : Program} {r : Rd} {n N : Nat} {Q : Exit → (Nat → PV) → Store → Prop} {F : Nat → PV} {c : Code}
theorem Zjd {S : Store} {nx : Nat} {obs : List Ob} (j : Nat) {ver e : Nat} {cs : List PV} (hj : obs[j]? = some (.cells ver e cs)) {id v e2 : Nat} {ds : List PV} (hlt : id < nx) (hs : S id = .cells v e2 ds)
  (h : PW P r n N c Q F (ext (S.set id (.cells v e2 (ds.map (ye (nx + j) ver cs)))) nx (obs.set j .dead))) : PW P r n N c Q F (ext S nx obs) := by
 have hjl : j < obs.length := (List.getElem?_eq_some_iff.1 hj).1
 refine ZiQ (id := nx + j) (ver := ver) (e := e) (cs := cs) (G := F) (by rw [yK, List.getD_eq_getElem?_getD, hj]; rfl) (by rw [yK, List.getD_eq_getElem?_getD, List.getElem?_set_self hjl]; rfl) (fun o => ?_) (fun _ => .inl rfl) h
 by_cases ho : o < nx
 ·rw [zy ho, zy ho]
  by_cases hoi : o = id
  ·subst hoi; rw [Store.set_same, hs]; exact .inr (.inr rfl)
  ·rw [Store.set_other _ _ _ _ hoi]; exact .inr (.inl rfl)
 ·simp only [ext]
  rw [if_neg ho, if_neg ho, List.getD_eq_getElem?_getD, List.getD_eq_getElem?_getD, List.getElem?_set]
  split
  ·simp [hjl]
  ·exact .inr (.inl rfl)
theorem Qq {S T : Store} {nx nz : Nat} {obs : List Ob} (hd : zL nx S) (hle : nx ≤ nz) (h : ∀ o, o < nx → T o = S o) (o : Nat) : S o = ext T nz obs o ∨ S o = .dead := by
 by_cases ho : o < nx
 ·rw [zy (by omega), h o ho]; exact .inl rfl
 ·exact .inr (hd o (by omega))
end
def vA (x : Inst) (sol : Cust → List Int → List Visit × Bool) (b : Int) (n : Nat) : Nat → List (List Int) → zF × Int
 | 0, _ => ([], 15)
 | k + 1, pr =>
  if (qu x sol pr).2 ≠ 0 then ([], 15)
  else if y9 (yS x (qu x sol pr).1 b n) = 0 then (qP x (qu x sol pr).1 b n, 0)
  else if (yS x (qu x sol pr).1 b n).any wR = true then ([], 15)
  else vA x sol b n k (Zd (yS x (qu x sol pr).1 b n) pr n)
def Z2 (x : Inst) (sol : Cust → List Int → List Visit × Bool) (b : Int) (n : Nat) : zF × Int := vA x sol b n 8 (yU x n 0)
def ZbF (x : Inst) (n : Nat) (sol : Cust → List Int → List Visit × Bool) : Prop := ∀ pr, wQ x.cust.length n pr → (qu x sol pr).2 = 0 → VsOk x.cust.length n (qu x sol pr).1
set_option maxHeartbeats 3200000 in
theorem Zje {x : Inst} {sol : Cust → List Int → List Visit × Bool} {b : Int} {n : Nat} (hx : InstH x) (hn : x.days = n) (hn2 : n ≤ 1000) (hs : Xz x n sol) (hv : ZbF x n sol) (hb : b ≤ 9223372036854775807) :
  Pure Tryz.prog 13 [.agg (zo x), I b] (.tup [.agg [L (Z2 x sol b n).1], I (Z2 x sol b n).2]) := by
 have hm := hx.cust
 unfold Z2
 have hPo := Zi4 x n
 refine pwe Tryz.func13 Tryz.ntmps13 Tryz.results13 fun S nx hd => ?_
 repeat apply za
 refine pwn ?_
 intro v0 v1
 repeat apply za
 refine pwY (some [nx]) (Row.pures [0, 1, 2, 3, 4] (.alt 5 (Row.pures [6] (.alt 7 (Row.pures [8] .done) .stop)) .stop)) mixed trivial ?_
 refine ⟨by omega, ?_⟩
 intro v2 v3
 intros
 rw [Zjc]
 refine ZiS (α := Int) (nx + 2) v2 54 (nx + 4) 3 1 x.cust.length (by simp) (jr (obs := [_, _, _, _])) fun T ws hR hT hdT => ?_
 have hT0 : T nx = .cells v0 25 (zo x) := by rw [hT nx (by omega) (by omega)]; simp
 have hT1 : T (nx + 1) = .cells v1 29 [.sc (.slice none 0 0)] := by rw [hT (nx + 1) (by omega) (by omega)]; simp
 have hT3 : T (nx + 3) = .cells v3 87 (plL x (.sc (.slice none 0 0)) b (.sc (.slice none 0 0)) (.sc (.slice none 0 0)) (.sl (nx + 2) v2 1 0 x.cust.length)) := by rw [hT (nx + 3) (by omega) (by omega)]; simp
 have hTS : ∀ o, o < nx → T o = S o := fun o ho => by rw [hT o (by omega) (by omega), zy ho]
 clear hT
 obtain ⟨nz, hnz⟩ : ∃ nz, nz = nx + 4 + x.cust.length := ⟨_, rfl⟩
 rw [← hnz] at hdT
 rw [show List.replicate x.cust.length ([] : List Int) = yU x 0 0 from (List.ext_getElem? fun j => by
  by_cases h : j < x.cust.length
  ·simp [yU, h]
  ·rw [List.getElem?_eq_none (by simp; omega), List.getElem?_eq_none (by rw [wg]; omega)])] at hR
 rw [← yo hdT]
 repeat apply za
 refine zO [] (by rfl) (by rfl) fun K Gc Gh hK hGc hGh X hX0 hX => ?_
 simp -implicitDefEqProofs [hX0, hX]
 try clear hX0 hX X
 refine hGc _ _ _ _ _ _ _ fun hsuf => (Spec.mono (ZbB (nx := nz) (by rw [yo hdT]; exact hdT) x _ _ _ _ _ _ _ n hn hn2 (by rw [yo hdT]; exact hT3)
  (fun k T' => (∃ ws', RowsAt T' (nx + 2) v2 54 (nx + 4) 3 1 ws' (yU x k 0)) ∧ (∀ o, o ≠ nx + 2 → (o < nx + 4 ∨ nx + 4 + x.cust.length ≤ o) → T' o = T o)) ⟨⟨ws, by rw [yo hdT]; exact hR⟩, fun o _ _ => by rw [yo hdT]⟩
  (fun k T' h o ho => by rw [h.2 o (by omega) (.inr (by omega))]; exact hdT o ho) (fun k hk T' h => ?_)) ?_).v
 ·obtain ⟨⟨ws', h1⟩, h2⟩ := h
  refine (ZiZ k hm (by omega) (by omega) (by omega) ((h2 (nx + 3) (by omega) (.inl (by omega))).trans hT3) h1).mono ?_
  rintro _ T2 ⟨g1, g2⟩
  exact ⟨g1, fun o o1 o2 => (g2 o o1 o2).trans (h2 o o1 o2)⟩
 rintro _ T' ⟨⟨ws', hR'⟩, hT'⟩
 have hdT' : zL nz T' := fun o ho => by rw [hT' o (by omega) (.inr (by omega))]; exact hdT o ho
 refine ⟨T', [], (yo hdT').symm, ?_⟩
 clear hGc hGh
 clear Gc Gh
 refine zJ hsuf (D := []) (by rfl) fun Gc Gh hGc hGh X hX0 hX => ?_
 simp -implicitDefEqProofs [hX0, hX]
 clear hX0 hX X
 intros
 refine hK _ _ _ ?_
 clear hK hGc hGh
 clear K Gc Gh
 replace hT0 := (hT' nx (by omega) (.inl (by omega))).trans hT0
 replace hT1 := (hT' (nx + 1) (by omega) (.inl (by omega))).trans hT1
 replace hT3 := (hT' (nx + 3) (by omega) (.inl (by omega))).trans hT3
 replace hTS : ∀ o, o < nx → T' o = S o := fun o ho => (hT' o (by omega) (.inl (by omega))).trans (hTS o ho)
 clear hT' hR hdT
 generalize yU x n 0 = pr0 at *
 (repeat apply za); refine pwn ?_; intros
 repeat apply za
 refine ze (qT (σ := Nat × Store × List (List Int)) (fun s => s.1 ≤ 8 ∧ wQ x.cust.length n s.2.2 ∧ vA x sol b n 8 pr0 = vA x sol b n (8 - s.1) s.2.2 ∧ (∃ ws', RowsAt s.2.1 (nx + 2) v2 54 (nx + 4) 3 1 ws' s.2.2) ∧ s.2.1 nx = .cells v0 25 (zo x) ∧ s.2.1 (nx + 1) = .cells v1 29 [.sc (.slice none 0 0)] ∧
  (∃ vP pP fP, s.2.1 (nx + 3) = .cells v3 87 (plL x vP b pP fP (.sl (nx + 2) v2 1 0 x.cust.length))) ∧ (∀ o, o < nx → s.2.1 o = S o) ∧ zL nz s.2.1)
  (fun s => [(2, .ptr nx v0 0), (4, .ptr (nx + 1) v1 0), (6, .ptr (nx + 3) v3 0), (21, I s.1)]) (fun s => s.2.1) (fun _ => []) (fun s => 8 - s.1) (zu (0, T', pr0) [] ⟨by simp, hPo, rfl, ⟨ws', hR'⟩, hT0, hT1, ⟨_, _, _, hT3⟩, hTS, hdT'⟩ (by simp) rfl (by simp)) ?_)
 clear hR' hT0 hT1 hT3 hTS hdT' hPo T'
 rintro ⟨k, T, pr⟩ ⟨hk, hP, hst, ⟨ws, hR⟩, hT0, hT1, ⟨vP, pP, fP, hT3⟩, hTS, hdT⟩
 simp only at hk hP hst hR hT0 hT1 hT3 hTS hdT ⊢
 have x0 := fun obs => (zy (S := T) (nx := nz) (obs := obs) (i := nx) (by omega)).trans hT0
 have x3 := fun obs => (zy (S := T) (nx := nz) (obs := obs) (i := nx + 3) (by omega)).trans hT3
 have g1 : ¬ nz ≤ nx + 1 := by omega
 have x1 := fun obs => (zy (S := T) (nx := nz) (obs := obs) (i := nx + 1) (by omega)).trans hT1
 (repeat apply za); refine pwn ?_; intros
 repeat apply za
 refine zl rfl (fun hc => ?_) (fun hc => ?_)
 ·simp at hc
  rw [show 8 - k = (7 - k) + 1 from by omega] at hst
  have hvs := hv pr hP
  have hch := Zjb (S := T) hm hP hR hs
  rw [show vA x sol b n (7 - k + 1) pr = (if (qu x sol pr).2 ≠ 0 then ([], 15) else if y9 (yS x (qu x sol pr).1 b n) = 0 then (qP x (qu x sol pr).1 b n, 0) else if (yS x (qu x sol pr).1 b n).any wR = true then ([], 15) else vA x sol b n (7 - k) (Zd (yS x (qu x sol pr).1 b n) pr n)) from rfl] at hst
  generalize qu x sol pr = cz at hst hvs hch
  obtain ⟨v, e⟩ := cz
  simp only at hst hvs hch
  refine zd (za (ze ?_))
  repeat apply za
  refine xQ none (Row.pures [0, 1, 2, 3, 4] (.alt 5 (Row.pures [6, 7, 8, 9, 10] .done) .stop)) mixed (by rfl) (by rfl) (by rfl) fun K Gp Gc Gh hK hGp hGc hGh X hX0 hX1 hX2 hX => ?_
  simp -implicitDefEqProofs [hX0, hX1, hX2, hX, x0, x3]
  try clear hX0 hX1 hX2 hX X
  refine hGc _ _ _ _ _ _ _ (Spec.mono (by rw [yo hdT]; exact hch) ?_).v
  rintro _ S2 ⟨rfl, hS2⟩
  have hS3 : S2 = ext T nz [] := hS2.trans (yo hdT).symm
  subst hS3
  clear hS2
  refine ⟨by simp [yd], ?_⟩
  clear hGp hGc hGh
  clear Gp Gc Gh
  refine js fun Gp Gc Gh hGp hGc hGh X hX0 hX1 hX2 hX => ?_
  simp -implicitDefEqProofs [hX0, hX1, hX2, hX]
  try clear hX0 hX1 hX2 hX X
  refine hK _ _ _ ?_
  clear hK hGp hGc hGh
  clear K Gp Gc Gh
  (repeat apply za); refine pwn ?_; intros
  by_cases he : e = 0
  case neg =>
   rw [if_pos he] at hst
   rw [hst]
   repeat apply za
   refine zh (by simp [he]) ?_
   repeat apply za
   refine pwN [] (jn3 x0 x1 g1) ?_
   intros
   show PW _ _ _ _ _ _ _ (ext _ _ _)
   refine YY (o := nx + 1) 0 (by rw [zy (by omega)]; first | exact Store.set_same _ _ _ | exact hT1) rfl ?_
   rw [xp _ (by omega)]
   try rw [Store.set_set]
   repeat apply za
   refine zb ⟨_, S, (by simp [zy (show nx + 1 < nz from by omega), Store.set_same]; rfl), ⟨by simp [zi], rfl⟩, ?_⟩
   exact Qq hd (by omega) fun o ho => by rw [Store.set_other _ _ _ _ (by omega)]; exact hTS o ho
  rw [if_neg (by simpa using he)] at hst
  have hvs := hvs he
  repeat apply za
  refine zj (by simp [he]) ?_
  refine zd ?_
  repeat apply za
  refine zO [] (by rfl) (by rfl) fun K Gc Gh hK hGc hGh X hX0 hX => ?_
  simp -implicitDefEqProofs [hX0, hX]
  try clear hX0 hX X
  refine hGc _ _ _ _ _ _ _ fun hsuf => (Spec.mono (ZiW (nx := nz) (n := n) (by rw [yo hdT]; exact hdT) (by rw [yo hdT]; exact hT3) hx hn hn2 hvs hb) ?_).v
  rintro _ _ ⟨rfl, vD, vF, rfl⟩
  rw [yo hdT]
  refine ⟨_, _, rfl, ?_⟩
  clear hGc hGh
  clear Gc Gh
  refine zJ hsuf (D := []) (by rfl) fun Gc Gh hGc hGh X hX0 hX => ?_
  simp -implicitDefEqProofs [hX0, hX]
  clear hX0 hX X
  intros
  refine hK _ _ _ ?_
  clear hK hGc hGh
  clear K Gc Gh
  have hfl := Zba x v b n
  have hpl := Za9 x v b n
  generalize yS x v b n = fs at *
  generalize qP x v b n = pl at *
  by_cases hf : y9 fs = 0
  ·rw [if_pos hf] at hst
   rw [hst]
   repeat apply za
   refine zh (by simp [hf]) ?_
   show PW _ _ _ _ _ _ _ (ext _ _ _)
   refine Zjd 0 (id := nx + 3) rfl (by omega) (Store.set_same _ _ _) ?_
   rw [Store.set_set]
   have hfz : ([I x.days, I x.veh, I x.cap, I x.len, L x.cust, L x.dist, L v, I b, .sl nz vD 1 0 pl.length, .sl (nz + 1) vF 1 0 fs.length, .sl (nx + 2) v2 1 0 x.cust.length] : List PV).map (ye (nz + 0) vD (pl.flatMap Enc.enc)) = plL x (L v) b (L pl) (.sl (nz + 1) vF 1 0 fs.length) (.sl (nx + 2) v2 1 0 x.cust.length) := by
    simp [ye]
    omega
   rw [hfz]
   have y3 := fun (o : Ob) obs => (zy (S := T.set (nx + 3) o) (nx := nz) (obs := obs) (i := nx + 3) (by omega)).trans (Store.set_same _ _ _)
   have y1 := fun (o : Ob) obs => (zy (S := T.set (nx + 3) o) (nx := nz) (obs := obs) (i := nx + 1) (by omega)).trans ((Store.set_other _ _ _ _ (by omega)).trans hT1)
   repeat apply za
   refine pwN [] (jn3 y3 y1 g1) ?_
   intros
   repeat apply za
   refine zb ⟨_, S, (by simp [zy (show nx + 1 < nz from by omega), Store.set_same]; rfl), ⟨by simp [zi], rfl⟩, ?_⟩
   exact Qq hd (by omega) fun o ho => by rw [Store.set_other _ _ _ _ (by omega), Store.set_other _ _ _ _ (by omega)]; exact hTS o ho
  rw [if_neg hf] at hst
  repeat apply za
  refine zj (by simp [hf]) ?_
  refine zd ?_
  have y3 := fun (o : Ob) obs => (zy (S := T.set (nx + 3) o) (nx := nz) (obs := obs) (i := nx + 3) (by omega)).trans (Store.set_same _ _ _)
  have y1 := fun (o : Ob) obs => (zy (S := T.set (nx + 3) o) (nx := nz) (obs := obs) (i := nx + 1) (by omega)).trans ((Store.set_other _ _ _ _ (by omega)).trans hT1)
  repeat apply za
  refine zO [] (by rfl) (by rfl) fun K Gc Gh hK hGc hGh X hX0 hX => ?_
  simp -implicitDefEqProofs [hX0, hX, y3]
  try clear hX0 hX X
  refine hGc _ _ _ _ _ _ _ fun hsuf => ((Zi8 (idF := nz + 1) (vF := vF) fs (by rw [yK]; rfl) (by omega)).mono ?_).v
  rintro _ _ ⟨rfl, rfl⟩
  refine ⟨_, _, rfl, ?_⟩
  clear hGc hGh
  clear Gc Gh
  refine zJ hsuf (D := []) (by rfl) fun Gc Gh hGc hGh X hX0 hX => ?_
  simp -implicitDefEqProofs [hX0, hX]
  clear hX0 hX X
  intros
  refine hK _ _ _ ?_
  clear hK hGc hGh
  clear K Gc Gh
  cases hbad : fs.any wR with
  | true =>
   rw [if_pos hbad] at hst
   rw [hst]
   repeat apply za
   refine zh rfl ?_
   repeat apply za
   refine pwN [] (jn2 y1 g1) ?_
   intros
   show PW _ _ _ _ _ _ _ (ext _ _ _)
   refine YY (o := nx + 1) 0 (by rw [zy (by omega)]; first | exact Store.set_same _ _ _ | exact (Store.set_other _ _ _ _ (by omega)).trans hT1) rfl ?_
   rw [xp _ (by omega)]
   try rw [Store.set_set]
   repeat apply za
   refine zb ⟨_, S, (by simp [zy (show nx + 1 < nz from by omega), Store.set_same]; rfl), ⟨by simp [zi], rfl⟩, ?_⟩
   exact Qq hd (by omega) fun o ho => by rw [Store.set_other _ _ _ _ (by omega), Store.set_other _ _ _ _ (by omega)]; exact hTS o ho
  | false =>
   rw [if_neg (by rw [hbad]; decide)] at hst
   repeat apply za
   refine zj rfl ?_
   refine zd ?_
   generalize hT2 : ext (T.set (nx + 3) (.cells v3 87 (plL x (L v) b (.sl nz vD 1 0 pl.length) (.sl (nz + 1) vF 1 0 fs.length) (.sl (nx + 2) v2 1 0 x.cust.length)))) nz [.cells vD 66 (pl.flatMap Enc.enc), .cells vF 30 (fs.flatMap Enc.enc)] = T2
   have q3 : T2 (nx + 3) = .cells v3 87 (plL x (L v) b (.sl nz vD 1 0 pl.length) (.sl (nz + 1) vF 1 0 fs.length) (.sl (nx + 2) v2 1 0 x.cust.length)) := by rw [← hT2, zy (by omega), Store.set_same]
   have qF : T2 (nz + 1) = .cells vF 30 (fs.flatMap Enc.enc) := by rw [← hT2, yK]; rfl
   have qo : ∀ o, o < nz → o ≠ nx + 3 → T2 o = T o := fun o h1 h2 => by rw [← hT2, zy h1, Store.set_other _ _ _ _ h2]
   have qd : zL (nz + 2) T2 := by rw [← hT2]; exact jr (obs := [_, _])
   have qR : RowsAt T2 (nx + 2) v2 54 (nx + 4) 3 1 ws pr := hR.other fun o ho => by
    rw [hP.1] at ho
    exact qo o (by omega) (by omega)
   clear hT2
   rw [← yo qd]
   repeat apply za
   refine zO [] (by rfl) (by rfl) fun K Gc Gh hK hGc hGh X hX0 hX => ?_
   simp -implicitDefEqProofs [hX0, hX]
   try clear hX0 hX X
   refine hGc _ _ _ _ _ _ _ fun hsuf => (Spec.mono (ZbB (nx := nz + 2) (by rw [yo qd]; exact qd) x _ _ _ _ _ _ _ n hn hn2 (by rw [yo qd]; exact q3)
    (fun k T' => RowsAt T' (nx + 2) v2 54 (nx + 4) 3 1 ws (Zd fs pr k) ∧ (∀ o, (o < nx + 4 ∨ nx + 4 + x.cust.length ≤ o) → T' o = T2 o)) ⟨by rw [yo qd]; exact qR, fun o _ => by rw [yo qd]⟩
    (fun k T' h o ho => by rw [h.2 o (.inr (by omega))]; exact qd o ho) (fun j hj T' h => ?_)) ?_).v
   ·obtain ⟨h1, h2⟩ := h
    refine (Zi5 (n := n) j hm hn2 hj (by omega) (by omega) ((h2 (nz + 1) (.inr (by omega))).trans qF) hfl ((h2 (nx + 3) (.inl (by omega))).trans q3) (Qp fs hP j) h1).mono ?_
    rintro _ T3 ⟨r1, r2⟩
    exact ⟨r1, fun o o1 => (r2 o o1).trans (h2 o o1)⟩
   rintro _ T3 ⟨hR3, hT3'⟩
   have hd3 : zL (nz + 2) T3 := fun o ho => by rw [hT3' o (.inr (by omega))]; exact qd o ho
   refine ⟨T3, [], (yo hd3).symm, ?_⟩
   clear hGc hGh
   clear Gc Gh
   refine zJ hsuf (D := []) (by rfl) fun Gc Gh hGc hGh X hX0 hX => ?_
   simp -implicitDefEqProofs [hX0, hX]
   clear hX0 hX X
   intros
   refine hK _ _ _ ?_
   clear hK hGc hGh
   clear K Gc Gh
   rw [yo hd3]
   refine Wn (T' := fun o => if o < nz then T3 o else .dead) (fun o => by by_cases ho : o < nz <;> simp [ho]) ?_
   generalize hT4 : (fun o => if o < nz then T3 o else Ob.dead) = T4
   have q4 : ∀ o, o < nz → T4 o = T3 o := fun o ho => by rw [← hT4]; simp [ho]
   have qd4 : zL nz T4 := fun o ho => by rw [← hT4]; simp; omega
   clear hT4
   rw [← yo qd4]
   (repeat apply za); refine pwn ?_; intros
   refine zk (k + 1, T4, Zd fs pr n) [] ⟨by dsimp only; omega, Qp fs hP n, by rw [hst, show 8 - (k + 1) = 7 - k from by omega], ⟨ws, hR3.other fun o ho => q4 o (by rw [(Qp fs hP n).1] at ho; omega)⟩, ?_, ?_, ⟨L v, .sl nz vD 1 0 pl.length, .sl (nz + 1) vF 1 0 fs.length, ?_⟩, fun o ho => ?_, qd4⟩ (by simp; omega) (by simp [wrN k (by omega)]) rfl (by simp)
   ·dsimp only; rw [q4 _ (by omega), hT3' _ (.inl (by omega)), qo _ (by omega) (by omega)]; exact hT0
   ·dsimp only; rw [q4 _ (by omega), hT3' _ (.inl (by omega)), qo _ (by omega) (by omega)]; exact hT1
   ·dsimp only; rw [q4 _ (by omega), hT3' _ (.inl (by omega))]; exact q3
   ·dsimp only; rw [q4 _ (by omega), hT3' _ (.inl (by omega)), qo _ (by omega) (by omega)]; exact hTS o ho
 ·simp at hc
  obtain rfl : k = 8 := by omega
  rw [hst]
  refine zm ?_
  repeat apply za
  refine pwN [] (jn2 x1 g1) ?_
  intros
  show PW _ _ _ _ _ _ _ (ext _ _ _)
  refine YY (o := nx + 1) 0 (by rw [zy (by omega)]; first | exact Store.set_same _ _ _ | exact hT1) rfl ?_
  rw [xp _ (by omega)]
  try rw [Store.set_set]
  repeat apply za
  refine zb ⟨_, S, (by simp [zy (show nx + 1 < nz from by omega), Store.set_same]; rfl), ⟨by simp [zi, vA], rfl⟩, ?_⟩
  exact Qq hd (by omega) fun o ho => by rw [Store.set_other _ _ _ _ (by omega)]; exact hTS o ho
end Go.Proofs.YtaiplainginmaaaGreat.Pv
