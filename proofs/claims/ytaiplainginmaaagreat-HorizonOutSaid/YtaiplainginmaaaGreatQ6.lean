/- A part of the proof of the statement that the last text of this claim proves; no condition is added. Packed by a program of the prover. -/
import Derived.Test.YtaiplainginmaaaGreatQ5
namespace Go.Proofs.YtaiplainginmaaaGreat.Pv
open Go
theorem ZhX {l : List Int} (h : l = [] ∨ ∃ m x, l = m ++ [x] ∧ x ≠ 0) : un l := by
 rcases h with rfl | ⟨m, x, rfl, hx⟩
 ·trivial
 ·induction m with
  | nil => exact hx
  | cons a m ih =>
   cases m with
   | nil => exact hx
   | cons b m => exact ih
theorem ZhY (l : List Int) (k : Nat) (h : ∀ d ∈ l.drop k, d = 0) : zG l = zG (l.take k) := by
 have hz : ∀ m : List Int, (∀ d ∈ m, d = 0) → zG m = 0 := by
  intro m; induction m with
  | nil => intro _; rfl
  | cons a m ih => intro h; simp only [zG]; rw [ih fun d hd => h d (by simp [hd]), h a (by simp)]; rfl
 conv => lhs; rw [← List.take_append_drop k l]
 rw [Qn, hz _ h]; simp
set_option maxRecDepth 20000 in
theorem ZhZ (l : List Int) (neg : Bool) (hl : q8 l) (hn : l.length ≤ 1000) : Pure Tryz.prog 182 [.agg [L l, B neg]] (.agg [L (zO (zG l).toNat), B (if zO (zG l).toNat = [] then false else neg)]) := by
 refine pwe Tryz.func182 Tryz.ntmps182 Tryz.results182 fun S nx hd => ?_
 repeat apply za
 refine pwn ?_
 intro v0 v1
 have fl : ∀ k, k ≤ l.length → ((l.flatMap Enc.enc).take k) = ((l.take k).flatMap Enc.enc) := fun k _ => by
  have := w9 (α := Int) Enc.enc 1 (fun _ => rfl) l k
  rw [Nat.mul_one] at this; exact this
 repeat apply za
 refine zR (nx := nx) (σ := Unit) (fun _ => True) (fun _ => [(1, .ptr nx v0 0), (2, .ptr (nx + 1) v1 0)]) (fun _ => S) (fun _ => [.cells v0 178 [L (zO (zG l).toNat), B neg], .cells v1 178 [.sc (.slice none 0 0), B false]]) ?_ ?_
 ·refine ze (zq (fun s : Nat => s ≤ l.length ∧ (∀ d ∈ l.drop s, d = 0)) (fun k => [(1, .ptr nx v0 0), (2, .ptr (nx + 1) v1 0)]) (fun k => [.cells v0 178 [L (l.take k), B neg], .cells v1 178 [.sc (.slice none 0 0), B false]]) (fun s => s) l.length [] (by simp) (by simp) (by simp) ?_)
  rintro k ⟨hk, ho⟩
  have htk : (l.take k).length = k := by simp; omega
  have stop : un (l.take k) → L (l.take k) = L (zO (zG l).toNat) := by
   intro h
   rw [ZhY l k ho, ← ZhT (fun d hd => hl d (List.mem_of_mem_take hd)) h]
  match k, hk with
  | 0, _ =>
   repeat apply za
   refine pwN [(4, 7)] zn ?_
   intros
   repeat apply za
   refine zj rfl ?_
   refine zm (zt () [] trivial (by simp) rfl ?_)
   have := stop trivial
   simp only [List.take_zero] at this
   simp [this]
  | j + 1, hk =>
   obtain ⟨d, tl, a1, a2, a3, e0⟩ := el1 rfl l j (by omega)
   have hw : IntKind.i64.wrap ((j : Int) + 1 - 1) = (j : Int) := by rw [wr _ (by omega) (by omega)]; omega
   have hw' : IntKind.i64.wrap (j : Int) = (j : Int) := wr _ (by omega) (by omega)
   have hlast : ((l.take (j + 1)).flatMap Enc.enc).drop j = [I d] := by
    rw [a3, List.flatMap_append, List.drop_append_of_le_length (by rw [qk]; simp; omega), List.drop_of_length_le (by rw [qk]; simp; omega)]; rfl
   have hjj : (j : Int) < (j : Int) + 1 := by omega
   by_cases h0 : d = 0
   ·repeat apply za
    refine pwN [(4, 7)] (jn6 htk hw hw' hlast hjj h0) ?_
    intros
    repeat apply za
    refine zh (by simp) ?_
    refine zd (ze ?_)
    have hft : ((l.take (j + 1)).flatMap Enc.enc).take j = (l.take j).flatMap Enc.enc := by rw [← fl (j + 1) hk, List.take_take, fl _ (by omega)]; congr 2; omega
    have hjl : (l.take j).length = j := by simp; omega
    repeat apply za
    refine pwN [] (jn4 htk hw hw' hft) ?_
    intros
    exact zk j [] ⟨by omega, fun e he => by rw [a2] at he; rcases List.mem_cons.1 he with q | q; exact q.trans h0; exact ho e q⟩ (by omega) (by simp) rfl (by simp [hjl, hft])
   ·repeat apply za
    refine pwN [(4, 7)] (jn6 htk hw hw' hlast hjj h0) ?_
    intros
    repeat apply za
    refine zj (by simp) ?_
    have := stop (ZhX (.inr ⟨l.take j, d, a3, h0⟩))
    refine zm (zt () [] trivial (by simp) rfl (by rw [this]; rfl))
 ·intro _ _
  have hdl := vy (zG l).toNat
  generalize zO (zG l).toNat = m at hdl ⊢
  cases m with
  | nil =>
   (repeat apply za); refine pwn ?_; intros
   repeat apply za
   refine zh (by simp) ?_
   (repeat apply za); refine pwn ?_; intros
   (repeat apply za); refine pwn ?_; intros
   repeat apply za
   exact zb (zg hd (by simp; rfl) rfl)
  | cons a m =>
   have h1 : ¬ ((m.length : Int) + 1 = 0) := by omega
   repeat apply za
   refine pwN [] h1 ?_
   intros
   repeat apply za
   refine zj (by simp) ?_
   refine zd ?_
   (repeat apply za); refine pwn ?_; intros
   repeat apply za
   exact zb (zg hd (by simp; rfl) rfl)
def wq : List Int → List Int → Int
 | x :: a, y :: b => if x < y then -1 else if y < x then 1 else wq a b
 | _, _ => 0
def vz (a b : List Int) : Int := if a.length < b.length then -1 else if b.length < a.length then 1 else wq a.reverse b.reverse
set_option maxRecDepth 20000 in
theorem Zh0 (a b : List Int) (ha : a.length ≤ 1000) (hb : b.length ≤ 1000) : Pure Tryz.prog 181 [L a, L b] (I (vz a b)) := by
 refine pwe Tryz.func181 Tryz.ntmps181 Tryz.results181 fun S nx hd => ?_
 (repeat apply za); refine pwn ?_; intros
 by_cases h1 : a.length = b.length
 case neg =>
  have h1' : ¬ ((a.length : Int) = b.length) := by omega
  repeat apply za
  refine pwN [] h1' ?_
  intros
  repeat apply za
  refine zh (by simp [h1']) ?_
  by_cases h2 : a.length < b.length
  ·(repeat apply za); refine pwn ?_; intros
   repeat apply za
   refine zh (by simp [h2]) ?_
   (repeat apply za); refine pwn ?_; intros
   repeat apply za
   exact zb (zg hd (by simp; rfl) (by simp [vz, h2, zi]))
  ·(repeat apply za); refine pwn ?_; intros
   repeat apply za
   refine zj (by simp; omega) ?_
   refine zd ?_
   (repeat apply za); refine pwn ?_; intros
   repeat apply za
   exact zb (zg hd (by simp; rfl) (by simp [vz, h2, show b.length < a.length by omega, zi]))
 have hres : vz a b = wq a.reverse b.reverse := by simp [vz, h1]
 rw [hres]
 have h1' : ((a.length : Int) = b.length) := by omega
 repeat apply za
 refine pwN [] h1' ?_
 intros
 repeat apply za
 refine zj (by simp [h1']) ?_
 refine zd ?_
 (repeat apply za); refine pwn ?_; intros
 repeat apply za
 have w0 : IntKind.i64.wrap ((a.length : Int) - 1) = (a.length : Int) - 1 := wr _ (by omega) (by omega)
 refine ze (zq (fun m : Nat => m ≤ a.length ∧ wq a.reverse b.reverse = wq (a.take m).reverse (b.take m).reverse) (fun m => [(0, L a), (1, L b), (5, I ((m : Int) - 1))]) (fun _ => []) (fun m => m) a.length [] ⟨Nat.le_refl _, by rw [List.take_length, List.take_of_length_le (by omega)]⟩ (by simp [w0]) (by simp) ?_)
 rintro m ⟨hm, ho⟩
 match m, hm with
 | 0, _ =>
  (repeat apply za); refine pwn ?_; intros
  repeat apply za
  refine zj (by simp) ?_
  refine zm ?_
  (repeat apply za); refine pwn ?_; intros
  repeat apply za
  exact zb (zg hd (by simp; rfl) (by rw [ho]; simp [wq, zi]))
 | j + 1, hm =>
  have s1 : ((j + 1 : Nat) : Int) - 1 = (j : Int) := by omega
  obtain ⟨x, tl, a1, a2, a3, e0⟩ := el1 rfl a j (by omega)
  obtain ⟨y, tl2, b1, b2, b3, e2⟩ := el1 rfl b j (by omega)
  rw [a3, b3] at ho
  simp only [List.reverse_append, List.reverse_cons, List.reverse_nil, List.nil_append, List.cons_append, wq] at ho
  have g1 : j < a.length := by omega
  have g2 : j < b.length := by omega
  have s2 : (j : Int) + 1 - 1 = (j : Int) := by omega
  repeat apply za
  refine pwN [] (jn2 s1 s2) ?_
  intros
  repeat apply za
  refine zh (by simp) ?_
  refine zd (za (ze ?_))
  repeat apply za
  refine pwY none (Row.pures [0, 1, 2, 3, 4, 5, 6, 7, 8] .done) mixed (jn6 s1 s2 g1 g2 e0 e2) ?_
  intros
  by_cases h3 : x < y
  ·repeat apply za
   refine zh (by simp [h3]) ?_
   (repeat apply za); refine pwn ?_; intros
   repeat apply za
   exact zb (zg hd (by simp; rfl) (by rw [ho, if_pos h3]; rfl))
  ·repeat apply za
   refine zj (by simp; omega) ?_
   refine zd ?_
   repeat apply za
   refine pwY none (Row.pures [0, 1, 2, 3, 4, 5, 6, 7, 8] .done) mixed (jn6 s1 s2 g1 g2 e0 e2) ?_
   intros
   by_cases h4 : y < x
   ·repeat apply za
    refine zh (by simp [h4]) ?_
    (repeat apply za); refine pwn ?_; intros
    repeat apply za
    exact zb (zg hd (by simp; rfl) (by rw [ho, if_neg h3, if_pos h4]; rfl))
   ·repeat apply za
    refine zj (by simp; omega) ?_
    refine zd ?_
    have w1 : IntKind.i64.wrap ((j : Int) - 1) = (j : Int) - 1 := wr _ (by omega) (by omega)
    repeat apply za
    refine pwN [] (jn3 s1 s2 w1) ?_
    intros
    exact zk j [] ⟨by omega, by rw [ho, if_neg h3, if_neg h4]⟩ (by omega) (by simp) rfl (by simp)
theorem Xo (l : List Int) (h : q8 l) (k : Nat) : 0 ≤ zG (l.take k) ∧ zG (l.take k) < 65536 ^ k := by
 have hd : q8 (l.take k) := fun d hd => h d (List.mem_of_mem_take hd)
 refine ⟨Xn hd, ?_⟩
 have main : ∀ (k : Nat) (m : List Int), q8 m → m.length ≤ k → zG m < 65536 ^ k := by
  intro k
  induction k with
  | zero => intro m _ hm; simp at hm; subst hm; simp [zG]
  | succ k ih =>
   intro m hm hl
   cases m with
   | nil => simp only [zG]; exact Int.pow_pos (by decide)
   | cons d m =>
    have h1 := hm d (by simp)
    have h2 := ih m (fun x hx => hm x (by simp [hx])) (by simpa using hl)
    simp only [zG, Int.pow_succ]; omega
 exact main k _ hd (by simp; omega)
theorem Zh1 : ∀ (m : Nat) (a b : List Int), q8 a → q8 b → a.length = m → b.length = m → zG a ≤ zG b → wq a.reverse b.reverse ≤ 0 := by
 intro m
 induction m with
 | zero => intro a b _ _ ha hb _; rw [List.eq_nil_of_length_eq_zero ha]; simp [wq]
 | succ m ih =>
  intro a b ha hb hal hbl hv
  have hane : a ≠ [] := by intro e; subst e; cases hal
  have hbne : b ≠ [] := by intro e; subst e; cases hbl
  obtain ⟨a', x, rfl⟩ : ∃ a' x, a = a' ++ [x] := ⟨a.dropLast, a.getLast hane, (List.dropLast_concat_getLast hane).symm⟩
  obtain ⟨b', y, rfl⟩ : ∃ b' y, b = b' ++ [y] := ⟨b.dropLast, b.getLast hbne, (List.dropLast_concat_getLast hbne).symm⟩
  have hal' : a'.length = m := by simpa using hal
  have hbl' : b'.length = m := by simpa using hbl
  have ha' : q8 a' := fun d hd => ha d (by simp [hd])
  have hb' : q8 b' := fun d hd => hb d (by simp [hd])
  have p1 := Xo (b' ++ [y]) hb m
  have p2 := Xo (a' ++ [x]) ha m
  rw [List.take_append_of_le_length (by omega), List.take_of_length_le (by omega)] at p1 p2
  rw [Qn, Qn, hal', hbl'] at hv
  simp only [zG, Int.mul_zero, Int.add_zero] at hv
  simp only [List.reverse_append, List.reverse_cons, List.reverse_nil, List.nil_append, List.cons_append, wq]
  by_cases h1 : x < y
  ·rw [if_pos h1]; omega
  ·rw [if_neg h1]
   by_cases h2 : y < x
   ·exfalso
    have : (65536 : Int) ^ m * x ≥ 65536 ^ m * (y + 1) := Int.mul_le_mul_of_nonneg_left (by omega) (by omega)
    rw [Int.mul_add] at this
    omega
   ·rw [if_neg h2]
    have hxy : x = y := by omega
    subst hxy
    exact ih a' b' ha' hb' hal' hbl' (by omega)
theorem Zh2 {a b : Nat} (h : a ≤ b) : (zO a).length ≤ (zO b).length := by
 induction b using Nat.strongRecOn generalizing a with
 | _ b ih =>
  by_cases h0 : a = 0
  ·subst h0; rw [vw]; simp
  ·rw [vx h0, vx (show b ≠ 0 by omega)]
   have := ih (b / 65536) (by omega) (a := a / 65536) (Nat.div_le_div_right h)
   simpa using this
theorem Zh3 {a b : Nat} (h : a ≤ b) : vz (zO a) (zO b) ≤ 0 := by
 have hl := Zh2 h
 unfold vz
 split
 ·omega
 ·rw [if_neg (by omega)]
  have h1 := vy a
  have h2 := vy b
  exact Zh1 _ _ _ h1.1 h2.1 rfl (by omega) (by rw [h1.2.1, h2.2.1]; omega)
theorem Qq {n : Nat} (h : n ≤ 18446744073709551615) : (zO n).length ≤ 4 := (vy n).2.2.2 (by rw [show (65536 : Nat) ^ 4 = 18446744073709551616 from by decide]; omega)
set_option maxRecDepth 20000 in
theorem Zh4 (a b : Nat) (ha : a ≤ 9223372036854775807) (hb : b ≤ 9223372036854775807) : Pure Tryz.prog 136 [.agg [L (zO a), B false], .agg [L (zO b), B false]] (.agg [L (zO (a + b)), B false]) := by
 have h1 := vy a
 have h2 := vy b
 have l1 := Qq (n := a) (by omega)
 have l2 := Qq (n := b) (by omega)
 obtain ⟨p1, p2, p3⟩ := ZhU (zO a) (zO b) 0 h1.1 h2.1 (by omega) (by omega)
 have hv : (zG (yJ (zO a) (zO b) 0)).toNat = a + b := by rw [p2, h1.2.1, h2.2.1]; omega
 have hpl := ZhW (zO a) (zO b) h1.1 h2.1 (by omega) (by omega)
 have htr := ZhZ (yJ (zO a) (zO b) 0) false p1 (by omega)
 rw [hv, ite_self] at htr
 generalize zO a = x at *
 generalize zO b = y at *
 generalize yJ x y 0 = z at *
 refine pwe Tryz.func136 Tryz.ntmps136 Tryz.results136 fun S nx hd => ?_
 repeat apply za
 refine pwn ?_
 intro v0 v1 v2
 (repeat apply za); refine pwn ?_; intros
 repeat apply za
 refine zh (by simp) ?_
 repeat apply za
 refine pwY (some [nx, nx + 1]) (Row.pures [0, 1, 2, 3, 4, 5, 6, 7, 8] (.alt 9 (.done) .stop)) mixed trivial ?_
 refine pwP (hpl) trivial ?_
 refine pwP (htr) trivial ?_
 intros
 repeat apply za
 exact zb (zg hd (by simp; rfl) rfl)
set_option maxRecDepth 20000 in
theorem Zh5 (n : Nat) (hn : n ≤ 9223372036854775807) : Pure Tryz.prog 135 [.agg [L (zO n), B false]] (.tup [I n, B true]) := by
 have h1 := vy n
 have l1 := Qq (n := n) (by omega)
 have hsz := Zh3 (a := n) (b := 9223372036854775807) hn
 have hs := Zh0 (zO n) (zO 9223372036854775807) (by omega) (by have := Qq (n := 9223372036854775807) (by omega); omega)
 have o1 := Qo 9223372036854775807 (by unfold I64; omega)
 have o2 := Qo (-9223372036854775808) (by unfold I64; omega)
 rw [show ((9223372036854775807 : Int)).natAbs = 9223372036854775807 from rfl, show decide ((9223372036854775807 : Int) < 0) = false from rfl] at o1
 rw [show decide ((-9223372036854775808 : Int) < 0) = true from rfl] at o2
 generalize zO (-9223372036854775808 : Int).natAbs = lo at *
 generalize zO 9223372036854775807 = hi at *
 generalize hdn : zO n = l at *
 have hg : ¬ 0 < vz l hi := by omega
 refine pwe Tryz.func135 Tryz.ntmps135 Tryz.results135 fun S nx hd => ?_
 repeat apply za
 refine pwn ?_
 intro v0
 repeat apply za
 refine pwn ?_
 refine pwc o1 ?_
 intro v1
 intros
 repeat apply za
 refine pwn ?_
 refine pwc o2 ?_
 intro v2
 intros
 repeat apply za
 refine pwN [(3, 13)] trivial ?_
 refine pwC [(3, 13)] hs hg ?_
 intros
 repeat apply za
 refine zj (by simp) ?_
 refine zd ?_
 repeat apply za
 refine pwN [(2, 23)] zn ?_
 intros
 repeat apply za
 refine zj (by simp) ?_
 refine zd ?_
 (repeat apply za); refine pwn ?_; intros
 have w0 : IntKind.i64.wrap ((l.length : Int) - 1) = (l.length : Int) - 1 := wr _ (by omega) (by omega)
 repeat apply za
 refine pwN [] w0 ?_
 intros
 repeat apply za
 refine ze (zq (fun m : Nat => m ≤ l.length) (fun m => [(1, .ptr nx v0 0), (6, I (zG (l.drop m))), (7, I ((m : Int) - 1))]) (fun _ => [.cells v0 178 [L l, B false]]) (fun m => m) l.length [_, _] (Nat.le_refl _) (by simp [zG]) rfl ?_)
 rintro m hm
 match m, hm with
 | 0, _ =>
  (repeat apply za); refine pwn ?_; intros
  repeat apply za
  refine zj (by simp) ?_
  refine zm ?_
  (repeat apply za); refine pwn ?_; intros
  repeat apply za
  exact zb (zg hd (by simp; rfl) (by simp [h1.2.1, zi]))
 | j + 1, hm =>
  have s1 : ((j + 1 : Nat) : Int) - 1 = (j : Int) := by omega
  have s2 : (j : Int) + 1 - 1 = (j : Int) := by omega
  obtain ⟨x, tl, a1, a2, a3, e0⟩ := el1 rfl l j (by omega)
  have g1 : j < l.length := by omega
  have hx := h1.1 x (List.mem_of_getElem? a1)
  have hv0 : 0 ≤ zG (l.drop (j + 1)) := Xn fun d hd => h1.1 d (List.mem_of_mem_drop hd)
  have hvj : zG (l.drop j) = x + 65536 * zG (l.drop (j + 1)) := by rw [a2]; rfl
  have hvle : zG (l.drop j) ≤ n := by
   have e := Qn (l.take j) (l.drop j)
   rw [List.take_append_drop, h1.2.1] at e
   have t0 := (Xo l h1.1 j).1
   have hp : (1 : Int) ≤ 65536 ^ (l.take j).length := by have := Int.pow_pos (n := 65536) (m := (l.take j).length) (by decide); omega
   have hd0 : 0 ≤ zG (l.drop j) := by omega
   have := Int.mul_le_mul_of_nonneg_right hp hd0
   rw [Int.one_mul] at this
   omega
  have w1 : IntKind.i64.wrap (zG (l.drop (j + 1)) * 65536) = zG (l.drop (j + 1)) * 65536 := wr _ (by omega) (by omega)
  have w2 : IntKind.i64.wrap (zG (l.drop (j + 1)) * 65536 + x) = zG (l.drop j) := by rw [wr _ (by omega) (by omega)]; omega
  have w3 : IntKind.i64.wrap ((j : Int) - 1) = (j : Int) - 1 := wr _ (by omega) (by omega)
  repeat apply za
  refine pwN [] (jn2 s1 s2) ?_
  intros
  repeat apply za
  refine zh (by simp) ?_
  refine zd (za (ze ?_))
  repeat apply za
  refine pwN [] w1 ?_
  intros
  (repeat apply za); refine pwn ?_; intros
  repeat apply za
  refine zj (by simp) ?_
  repeat apply za
  refine pwN [] (jn5 s1 s2 g1 e0 w2) ?_
  intros
  repeat apply za
  refine pwN [] (jn3 s1 s2 w3) ?_
  intros
  exact zk j [] (by omega) (by omega) (by simp) rfl (by simp)
set_option maxRecDepth 20000 in
theorem Zh6 (a b : Int) (ha : 0 ≤ a) (hb : 0 ≤ b) (hab : a + b ≤ 9223372036854775807) : Pure Tryz.prog 100 [I a, I b] (I (a + b)) := by
 obtain ⟨x, rfl⟩ := Int.eq_ofNat_of_zero_le ha
 obtain ⟨y, rfl⟩ := Int.eq_ofNat_of_zero_le hb
 have o1 := Qo (x : Int) (by unfold I64; omega)
 have o2 := Qo (y : Int) (by unfold I64; omega)
 rw [Int.natAbs_natCast, decide_eq_false (by omega)] at o1 o2
 have h3 := Zh4 x y (by omega) (by omega)
 have h4 := Zh5 (x + y) (by omega)
 rw [show ((x + y : Nat) : Int) = (x : Int) + (y : Int) by omega] at h4
 refine pwe Tryz.func100 Tryz.ntmps100 Tryz.results100 fun S nx hd => ?_
 (repeat apply za); refine pwn ?_; intros
 repeat apply za
 refine pwn ?_
 refine pwc o1 ?_
 refine pwc o2 ?_
 refine pwc h3 ?_
 refine pwc h4 ?_
 intros
 (repeat apply za); refine pwn ?_; intros
 repeat apply za
 refine zh (by simp) ?_
 (repeat apply za); refine pwn ?_; intros
 repeat apply za
 exact zb (zg hd (by simp; rfl) rfl)
open Go
set_option maxRecDepth 20000 in
theorem Zh7 (c : Cust) (ns : List Int) (hn : ns.length ≤ 1048576) : Pure Tryz.prog 117 [.agg (zM c), L ns] (I (Za5 c ns)) := by
 refine pwe Tryz.func117 Tryz.ntmps117 Tryz.results117 fun S nx hd => ?_
 repeat apply za
 refine pwn ?_
 intro v0
 (repeat apply za); refine pwn ?_; intros
 (repeat apply za); refine pwn ?_; intros
 repeat apply za
 refine ze (zq (fun s : Nat => s ≤ ns.length) (fun k => [(1, L ns), (2, .ptr nx v0 0), (5, I (W (ns.take k).sum)), (6, I k)]) (fun _ => [.cells v0 41 (zM c)]) (fun s => ns.length - s) 0 [] (by simp) (by simp) (by simp) ?_)
 rintro k hk
 (repeat apply za); refine pwn ?_; intros
 repeat apply za
 refine zl rfl (fun hc => ?_) (fun hc => ?_)
 ·simp at hc
  obtain ⟨z, tl, a1, a2, a3, e0⟩ := el1 rfl ns k hc
  refine zd (za (ze ?_))
  have hw : W (W (ns.take k).sum + z) = W (ns.take (k + 1)).sum := by rw [a3, Qm, xg]
  repeat apply za
  refine pwN [] (jn2 e0 hc) ?_
  intros
  (repeat apply za); refine pwn ?_; intros
  exact zk (k + 1) [] hc (by omega) (by simp [wrN k (by omega)]; exact hw) rfl (by simp)
 ·simp at hc
  obtain rfl : k = ns.length := by omega
  rw [List.take_length]
  refine zm ?_
  (repeat apply za); refine pwn ?_; intros
  repeat apply za
  exact zb (zg hd (by simp; rfl) rfl)
theorem Xp {q : List Int} (h : ∀ z ∈ q, 0 ≤ z ∧ z ≤ 2147483648) : ∀ k : Nat, k ≤ q.length → 0 ≤ (q.take k).sum ∧ (q.take k).sum ≤ 2147483648 * k := by
 intro k
 induction k with
 | zero => intro _; simp
 | succ k ih =>
  intro hk
  have := ih (by omega)
  have hz := h q[k] (List.getElem_mem (by omega))
  rw [List.take_succ_eq_append_getElem (by omega), Qm]
  omega
set_option maxRecDepth 20000 in
theorem Za7 (c : Cust) (q : List Int) (hc : CustFits c) (hq : q.length ≤ 1048576) : Pure Tryz.prog 101 [.agg (zM c), L q] (.tup [L (qK c q).1, I (qK c q).2]) := by
 obtain ⟨hr, hsz, hst⟩ := hc
 refine pwe Tryz.func101 Tryz.ntmps101 Tryz.results101 fun S nx hd => ?_
 repeat apply za
 refine pwn ?_
 intro v0
 (repeat apply za); refine pwn ?_; intros
 repeat apply za
 refine zR (nx := nx) (σ := Nat) (fun v0 => q.any wQ = false) (fun v0 => [(1, L q), (2, .ptr nx v0 0)]) (fun _ => S) (fun v0 => [.cells v0 41 (zM c)]) ?_ ?_
 ·refine ze (zq (fun s : Nat => s ≤ q.length ∧ (q.take s).any wQ = false) (fun k => [(1, L q), (2, .ptr nx v0 0), (6, I k)]) (fun _ => [.cells v0 41 (zM c)]) (fun s => q.length - s) 0 [] (by simp) (by simp) (by simp) ?_)
  rintro k ⟨hk, ho⟩
  (repeat apply za); refine pwn ?_; intros
  repeat apply za
  refine zl rfl (fun hc => ?_) (fun hc => ?_)
  ·simp at hc
   obtain ⟨z, tl, a1, a2, a3, e0⟩ := el1 rfl q k hc
   have bad : wQ z = true → qK c q = ([], 1) := fun h => by
    have : q.any wQ = true := by rw [List.any_eq_true]; exact ⟨z, List.mem_of_getElem? a1, h⟩
    simp [qK, this]
   refine zd (za (ze ?_))
   by_cases h1 : z < 0
   ·repeat apply za
    refine pwN [(5, 23)] (jn4 e0 hc h1 zn) ?_
    intros
    repeat apply za
    refine zh rfl ?_
    (repeat apply za); refine pwn ?_; intros
    refine xW 4 rfl ?_
    repeat apply za
    exact zb (zg hd (by simp; rfl) (by rw [bad (by simp [wQ, h1])]; rfl))
   by_cases h2 : (2147483648 : Int) < z
   ·repeat apply za
    refine pwN [(5, 23)] (jn4 e0 hc h1 h2) ?_
    intros
    repeat apply za
    refine zh rfl ?_
    (repeat apply za); refine pwn ?_; intros
    refine xW 4 rfl ?_
    repeat apply za
    exact zb (zg hd (by simp; rfl) (by rw [bad (by simp [wQ, h2])]; rfl))
   repeat apply za
   refine pwN [(5, 23)] (jn4 e0 hc h1 h2) ?_
   intros
   repeat apply za
   refine zj rfl ?_
   refine zd ?_
   (repeat apply za); refine pwn ?_; intros
   exact zk (k + 1) [] ⟨hc, by rw [a3, List.any_append, ho]; simp [wQ]; omega⟩ (by omega) (by simp [wrN k (by omega)]) rfl (by simp)
  ·simp at hc
   obtain rfl : k = q.length := by omega
   rw [List.take_length] at ho
   exact zm (zt v0 [] ho (by simp) rfl (by simp))
 ·intro v0 hb
  have hq0 : ∀ z ∈ q, 0 ≤ z ∧ z ≤ 2147483648 := by
   intro z hz
   rw [List.any_eq_false] at hb
   have := hb z hz
   simp [wQ] at this
   omega
  have hres : qK c q = match qJ c.size c.rate c.start q with | none => ([], 8) | some l => (l, 0) := by unfold qK; rw [hb]; rfl
  (repeat apply za); refine pwn ?_; intros
  refine yA 7 3 1 rfl fun v1 => ?_
  (repeat apply za); refine pwn ?_; intros
  repeat apply za
  refine ze (zq (fun s : Nat × List Int × Nat => s.1 ≤ q.length ∧ s.2.1.length = s.1 ∧ (0 ≤ c.start + (q.take s.1).sum - c.rate * s.1 ∧ c.start + (q.take s.1).sum - c.rate * s.1 ≤ 2147483648) ∧ qJ c.size c.rate c.start q = (qJ c.size c.rate (c.start + (q.take s.1).sum - c.rate * s.1) (q.drop s.1)).map (s.2.1 ++ ·))
   (fun (k, out, v1) => [(1, L q), (2, .ptr nx v0 0), (7, .sl (nx + 1) v1 1 0 out.length), (8, I k)])
   (fun (k, out, v1) => [.cells v0 41 (zM c), .cells v1 3 (out.flatMap Enc.enc)]) (fun s => q.length - s.1) (0, [], v1) [] ?_ (by simp) (by simp) ?_)
  ·refine ⟨by simp, by simp, by simpa using hst, ?_⟩
   simp
  rintro ⟨k, out, v1⟩ ⟨hk, hol, hth, ho⟩
  simp only at hk hol hth ho ⊢
  (repeat apply za); refine pwn ?_; intros
  repeat apply za
  refine zl rfl (fun hc => ?_) (fun hc => ?_)
  ·simp at hc
   obtain ⟨z, tl, a1, a2, a3, e0⟩ := el1 rfl q k hc
   have hz := hq0 z (List.mem_of_getElem? a1)
   have hst1 := Xp hq0 k hk
   have hst2 := Xp hq0 (k + 1) hc
   have hsum : (q.take (k + 1)).sum = (q.take k).sum + z := by rw [a3, Qm]
   have hrk : 0 ≤ c.rate * k ∧ c.rate * k ≤ 2147483648 * 1048576 := ⟨Int.mul_nonneg hr.1 (by omega), Int.mul_le_mul hr.2 (by omega) (by omega) (by omega)⟩
   rw [a2] at ho
   refine zd (za (ze ?_))
   (repeat apply za); refine pwn ?_; intros
   (repeat apply za); refine pwn ?_; intros
   repeat apply za
   refine zR (nx := nx) (σ := Nat) (fun _ => True) (fun v1 => [(1, L q), (2, .ptr nx v0 0), (7, .sl (nx + 1) v1 1 0 out.length), (8, I k), (9, I (c.start + (q.take (k + 1)).sum))]) (fun _ => S) (fun v1 => [.cells v0 41 (zM c), .cells v1 3 (out.flatMap Enc.enc)]) ?_ ?_
   ·refine ze (zq (fun s : Nat => s ≤ k + 1) (fun j => [(1, L q), (2, .ptr nx v0 0), (7, .sl (nx + 1) v1 1 0 out.length), (8, I k), (9, I (c.start + (q.take j).sum)), (10, I j)]) (fun _ => [.cells v0 41 (zM c), .cells v1 3 (out.flatMap Enc.enc)]) (fun s => k + 1 - s) 0 [] (by simp) (by simp) (by simp) ?_)
    rintro j hj
    (repeat apply za); refine pwn ?_; intros
    repeat apply za
    refine zl rfl (fun hc2 => ?_) (fun hc2 => ?_)
    ·simp at hc2
     obtain ⟨y, tl2, b1, b2, b3, e2⟩ := el1 rfl q j (by omega)
     have hsj := Xp hq0 (j + 1) (by omega)
     have hjq : j < q.length := by omega
     have hsum2 : c.start + (q.take j).sum + y = c.start + (q.take (j + 1)).sum := by rw [b3, Qm]; omega
     have w1 : IntKind.i64.wrap (c.start + (q.take (j + 1)).sum) = c.start + (q.take (j + 1)).sum := wr _ (by omega) (by omega)
     refine zd (za (ze ?_))
     repeat apply za
     refine pwN [] (jn4 e2 hjq hsum2 w1) ?_
     intros
     (repeat apply za); refine pwn ?_; intros
     exact zk (j + 1) [] (by omega) (by omega) (by simp [wrN j (by omega)]) rfl (by simp)
    ·simp at hc2
     obtain rfl : j = k + 1 := by omega
     exact zm (zt v1 [] trivial (by simp) rfl (by simp))
   ·intro v1 _
    have w1 : IntKind.i64.wrap (c.rate * (k : Int)) = c.rate * (k : Int) := wr _ (by omega) (by omega)
    have hbe : c.start + (q.take (k + 1)).sum - c.rate * (k : Int) = (c.start + (q.take k).sum - c.rate * (k : Int)) + z := by omega
    generalize hth' : c.start + (q.take k).sum - c.rate * (k : Int) = there at hth ho hbe
    have w2 : IntKind.i64.wrap (there + z) = there + z := wr _ (by omega) (by omega)
    have w3 : IntKind.i64.wrap (there + z - c.rate) = there + z - c.rate := wr _ (by omega) (by omega)
    have bad : (c.size < there + z ∨ there + z < c.rate) → qK c q = ([], 8) := fun h => by
     rw [hres, ho]; simp only [qJ, if_pos h, Option.map_none]
    repeat apply za
    refine pwN [] (jn3 w1 hbe w2) ?_
    intros
    by_cases h1 : c.size < there + z
    ·repeat apply za
     refine pwN [(4, 59)] (jn2 h1 zn) ?_
     intros
     repeat apply za
     refine zh rfl ?_
     (repeat apply za); refine pwn ?_; intros
     refine xW 4 rfl ?_
     repeat apply za
     exact zb (zg hd (by simp; rfl) (by rw [bad (.inl h1)]; rfl))
    by_cases h2 : there + z - c.rate < 0
    ·repeat apply za
     refine pwN [(4, 59)] (jn3 h1 h2 w3) ?_
     intros
     repeat apply za
     refine zh rfl ?_
     (repeat apply za); refine pwn ?_; intros
     refine xW 4 rfl ?_
     repeat apply za
     exact zb (zg hd (by simp; rfl) (by rw [bad (.inr (by omega))]; rfl))
    repeat apply za
    refine pwN [(4, 59)] (jn3 h1 h2 w3) ?_
    intros
    repeat apply za
    refine zj rfl ?_
    refine zd ?_
    repeat apply za
    refine pwN [] w3 ?_
    refine ⟨by omega, ?_⟩
    intros
    (repeat apply za); refine pwn ?_; intros
    have hnext : c.start + (q.take (k + 1)).sum - c.rate * ((k + 1 : Nat) : Int) = there + z - c.rate := by
     have : c.rate * ((k + 1 : Nat) : Int) = c.rate * (k : Int) + c.rate := by rw [show ((k + 1 : Nat) : Int) = (k : Int) + 1 by omega, Int.mul_add, Int.mul_one]
     omega
    exact zk (k + 1, out ++ [there + z - c.rate], v1 + 1) [] ⟨hc, by simp [hol], by dsimp only; rw [hnext]; omega, by dsimp only; rw [hnext]; exact ZhP ho h1 (by omega)⟩ (by simp; omega) (by simp [wrN k (by omega)]) rfl (by simp)
  ·simp at hc
   obtain rfl : k = q.length := by omega
   rw [List.drop_length] at ho
   simp only [qJ, Option.map_some, List.append_nil] at ho
   refine zm ?_
   (repeat apply za); refine pwn ?_; intros
   refine zC 1 rfl ?_
   repeat apply za
   exact zb (zg hd (by simp; rfl) (by rw [hres, ho]; simp [zi]))
theorem Za8 {size rate : Int} : ∀ {q : List Int} {there : Int} {l : List Int}, qJ size rate there q = some l → l.length = q.length := by
 intro q
 induction q with
 | nil => intro there l h; simp only [qJ, Option.some.injEq] at h; subst h; rfl
 | cons z q ih =>
  intro there l h
  simp only [qJ] at h
  split at h
  ·cases h
  ·obtain ⟨l2, h2, rfl⟩ := Option.map_eq_some_iff.1 h
   simp [ih h2]
theorem Zh8 {size rate : Int} : ∀ {q : List Int} {there : Int} {l : List Int}, qJ size rate there q = some l → ∀ n ∈ l, n + rate ≤ size ∧ 0 ≤ n := by
 intro q
 induction q with
 | nil => intro there l h; simp only [qJ, Option.some.injEq] at h; subst h; intro n hn; cases hn
 | cons z q ih =>
  intro there l h
  simp only [qJ] at h
  split at h
  ·cases h
  ·obtain ⟨l2, h2, rfl⟩ := Option.map_eq_some_iff.1 h
   intro n hn
   rcases List.mem_cons.1 hn with rfl | hn
   ·omega
   ·exact ih h2 n hn
set_option maxRecDepth 20000 in
theorem Xq (c : Cust) (q : List Int) (hc : CustFits c) (hq : q.length ≤ 1048576) : Pure Tryz.prog 64 [.agg (zM c), L q] (I (u9 c q)) := by
 have hni := Za7 c q hc hq
 obtain ⟨hr, hsz, hst⟩ := hc
 refine pwe Tryz.func64 Tryz.ntmps64 Tryz.results64 fun S nx hd => ?_
 repeat apply za
 refine pwn ?_
 intro v0
 repeat apply za
 refine pwn ?_
 refine pwc hni ?_
 intros
 by_cases he : (qK c q).2 = 0
 case neg =>
  repeat apply za
  refine pwN [] he ?_
  intros
  repeat apply za
  refine zh (by simp [he]) ?_
  (repeat apply za); refine pwn ?_; intros
  repeat apply za
  exact zb (zg hd (by simp; rfl) (by simp [u9, he, zi]))
 repeat apply za
 refine pwN [] he ?_
 intros
 repeat apply za
 refine zj (by simp [he]) ?_
 refine zd ?_
 have hres : u9 c q = if c.rule ≠ 1 then 0 else if um c.rate c.size q (qK c q).1 then 9 else 0 := by simp [u9, he]
 obtain ⟨l, hl, hl1⟩ : ∃ l, qJ c.size c.rate c.start q = some l ∧ (qK c q).1 = l := by
  unfold qK at he ⊢
  split at he
  ·simp at he
  ·rename_i hb
   cases hrn : qJ c.size c.rate c.start q with
   | none => simp [hrn] at he
   | some l => exact ⟨l, rfl, by simp [hb]⟩
 rw [hl1] at hres ⊢
 have hll := Za8 hl
 (repeat apply za); refine pwn ?_; intros
 repeat apply za
 refine ze (zq (fun s : Nat => s ≤ q.length ∧ (c.rule = 1 → um c.rate c.size q l = um c.rate c.size (q.drop s) (l.drop s)))
  (fun k => [(1, L q), (2, .ptr nx v0 0), (5, L l), (7, I k)]) (fun k => [.cells v0 41 (zM c)]) (fun s => q.length - s) 0 [] ⟨by simp, by simp⟩ (by simp) (by simp) ?_)
 rintro k ⟨hk, ho⟩
 (repeat apply za); refine pwn ?_; intros
 repeat apply za
 refine zl rfl (fun hc => ?_) (fun hc => ?_)
 ·simp at hc
  obtain ⟨z, tl, a1, a2, a3, e0⟩ := el1 rfl q k hc
  obtain ⟨n, tl2, b1, b2, b3, e2⟩ := el1 rfl l k (by omega)
  have hkl : k < l.length := by omega
  have hnl := Zh8 hl n (List.mem_of_getElem? b1)
  rw [a2, b2] at ho
  simp only [um] at ho
  have w1 : IntKind.i64.wrap (n + c.rate) = n + c.rate := wr _ (by omega) (by omega)
  refine zd (za (ze ?_))
  by_cases h0 : c.rule = 1
  ·have ho := ho h0
   by_cases h1 : 0 < z
   ·by_cases h2 : n + c.rate = c.size
    ·have w4 : IntKind.i64.wrap c.size = c.size := wr _ (by omega) (by omega)
     repeat apply za
     refine pwY (some [nx]) (Row.pures [0, 1, 2, 3, 4, 5, 6, 7, 8, 9, 10, 11, 12, 13, 14, 15, 16, 17, 18, 19, 20, 21] .done) mixed (jn6 e0 e2 hc hkl h0 (jn3 h1 h2 w4)) ?_
     intros
     repeat apply za
     refine zj (by simp) ?_
     refine zd ?_
     (repeat apply za); refine pwn ?_; intros
     exact zk (k + 1) [] ⟨hc, fun _ => by rw [ho, decide_eq_false (by omega), Bool.false_or]⟩ (by omega) (by simp [wrN k (by omega)]) rfl (by simp)
    ·repeat apply za
     refine pwY (some [nx]) (Row.pures [0, 1, 2, 3, 4, 5, 6, 7, 8, 9, 10, 11, 12, 13, 14, 15, 16, 17, 18, 19, 20, 21] .done) mixed (jn6 e0 e2 hc hkl h0 (jn3 h1 w1 h2)) ?_
     intros
     repeat apply za
     refine zh (by simp [h2]) ?_
     (repeat apply za); refine pwn ?_; intros
     repeat apply za
     exact zb (zg hd (by simp; rfl) (by rw [hres, ho]; simp [h0, h1, h2, zi]))
   ·repeat apply za
    refine pwY (some [nx]) (Row.pures [0, 1, 2, 3, 4, 5, 6, 7, 8, 9, 10, 11, 12, 13, 14, 15, 16, 17, 18, 19, 20, 21] .done) mixed (jn6 e0 e2 hc hkl h0 (jn2 h1 zn)) ?_
    intros
    repeat apply za
    refine zj (by simp) ?_
    refine zd ?_
    (repeat apply za); refine pwn ?_; intros
    exact zk (k + 1) [] ⟨hc, fun _ => by rw [ho, decide_eq_false (by omega), Bool.false_or]⟩ (by omega) (by simp [wrN k (by omega)]) rfl (by simp)
  ·repeat apply za
   refine pwY (some [nx]) (Row.pures [0, 1, 2, 3, 4, 5, 6, 7, 8, 9, 10, 11, 12, 13, 14, 15, 16, 17, 18, 19, 20, 21] .done) mixed (jn2 h0 zn) ?_
   intros
   repeat apply za
   refine zj (by simp) ?_
   refine zd ?_
   (repeat apply za); refine pwn ?_; intros
   exact zk (k + 1) [] ⟨hc, fun q => absurd q h0⟩ (by omega) (by simp [wrN k (by omega)]) rfl (by simp)
 ·simp at hc
  obtain rfl : k = q.length := by omega
  rw [List.drop_length] at ho
  simp only [um] at ho
  refine zm ?_
  (repeat apply za); refine pwn ?_; intros
  repeat apply za
  exact zb (zg hd (by simp; rfl) (by rw [hres]; by_cases h0 : c.rule = 1; simp [h0, ho h0, zi]; simp [h0, zi]))
open Go
def ZW (v : List Visit) (k : Nat) : List Int := (List.range k).map fun (d : Nat) => ((v.filter fun s => decide (s.d = (d : Int))).map (·.q)).sum
set_option maxRecDepth 20000 in
theorem Za9 (v : List Visit) (n : Int) (hv : VisOk v) : Pure Tryz.prog 62 [L v, I n] (L (wh v n)) := by
 have hvn := hv.n
 have hres : wh v n = ZW v (min (max n 0) 64).toNat := rfl
 rw [hres]
 refine pwe Tryz.func62 Tryz.ntmps62 Tryz.results62 fun S nx hd => ?_
 (repeat apply za); refine pwn ?_; intros
 (repeat apply za); refine pwn ?_; intros
 repeat apply za
 refine zR (nx := nx) (σ := Unit) (fun _ => True) (fun _ => [(0, L v), (1, I (min n 64))]) (fun _ => S) (fun _ => []) ?_ ?_
 ·by_cases h : (64 : Int) < n
  ·refine zh (by simp [h]) ?_
   (repeat apply za); refine pwn ?_; intros
   exact zt () [] trivial (by simp; omega) rfl (by simp)
  ·refine zj (by simp; omega) ?_
   refine zd ?_
   exact zt () [] trivial (by simp; omega) rfl (by simp)
 intro _ _
 generalize hm : (min (max n 0) 64).toNat = m
 have hm64 : m ≤ 64 := by omega
 have hcmp : ∀ k : Nat, ((k : Int) < min n 64) = (k < m) := fun k => propext ⟨fun h => by omega, fun h => by omega⟩
 (repeat apply za); refine pwn ?_; intros
 refine yA 5 3 1 rfl fun v1 => ?_
 (repeat apply za); refine pwn ?_; intros
 repeat apply za
 refine ze (zq (fun s : Nat × List Int × Nat => s.1 ≤ m ∧ s.2.1 = ZW v s.1) (fun (k, out, v1) => [(0, L v), (1, I (min n 64)), (5, .sl nx v1 1 0 out.length), (6, I k)]) (fun (k, out, v1) => [.cells v1 3 (out.flatMap Enc.enc)]) (fun s => m - s.1) (0, [], v1) [] (by simp [ZW]) (by simp) (by simp) ?_)
 rintro ⟨k, out, v1⟩ ⟨hk, ho⟩
 simp only at hk ho ⊢
 have hol : out.length = k := by rw [ho]; simp [ZW]
 by_cases hc : k < m
 ·repeat apply za
  refine pwN [] (jn2 hcmp hc) ?_
  intros
  repeat apply za
  refine zh (by simp) ?_
  refine zd (za (ze ?_))
  (repeat apply za); refine pwn ?_; intros
  (repeat apply za); refine pwn ?_; intros
  repeat apply za
  refine zR (nx := nx) (σ := Nat) (fun _ => True) (fun v1 => [(0, L v), (1, I (min n 64)), (5, .sl nx v1 1 0 out.length), (6, I k), (7, I ((v.filter fun s => decide (s.d = (k : Int))).map (·.q)).sum)]) (fun _ => S) (fun v1 => [.cells v1 3 (out.flatMap Enc.enc)]) ?_ ?_
  ·refine ze (zq (fun s : Nat => s ≤ v.length) (fun j => [(0, L v), (1, I (min n 64)), (5, .sl nx v1 1 0 out.length), (6, I k), (7, I (((v.take j).filter fun s => decide (s.d = (k : Int))).map (·.q)).sum), (8, I j)]) (fun _ => [.cells v1 3 (out.flatMap Enc.enc)]) (fun s => v.length - s) 0 [] (by simp) (by simp) (by simp) ?_)
   rintro j hj
   (repeat apply za); refine pwn ?_; intros
   repeat apply za
   refine zl rfl (fun hc2 => ?_) (fun hc2 => ?_)
   ·simp at hc2
    obtain ⟨s, tl, a1, a2, a3, e1, e0⟩ := el 2 rfl v j hc2
    have hsq := hv.q s (List.mem_of_getElem? a1)
    have hlj : (v.take j).length ≤ 1048576 := by simp; omega
    have hle := ZhS (v.take j) (fun s => decide (s.d = (k : Int))) (fun x hx => hv.q x (List.mem_of_mem_take hx))
    have e11 := e1 1 (by omega)
    refine zd (za (ze ?_))
    by_cases h : s.d = (k : Int)
    ·have hsum : (((v.take j).filter fun s => decide (s.d = (k : Int))).map (·.q)).sum + s.q = (((v.take (j + 1)).filter fun s => decide (s.d = (k : Int))).map (·.q)).sum := by rw [a3]; simp [h]
     repeat apply za
     refine pwN [] (jn3 e0 hc2 h) ?_
     intros
     repeat apply za
     refine zh (by simp) ?_
     repeat apply za
     refine pwN [] (jn2 e11 hc2) ?_
     refine pwc (Zh6 _ _ hle.1 hsq.1 (by omega)) ?_
     intros
     (repeat apply za); refine pwn ?_; intros
     exact zk (j + 1) [] hc2 (by omega) (by simp [wrN j (by omega)]; exact hsum) rfl (by simp)
    ·have hsum : (((v.take j).filter fun s => decide (s.d = (k : Int))).map (·.q)).sum = (((v.take (j + 1)).filter fun s => decide (s.d = (k : Int))).map (·.q)).sum := by rw [a3]; simp [h]
     repeat apply za
     refine pwN [] (jn3 e0 hc2 h) ?_
     intros
     repeat apply za
     refine zj (by simp) ?_
     refine zd ?_
     (repeat apply za); refine pwn ?_; intros
     exact zk (j + 1) [] hc2 (by omega) (by simp [wrN j (by omega)]; exact hsum) rfl (by simp)
   ·simp at hc2
    obtain rfl : j = v.length := by omega
    rw [List.take_length]
    exact zm (zt v1 [] trivial (by simp) rfl (by simp))
  ·intro v1 _
   repeat apply za
   refine pwn ?_
   refine ⟨by omega, ?_⟩
   intros
   (repeat apply za); refine pwn ?_; intros
   exact zk (k + 1, out ++ [((v.filter fun s => decide (s.d = (k : Int))).map (·.q)).sum], v1 + 1) [] ⟨hc, by rw [ho]; simp [ZW, List.range_succ]⟩ (by simp; omega) (by simp [wrN k (by omega)]) rfl (by simp)
 ·obtain rfl : k = m := by omega
  repeat apply za
  refine pwN [] hcmp ?_
  intros
  repeat apply za
  refine zj (by simp) ?_
  refine zm ?_
  (repeat apply za); refine pwn ?_; intros
  refine zC 0 rfl ?_
  repeat apply za
  exact zb (zg hd (by simp; rfl) (by rw [ho]; simp [zi]))
set_option maxRecDepth 20000 in
theorem Zh9 (p : zQ) (c : Int) (hp : PlanOk p) : Pure Tryz.prog 20 [.agg [L p], I c] (L (yI c (told 0 p))) := by
 have hlen := hp.told
 have ol : ∀ pre rest, told 0 p = pre ++ rest → (yI c pre).length ≤ 1048576 := fun pre rest e => by
  have := Za3 c pre
  have := congrArg List.length e
  simp at this; omega
 refine pwe Tryz.func20 Tryz.ntmps20 Tryz.results20 fun S nx hd => ?_
 repeat apply za
 refine pwn ?_
 intro v0
 (repeat apply za); refine pwn ?_; intros
 refine za (yA 5 103 2 rfl fun v1 => ?_)
 (repeat apply za); refine pwn ?_; intros
 repeat apply za
 refine ze (zq (fun s : Nat × List (Stop × Nat) × Nat => s.1 ≤ p.length ∧ told 0 p = s.2.1 ++ told s.1 (p.drop s.1)) (fun (a, pre, v1) => [(1, I c), (2, .ptr nx v0 0), (5, .sl (nx + 1) v1 2 0 (yI c pre).length), (6, I a)]) (fun (a, pre, v1) => [.cells v0 29 [L p], .cells v1 103 ((yI c pre).flatMap Enc.enc)]) (fun s => p.length - s.1) (0, [], v1) [] (by simp) (by simp [yI]) (by simp [yI]) ?_)
 rintro ⟨a, pre, v1⟩ ⟨ha, hr⟩
 simp only at ha hr ⊢
 have hpn := hp.n
 (repeat apply za); refine pwn ?_; intros
 repeat apply za
 refine zl rfl (fun hc => ?_) (fun hc => ?_)
 ·simp at hc
  obtain ⟨d, tl, a1, a2, a3, e0⟩ := el1 rfl p a hc
  have hdm := List.mem_of_getElem? a1
  have hdl := hp.d d hdm
  rw [a2] at hr
  simp only [told] at hr
  refine zd (za (ze ?_))
  (repeat apply za); refine pwn ?_; intros
  repeat apply za
  refine ze (zq (fun s : Nat × List (Stop × Nat) × Nat => s.1 ≤ d.length ∧ told 0 p = s.2.1 ++ ((d.drop s.1).flatten.map (·, a) ++ told (a + 1) (p.drop (a + 1)))) (fun (b, pre, v1) => [(1, I c), (2, .ptr nx v0 0), (5, .sl (nx + 1) v1 2 0 (yI c pre).length), (6, I a), (7, I b)]) (fun (b, pre, v1) => [.cells v0 29 [L p], .cells v1 103 ((yI c pre).flatMap Enc.enc)]) (fun s => d.length - s.1) (0, pre, v1) [] (by simp [hr]) (by simp) (by simp) ?_)
  rintro ⟨b, pre, v1⟩ ⟨hb, hr⟩
  simp only at hb hr ⊢
  repeat apply za
  refine pwN [] (jn2 e0 hc) ?_
  intros
  repeat apply za
  refine zl rfl (fun hc2 => ?_) (fun hc2 => ?_)
  ·simp at hc2
   obtain ⟨t, tl2, b1, b2, b3, e2⟩ := el1 rfl d b hc2
   have htl := hp.t d hdm t (List.mem_of_getElem? b1)
   rw [b2] at hr
   simp only [List.flatten_cons, List.map_append, List.append_assoc] at hr
   refine zd (za (ze ?_))
   repeat apply za
   refine pwN [] (jn4 e0 hc e2 hc2) ?_
   intros
   (repeat apply za); refine pwn ?_; intros
   repeat apply za
   refine ze (zq (fun s : Nat × List (Stop × Nat) × Nat => s.1 ≤ t.length ∧ told 0 p = s.2.1 ++ ((t.drop s.1).map (·, a) ++ ((d.drop (b + 1)).flatten.map (·, a) ++ told (a + 1) (p.drop (a + 1))))) (fun (j, pre, v1) => [(1, I c), (2, .ptr nx v0 0), (5, .sl (nx + 1) v1 2 0 (yI c pre).length), (6, I a), (7, I b), (8, L t), (9, I j)]) (fun (j, pre, v1) => [.cells v0 29 [L p], .cells v1 103 ((yI c pre).flatMap Enc.enc)]) (fun s => t.length - s.1) (0, pre, v1) [] (by simp [hr]) (by simp) (by simp) ?_)
   rintro ⟨j, pre, v1⟩ ⟨hj, hr⟩
   simp only at hj hr ⊢
   (repeat apply za); refine pwn ?_; intros
   repeat apply za
   refine zl rfl (fun hc3 => ?_) (fun hc3 => ?_)
   ·simp at hc3
    obtain ⟨s, tl3, c1, c2, c3, e4, e3⟩ := el 2 rfl t j hc3
    have e31 := e4 1 (by omega)
    rw [c2] at hr
    simp only [List.map_cons, List.cons_append] at hr
    have hl := ol pre _ hr
    refine zd (za (ze ?_))
    by_cases h : s.c = c
    ·repeat apply za
     refine pwN [] (jn3 e3 hc3 h) ?_
     intros
     repeat apply za
     refine zh (by simp) ?_
     repeat apply za
     refine pwN [] (jn2 e31 hc3) ?_
     refine ⟨by omega, ?_⟩
     intros
     (repeat apply za); refine pwn ?_; intros
     exact zk (j + 1, pre ++ [(s, a)], v1 + 1) [] ⟨hc3, by simp [hr]⟩ (by simp; omega) (by simp [wrN j (by omega), Qk, Ql, h]) rfl (by simp [Qk, Ql, h])
    ·repeat apply za
     refine pwN [] (jn3 e3 hc3 h) ?_
     intros
     repeat apply za
     refine zj (by simp) ?_
     refine zd ?_
     (repeat apply za); refine pwn ?_; intros
     exact zk (j + 1, pre ++ [(s, a)], v1) [] ⟨hc3, by simp [hr]⟩ (by simp; omega) (by simp [wrN j (by omega), Qk, Ql, h]) rfl (by simp [Qk, Ql, h])
   ·simp at hc3
    obtain rfl : j = t.length := by omega
    simp only [List.drop_length, List.map_nil, List.nil_append] at hr
    refine zm ?_
    (repeat apply za); refine pwn ?_; intros
    exact zk (b + 1, pre, v1) [] ⟨hc2, hr⟩ (by simp; omega) (by simp [wrN b (by omega)]) rfl (by simp)
  ·simp at hc2
   obtain rfl : b = d.length := by omega
   simp only [List.drop_length, List.flatten_nil, List.map_nil, List.nil_append] at hr
   refine zm ?_
   (repeat apply za); refine pwn ?_; intros
   exact zk (a + 1, pre, v1) [] ⟨hc, hr⟩ (by simp; omega) (by simp [wrN a (by omega)]) rfl (by simp)
 ·simp at hc
  obtain rfl : a = p.length := by omega
  simp only [List.drop_length, told, List.append_nil] at hr
  refine zm ?_
  (repeat apply za); refine pwn ?_; intros
  refine zC 1 rfl ?_
  repeat apply za
  exact zb (zg hd (by simp; rfl) (by rw [hr]; simp [zi]))
open Go
theorem Zia (n d : Nat) : ((n : Int).fdiv (2 ^ d)) = ((n / 2 ^ d : Nat) : Int) := by
 have h : (2 : Int) ^ d = ((2 ^ d : Nat) : Int) := by simp
 rw [h, Int.fdiv_eq_ediv_of_nonneg _ (Int.natCast_nonneg _)]
 rfl
set_option maxRecDepth 20000 in
theorem Zib (n : Nat) (d : Int) (hn : n < 2 ^ 64) : Pure Tryz.prog 242 [U n, I d] (B (decide (0 ≤ d ∧ d < 64 ∧ yB n d.toNat = 1))) := by
 by_cases h : 0 ≤ d ∧ d < 64
 ·have h1 : ¬ d < 0 := by omega
  have h2 : min d.toNat 64 = d.toNat := by omega
  have hlt : n / 2 ^ d.toNat ≤ n := Nat.div_le_self _ _
  have h3 := Zia n d.toNat
  have hb : yB n d.toNat = n / 2 ^ d.toNat % 2 := rfl
  generalize n / 2 ^ d.toNat = m at hlt h3 hb
  have h4 := and_one_u64 (m : Int) (by omega) (by omega)
  have h5 : IntKind.u64.wrap (m : Int) = (m : Int) := by
   simp only [IntKind.wrap, IntKind.bits, IntKind.signed]
   simp
   omega
  have h6 : ((m : Int) % 2 = 1) = (yB n d.toNat = 1) := by rw [hb]; exact propext ⟨fun q => by omega, fun q => by omega⟩
  refine pwe Tryz.func242 Tryz.ntmps242 Tryz.results242 fun S nx hd => ?_
  (repeat apply za); refine pwn ?_; intros
  repeat apply za
  refine zN [(2, 7)] (by rfl) (by rfl) fun K Gc Gh hK hGc hGh X hX0 hX => ?_
  simp -implicitDefEqProofs [hX0, hX]
  try clear hX0 hX X
  refine hGc _ _ _ _ _ _ _ fun hsuf => ((Za4 d _).mono ?_).v
  rintro _ _ ⟨rfl, rfl⟩
  refine ⟨_, _, rfl, ?_⟩
  clear hGc hGh
  clear Gc Gh
  refine zI hsuf (D := [(2, 7)]) (by rfl) fun Gc Gh hGc hGh X hX0 hX => ?_
  simp -implicitDefEqProofs [hX0, hX, h, h1, h2, h3, h5, h4, IntKind.bits]
  try clear hX0 hX X
  intros
  refine hK _ _ _ ?_
  clear hK hGc hGh
  clear K Gc Gh
  repeat apply za
  exact zb (zg hd (by simp; rfl) (by simp [h, zi, h6]))
 ·refine pwe Tryz.func242 Tryz.ntmps242 Tryz.results242 fun S nx hd => ?_
  (repeat apply za); refine pwn ?_; intros
  repeat apply za
  refine pwN [(2, 7)] trivial ?_
  refine pwC [(2, 7)] (Za4 d) (jn2 h zn) ?_
  intros
  have h7 : ¬ (0 ≤ d ∧ d < 64 ∧ yB n d.toNat = 1) := fun q => h ⟨q.1, q.2.1⟩
  repeat apply za
  exact zb (zg hd (by simp; rfl) (by simp only [h7, zi, decide_false]))
def zX (n a k : Nat) : List Int := ((List.range k).filter fun i => decide (a ≤ i) && decide (yB n i = 1)).map fun (i : Nat) => (i : Int)
theorem uo (n a k : Nat) : (zX n a k).length ≤ k := by
 simp only [zX, List.length_map]
 exact Nat.le_trans (List.length_filter_le _ _) (by simp)
theorem Zba (n a k : Nat) (h : a ≤ k) : zX n a (k + 1) = zX n a k ++ (if yB n k = 1 then [(k : Int)] else []) := by
 simp only [zX, List.range_succ, List.filter_append, List.map_append]
 by_cases q : yB n k = 1 <;> simp [q, h]
theorem Xr (n a k : Nat) (h : k ≤ a) : zX n a k = [] := by
 simp only [zX, List.map_eq_nil_iff, List.filter_eq_nil_iff, List.mem_range]
 intro i hi; simp; omega
set_option maxRecDepth 20000 in
theorem Zic (n : Nat) (d : Int) (hn : n < 2 ^ 64) (hdl : d ≤ 1000) : Pure Tryz.prog 241 [.fn (.func 242) [U n] [], I d] (L (zX n d.toNat 64)) := by
 have hmax : wY d 0 = ((d.toNat : Nat) : Int) := by unfold wY; split <;> omega
 have h64 : zX n d.toNat (max d.toNat 64) = zX n d.toNat 64 := by
  by_cases q : d.toNat ≤ 64
  ·rw [Nat.max_eq_right q]
  ·rw [Nat.max_eq_left (by omega), Xr _ _ _ (Nat.le_refl _), Xr _ _ _ (by omega)]
 have ha : d.toNat ≤ 1000 := by omega
 have main : ∀ a : Nat, a ≤ 1000 → zX n a (max a 64) = zX n d.toNat 64 → wY d 0 = (a : Int) → Pure Tryz.prog 241 [.fn (.func 242) [U n] [], I d] (L (zX n d.toNat 64)) := by
  intro a ha h64 hmax
  refine pwe Tryz.func241 Tryz.ntmps241 Tryz.results241 fun S nx hd => ?_
  (repeat apply za); refine pwn ?_; intros
  (repeat apply za); refine pwn ?_; intros
  refine za (yA 5 3 1 rfl fun v1 => ?_)
  repeat apply za
  refine pwN [] hmax ?_
  intros
  repeat apply za
  refine ze (zq (fun s : Nat × List Int × Nat => a ≤ s.1 ∧ s.1 ≤ max a 64 ∧ s.2.1 = zX n a s.1) (fun (k, out, v1) => [(0, .fn (.func 242) [U n] []), (5, .sl nx v1 1 0 out.length), (6, I k)]) (fun (k, out, v1) => [.cells v1 3 (out.flatMap Enc.enc)]) (fun s => max a 64 - s.1) (a, [], v1) [] (by simp [Xr]; omega) (by simp) (by simp) ?_)
  rintro ⟨k, out, v1⟩ ⟨hk0, hk, ho⟩
  simp only at hk0 hk ho ⊢
  have hol : out.length ≤ k := by rw [ho]; exact uo _ _ _
  (repeat apply za); refine pwn ?_; intros
  repeat apply za
  refine zl rfl (fun hc => ?_) (fun hc => ?_)
  ·simp at hc
   have hc' : k < 64 := by omega
   refine zd (za (ze ?_))
   repeat apply za
   refine pwn ?_
   refine pwc (Zib n k hn) ?_
   intros
   have hs := Zba n a k hk0
   repeat apply za
   refine zl rfl (fun hb => ?_) (fun hb => ?_)
   ·simp at hb
    repeat apply za
    refine pwn ?_
    refine ⟨by omega, ?_⟩
    intros
    (repeat apply za); refine pwn ?_; intros
    exact zk (k + 1, out ++ [(k : Int)], v1 + 1) [] ⟨by omega, by omega, by rw [hs, if_pos hb.2, ho]⟩ (by simp; omega) (by simp [wrN k (by omega)]) rfl (by simp)
   ·have hb' : ¬ yB n k = 1 := by simp at hb; exact hb (by omega)
    refine zd ?_
    (repeat apply za); refine pwn ?_; intros
    exact zk (k + 1, out, v1) [] ⟨by omega, by omega, by rw [hs, if_neg hb', ho]; simp⟩ (by simp; omega) (by simp [wrN k (by omega)]) rfl (by simp)
  ·simp at hc
   obtain rfl : k = max a 64 := by omega
   refine zm ?_
   (repeat apply za); refine pwn ?_; intros
   refine zC 0 rfl ?_
   repeat apply za
   exact zb (zg hd (by simp; rfl) (by simp [ho, h64, zi]))
 exact main d.toNat ha h64 hmax
def vA (n : Nat) (d : Int) : Int := (zX n d.toNat 64).headD (-1)
open Go
def zz (n lo hi : Int) : Bool := decide (lo ≤ n ∧ n ≤ hi)
def up (c : Cust) (days : Int) : Bool := (c.pats.all fun p => decide (vA p days < 0)) && zz c.pats.length 1 64
def xM (c : Cust) : Bool := decide (c.rate = 0 ∧ c.size = 0 ∧ c.start = 0 ∧ c.rule = 0 ∧ c.hold = 0)
def wS (c : Cust) : Bool := decide (c.rule = 1 ∨ c.rule = 2)
def vB (c : Cust) : Bool := decide (c.pats.length = 0 ∧ c.demand = 0)
structure Must where
 f : FuncId
 b : Bool
instance : Enc Must := ⟨fun m => [.fn (.func m.f) [] []], 1, fun _ => rfl, fun _ => rfl⟩
@[simp] theorem ZlW (m : Must) : Enc.enc m = [.fn (.func m.f) [] []] := rfl
@[simp high] theorem ZlX (l : List Must) : (l.flatMap Enc.enc).length = l.length := (jf l).trans (Nat.mul_one _)
def xu (c : Cust) (d : Int) : Bool :=
 if c.kind = 1 then (zz c.demand 1 2147483648 && up c d && xM c)
 else if c.kind = 2 then (zz c.rate 0 2147483648 && zz c.size 1 2147483648 && zz c.start 0 c.size && wS c && zz c.hold 0 1024 && vB c) else false
open Go
def vC (n : Nat) : Nat → List (List Int) → Bool
 | _, [] => true
 | a, row :: l => (decide (row.length = n) && decide (row.getD a 0 = 0) && row.all (zz · 0 2147483648)) && vC n (a + 1) l
def Xs (l : List (List Int)) (n : Nat) : Bool := decide (l.length = n) && vC n 0 l
def qB (x : Inst) : Bool :=
 zz x.days 1 64 && decide (x.cust.length ≤ 2000) && zz x.veh 0 2147483648 && zz x.cap 0 2147483648 && zz x.len 0 2147483648 && x.cust.all (xu · x.days) && Xs x.dist (x.cust.length + 1)
open Go
set_option maxRecDepth 20000 in
theorem Zbb (n : Nat) (hn : n < 2 ^ 64) : Pure Tryz.prog 99 [U n] (L (zX n 0 64)) := by
 have hl := vX n
 refine pwe Tryz.func99 Tryz.ntmps99 Tryz.results99 fun S nx hd => ?_
 (repeat apply za); refine pwn ?_; intros
 (repeat apply za); refine pwn ?_; intros
 refine za (yA 3 3 1 rfl fun v1 => ?_)
 repeat apply za
 refine pwn ?_
 refine pwc (WP n hn) ?_
 intros
 (repeat apply za); refine pwn ?_; intros
 repeat apply za
 refine ze (zq (fun s : Nat × List Int × Nat => s.1 ≤ 64 ∧ s.2.1 = zX n 0 s.1) (fun (k, out, v1) => [(3, .sl nx v1 1 0 out.length), (4, L (qb n)), (5, I k)]) (fun (k, out, v1) => [.cells v1 3 (out.flatMap Enc.enc)]) (fun s => 64 - s.1) (0, [], v1) [] (by simp [zX]) (by simp) (by simp) ?_)
 rintro ⟨k, out, v1⟩ ⟨hk, ho⟩
 simp only at hk ho ⊢
 have hol : out.length ≤ k := by rw [ho]; exact uo _ _ _
 have hs := Zba n 0 k (by omega)
 (repeat apply za); refine pwn ?_; intros
 repeat apply za
 refine zl rfl (fun hc => ?_) (fun hc => ?_)
 ·simp at hc
  have hc' : k < 64 := by omega
  obtain ⟨b, tl, a1, a2, a3, e0⟩ := el1 rfl (qb n) k (by omega)
  rw [Jd n k hc'] at a1; cases a1
  have g1 : (k : Int) < 64 := by omega
  refine zd (za (ze ?_))
  repeat apply za
  refine pwN [] (jn3 e0 hl g1) ?_
  intros
  repeat apply za
  refine zl rfl (fun hb => ?_) (fun hb => ?_)
  ·have hb' : yB n k = 1 := by simp at hb; omega
   repeat apply za
   refine pwn ?_
   refine ⟨by omega, ?_⟩
   intros
   (repeat apply za); refine pwn ?_; intros
   exact zk (k + 1, out ++ [(k : Int)], v1 + 1) [] ⟨by omega, by rw [hs, if_pos hb', ho]⟩ (by simp; omega) (by simp [wrN k (by omega)]) rfl (by simp)
  ·have hb' : ¬ yB n k = 1 := by simp at hb; omega
   refine zd ?_
   (repeat apply za); refine pwn ?_; intros
   exact zk (k + 1, out, v1) [] ⟨by omega, by rw [hs, if_neg hb', ho]; simp⟩ (by simp; omega) (by simp [wrN k (by omega)]) rfl (by simp)
 ·simp at hc
  obtain rfl : k = 64 := by omega
  refine zm ?_
  (repeat apply za); refine pwn ?_; intros
  refine zC 0 rfl ?_
  repeat apply za
  exact zb (zg hd (by simp; rfl) (by simp [ho, zi]))
theorem Zid (n : Nat) (d : Int) : zX n d.toNat 64 = (zX n 0 64).filter fun x => decide (d ≤ x) := by
 simp only [zX, List.filter_map, List.filter_filter, Nat.zero_le, decide_true, Bool.true_and]
 congr 1
 apply List.filter_congr
 intro i _
 have : (d.toNat ≤ i) = (d ≤ (i : Int)) := propext ⟨fun h => by omega, fun h => by omega⟩
 simp only [Function.comp, this]
set_option maxRecDepth 20000 in
theorem Zie (n : Nat) (d : Int) (hn : n < 2 ^ 64) : Pure Tryz.prog 133 [U n, I d] (I (vA n d)) := by
 have hln := uo n 0 64
 have hnx : vA n d = ((zX n 0 64).filter fun x => decide (d ≤ x)).headD (-1) := by rw [vA, Zid]
 have hall := Zbb n hn
 generalize zX n 0 64 = l at hln hnx hall
 refine pwe Tryz.func133 Tryz.ntmps133 Tryz.results133 fun S nx hd => ?_
 (repeat apply za); refine pwn ?_; intros
 repeat apply za
 refine pwn ?_
 refine pwc hall ?_
 intros
 (repeat apply za); refine pwn ?_; intros
 repeat apply za
 refine ze (zq (fun s : Nat => s ≤ l.length ∧ vA n d = ((l.drop s).filter fun x => decide (d ≤ x)).headD (-1)) (fun k => [(1, I d), (5, L l), (6, I k)]) (fun _ => []) (fun s => l.length - s) 0 [] (by simp [hnx]) (by simp) (by simp) ?_)
 rintro k ⟨hk, ho⟩
 (repeat apply za); refine pwn ?_; intros
 repeat apply za
 refine zl rfl (fun hc => ?_) (fun hc => ?_)
 ·simp at hc
  obtain ⟨e, tl, a1, a2, a3, e0⟩ := el1 rfl l k hc
  rw [a2] at ho
  refine zd (za (ze ?_))
  repeat apply za
  refine pwN [] (jn2 e0 hc) ?_
  intros
  repeat apply za
  refine zl rfl (fun h => ?_) (fun h => ?_)
  ·simp at h
   repeat apply za
   refine pwN [] (jn2 e0 hc) ?_
   intros
   repeat apply za
   exact zb (zg hd (by simp; rfl) (by rw [ho]; simp [h, zi]))
  ·simp at h
   refine zd ?_
   (repeat apply za); refine pwn ?_; intros
   exact zk (k + 1) [] ⟨hc, by rw [ho]; simp [h]⟩ (by omega) (by simp [wrN k (by omega)]) rfl (by simp)
 ·simp at hc
  obtain rfl : k = l.length := by omega
  rw [List.drop_length] at ho
  refine zm ?_
  (repeat apply za); refine pwn ?_; intros
  repeat apply za
  exact zb (zg hd (by simp; rfl) (by rw [ho]; rfl))
theorem Xt (c : Cust) (d : Int) (h : c.kind = 1) : xu c d = (zz c.demand 1 2147483648 && up c d && xM c) := by simp [xu, h]
theorem Xu (c : Cust) (d : Int) (h : c.kind = 2) : xu c d = (zz c.rate 0 2147483648 && zz c.size 1 2147483648 && zz c.start 0 c.size && wS c && zz c.hold 0 1024 && vB c) := by simp [xu, h]
theorem Zbc (c : Cust) (d : Int) (h : ¬ c.kind = 1) (h2 : ¬ c.kind = 2) : xu c d = false := by simp [xu, h, h2]
set_option maxRecDepth 20000 in
theorem Zif (c : Cust) (d : Int) (hp : ∀ p ∈ c.pats, p < 2 ^ 64) (hl : c.pats.length ≤ 9223372036854775807) : Pure Tryz.prog 95 [.agg (zM c), I d] (B (xu c d)) := by
 refine pwe Tryz.func95 Tryz.ntmps95 Tryz.results95 fun S nx hd => ?_
 repeat apply za
 refine pwn ?_
 intro v0
 (repeat apply za); refine pwn ?_; intros
 repeat apply za
 refine zl rfl (fun hk1 => ?_) (fun hk1 => ?_)
 ·simp at hk1
  rw [Xt c d hk1]
  by_cases h1 : c.demand < 1
  ·repeat apply za
   refine pwN [(3, 12), (8, 17), (14, 23), (20, 29), (25, 34), (30, 39), (35, 44), (40, 49)] (jn2 h1 zn) ?_
   intros
   repeat apply za
   refine zh rfl ?_
   (repeat apply za); refine pwn ?_; intros
   repeat apply za
   exact zb (zg hd rfl (by simp only [zz, show ¬ (1 ≤ c.demand ∧ c.demand ≤ 2147483648) by omega]; rfl))
  by_cases h2 : (2147483648 : Int) < c.demand
  ·repeat apply za
   refine pwN [(3, 12), (8, 17), (14, 23), (20, 29), (25, 34), (30, 39), (35, 44), (40, 49)] (jn3 h2 h1 zn) ?_
   intros
   repeat apply za
   refine zh rfl ?_
   (repeat apply za); refine pwn ?_; intros
   repeat apply za
   exact zb (zg hd rfl (by simp only [zz, show ¬ (1 ≤ c.demand ∧ c.demand ≤ 2147483648) by omega]; rfl))
  by_cases h3 : c.pats = []
  ·repeat apply za
   refine pwN [(3, 12), (8, 17), (14, 23), (20, 29), (25, 34), (30, 39), (35, 44), (40, 49)] (jn4 h3 h1 h2 zn) ?_
   intros
   repeat apply za
   refine zh rfl ?_
   (repeat apply za); refine pwn ?_; intros
   repeat apply za
   exact zb (zg hd rfl (by simp [up, h3, zz, zi]))
  have h3' : ¬ (c.pats.length : Int) < 1 := by have := List.length_pos_iff.2 h3; omega
  by_cases h4 : (64 : Int) < (c.pats.length : Int)
  ·repeat apply za
   refine pwN [(3, 12), (8, 17), (14, 23), (20, 29), (25, 34), (30, 39), (35, 44), (40, 49)] (jn6 h4 h1 h2 h3 h3' zn) ?_
   intros
   repeat apply za
   refine zh rfl ?_
   (repeat apply za); refine pwn ?_; intros
   repeat apply za
   exact zb (zg hd rfl (by simp [up, zz, zi, show ¬ ((c.pats.length : Int) ≤ 64) by omega]))
  by_cases h5 : c.rate = 0
  case neg =>
   repeat apply za
   refine pwN [(3, 12), (8, 17), (14, 23), (20, 29), (25, 34), (30, 39), (35, 44), (40, 49)] (jn6 h5 h1 h2 h3 h3' (jn2 h4 zn)) ?_
   intros
   repeat apply za
   refine zh rfl ?_
   (repeat apply za); refine pwn ?_; intros
   repeat apply za
   exact zb (zg hd rfl (by simp [xM, h5, zi]))
  by_cases h6 : c.size = 0
  case neg =>
   repeat apply za
   refine pwN [(3, 12), (8, 17), (14, 23), (20, 29), (25, 34), (30, 39), (35, 44), (40, 49)] (jn6 h6 h1 h2 h3 h3' (jn3 h4 h5 zn)) ?_
   intros
   repeat apply za
   refine zh rfl ?_
   (repeat apply za); refine pwn ?_; intros
   repeat apply za
   exact zb (zg hd rfl (by simp [xM, h6, zi]))
  by_cases h7 : c.start = 0
  case neg =>
   repeat apply za
   refine pwN [(3, 12), (8, 17), (14, 23), (20, 29), (25, 34), (30, 39), (35, 44), (40, 49)] (jn6 h7 h1 h2 h3 h3' (jn4 h4 h5 h6 zn)) ?_
   intros
   repeat apply za
   refine zh rfl ?_
   (repeat apply za); refine pwn ?_; intros
   repeat apply za
   exact zb (zg hd rfl (by simp [xM, h7, zi]))
  by_cases h8 : c.rule = 0
  case neg =>
   repeat apply za
   refine pwN [(3, 12), (8, 17), (14, 23), (20, 29), (25, 34), (30, 39), (35, 44), (40, 49)] (jn6 h8 h1 h2 h3 h3' (jn5 h4 h5 h6 h7 zn)) ?_
   intros
   repeat apply za
   refine zh rfl ?_
   (repeat apply za); refine pwn ?_; intros
   repeat apply za
   exact zb (zg hd rfl (by simp [xM, h8, zi]))
  by_cases h9 : c.hold = 0
  case neg =>
   repeat apply za
   refine pwN [(3, 12), (8, 17), (14, 23), (20, 29), (25, 34), (30, 39), (35, 44), (40, 49)] (jn6 h9 h1 h2 h3 h3' (jn6 h4 h5 h6 h7 h8 zn)) ?_
   intros
   repeat apply za
   refine zh rfl ?_
   (repeat apply za); refine pwn ?_; intros
   repeat apply za
   exact zb (zg hd rfl (by simp [xM, h9, zi]))
  repeat apply za
  refine pwN [(3, 12), (8, 17), (14, 23), (20, 29), (25, 34), (30, 39), (35, 44), (40, 49)] (jn6 h1 h2 h3 h3' h4 (jn5 h5 h6 h7 h8 h9)) ?_
  intros
  repeat apply za
  refine zj rfl ?_
  refine zd ?_
  have hres : (zz c.demand 1 2147483648 && up c d && xM c) = c.pats.all fun p => decide (vA p d < 0) := by
   have e1 : zz c.demand 1 2147483648 = true := by simp [zz]; omega
   have e2 : zz c.pats.length 1 64 = true := by simp [zz]; omega
   have e3 : xM c = true := by simp [xM, h5, h6, h7, h8, h9]
   rw [e1, e3, up, e2]; simp
  rw [hres]
  (repeat apply za); refine pwn ?_; intros
  repeat apply za
  refine ze (zq (fun s : Nat => s ≤ c.pats.length ∧ (c.pats.take s).all (fun p => decide (vA p d < 0)) = true) (fun k => [(1, I d), (2, .ptr nx v0 0), (5, I k)]) (fun _ => [.cells v0 41 (zM c)]) (fun s => c.pats.length - s) 0 [] (by simp) (by simp) (by simp) ?_)
  rintro k ⟨hk, ho⟩
  (repeat apply za); refine pwn ?_; intros
  repeat apply za
  refine zl rfl (fun hc => ?_) (fun hc => ?_)
  ·simp at hc
   obtain ⟨p, tl, a1, a2, a3, e0⟩ := el1 rfl c.pats k hc
   have hpm := List.mem_of_getElem? a1
   refine zd (za (ze ?_))
   repeat apply za
   refine pwN [] (jn2 e0 hc) ?_
   refine pwc (Zie p d (hp p hpm)) ?_
   intros
   repeat apply za
   refine zl rfl (fun h => ?_) (fun h => ?_)
   ·simp at h
    have hr2 : (c.pats.all fun p => decide (vA p d < 0)) = false := by rw [List.all_eq_false]; exact ⟨p, hpm, by simp; omega⟩
    (repeat apply za); refine pwn ?_; intros
    repeat apply za
    exact zb (zg hd (by simp; rfl) (by simp only [hr2, zi]))
   ·simp at h
    refine zd ?_
    (repeat apply za); refine pwn ?_; intros
    exact zk (k + 1) [] ⟨hc, by rw [a3, List.all_append, ho]; simp [h]⟩ (by omega) (by simp [wrN k (by omega)]) rfl (by simp)
  ·simp at hc
   obtain rfl : k = c.pats.length := by omega
   rw [List.take_length] at ho
   refine zm ?_
   (repeat apply za); refine pwn ?_; intros
   repeat apply za
   exact zb (zg hd (by simp; rfl) (by rw [ho]; rfl))
 ·simp at hk1
  refine zd ?_
  by_cases hk2 : c.kind = 2
  ·rw [Xu c d hk2]
   by_cases h1 : 0 < c.pats.length
   ·repeat apply za
    refine pwN [(3, 72), (9, 78)] (jn3 h1 hk2 zn) ?_
    intros
    repeat apply za
    refine zh rfl ?_
    (repeat apply za); refine pwn ?_; intros
    repeat apply za
    exact zb (zg hd rfl (by simp [vB, List.ne_nil_of_length_pos h1, zi]))
   have h1' : c.pats = [] := List.eq_nil_of_length_eq_zero (by omega)
   by_cases h2 : c.demand = 0
   case neg =>
    repeat apply za
    refine pwN [(3, 72), (9, 78)] (jn4 h2 hk2 h1 zn) ?_
    intros
    repeat apply za
    refine zh rfl ?_
    (repeat apply za); refine pwn ?_; intros
    repeat apply za
    exact zb (zg hd rfl (by simp [vB, h2, zi]))
   repeat apply za
   refine pwN [(3, 72), (9, 78)] (jn3 hk2 h1 h2) ?_
   intros
   repeat apply za
   refine zj rfl ?_
   refine zd ?_
   by_cases h3 : c.rate < 0
   ·repeat apply za
    refine pwN [(3, 86), (8, 91), (13, 96), (18, 101), (23, 106)] (jn2 h3 zn) ?_
    intros
    repeat apply za
    refine zh rfl ?_
    (repeat apply za); refine pwn ?_; intros
    repeat apply za
    exact zb (zg hd rfl (by simp only [zz, show ¬ (0 ≤ c.rate ∧ c.rate ≤ 2147483648) by omega]; rfl))
   by_cases h4 : (2147483648 : Int) < c.rate
   ·repeat apply za
    refine pwN [(3, 86), (8, 91), (13, 96), (18, 101), (23, 106)] (jn3 h4 h3 zn) ?_
    intros
    repeat apply za
    refine zh rfl ?_
    (repeat apply za); refine pwn ?_; intros
    repeat apply za
    exact zb (zg hd rfl (by simp only [zz, show ¬ (0 ≤ c.rate ∧ c.rate ≤ 2147483648) by omega]; rfl))
   by_cases h5 : c.size < 1
   ·repeat apply za
    refine pwN [(3, 86), (8, 91), (13, 96), (18, 101), (23, 106)] (jn4 h5 h3 h4 zn) ?_
    intros
    repeat apply za
    refine zh rfl ?_
    (repeat apply za); refine pwn ?_; intros
    repeat apply za
    exact zb (zg hd rfl (by simp [zz, zi, show ¬ 1 ≤ c.size by omega]))
   by_cases h6 : (2147483648 : Int) < c.size
   ·repeat apply za
    refine pwN [(3, 86), (8, 91), (13, 96), (18, 101), (23, 106)] (jn5 h6 h3 h4 h5 zn) ?_
    intros
    repeat apply za
    refine zh rfl ?_
    (repeat apply za); refine pwn ?_; intros
    repeat apply za
    exact zb (zg hd rfl (by simp [zz, zi, show ¬ c.size ≤ 2147483648 by omega]))
   by_cases h7 : c.start < 0
   ·repeat apply za
    refine pwN [(3, 86), (8, 91), (13, 96), (18, 101), (23, 106)] (jn6 h7 h3 h4 h5 h6 zn) ?_
    intros
    repeat apply za
    refine zh rfl ?_
    (repeat apply za); refine pwn ?_; intros
    repeat apply za
    exact zb (zg hd rfl (by simp [zz, zi, show ¬ 0 ≤ c.start by omega]))
   by_cases h8 : c.size < c.start
   ·repeat apply za
    refine pwN [(3, 86), (8, 91), (13, 96), (18, 101), (23, 106)] (jn6 h8 h3 h4 h5 h6 (jn2 h7 zn)) ?_
    intros
    repeat apply za
    refine zh rfl ?_
    (repeat apply za); refine pwn ?_; intros
    repeat apply za
    exact zb (zg hd rfl (by simp [zz, zi, show ¬ c.start ≤ c.size by omega]))
   repeat apply za
   refine pwN [(3, 86), (8, 91), (13, 96), (18, 101), (23, 106)] (jn6 h3 h4 h5 h6 h7 h8) ?_
   intros
   repeat apply za
   refine zj rfl ?_
   refine zd ?_
   have hres : (zz c.rate 0 2147483648 && zz c.size 1 2147483648 && zz c.start 0 c.size && wS c && zz c.hold 0 1024 && vB c) = (wS c && zz c.hold 0 1024) := by
    have e1 : zz c.rate 0 2147483648 = true := by simp [zz]; omega
    have e2 : zz c.size 1 2147483648 = true := by simp [zz]; omega
    have e3 : zz c.start 0 c.size = true := by simp [zz]; omega
    have e4 : vB c = true := by simp [vB, h1', h2]
    rw [e1, e2, e3, e4]; simp
   rw [hres]
   by_cases r1 : c.rule = 1
   ·by_cases r3 : 0 ≤ c.hold
    ·repeat apply za
     refine pwN [(3, 116), (8, 121), (13, 126)] (jn3 r1 r3 zn) ?_
     intros
     repeat apply za
     exact zb (zg hd (by simp; rfl) (by simp [wS, r1, zz, r3, zi]))
    ·repeat apply za
     refine pwN [(3, 116), (8, 121), (13, 126)] (jn3 r1 r3 zn) ?_
     intros
     repeat apply za
     exact zb (zg hd (by simp; rfl) (by simp [wS, r1, zz, r3, zi]))
   ·by_cases r2 : c.rule = 2
    ·by_cases r3 : 0 ≤ c.hold
     ·repeat apply za
      refine pwN [(3, 116), (8, 121), (13, 126)] (jn4 r1 r2 r3 zn) ?_
      intros
      repeat apply za
      exact zb (zg hd (by simp; rfl) (by simp [wS, r2, zz, r3, zi]))
     ·repeat apply za
      refine pwN [(3, 116), (8, 121), (13, 126)] (jn4 r1 r2 r3 zn) ?_
      intros
      repeat apply za
      exact zb (zg hd (by simp; rfl) (by simp [wS, r2, zz, r3, zi]))
    ·repeat apply za
     refine pwN [(3, 116), (8, 121), (13, 126)] (jn3 r1 r2 zn) ?_
     intros
     repeat apply za
     exact zb (zg hd (by simp; rfl) (by simp [wS, r1, r2, zi]))
  ·rw [Zbc c d hk1 hk2]
   have hk2' : (c.kind != 2) = true := by simpa using hk2
   repeat apply za
   refine pwN [(3, 72), (9, 78)] (jn2 hk2' zn) ?_
   intros
   repeat apply za
   refine zh rfl ?_
   (repeat apply za); refine pwn ?_; intros
   repeat apply za
   exact zb (zg hd (by simp; rfl) rfl)
open Go
set_option maxRecDepth 20000 in
theorem Zig (x : Inst) (hx : InstOk x) : Pure Tryz.prog 57 [.agg (zp x)] (B (qB x)) := by
 have hnc := hx.ncust
 refine pwe Tryz.func57 Tryz.ntmps57 Tryz.results57 fun S nx hd => ?_
 repeat apply za
 refine pwn ?_
 intro v0
 (repeat apply za); refine pwn ?_; intros
 by_cases h1 : x.days < 1
 ·repeat apply za
  refine pwN [(3, 14), (8, 19), (13, 24), (18, 29), (23, 34), (28, 39), (33, 44), (38, 49), (42, 53)] (jn2 h1 zn) ?_
  intros
  repeat apply za
  refine zh rfl ?_
  (repeat apply za); refine pwn ?_; intros
  repeat apply za
  exact zb (zg hd rfl (by simp [qB, zz, zi, show ¬ 1 ≤ x.days by omega]))
 by_cases h2 : (64 : Int) < x.days
 ·repeat apply za
  refine pwN [(3, 14), (8, 19), (13, 24), (18, 29), (23, 34), (28, 39), (33, 44), (38, 49), (42, 53)] (jn3 h2 h1 zn) ?_
  intros
  repeat apply za
  refine zh rfl ?_
  (repeat apply za); refine pwn ?_; intros
  repeat apply za
  exact zb (zg hd rfl (by simp [qB, zz, zi, show ¬ x.days ≤ 64 by omega]))
 by_cases h3 : x.veh < 0
 ·repeat apply za
  refine pwN [(3, 14), (8, 19), (13, 24), (18, 29), (23, 34), (28, 39), (33, 44), (38, 49), (42, 53)] (jn4 h3 h1 h2 zn) ?_
  intros
  repeat apply za
  refine zh rfl ?_
  (repeat apply za); refine pwn ?_; intros
  repeat apply za
  exact zb (zg hd rfl (by simp [qB, zz, zi, show ¬ 0 ≤ x.veh by omega]))
 by_cases h4 : (2147483648 : Int) < x.veh
 ·repeat apply za
  refine pwN [(3, 14), (8, 19), (13, 24), (18, 29), (23, 34), (28, 39), (33, 44), (38, 49), (42, 53)] (jn5 h4 h1 h2 h3 zn) ?_
  intros
  repeat apply za
  refine zh rfl ?_
  (repeat apply za); refine pwn ?_; intros
  repeat apply za
  exact zb (zg hd rfl (by simp [qB, zz, zi, show ¬ x.veh ≤ 2147483648 by omega]))
 by_cases h5 : x.cap < 0
 ·repeat apply za
  refine pwN [(3, 14), (8, 19), (13, 24), (18, 29), (23, 34), (28, 39), (33, 44), (38, 49), (42, 53)] (jn6 h5 h1 h2 h3 h4 zn) ?_
  intros
  repeat apply za
  refine zh rfl ?_
  (repeat apply za); refine pwn ?_; intros
  repeat apply za
  exact zb (zg hd rfl (by simp [qB, zz, zi, show ¬ 0 ≤ x.cap by omega]))
 by_cases h6 : (2147483648 : Int) < x.cap
 ·repeat apply za
  refine pwN [(3, 14), (8, 19), (13, 24), (18, 29), (23, 34), (28, 39), (33, 44), (38, 49), (42, 53)] (jn6 h6 h1 h2 h3 h4 (jn2 h5 zn)) ?_
  intros
  repeat apply za
  refine zh rfl ?_
  (repeat apply za); refine pwn ?_; intros
  repeat apply za
  exact zb (zg hd rfl (by simp [qB, zz, zi, show ¬ x.cap ≤ 2147483648 by omega]))
 by_cases h7 : x.len < 0
 ·repeat apply za
  refine pwN [(3, 14), (8, 19), (13, 24), (18, 29), (23, 34), (28, 39), (33, 44), (38, 49), (42, 53)] (jn6 h7 h1 h2 h3 h4 (jn3 h5 h6 zn)) ?_
  intros
  repeat apply za
  refine zh rfl ?_
  (repeat apply za); refine pwn ?_; intros
  repeat apply za
  exact zb (zg hd rfl (by simp [qB, zz, zi, show ¬ 0 ≤ x.len by omega]))
 by_cases h8 : (2147483648 : Int) < x.len
 ·repeat apply za
  refine pwN [(3, 14), (8, 19), (13, 24), (18, 29), (23, 34), (28, 39), (33, 44), (38, 49), (42, 53)] (jn6 h8 h1 h2 h3 h4 (jn4 h5 h6 h7 zn)) ?_
  intros
  repeat apply za
  refine zh rfl ?_
  (repeat apply za); refine pwn ?_; intros
  repeat apply za
  exact zb (zg hd rfl (by simp [qB, zz, zi, show ¬ x.len ≤ 2147483648 by omega]))
 by_cases h9 : (2000 : Int) < (x.cust.length : Int)
 ·repeat apply za
  refine pwN [(3, 14), (8, 19), (13, 24), (18, 29), (23, 34), (28, 39), (33, 44), (38, 49), (42, 53)] (jn6 h9 h1 h2 h3 h4 (jn5 h5 h6 h7 h8 zn)) ?_
  intros
  repeat apply za
  refine zh rfl ?_
  (repeat apply za); refine pwn ?_; intros
  repeat apply za
  exact zb (zg hd rfl (by simp [qB, zi, show ¬ x.cust.length ≤ 2000 by omega]))
 have w1 := wrN x.cust.length (by omega)
 have w1' : IntKind.i64.wrap ((x.cust.length : Int) + 1) = (x.cust.length : Int) + 1 := by rw [w1]; omega
 by_cases h10 : (x.dist.length : Int) = (x.cust.length : Int) + 1
 case neg =>
  repeat apply za
  refine pwN [(3, 14), (8, 19), (13, 24), (18, 29), (23, 34), (28, 39), (33, 44), (38, 49), (42, 53)] (jn6 h1 h2 h3 h4 h5 (jn6 h6 h7 h8 h9 h10 w1')) ?_
  intros
  repeat apply za
  refine zh (by simp [h10]) ?_
  (repeat apply za); refine pwn ?_; intros
  repeat apply za
  exact zb (zg hd rfl (by simp [qB, Xs, zi, show ¬ x.dist.length = x.cust.length + 1 by omega]))
 have h10' : x.dist.length = x.cust.length + 1 := by omega
 repeat apply za
 refine pwN [(3, 14), (8, 19), (13, 24), (18, 29), (23, 34), (28, 39), (33, 44), (38, 49), (42, 53)] (jn6 h1 h2 h3 h4 h5 (jn6 h6 h7 h8 h9 h10 w1')) ?_
 intros
 repeat apply za
 refine zj (by simp [h10]) ?_
 refine zd ?_
 have hres : qB x = (x.cust.all (xu · x.days) && vC (x.cust.length + 1) 0 x.dist) := by
  have e1 : zz x.days 1 64 = true := by simp [zz]; omega
  have e2 : zz x.veh 0 2147483648 = true := by simp [zz]; omega
  have e3 : zz x.cap 0 2147483648 = true := by simp [zz]; omega
  have e4 : zz x.len 0 2147483648 = true := by simp [zz]; omega
  have e5 : x.cust.length ≤ 2000 := by omega
  simp [qB, e1, e2, e3, e4, e5, Xs, h10']
 rw [hres]
 clear hres
 (repeat apply za); refine pwn ?_; intros
 repeat apply za
 refine ze (zq (fun s : Nat => s ≤ x.cust.length ∧ (x.cust.take s).all (xu · x.days) = true) (fun k => [(1, .ptr nx v0 0), (3, I x.cust.length), (4, I k)]) (fun _ => [.cells v0 25 (zp x)]) (fun s => x.cust.length - s) 0 [] (by simp) (by simp) (by simp) ?_)
 rintro k ⟨hk, ho⟩
 (repeat apply za); refine pwn ?_; intros
 repeat apply za
 refine zl rfl (fun hc => ?_) (fun hc => ?_)
 ·simp at hc
  obtain ⟨c, tl, a1, a2, a3, _, e0⟩ := el 8 rfl x.cust k hc
  have hcm := List.mem_of_getElem? a1
  have hco := hx.cust c hcm
  refine zd (za (ze ?_))
  repeat apply za
  refine pwY none (Row.pures [0, 1, 2, 3, 4, 5, 6, 7, 8] .done) mixed (jn2 hc e0) ?_
  refine pwP (Zif c x.days hco.pats hco.npats) trivial ?_
  intros
  (repeat apply za); refine pwn ?_; intros
  cases hb : xu c x.days with
  | false =>
   have hr2 : x.cust.all (xu · x.days) = false := by rw [List.all_eq_false]; exact ⟨c, hcm, by simp [hb]⟩
   repeat apply za
   refine zh rfl ?_
   (repeat apply za); refine pwn ?_; intros
   repeat apply za
   exact zb (zg hd (by simp; rfl) (by simp only [hr2, zi, Bool.false_and]))
  | true =>
   repeat apply za
   refine zj rfl ?_
   refine zd ?_
   (repeat apply za); refine pwn ?_; intros
   exact zk (k + 1) [] ⟨hc, by rw [a3, List.all_append, ho]; simp [hb]⟩ (by omega) (by simp [wrN k (by omega)]) rfl (by simp)
 ·simp at hc
  obtain rfl : k = x.cust.length := by omega
  rw [List.take_length] at ho
  rw [ho, Bool.true_and]
  refine zm ?_
  (repeat apply za); refine pwn ?_; intros
  generalize hn : x.cust.length = n at *
  repeat apply za
  refine ze (zq (fun s : Nat => s ≤ n + 1 ∧ vC (n + 1) 0 x.dist = vC (n + 1) s (x.dist.drop s)) (fun k => [(1, .ptr nx v0 0), (3, I n), (6, I k)]) (fun _ => [.cells v0 25 (zp x)]) (fun s => n + 1 - s) 0 [] (by simp) (by simp) (by simp) ?_)
  rintro a ⟨ha, hr⟩
  (repeat apply za); refine pwn ?_; intros
  repeat apply za
  refine zl rfl (fun hc2 => ?_) (fun hc2 => ?_)
  ·simp at hc2
   have hal : a < x.dist.length := by omega
   obtain ⟨row, tl, a1, a2, a3, e0⟩ := el1 rfl x.dist a hal
   have hrow := hx.dist row (List.mem_of_getElem? a1)
   rw [a2] at hr
   simp only [vC] at hr
   have bad : (row.length = n + 1 ∧ row.getD a 0 = 0 → row.all (zz · 0 2147483648) = false) → vC (n + 1) 0 x.dist = false := by
    intro q
    rw [hr]
    by_cases q1 : row.length = n + 1
    ·by_cases q2 : row.getD a 0 = 0
     ·rw [q ⟨q1, q2⟩]; simp
     ·simp only [q2, decide_false, Bool.and_false, Bool.false_and]
    ·simp only [q1, decide_false, Bool.and_false, Bool.false_and]
   refine zd (za (ze ?_))
   by_cases h2 : row.length = n + 1
   case neg =>
    have hres := bad (fun q => absurd q.1 h2)
    have h2' : ¬ ((row.length : Int) = (n : Int) + 1) := by omega
    repeat apply za
    refine pwN [] (jn4 hal e0 h2' w1') ?_
    intros
    repeat apply za
    refine zh (by simp [h2']) ?_
    (repeat apply za); refine pwn ?_; intros
    repeat apply za
    exact zb (zg hd (by simp; rfl) (by simp only [hres, zi]))
   have h2' : ((row.length : Int) = (n : Int) + 1) := by omega
   repeat apply za
   refine pwN [] (jn4 hal e0 h2' w1') ?_
   intros
   repeat apply za
   refine zj (by simp [h2']) ?_
   refine zd ?_
   (repeat apply za); refine pwn ?_; intros
   repeat apply za
   refine ze (zq (fun s : Nat => s ≤ n + 1 ∧ (row.take s).all (zz · 0 2147483648) = true ∧ (a < s → row.getD a 0 = 0)) (fun j => [(1, .ptr nx v0 0), (3, I n), (6, I a), (7, I j)]) (fun _ => [.cells v0 25 (zp x)]) (fun s => n + 1 - s) 0 [] (by simp) (by simp) (by simp) ?_)
   rintro b ⟨hb, hr1, hr2⟩
   (repeat apply za); refine pwn ?_; intros
   repeat apply za
   refine zl rfl (fun hc3 => ?_) (fun hc3 => ?_)
   ·simp at hc3
    have hbl : b < row.length := by omega
    obtain ⟨d, tl2, b1, b2, b3, e2⟩ := el1 rfl row b hbl
    have hdm := List.mem_of_getElem? b1
    have hbn : b < n + 1 := by omega
    refine zd (za (ze ?_))
    by_cases g1 : d < 0
    ·have hres := bad (fun _ => by rw [List.all_eq_false]; exact ⟨d, hdm, by simp [zz]; omega⟩)
     repeat apply za
     refine pwN [(9, 104), (20, 115), (24, 119)] (jn6 hal e0 hbl e2 g1 zn) ?_
     intros
     repeat apply za
     refine zh rfl ?_
     (repeat apply za); refine pwn ?_; intros
     repeat apply za
     exact zb (zg hd (by simp; rfl) (by simp only [hres, zi]))
    by_cases g2 : (2147483648 : Int) < d
    ·have hres := bad (fun _ => by rw [List.all_eq_false]; exact ⟨d, hdm, by simp [zz]; omega⟩)
     repeat apply za
     refine pwN [(9, 104), (20, 115), (24, 119)] (jn6 hal e0 hbl e2 g1 (jn2 g2 zn)) ?_
     intros
     repeat apply za
     refine zh rfl ?_
     (repeat apply za); refine pwn ?_; intros
     repeat apply za
     exact zb (zg hd (by simp; rfl) (by simp only [hres, zi]))
    have hfr : zz d 0 2147483648 = true := by simp [zz]; omega
    by_cases g3 : a = b
    ·subst g3
     have hd0 : row.getD a 0 = d := by rw [List.getD_eq_getElem?_getD, b1]; rfl
     by_cases g4 : d = 0
     ·repeat apply za
      refine pwN [(9, 104), (20, 115), (24, 119)] (jn6 hal e0 hbl e2 g1 (jn2 g2 g4)) ?_
      intros
      repeat apply za
      refine zj (by simp) ?_
      refine zd ?_
      (repeat apply za); refine pwn ?_; intros
      exact zk (a + 1) [] ⟨by omega, by rw [b3, List.all_append, hr1]; simp [hfr], fun _ => hd0.trans g4⟩ (by omega) (by simp [wrN a (by omega)]) rfl (by simp)
     ·have hres := bad (fun q => absurd (hd0.symm.trans q.2) g4)
      repeat apply za
      refine pwN [(9, 104), (20, 115), (24, 119)] (jn6 hal e0 hbl e2 g1 (jn2 g2 g4)) ?_
      intros
      repeat apply za
      refine zh (by simp [g4]) ?_
      (repeat apply za); refine pwn ?_; intros
      repeat apply za
      exact zb (zg hd (by simp; rfl) (by simp only [hres, zi]))
    ·have g3' : ¬ ((a : Int) = (b : Int)) := by omega
     repeat apply za
     refine pwN [(9, 104), (20, 115), (24, 119)] (jn6 hal e0 hbl e2 g1 (jn4 g2 g3 g3' zn)) ?_
     intros
     repeat apply za
     refine zj (by simp) ?_
     refine zd ?_
     (repeat apply za); refine pwn ?_; intros
     exact zk (b + 1) [] ⟨by omega, by rw [b3, List.all_append, hr1]; simp [hfr], fun q => hr2 (by omega)⟩ (by omega) (by simp [wrN b (by omega)]) rfl (by simp)
   ·simp at hc3
    obtain rfl : b = n + 1 := by omega
    rw [List.take_of_length_le (by omega)] at hr1
    have h0 := hr2 (by omega)
    refine zm ?_
    (repeat apply za); refine pwn ?_; intros
    exact zk (a + 1) [] ⟨by omega, by rw [hr, hr1, h0]; simp [h2]⟩ (by omega) (by simp [wrN a (by omega)]) rfl (by simp)
  ·simp at hc2
   obtain rfl : a = n + 1 := by omega
   rw [List.drop_of_length_le (by omega)] at hr
   simp only [vC] at hr
   refine zm ?_
   (repeat apply za); refine pwn ?_; intros
   repeat apply za
   exact zb (zg hd (by simp; rfl) (by simp [hr, zi]))
open Go
def Xv (c : Cust) (v : List Visit) : Int := if (v.any fun s => decide (s.q ≠ c.demand)) = true then 9 else if ofD (v.map (·.d)) ∈ c.pats then 0 else 10
def wu (x : Inst) (p : zQ) (i : Nat) : Int :=
 match x.cust[i]? with
 | none => 5
 | some c => if c.kind = 2 then u9 c (wh (yI i (told 0 p)) x.days) else Xv c (yI i (told 0 p))
structure Serves (x : Inst) (p : zQ) : Prop where
 sz : PlanOk p
 q : ∀ s ∈ told 0 p, 0 ≤ s.1.q ∧ s.1.q ≤ 2147483648
 days : p.length ≤ 64
theorem Zbd : ∀ (p : zQ) (i : Nat) (x : Stop × Nat), x ∈ told i p → i ≤ x.2 ∧ x.2 < i + p.length
 | [], _, _, h => by cases h
 | d :: p, i, x, h => by
  simp only [told, List.mem_append, List.mem_map] at h
  simp only [List.length_cons]
  rcases h with ⟨s, _, rfl⟩ | h
  ·simp only; omega
  ·have := Zbd p (i + 1) x h; omega
theorem Zih {x : Inst} {p : zQ} (h : Serves x p) (c : Int) : VisOk (yI c (told 0 p)) ∧ ∀ s ∈ yI c (told 0 p), 0 ≤ s.d ∧ s.d ≤ 63 := by
 have hd : ∀ s ∈ yI c (told 0 p), (0 ≤ s.q ∧ s.q ≤ 2147483648) ∧ 0 ≤ s.d ∧ s.d ≤ 63 := by
  intro s hs
  simp only [yI, List.mem_map, List.mem_filter] at hs
  obtain ⟨y, ⟨hy, _⟩, rfl⟩ := hs
  have h1 := h.q y hy
  have h2 := Zbd p 0 y hy
  have h3 := h.days
  simp only; omega
 exact ⟨⟨Nat.le_trans (Za3 _ _) h.sz.told, fun s hs => (hd s hs).1, fun s hs => by have := (hd s hs).2; unfold I64; omega⟩, fun s hs => (hd s hs).2⟩
structure CustsOk (x : Inst) : Prop where
 n : x.cust.length ≤ 1048576
 kind : ∀ c ∈ x.cust, c.kind = 1 ∨ c.kind = 2
 fits : ∀ c ∈ x.cust, CustFits c
 pats : ∀ c ∈ x.cust, c.pats.length ≤ 1048576
 plt : ∀ c ∈ x.cust, ∀ p ∈ c.pats, p < 2 ^ 64
open Go
theorem Zbe : ∀ (l : List Int), (∀ b ∈ l, b = 0 ∨ b = 1) → ∀ i : Nat, (qw l).toNat.testBit i = decide (l[i]? = some 1)
 | [], _, i => by simp [qw]
 | b :: l, h, i => by
  have hl : ∀ b ∈ l, b = 0 ∨ b = 1 := fun x hx => h x (by simp [hx])
  have h0 := (Jb l hl).1
  have hb := h b (by simp)
  have hn : qw (b :: l) = 2 * qw l + b := rfl
  cases i with
  | zero =>
   rw [Nat.testBit_zero, hn]
   simp only [List.getElem?_cons_zero, Option.some.injEq]
   apply decide_eq_decide.2
   omega
  | succ i =>
   rw [Nat.testBit_succ, hn]
   have : (2 * qw l + b).toNat / 2 = (qw l).toNat := by omega
   rw [this, Zbe l hl i]
   simp
theorem Xw (n i : Nat) : n.testBit i = decide (yB n i = 1) := by rw [Nat.testBit_eq_decide_div_mod_eq]; rfl
theorem Zbf (n d : Nat) (hn : n < 2 ^ 64) (hd : d < 64) : uK n d = vu n d := by
 have h01 : ∀ b ∈ (qb n).set d 1, b = 0 ∨ b = 1 := fun b hb => by
  rcases Je hb with h | h
  ·exact Ja n b h
  ·exact .inr h
 apply Nat.eq_of_testBit_eq
 intro i
 unfold uK Zy vu
 rw [Zbe _ h01, if_pos (by omega), Nat.testBit_or, Int.toNat_natCast, Nat.testBit_two_pow, List.getElem?_set]
 have hl := vX n
 by_cases h : d = i
 ·subst h; simp [hl, hd]
 ·rw [if_neg h]
  by_cases hi : i < 64
  ·rw [Jd n i hi, Xw]
   simp [h]; omega
  ·rw [List.getElem?_eq_none (by omega)]
   have : n.testBit i = false := Nat.testBit_lt_two_pow (Nat.lt_of_lt_of_le hn (Nat.pow_le_pow_right (by decide) (by omega)))
   simp [this, h]
set_option maxRecDepth 20000 in
theorem Zii (x : Inst) (p : zQ) (i : Nat) (h : Serves x p) (hx : CustsOk x) (hi : i < x.cust.length) : Pure Tryz.prog 59 [.agg (zp x), .agg [L p], I i] (I (wu x p i)) := by
 obtain ⟨c, tl, a1, a2, a3, _, e0⟩ := el 8 rfl x.cust i hi
 have hcm := List.mem_of_getElem? a1
 have hres : wu x p i = if c.kind = 2 then u9 c (wh (yI i (told 0 p)) x.days) else Xv c (yI i (told 0 p)) := by simp only [wu, a1]
 rw [hres]
 have g0 : ¬ (i : Int) < 0 := by omega
 have g1 : ¬ (x.cust.length : Int) ≤ (i : Int) := by omega
 have hvi := Zh9 p i h.sz
 obtain ⟨hv1, hv2⟩ := Zih h i
 generalize yI (i : Int) (told 0 p) = v at hvi hv1 hv2
 have hvl := hv1.n
 refine pwe Tryz.func59 Tryz.ntmps59 Tryz.results59 fun S nx hd => ?_
 repeat apply za
 refine pwn ?_
 intro v0 v1
 repeat apply za
 refine pwN [(2, 14)] (jn3 g0 g1 hi) ?_
 intros
 repeat apply za
 refine zj (by simp) ?_
 refine zd ?_
 repeat apply za
 refine pwN [] (jn2 hi e0) ?_
 intro v2
 repeat apply za
 refine pwn ?_
 refine pwc hvi ?_
 intros
 (repeat apply za); refine pwn ?_; intros
 by_cases hk : c.kind = 2
 ·have hb := Za9 v x.days hv1
  have hh := Xq c (wh v x.days) (hx.fits c hcm) (by rw [Za6]; omega)
  generalize wh v x.days = q at hb hh ⊢
  repeat apply za
  refine zh (by simp [hk]) ?_
  repeat apply za
  refine pwY (some [nx, nx + 2]) (Row.pures [0, 1, 2, 3, 4, 5, 6] .done) mixed trivial ?_
  refine pwP (hb) trivial ?_
  refine pwP (hh) trivial ?_
  intros
  repeat apply za
  exact zb (zg hd (by simp; rfl) (by simp [hk, zi]))
 ·have hpl := hx.pats c hcm
  rw [if_neg hk]
  unfold Xv
  repeat apply za
  refine zj (by simp [hk]) ?_
  refine zd ?_
  (repeat apply za); refine pwn ?_; intros
  (repeat apply za); refine pwn ?_; intros
  repeat apply za
  refine zR (nx := nx) (σ := Unit) (fun _ => (v.any fun s => decide (s.q ≠ c.demand)) = false) (fun _ => [(7, .ptr (nx + 2) v2 0), (9, U (ofD (v.map (·.d))))]) (fun _ => S) (fun _ => [.cells v0 25 (zp x), .cells v1 29 [L p], .cells v2 41 (zM c)]) ?_ ?_
  ·refine ze (zq (fun s : Nat => s ≤ v.length ∧ ((v.take s).any fun s => decide (s.q ≠ c.demand)) = false) (fun k => [(7, .ptr (nx + 2) v2 0), (8, L v), (9, U (ofD ((v.map (·.d)).take k))), (10, I k)]) (fun _ => [.cells v0 25 (zp x), .cells v1 29 [L p], .cells v2 41 (zM c)]) (fun s => v.length - s) 0 [] (by simp) (by simp [ofD]) (by simp) ?_)
   rintro k ⟨hk2, ho⟩
   (repeat apply za); refine pwn ?_; intros
   repeat apply za
   refine zl rfl (fun hc1 => ?_) (fun hc1 => ?_)
   ·simp at hc1
    obtain ⟨s, tl2, b1, b2, b3, e1, e2⟩ := el 2 rfl v k hc1
    have e21 := e1 1 (by omega)
    have hs := hv2 s (List.mem_of_getElem? b1)
    have hol := ZhO ((v.map (·.d)).take k)
    refine zd (za (ze ?_))
    by_cases hq : s.q = c.demand
    ·repeat apply za
     refine pwY (some [nx + 2]) (Row.pures [0, 1, 2, 3, 4, 5, 6, 7] .done) mixed (jn3 hc1 e21 hq) ?_
     intros
     repeat apply za
     refine zj (by simp) ?_
     refine zd ?_
     obtain ⟨dn, hdn⟩ := Int.eq_ofNat_of_zero_le hs.1
     have hpt := WR (ofD ((v.map (·.d)).take k)) s.d hol hs.1 hs.2
     rw [(Jf _ _).1, hdn, Int.toNat_natCast, Zbf _ dn hol (by omega)] at hpt
     have hnx : vu (ofD ((v.map (·.d)).take k)) dn = ofD ((v.map (·.d)).take (k + 1)) := by rw [← List.map_take, ← List.map_take, b3]; simp [ofD, hdn]
     rw [hnx] at hpt
     repeat apply za
     refine pwN [] (jn3 hc1 e2 hdn) ?_
     refine pwc hpt ?_
     intros
     (repeat apply za); refine pwn ?_; intros
     exact zk (k + 1) [] ⟨hc1, by rw [b3, List.any_append, ho]; simp [hq]⟩ (by omega) (by simp [wrN k (by omega)]) rfl (by simp)
    ·have hany : (v.any fun s => decide (s.q ≠ c.demand)) = true := by rw [List.any_eq_true]; exact ⟨s, List.mem_of_getElem? b1, by simpa using hq⟩
     repeat apply za
     refine pwY (some [nx + 2]) (Row.pures [0, 1, 2, 3, 4, 5, 6, 7] .done) mixed (jn3 hc1 e21 hq) ?_
     intros
     repeat apply za
     refine zh (by simp [hq]) ?_
     (repeat apply za); refine pwn ?_; intros
     repeat apply za
     exact zb (zg hd (by simp; rfl) (by rw [if_pos hany]; rfl))
   ·simp at hc1
    obtain rfl : k = v.length := by omega
    rw [List.take_length] at ho
    have htl : (v.map (·.d)).take v.length = v.map (·.d) := List.take_of_length_le (by simp)
    exact zm (zt () [] ho (by simp [htl]) rfl (by simp))
  intro _ ho
  rw [ho]
  generalize ofD (v.map (·.d)) = set
  (repeat apply za); refine pwn ?_; intros
  repeat apply za
  refine ze (zq (fun s : Nat => s ≤ c.pats.length ∧ set ∉ c.pats.take s) (fun k => [(7, .ptr (nx + 2) v2 0), (9, U set), (11, I k)]) (fun _ => [.cells v0 25 (zp x), .cells v1 29 [L p], .cells v2 41 (zM c)]) (fun s => c.pats.length - s) 0 [] (by simp) (by simp) (by simp) ?_)
  rintro k ⟨hk2, hno⟩
  (repeat apply za); refine pwn ?_; intros
  repeat apply za
  refine zl rfl (fun hc1 => ?_) (fun hc1 => ?_)
  ·simp at hc1
   obtain ⟨q, tl2, b1, b2, b3, e2⟩ := el1 rfl c.pats k hc1
   refine zd (za (ze ?_))
   by_cases hq : q = set
   ·subst hq
    repeat apply za
    refine pwN [] (jn2 hc1 e2) ?_
    intros
    repeat apply za
    refine zh (by simp) ?_
    (repeat apply za); refine pwn ?_; intros
    repeat apply za
    exact zb (zg hd (by simp; rfl) (by simp [List.mem_of_getElem? b1, zi]))
   ·have hq' : ¬ ((q : Int) = (set : Int)) := by omega
    repeat apply za
    refine pwN [] (jn4 hc1 e2 hq hq') ?_
    intros
    repeat apply za
    refine zj (by simp) ?_
    refine zd ?_
    (repeat apply za); refine pwn ?_; intros
    exact zk (k + 1) [] ⟨hc1, by rw [b3]; simp; exact ⟨hno, fun e => hq e.symm⟩⟩ (by omega) (by simp [wrN k (by omega)]) rfl (by simp)
  ·simp at hc1
   obtain rfl : k = c.pats.length := by omega
   rw [List.take_length] at hno
   refine zm ?_
   (repeat apply za); refine pwn ?_; intros
   repeat apply za
   exact zb (zg hd (by simp; rfl) (by simp [hno, zi]))
open Go
def qh : List Int → Int
 | [] => 0
 | e :: l => if e ≠ 0 then e else qh l
theorem Qr {l : List Int} (h : ∀ e ∈ l, e = 0) : qh l = 0 := by
 induction l with
 | nil => rfl
 | cons e l ih => simp only [qh, h e (by simp), ne_eq, not_true, if_false]; exact ih fun x hx => h x (by simp [hx])
theorem Xx {l : List Int} {k : Nat} {e : Int} (h : ∀ e ∈ l.take k, e = 0) (hk : l[k]? = some e) (he : e ≠ 0) : qh l = e := by
 induction l generalizing k with
 | nil => cases hk
 | cons a l ih =>
  cases k with
  | zero => simp at hk; subst hk; simp [qh, he]
  | succ k =>
   simp only [qh, h a (by simp), ne_eq, not_true, if_false]
   exact ih (k := k) (fun x hx => h x (by rw [List.take_succ_cons]; simp [hx])) (by simpa using hk)
theorem Zbg (l : List Int) : qh l = 0 ↔ ∀ e ∈ l, e = 0 := by
 refine ⟨fun h => ?_, Qr⟩
 induction l with
 | nil => intro e he; cases he
 | cons a l ih =>
  simp only [qh] at h
  split at h
  ·rename_i hne; exact absurd h hne
  ·rename_i hne
   intro e he
   rcases List.mem_cons.1 he with rfl | he
   ·simpa using hne
   ·exact ih h e he
def vE (x : Inst) (p : zQ) : Int :=
 if qB x = false then 3 else if (p.length : Int) ≠ x.days then 1 else if qh (p.map (zH x)) ≠ 0 then qh (p.map (zH x)) else qh ((List.range x.cust.length).map (wu x p))
structure PlanSz (p : zQ) : Prop where
 ok : PlanOk p
 f : ∀ d ∈ p, d.flatten.length ≤ 1048576
theorem Zbh : ∀ (p : zQ) (i : Nat) (x : Stop × Nat), x ∈ told i p → ∃ d ∈ p, x.1 ∈ d.flatten
 | [], _, _, h => by cases h
 | d :: p, i, x, h => by
  simp only [told, List.mem_append, List.mem_map] at h
  rcases h with ⟨s, hs, rfl⟩ | h
  ·exact ⟨d, by simp, hs⟩
  ·obtain ⟨d', h1, h2⟩ := Zbh p (i + 1) x h; exact ⟨d', by simp [h1], h2⟩
theorem Zbi {x : Inst} {d : Day} (h : zH x d = 0) : ∀ s ∈ d.flatten, yC x s = true := by
 intro s hs
 obtain ⟨t, ht, hst⟩ := List.mem_flatten.1 hs
 have hm : zr x t = 0 := by
  unfold zH at h
  split at h
  ·rename_i u hu
   have := List.find?_some hu
   simp [h] at this
  ·rename_i hn
   rw [List.find?_eq_none] at hn
   simpa using hn t ht
 have : yg x t = true := by
  by_cases q : yg x t = true
  ·exact q
  ·simp [zr, q] at hm
 unfold yg at this
 simp only [Bool.and_eq_true, List.all_eq_true] at this
 exact this.1 s hst
theorem Zij {x : Inst} {p : zQ} (hp : PlanSz p) (hx : InstOk x) (hm : qB x = true) (hd : (p.length : Int) = x.days) (h0 : ∀ d ∈ p, zH x d = 0) : Serves x p := by
 have hdays : 1 ≤ x.days ∧ x.days ≤ 64 := by
  unfold qB at hm; simp only [Bool.and_eq_true] at hm
  have := hm.1.1.1.1.1.1; simpa [zz] using this
 refine ⟨hp.ok, fun s hs => ?_, by omega⟩
 obtain ⟨d, hd, hsd⟩ := Zbh p 0 s hs
 have := Zbi (h0 d hd) s.1 hsd
 simp [yC] at this
 omega
theorem Zik {x : Inst} (hx : InstOk x) (hm : qB x = true) : CustsOk x := by
 unfold qB at hm
 simp only [Bool.and_eq_true, decide_eq_true_eq, List.all_eq_true] at hm
 obtain ⟨⟨⟨⟨⟨⟨_, h1⟩, _⟩, _⟩, _⟩, h2⟩, _⟩ := hm
 have hk : ∀ c ∈ x.cust, c.kind = 1 ∨ c.kind = 2 := fun c hc => by
  have := h2 c hc
  by_cases k1 : c.kind = 1
  ·exact .inl k1
  ·by_cases k2 : c.kind = 2
   ·exact .inr k2
   ·rw [Zbc c _ k1 k2] at this; cases this
 refine ⟨by omega, hk, fun c hc => ?_, fun c hc => ?_, fun c hc => (hx.cust c hc).pats⟩
 ·have hb := h2 c hc
  rcases hk c hc with k | k
  ·rw [Xt c _ k] at hb
   simp only [Bool.and_eq_true, xM, decide_eq_true_eq] at hb
   obtain ⟨_, a, b, c, _⟩ := hb
   exact ⟨by omega, by omega, by omega⟩
  ·rw [Xu c _ k] at hb
   simp only [Bool.and_eq_true, zz, decide_eq_true_eq] at hb
   obtain ⟨⟨⟨⟨⟨a, b⟩, c⟩, _⟩, _⟩, _⟩ := hb
   exact ⟨by omega, by omega, by omega⟩
 ·have hb := h2 c hc
  rcases hk c hc with k | k
  ·rw [Xt c _ k] at hb
   simp only [Bool.and_eq_true, up, zz, decide_eq_true_eq] at hb
   omega
  ·rw [Xu c _ k] at hb
   simp only [Bool.and_eq_true, vB, decide_eq_true_eq] at hb
   omega
set_option maxRecDepth 20000 in
theorem Zil (x : Inst) (p : zQ) (hx : InstOk x) (hp : PlanSz p) : Pure Tryz.prog 18 [.agg (zp x), .agg [L p]] (I (vE x p)) := by
 have hpn := hp.ok.n
 refine pwe Tryz.func18 Tryz.ntmps18 Tryz.results18 fun S nx hd => ?_
 repeat apply za
 refine pwn ?_
 intro v0 v1
 repeat apply za
 refine pwn ?_
 refine pwc (Zig x hx) ?_
 intros
 cases hm : qB x with
 | false =>
  (repeat apply za); refine pwn ?_; intros
  repeat apply za
  refine zh rfl ?_
  (repeat apply za); refine pwn ?_; intros
  repeat apply za
  exact zb (zg hd (by simp; rfl) (by simp [vE, hm, zi]))
 | true =>
  have hcs := Zik hx hm
  have hcn := hcs.n
  (repeat apply za); refine pwn ?_; intros
  repeat apply za
  refine zj rfl ?_
  refine zd ?_
  by_cases hpd : (p.length : Int) = x.days
  case neg =>
   repeat apply za
   refine pwN [] hpd ?_
   intros
   repeat apply za
   refine zh (by simp [hpd]) ?_
   (repeat apply za); refine pwn ?_; intros
   repeat apply za
   exact zb (zg hd (by simp; rfl) (by simp [vE, hm, hpd, zi]))
  have hres : vE x p = if qh (p.map (zH x)) ≠ 0 then qh (p.map (zH x)) else qh ((List.range x.cust.length).map (wu x p)) := by simp [vE, hm, hpd]
  repeat apply za
  refine pwN [] hpd ?_
  intros
  repeat apply za
  refine zj (by simp [hpd]) ?_
  refine zd ?_
  (repeat apply za); refine pwn ?_; intros
  repeat apply za
  refine zR (nx := nx) (σ := Unit) (fun _ => ∀ d ∈ p, zH x d = 0) (fun _ => [(2, .ptr nx v0 0), (3, .ptr (nx + 1) v1 0)]) (fun _ => S) (fun _ => [.cells v0 25 (zp x), .cells v1 29 [L p]]) ?_ ?_
  ·refine ze (zq (fun s : Nat => s ≤ p.length ∧ ∀ d ∈ p.take s, zH x d = 0) (fun k => [(2, .ptr nx v0 0), (3, .ptr (nx + 1) v1 0), (6, I k)]) (fun _ => [.cells v0 25 (zp x), .cells v1 29 [L p]]) (fun s => p.length - s) 0 [] (by simp) (by simp) (by simp) ?_)
   rintro k ⟨hk, ho⟩
   (repeat apply za); refine pwn ?_; intros
   repeat apply za
   refine zl rfl (fun hc => ?_) (fun hc => ?_)
   ·simp at hc
    obtain ⟨d, tl, a1, a2, a3, e0⟩ := el1 rfl p k hc
    have hdm := List.mem_of_getElem? a1
    refine zd (za (ze ?_))
    repeat apply za
    refine pwY (some [nx, nx + 1]) (Row.pures [0, 1, 2, 3, 4, 5, 6, 7] .done) mixed (jn2 hc e0) ?_
    refine pwP (Vk x d hcn (hp.ok.d d hdm) (hp.ok.t d hdm) (hp.f d hdm)) trivial ?_
    intros
    by_cases h0 : zH x d = 0
    ·repeat apply za
     refine pwN [] h0 ?_
     intros
     repeat apply za
     refine zj (by simp [h0]) ?_
     refine zd ?_
     (repeat apply za); refine pwn ?_; intros
     exact zk (k + 1) [] ⟨hc, fun e he => by rw [a3] at he; rcases List.mem_append.1 he with he | he; exact ho e he; rw [List.mem_singleton.1 he]; exact h0⟩ (by omega) (by simp [wrN k (by omega)]) rfl (by simp)
    ·have hf : qh (p.map (zH x)) = zH x d := Xx (k := k) (fun e he => by rw [← List.map_take] at he; obtain ⟨u, hu, rfl⟩ := List.mem_map.1 he; exact ho u hu) (by rw [List.getElem?_map, a1]; rfl) h0
     repeat apply za
     refine pwN [] h0 ?_
     intros
     repeat apply za
     refine zh (by simp [h0]) ?_
     (repeat apply za); refine pwn ?_; intros
     repeat apply za
     exact zb (zg hd (by simp; rfl) (by rw [hres, hf]; simp [h0, zi]))
   ·simp at hc
    obtain rfl : k = p.length := by omega
    rw [List.take_length] at ho
    exact zm (zt () [] ho (by simp) rfl (by simp))
  intro _ hall
  have hsv := Zij hp hx hm hpd hall
  have hf0 : qh (p.map (zH x)) = 0 := Qr fun e he => by obtain ⟨u, hu, rfl⟩ := List.mem_map.1 he; exact hall u hu
  rw [hf0] at hres
  simp only [ne_eq, not_true, if_false] at hres
  rw [hres]
  (repeat apply za); refine pwn ?_; intros
  repeat apply za
  refine ze (zq (fun s : Nat => s ≤ x.cust.length ∧ ∀ i < s, wu x p i = 0) (fun k => [(2, .ptr nx v0 0), (3, .ptr (nx + 1) v1 0), (8, I k)]) (fun _ => [.cells v0 25 (zp x), .cells v1 29 [L p]]) (fun s => x.cust.length - s) 0 [] (by simp) (by simp) (by simp) ?_)
  rintro k ⟨hk, ho⟩
  (repeat apply za); refine pwn ?_; intros
  repeat apply za
  refine zl rfl (fun hc => ?_) (fun hc => ?_)
  ·simp at hc
   refine zd (za (ze ?_))
   repeat apply za
   refine pwn ?_
   refine pwc (Zii x p k hsv hcs hc) ?_
   intros
   by_cases h0 : wu x p k = 0
   ·repeat apply za
    refine pwN [] h0 ?_
    intros
    repeat apply za
    refine zj (by simp [h0]) ?_
    refine zd ?_
    (repeat apply za); refine pwn ?_; intros
    exact zk (k + 1) [] ⟨hc, fun i hi => by by_cases q : i = k; rw [q]; exact h0; exact ho i (by omega)⟩ (by omega) (by simp [wrN k (by omega)]) rfl (by simp)
   ·have hf : qh ((List.range x.cust.length).map (wu x p)) = wu x p k := Xx (k := k) (fun e he => by rw [← List.map_take] at he; obtain ⟨u, hu, rfl⟩ := List.mem_map.1 he; rw [List.take_range] at hu; have := List.mem_range.1 hu; exact ho u (by omega)) (by rw [List.getElem?_map, List.getElem?_range hc]; rfl) h0
    repeat apply za
    refine pwN [] h0 ?_
    intros
    repeat apply za
    refine zh (by simp [h0]) ?_
    (repeat apply za); refine pwn ?_; intros
    repeat apply za
    exact zb (zg hd (by simp; rfl) (by rw [hf]; rfl))
  ·simp at hc
   obtain rfl : k = x.cust.length := by omega
   refine zm ?_
   (repeat apply za); refine pwn ?_; intros
   repeat apply za
   exact zb (zg hd (by simp; rfl) (by rw [Qr fun e he => by obtain ⟨u, hu, rfl⟩ := List.mem_map.1 he; exact ho u (List.mem_range.1 hu)]; rfl))
open Go Go.Proofs Hp
def uq (l : List Visit) (day : Int) (i k : Nat) : List Stop := ((l.take k).filter (fun w => w.d = day)).map fun w => ⟨i, w.q⟩
def wT (v : List (List Visit)) (day : Int) (i : Nat) : List Stop := ((v.getD i []).filter (fun w => w.d = day)).map fun w => ⟨i, w.q⟩
def qf (v : List (List Visit)) (day : Int) (n : Nat) : List Stop := (List.range n).flatMap (wT v day)
theorem Zbj (v : List (List Visit)) (day : Int) (n : Nat) : qf v day (n + 1) = qf v day n ++ wT v day n := by simp [qf, List.range_succ]
theorem Zim (l : List Visit) (day : Int) (i : Nat) : uq l day i 0 = [] := rfl
theorem Zin (v : List (List Visit)) (day : Int) (i : Nat) (l : List Visit) (h : v[i]? = some l) : uq l day i l.length = wT v day i := by
 unfold uq wT; rw [List.take_length, List.getD_eq_getElem?_getD, h]; rfl
theorem Zbk {l : List Visit} {k : Nat} {w : Visit} (h : l[k]? = some w) (day : Int) (i : Nat) : uq l day i (k + 1) = uq l day i k ++ (if w.d = day then [⟨i, w.q⟩] else []) := by
 unfold uq
 rw [List.take_add_one, h]
 simp only [Option.toList_some, List.filter_append, List.map_append]
 split
 ·rename_i e; simp [e]
 ·rename_i e; simp [e]
structure VsOk (m n : Nat) (v : List (List Visit)) : Prop where
 len : v.length = m
 ok : ∀ l ∈ v, ∀ w ∈ l, (0 ≤ w.d ∧ w.d < n) ∧ 1 ≤ w.q ∧ w.q ≤ 2147483648
 nd : ∀ l ∈ v, (l.map (·.d)).Nodup
 few : ∀ l ∈ v, l.length ≤ 1000
theorem VsOk.at {m n : Nat} {v : List (List Visit)} (h : VsOk m n v) (i : Nat) : (∀ w ∈ v.getD i [], (0 ≤ w.d ∧ w.d < n) ∧ 1 ≤ w.q ∧ w.q ≤ 2147483648) ∧ ((v.getD i []).map (·.d)).Nodup := by
 rw [List.getD_eq_getElem?_getD]
 cases e : v[i]? with
 | none => exact ⟨by simp, by simp⟩
 | some l => exact ⟨h.ok l (List.mem_of_getElem? e), h.nd l (List.mem_of_getElem? e)⟩
theorem Zio {l : List Visit} (h : (l.map (·.d)).Nodup) (day : Int) : (l.filter (fun w => w.d = day)).length ≤ 1 := by
 have h1 := (List.filter_sublist (p := fun w : Visit => decide (w.d = day)) (l := l)).map (·.d)
 have h2 := h.sublist h1
 have h3 : ∀ w ∈ l.filter (fun w => w.d = day), w.d = day := fun w hw => by simpa using (List.mem_filter.1 hw).2
 generalize l.filter (fun w => decide (w.d = day)) = m at h2 h3
 match m, h2, h3 with
 | [], _, _ => simp
 | [_], _, _ => simp
 | a :: b :: m, h2, h3 =>
  exfalso
  have ea := h3 a (by simp)
  have eb := h3 b (by simp)
  simp only [List.map_cons, List.nodup_cons, List.mem_cons] at h2
  exact h2.1 (.inl (by rw [ea, eb]))
theorem Zip {m n : Nat} {v : List (List Visit)} (h : VsOk m n v) (day : Int) (i : Nat) : (wT v day i).length ≤ 1 := by
 unfold wT; rw [List.length_map]; exact Zio (h.at i).2 day
theorem Ziq {m n : Nat} {v : List (List Visit)} (h : VsOk m n v) {day : Int} {i : Nat} {s : Stop} (hs : s ∈ wT v day i) : s.c = i ∧ 1 ≤ s.q ∧ s.q ≤ 2147483648 := by
 obtain ⟨w, hw, rfl⟩ := List.mem_map.1 hs
 exact ⟨rfl, ((h.at i).1 w (List.mem_filter.1 hw).1).2⟩
theorem Xy {m n : Nat} {v : List (List Visit)} (h : VsOk m n v) (day : Int) : ∀ k : Nat, (qf v day k).length ≤ k ∧ (∀ s ∈ qf v day k, (0 ≤ s.c ∧ s.c < k) ∧ 1 ≤ s.q ∧ s.q ≤ 2147483648) ∧ ((qf v day k).map (·.c)).Nodup
 | 0 => ⟨by simp [qf], by simp [qf], by simp [qf]⟩
 | k + 1 => by
  obtain ⟨h1, h2, h3⟩ := Xy h day k
  have h4 := Zip h day k
  have h5 : ∀ s ∈ wT v day k, s.c = k ∧ 1 ≤ s.q ∧ s.q ≤ 2147483648 := fun s hs => Ziq h hs
  rw [Zbj]
  refine ⟨by rw [List.length_append]; omega, fun s hs => ?_, ?_⟩
  ·rcases List.mem_append.1 hs with hs | hs
   ·have := h2 s hs; omega
   ·have := h5 s hs; omega
  ·rw [List.map_append]
   generalize wT v day k = e at h4 h5
   match e, h4, h5 with
   | [], _, _ => simpa using h3
   | [s], _, h5 =>
    refine ZB _ _ h3 fun hm => ?_
    obtain ⟨u, hu, e⟩ := List.mem_map.1 hm
    have q1 := h2 u hu
    have q2 := h5 s (by simp)
    have q3 : u.c = s.c := e
    omega
   | _ :: _ :: _, h4, _ => simp at h4
structure InstH (x : Inst) : Prop where
 cust : x.cust.length ≤ 1000
 diag : arc x 0 0 = 0
 arc : yq x
 veh : 0 ≤ x.veh
theorem Zbl {x : Inst} (hx : InstH x) {n : Nat} {v : List (List Visit)} (h : VsOk x.cust.length n v) (day : Int) : SOk x (qf v day x.cust.length) := by
 obtain ⟨h1, h2, h3⟩ := Xy h day x.cust.length
 have := hx.cust
 exact ⟨by omega, hx.arc, hx.veh, by omega, fun s hs => by have := h2 s hs; unfold small; omega, h3⟩
def ur (x : Inst) (v : List (List Visit)) (b : Int) (n : Nat) : List (Day × Int) := (List.range n).map fun d : Nat => qZ x b (qf v d x.cust.length)
def qQ (x : Inst) (v : List (List Visit)) (b : Int) (n : Nat) : zQ := (ur x v b n).map (·.1)
def yW (x : Inst) (v : List (List Visit)) (b : Int) (n : Nat) : List Int := (ur x v b n).map (·.2)
theorem Zbm (x : Inst) (v : List (List Visit)) (b : Int) (n : Nat) : (qQ x v b n).length = n := by simp [qQ, ur]
theorem Zbn (x : Inst) (v : List (List Visit)) (b : Int) (n : Nat) : (yW x v b n).length = n := by simp [yW, ur]
theorem Zir (x : Inst) (v : List (List Visit)) (b : Int) (n : Nat) : qQ x v b (n + 1) = qQ x v b n ++ [(qZ x b (qf v n x.cust.length)).1] := by simp [qQ, ur, List.range_succ]
theorem Zis (x : Inst) (v : List (List Visit)) (b : Int) (n : Nat) : yW x v b (n + 1) = yW x v b n ++ [(qZ x b (qf v n x.cust.length)).2] := by simp [yW, ur, List.range_succ]
open Go Go.Proofs Hp
def woP (c : Int) (p : zQ) : zQ := p.map (yr c)
set_option maxHeartbeats 1600000 in
theorem Zbo (p : zQ) (c : Int) (hp : p.length ≤ 1000) (hd0 : ∀ d ∈ p, d.length ≤ 1048576) (ht : ∀ d ∈ p, ∀ t ∈ d, t.length ≤ 1048576) : Pure Tryz.prog 28 [.agg [L p], I c] (.agg [L (woP c p)]) := by
 unfold woP
 refine pwe Tryz.func28 Tryz.ntmps28 Tryz.results28 fun S nx hd => ?_
 repeat apply za
 refine pwn ?_
 intro v0 v1
 repeat apply za
 refine pwn ?_
 intro v2
 refine qa 2 0 66 1 rfl rfl fun v3 => ?_
 (repeat apply za); refine pwn ?_; intros
 repeat apply za
 refine ze (zq (fun s : Nat × zQ × Nat => s.1 ≤ p.length ∧ s.2.1 = (p.take s.1).map (yr c)) (fun (k, q, w) => [(1, I c), (4, .ptr (nx + 1) v1 0), (5, .ptr (nx + 2) v2 0), (11, L p), (12, I p.length), (13, I k)]) (fun (k, q, w) => [.cells v0 29 [L p], .cells v1 29 [zS], .cells v2 29 [.sl (nx + 3) w 1 0 q.length], .cells w 66 (q.flatMap Enc.enc)]) (fun s => p.length - s.1) (0, [], v3) [] (by simp) (by simp) (by simp) ?_)
 rintro ⟨k, q, w⟩ ⟨hk, hq⟩
 simp only at hk hq ⊢
 have hql : q.length = k := by rw [hq]; simp; omega
 (repeat apply za); refine pwn ?_; intros
 repeat apply za
 refine zl rfl (fun hc => ?_) (fun hc => ?_)
 ·simp at hc
  obtain ⟨d, tl, a1, a2, a3, e0⟩ := el1 rfl p k hc
  have hdm := List.mem_of_getElem? a1
  have hr := ZgJ d c (hd0 d hdm) (ht d hdm)
  generalize hrd : yr c d = rd at hr
  have hk1 : 1 ≤ p.length - k := by omega
  have hqf : (q.flatMap Enc.enc : List PV).length = q.length := qm q
  have hqt : (q.flatMap Enc.enc : List PV).take q.length = q.flatMap Enc.enc := List.take_of_length_le (by omega)
  refine zd (za (ze ?_))
  repeat apply za
  refine pwN [] (jn3 hc e0 hk1) ?_
  intro v4
  repeat apply za
  refine pwn ?_
  refine pwc hr ?_
  intro v5
  intros
  repeat apply za
  refine pwN [] (jn2 hqf hqt) ?_
  refine ⟨by omega, ?_⟩
  intros
  (repeat apply za); refine pwn ?_; intros
  exact zk (k + 1, q ++ [rd], w + 1) [_, _] ⟨hc, by rw [a3, List.map_append, hq, ← hrd]; rfl⟩ (by simp; omega) (by simp [wrN k (by omega)]) rfl (by simp; exact ⟨rfl, rfl⟩)
 ·simp at hc
  obtain rfl : k = p.length := by omega
  rw [List.take_length] at hq
  refine zm ?_
  refine zC 3 rfl ?_
  (repeat apply za); refine pwn ?_; intros
  repeat apply za
  exact zb (zg hd (by simp; rfl) (by simp [zi, hq]))
set_option maxRecDepth 20000 in
set_option maxHeartbeats 1600000 in
theorem Zit (d : Day) (c : Int) (hdn : d.length ≤ 1048576) (hdt : ∀ t ∈ d, t.length ≤ 1048576) : Pure Tryz.prog 69 [.agg [L d], I c] (.tup [.agg [L (yr c d)], I (JS c d)]) := by
 rw [Zar]
 refine pwe Tryz.func69 Tryz.ntmps69 Tryz.results69 fun S nx hd => ?_
 repeat apply za
 refine pwn ?_
 intro v0 v1
 repeat apply za
 refine pwn ?_
 intro v2
 refine qa 2 0 72 1 rfl rfl fun v3 => ?_
 (repeat apply za); refine pwn ?_; intros
 (repeat apply za); refine pwn ?_; intros
 repeat apply za
 refine ze (zq (fun (s : Nat × Nat) => s.1 ≤ d.length) (fun (k, v3) => [(1, I c), (2, .ptr nx v0 0), (4, .ptr (nx + 1) v1 0), (6, .ptr (nx + 2) v2 0), (7, I (W (x7 c (d.take k).flatten))), (8, I k)]) (fun (k, v3) => [.cells v0 66 [L d], .cells v1 66 [zS], .cells v2 66 [.sl (nx + 3) v3 1 0 (yr c (d.take k)).length], .cells v3 72 ((yr c (d.take k)).flatMap Enc.enc)]) (fun s => d.length - s.1) (0, v3) [] (by simp) (by simp [x7]) (by simp [yr]) ?_)
 rintro ⟨k, v3⟩ hk
 simp only at hk ⊢
 (repeat apply za); refine pwn ?_; intros
 repeat apply za
 refine zl rfl (fun hc => ?_) (fun hc => ?_)
 ·simp at hc
  obtain ⟨t, tl, a1, a2, a3, e0⟩ := el1 rfl d k hc
  have hk1 : 1 ≤ d.length - k := by omega
  have htm := List.mem_of_getElem? a1
  have htn := hdt t htm
  have hrd := Zau c (d.take k) t
  rw [← a3] at hrd
  have hfl : (d.take (k + 1)).flatten = (d.take k).flatten ++ t := by rw [a3, List.flatten_append]; simp
  generalize (d.take k).flatten = pre at *
  have hrl : (yr c (d.take k)).length ≤ 1048576 := Nat.le_trans (J1 _ _) (by rw [List.length_take]; omega)
  refine zd (za (ze ?_))
  generalize hrk : yr c (d.take k) = rk at *
  have hfz : ∀ id v cs, (rk.flatMap Enc.enc).map (yo id v cs) = (rk.flatMap Enc.enc : List PV) := fun id v cs => JY id v cs rk
  have hrf : (rk.flatMap Enc.enc : List PV).length = rk.length := qm rk
  have hrt : (rk.flatMap Enc.enc : List PV).take rk.length = rk.flatMap Enc.enc := List.take_of_length_le (by omega)
  (repeat apply za); refine pwn ?_; intros
  refine yA 9 50 2 rfl fun v5 => ?_
  (repeat apply za); refine pwn ?_; intros
  repeat apply za
  refine ze (zq (fun (s : Nat × Nat) => s.1 ≤ t.length) (fun (j, v5) => [(1, I c), (2, .ptr nx v0 0), (4, .ptr (nx + 1) v1 0), (6, .ptr (nx + 2) v2 0), (7, I (W (x7 c (pre ++ t.take j)))), (8, I k), (9, .sl (nx + 4) v5 2 0 (yk c (t.take j)).length), (10, I j)]) (fun (j, v5) => [.cells v0 66 [L d], .cells v1 66 [zS], .cells v2 66 [.sl (nx + 3) v3 1 0 rk.length], .cells v3 72 (rk.flatMap Enc.enc), .cells v5 50 ((yk c (t.take j)).flatMap Enc.enc)]) (fun s => t.length - s.1) (0, v5) [] (by simp) (by simp [yk]) (by simp [yk]) ?_)
  rintro ⟨j, v5⟩ hj
  simp only at hj ⊢
  repeat apply za
  refine pwN [] (jn3 hc e0 hk1) ?_
  intros
  repeat apply za
  refine zl rfl (fun hcj => ?_) (fun hcj => ?_)
  ·simp at hcj
   obtain ⟨s, ts, b1, b2, b3, b4, b5⟩ := el 2 rfl t j hcj
   have b41 := b4 1 (by omega)
   have hj2 : 2 ≤ t.length * 2 - j * 2 := by omega
   have hsum := Zas c (pre ++ t.take j) s
   rw [List.append_assoc, ← b3] at hsum
   have hrs := Zat c (t.take j) s
   rw [← b3] at hrs
   have hul : (yk c (t.take j)).length ≤ 1048576 := Nat.le_trans (Qb _ _) (by rw [List.length_take]; omega)
   generalize yk c (t.take j) = u at *
   have huf : (u.flatMap Enc.enc : List PV).length = u.length * 2 := xi u
   have hut : (u.flatMap Enc.enc : List PV).take (u.length * 2) = u.flatMap Enc.enc := List.take_of_length_le (by omega)
   refine zd (za (ze ?_))
   repeat apply za
   refine pwN [] (jn6 hc e0 hk1 hcj b5 hj2) ?_
   intros
   repeat apply za
   refine zl rfl (fun hq => ?_) (fun hq => ?_)
   ·simp at hq
    rw [if_pos hq] at hsum hrs
    rw [List.append_nil] at hrs
    repeat apply za
    refine pwN [] (jn6 hc e0 hk1 hcj b41 hj2) ?_
    intros
    (repeat apply za); refine pwn ?_; intros
    exact zk (j + 1, v5) [] (by simp; omega) (by simp; omega) (by simp [wrN j (by omega), hsum, xg, hrs]) rfl (by simp [hrs])
   ·simp at hq
    rw [if_neg hq] at hsum hrs
    rw [Int.add_zero] at hsum
    have hul' : ((yk c (t.take (j + 1))).flatMap Enc.enc : List PV) = u.flatMap Enc.enc ++ [I s.c, I s.q] := by rw [hrs, List.flatMap_append]; rfl
    repeat apply za
    refine pwN [] (jn6 hc e0 hk1 hcj b5 (jn3 hj2 huf hut)) ?_
    refine ⟨by omega, ?_⟩
    intros
    (repeat apply za); refine pwn ?_; intros
    exact zk (j + 1, v5 + 1) [] (by simp; omega) (by simp; omega) (by simp [wrN j (by omega), hsum, hrs]) rfl (by simp [hul'])
  ·simp at hcj
   obtain rfl : j = t.length := by omega
   refine zm ?_
   rw [List.take_length]
   have hul : (yk c t).length ≤ 1048576 := Nat.le_trans (Qb _ _) htn
   generalize yk c t = u at *
   have huf : (u.flatMap Enc.enc : List PV).length = u.length * 2 := xi u
   refine zC 4 rfl ?_
   simp only [List.map_cons, List.map_nil, List.set_cons_succ, List.set_cons_zero, qD, hfz]
   (repeat apply za); refine pwn ?_; intros
   repeat apply za
   refine zl rfl (fun hq => ?_) (fun hq => ?_)
   ·simp at hq
    rw [if_neg (by omega)] at hrd
    have hrl' : ((rk ++ [u]).flatMap Enc.enc : List PV) = rk.flatMap Enc.enc ++ [L u] := by rw [List.flatMap_append]; rfl
    repeat apply za
    refine pwN [] (jn2 hrf hrt) ?_
    refine ⟨by omega, ?_⟩
    intros
    (repeat apply za); refine pwn ?_; intros
    exact zk (k + 1, v3 + 1) [_] (by simp; omega) (by simp; omega) (by simp [wrN k (by omega), hfl]) rfl (by simp [hrd, hrl']; exact rfl)
   ·simp at hq
    rw [if_pos (by rw [hq]; rfl), List.append_nil] at hrd
    refine zd ?_
    (repeat apply za); refine pwn ?_; intros
    exact zk (k + 1, v3) [_] (by simp; omega) (by simp; omega) (by simp [wrN k (by omega), hfl]) rfl (by simp [hrd]; exact rfl)
 ·simp at hc
  obtain rfl : k = d.length := by omega
  refine zm ?_
  refine zC 3 rfl ?_
  have g1 : d.take d.length = d := List.take_length
  (repeat apply za); refine pwn ?_; intros
  repeat apply za
  exact zb (zg hd (by simp; rfl) (by simp [zi, g1]))
set_option maxHeartbeats 1600000 in
theorem Ziu (p : zQ) (c : Int) (hp : p.length ≤ 1000) (hd0 : ∀ d ∈ p, d.length ≤ 1048576) (ht : ∀ d ∈ p, ∀ t ∈ d, t.length ≤ 1048576) : Pure Tryz.prog 29 [.agg [L p], I c] (.agg [L (woP c p)]) := by
 unfold woP
 refine pwe Tryz.func29 Tryz.ntmps29 Tryz.results29 fun S nx hd => ?_
 repeat apply za
 refine pwn ?_
 intro v0 v1
 repeat apply za
 refine pwn ?_
 intro v2
 refine qa 2 0 66 1 rfl rfl fun v3 => ?_
 (repeat apply za); refine pwn ?_; intros
 repeat apply za
 refine ze (zq (fun s : Nat × zQ × Nat => s.1 ≤ p.length ∧ s.2.1 = (p.take s.1).map (yr c)) (fun (k, q, w) => [(1, I c), (2, .ptr nx v0 0), (4, .ptr (nx + 1) v1 0), (5, .ptr (nx + 2) v2 0), (6, I k)]) (fun (k, q, w) => [.cells v0 29 [L p], .cells v1 29 [zS], .cells v2 29 [.sl (nx + 3) w 1 0 q.length], .cells w 66 (q.flatMap Enc.enc)]) (fun s => p.length - s.1) (0, [], v3) [] (by simp) (by simp) (by simp) ?_)
 rintro ⟨k, q, w⟩ ⟨hk, hq⟩
 simp only at hk hq ⊢
 have hql : q.length = k := by rw [hq]; simp; omega
 (repeat apply za); refine pwn ?_; intros
 repeat apply za
 refine zl rfl (fun hc => ?_) (fun hc => ?_)
 ·simp at hc
  obtain ⟨d, tl, a1, a2, a3, e0⟩ := el1 rfl p k hc
  have hdm := List.mem_of_getElem? a1
  have hr := Zit d c (hd0 d hdm) (ht d hdm)
  generalize hrd : yr c d = rd at hr
  have hk1 : 1 ≤ p.length - k := by omega
  have hqf : (q.flatMap Enc.enc : List PV).length = q.length := qm q
  have hqt : (q.flatMap Enc.enc : List PV).take q.length = q.flatMap Enc.enc := List.take_of_length_le (by omega)
  refine zd (za (ze ?_))
  repeat apply za
  refine pwN [] (jn3 hc e0 hk1) ?_
  refine pwC [] hr (jn3 hc e0 hk1) ?_
  intro v5
  intros
  repeat apply za
  refine pwN [] (jn2 hqf hqt) ?_
  refine ⟨by omega, ?_⟩
  intros
  (repeat apply za); refine pwn ?_; intros
  exact zk (k + 1, q ++ [rd], w + 1) [_] ⟨hc, by rw [a3, List.map_append, hq, ← hrd]; rfl⟩ (by simp; omega) (by simp [wrN k (by omega)]) rfl (by simp; exact rfl)
 ·simp at hc
  obtain rfl : k = p.length := by omega
  rw [List.take_length] at hq
  refine zm ?_
  refine zC 3 rfl ?_
  (repeat apply za); refine pwn ?_; intros
  repeat apply za
  exact zb (zg hd (by simp; rfl) (by simp [zi, hq]))
open Go
def Qs (q : List Int) : Prop := ∀ z ∈ q, 0 ≤ z ∧ z ≤ 2147483648
structure GoodV (n : Nat) (v : List Visit) : Prop where
 len : v.length ≤ 64
 ok : ∀ s ∈ v, (0 ≤ s.d ∧ s.d < n) ∧ 1 ≤ s.q ∧ s.q ≤ 2147483648
 nd : (v.map (·.d)).Nodup
set_option maxRecDepth 20000 in
theorem Zbp (c : Cust) (there cap : Int) (hs : 0 ≤ c.size ∧ c.size ≤ 2147483648) (ht : 0 ≤ there ∧ there ≤ 4611686018427387904) (hc : cap ≤ 2147483648) :
  RSpec Tryz.prog 131 [.agg (zM c), I there, I cap] (fun p => ∃ q, p = I q ∧ 0 ≤ q ∧ q ≤ 2147483648) := by
 have w1 : IntKind.i64.wrap (c.size - there) = c.size - there := wr _ (by omega) (by omega)
 refine wG Tryz.func131 Tryz.ntmps131 Tryz.results131 fun S nx hd => ?_
 repeat apply za
 refine pwn ?_
 intro v0
 repeat apply za
 refine pwN [] w1 ?_
 intros
 (repeat apply za); refine pwn ?_; intros
 refine zR (nx := nx) (σ := Int) (fun r => 0 ≤ r ∧ r ≤ 2147483648) (fun r => [(2, I cap), (3, .ptr nx v0 0), (7, I r)]) (fun _ => S) (fun _ => [.cells v0 41 (zM c)]) ?_ ?_
 ·by_cases h : c.size - there < 0
  ·repeat apply za
   refine zh (by simp; omega) ?_
   (repeat apply za); refine pwn ?_; intros
   exact zt 0 [] (by omega) (by simp) rfl (by simp)
  ·repeat apply za
   refine zj (by simp; omega) ?_
   refine zd ?_
   exact zt (c.size - there) [] (by omega) (by simp) rfl (by simp)
 intro r hr
 (repeat apply za); refine pwn ?_; intros
 refine zR (nx := nx) (σ := Int) (fun k => 0 ≤ k ∧ k ≤ 2147483648) (fun k => [(2, I k), (3, .ptr nx v0 0), (7, I r)]) (fun _ => S) (fun _ => [.cells v0 41 (zM c)]) ?_ ?_
 ·by_cases h : cap < 0
  ·repeat apply za
   refine zh (by simp [h]) ?_
   (repeat apply za); refine pwn ?_; intros
   exact zt 0 [] (by omega) (by simp) rfl (by simp)
  ·repeat apply za
   refine zj (by simp; omega) ?_
   refine zd ?_
   exact zt cap [] (by omega) (by simp) rfl (by simp)
 intro k hk
 (repeat apply za); refine pwn ?_; intros
 repeat apply za
 refine zl rfl (fun h1 => ?_) (fun h1 => ?_)
 ·(repeat apply za); refine pwn ?_; intros
  repeat apply za
  exact zb ⟨_, S, (by simp; rfl), ⟨⟨r, by simp [zi], hr⟩, rfl⟩, zL hd⟩
 ·refine zd ?_
  (repeat apply za); refine pwn ?_; intros
  repeat apply za
  refine zl rfl (fun h2 => ?_) (fun h2 => ?_)
  ·(repeat apply za); refine pwn ?_; intros
   repeat apply za
   exact zb ⟨_, S, (by simp; rfl), ⟨⟨0, by simp [zi], by omega⟩, rfl⟩, zL hd⟩
  ·refine zd ?_
   (repeat apply za); refine pwn ?_; intros
   repeat apply za
   exact zb ⟨_, S, (by simp; rfl), ⟨⟨k, by simp [zi], hk⟩, rfl⟩, zL hd⟩
set_option maxRecDepth 20000 in
theorem Zbq (c : Cust) (n : Nat) (cap : Int) (late : Bool) (hc : CustFits c) (hn : n ≤ 64) (hcap : cap ≤ 2147483648) :
  RSpec Tryz.prog 92 [.agg (zM c), I n, I cap, B late] (fun p => ∃ q b, p = .tup [L q, B b] ∧ q.length = n ∧ Qs q) := by
 have hr := hc.rate
 have hst := hc.start
 refine wG Tryz.func92 Tryz.ntmps92 Tryz.results92 fun S nx hd => ?_
 repeat apply za
 refine pwn ?_
 intro v0
 (repeat apply za); refine pwn ?_; intros
 refine za (yA 10 3 1 rfl fun v1 => ?_)
 (repeat apply za); refine pwn ?_; intros
 (repeat apply za); refine pwn ?_; intros
 repeat apply za
 refine ze (zq (fun s : Nat × Int × List Int × Nat => s.1 ≤ n ∧ (-4294967296 * (s.1 + 1 : Int) ≤ s.2.1 ∧ s.2.1 ≤ 4294967296 * (s.1 + 1 : Int)) ∧ s.2.2.1.length = s.1 ∧ Qs s.2.2.1) (fun (k, there, out, v1) => [(1, I n), (2, I cap), (3, B late), (4, .ptr nx v0 0), (10, .sl (nx + 1) v1 1 0 out.length), (11, I there), (12, I k)]) (fun (k, there, out, v1) => [.cells v0 41 (zM c), .cells v1 3 (out.flatMap Enc.enc)]) (fun s => n - s.1) (0, c.start, [], v1) [] ⟨by simp, by dsimp only; omega, rfl, by intro z hz; cases hz⟩ (by simp) (by simp) ?_)
 rintro ⟨k, there, out, v1⟩ ⟨hk, hth, hol, hq⟩
 simp only at hk hth hol hq ⊢
 (repeat apply za); refine pwn ?_; intros
 repeat apply za
 refine zl rfl (fun hc1 => ?_) (fun hc1 => ?_)
 ·simp at hc1
  refine zd (za (ze ?_))
  (repeat apply za); refine pwn ?_; intros
  repeat apply za
  refine zR (nx := nx) (σ := Bool × Nat) (fun _ => True) (fun (t, v1) => [(1, I n), (2, I cap), (3, B late), (4, .ptr nx v0 0), (10, .sl (nx + 1) v1 1 0 out.length), (11, I there), (12, I k), (13, I 0), (29, B t)]) (fun _ => S) (fun (t, v1) => [.cells v0 41 (zM c), .cells v1 3 (out.flatMap Enc.enc)]) ?_ ?_
  ·cases late with
   | true =>
    by_cases h : there < c.rate
    ·repeat apply za
     refine pwN [(2, 24)] h ?_
     intros
     exact zt (true, v1) [] trivial (by simp) rfl (by simp)
    ·repeat apply za
     refine pwN [(2, 24)] h ?_
     intros
     exact zt (false, v1) [] trivial (by simp) rfl (by simp)
   | false =>
    repeat apply za
    refine pwN [(2, 24)] zn ?_
    intros
    exact zt (true, v1) [] trivial (by simp) rfl (by simp)
  rintro ⟨t, v1⟩ -
  simp only
  repeat apply za
  refine zR (nx := nx) (σ := Int × Nat) (fun z => 0 ≤ z.1 ∧ z.1 ≤ 2147483648) (fun (z, v1) => [(1, I n), (2, I cap), (3, B late), (4, .ptr nx v0 0), (10, .sl (nx + 1) v1 1 0 out.length), (11, I there), (12, I k), (13, I z)]) (fun _ => S) (fun (z, v1) => [.cells v0 41 (zM c), .cells v1 3 (out.flatMap Enc.enc)]) ?_ ?_
  ·cases t with
   | true =>
    repeat apply za
    refine zh rfl ?_
    (repeat apply za); refine pwn ?_; intros
    (repeat apply za); refine pwn ?_; intros
    by_cases h0 : there < 0
    ·repeat apply za
     refine zh (by simp [h0]) ?_
     (repeat apply za); refine pwn ?_; intros
     repeat apply za
     refine zN [] (by rfl) (by rfl) fun K Gc Gh hK hGc hGh X hX0 hX => ?_
     simp -implicitDefEqProofs [hX0, hX]
     try clear hX0 hX X
     refine hGc _ _ _ _ _ _ _ fun hsuf => ((Zbp c 0 cap hc.size (by omega) hcap _).mono ?_).v
     rintro _ _ ⟨⟨q, rfl, h1, h2⟩, rfl⟩
     refine ⟨_, _, rfl, ?_⟩
     clear hGc hGh
     clear Gc Gh
     refine zI hsuf (D := []) (by rfl) fun Gc Gh hGc hGh X hX0 hX => ?_
     simp -implicitDefEqProofs [hX0, hX]
     try clear hX0 hX X
     intros
     refine hK _ _ _ ?_
     clear hK hGc hGh
     clear K Gc Gh
     exact zt (q, v1) [] ⟨h1, h2⟩ (by simp) rfl (by simp)
    ·repeat apply za
     refine zj (by simp; omega) ?_
     refine zd ?_
     repeat apply za
     refine zN [] (by rfl) (by rfl) fun K Gc Gh hK hGc hGh X hX0 hX => ?_
     simp -implicitDefEqProofs [hX0, hX]
     try clear hX0 hX X
     refine hGc _ _ _ _ _ _ _ fun hsuf => ((Zbp c there cap hc.size (by omega) hcap _).mono ?_).v
     rintro _ _ ⟨⟨q, rfl, h1, h2⟩, rfl⟩
     refine ⟨_, _, rfl, ?_⟩
     clear hGc hGh
     clear Gc Gh
     refine zI hsuf (D := []) (by rfl) fun Gc Gh hGc hGh X hX0 hX => ?_
     simp -implicitDefEqProofs [hX0, hX]
     try clear hX0 hX X
     intros
     refine hK _ _ _ ?_
     clear hK hGc hGh
     clear K Gc Gh
     exact zt (q, v1) [] ⟨h1, h2⟩ (by simp) rfl (by simp)
   | false =>
    repeat apply za
    refine zj rfl ?_
    refine zd ?_
    exact zt (0, v1) [] (by simp) (by simp) rfl (by simp)
  ·rintro ⟨z, v1⟩ hz
   simp only at hz ⊢
   have w1 : IntKind.i64.wrap (there + z) = there + z := wr _ (by omega) (by omega)
   have w2 : IntKind.i64.wrap (there + z - c.rate) = there + z - c.rate := wr _ (by omega) (by omega)
   repeat apply za
   refine pwn ?_
   refine ⟨by omega, ?_⟩
   intros
   repeat apply za
   refine pwN [] (jn2 w1 w2) ?_
   intros
   (repeat apply za); refine pwn ?_; intros
   exact zk (k + 1, there + z - c.rate, out ++ [z], v1 + 1) [] ⟨by omega, by dsimp only; omega, by simp [hol], fun y hy => by rcases List.mem_append.1 hy with h | h; exact hq y h; rw [List.mem_singleton.1 h]; exact hz⟩ (by simp; omega) (by simp [wrN k (by omega)]) rfl (by simp)
 ·simp at hc1
  obtain rfl : k = n := by omega
  refine zm ?_
  refine zC 1 rfl ?_
  repeat apply za
  refine pwn ?_
  refine pwc (Xq c out hc (by omega)) ?_
  intros
  repeat apply za
  exact zb ⟨_, S, (by simp; rfl), ⟨⟨out, _, by simp [zi]; rfl, hol, hq⟩, rfl⟩, zL hd⟩
set_option maxRecDepth 20000 in
theorem Ziv (c : Cust) (n : Nat) (cap : Int) (set : Nat) (hc : CustFits c) (hn : n ≤ 64) (hcap : cap ≤ 2147483648) (hset : set < 2 ^ 64) :
  RSpec Tryz.prog 94 [.agg (zM c), I n, I cap, U set] (fun p => ∃ q b, p = .tup [L q, B b] ∧ q.length ≤ n ∧ Qs q) := by
 have hr := hc.rate
 have hst := hc.start
 have hsz := hc.size
 refine wG Tryz.func94 Tryz.ntmps94 Tryz.results94 fun S nx hd => ?_
 repeat apply za
 refine pwn ?_
 intro v0
 (repeat apply za); refine pwn ?_; intros
 refine za (yA 10 3 1 rfl fun v1 => ?_)
 (repeat apply za); refine pwn ?_; intros
 (repeat apply za); refine pwn ?_; intros
 repeat apply za
 refine ze (zq (fun s : Nat × Int × List Int × Nat => s.1 ≤ n ∧ (-4294967296 * (s.1 + 1 : Int) ≤ s.2.1 ∧ s.2.1 ≤ 4294967296 * (s.1 + 1 : Int)) ∧ s.2.2.1.length = s.1 ∧ Qs s.2.2.1) (fun (k, there, out, v1) => [(1, I n), (2, I cap), (3, U set), (4, .ptr nx v0 0), (10, .sl (nx + 1) v1 1 0 out.length), (11, I there), (12, I k)]) (fun (k, there, out, v1) => [.cells v0 41 (zM c), .cells v1 3 (out.flatMap Enc.enc)]) (fun s => n - s.1) (0, c.start, [], v1) [] ⟨by simp, by dsimp only; omega, rfl, by intro z hz; cases hz⟩ (by simp) (by simp) ?_)
 rintro ⟨k, there, out, v1⟩ ⟨hk, hth, hol, hq⟩
 simp only at hk hth hol hq ⊢
 (repeat apply za); refine pwn ?_; intros
 repeat apply za
 refine zl rfl (fun hc1 => ?_) (fun hc1 => ?_)
 ·simp at hc1
  refine zd (za (ze ?_))
  (repeat apply za); refine pwn ?_; intros
  repeat apply za
  repeat apply za
  refine pwn ?_
  refine pwc (WQ set k hset (by omega) (by omega)) ?_
  intros
  repeat apply za
  refine zR (nx := nx) (σ := Int × Nat) (fun z => 0 ≤ z.1 ∧ z.1 ≤ 2147483648) (fun (z, v1) => [(1, I n), (2, I cap), (3, U set), (4, .ptr nx v0 0), (10, .sl (nx + 1) v1 1 0 out.length), (11, I there), (12, I k), (13, I z)]) (fun _ => S) (fun (z, v1) => [.cells v0 41 (zM c), .cells v1 3 (out.flatMap Enc.enc)]) ?_ ?_
  ·repeat apply za
   refine zl rfl (fun hb => ?_) (fun hb => ?_)
   ·have w1 : IntKind.i64.wrap (c.size - there) = c.size - there := wr _ (by omega) (by omega)
    repeat apply za
    refine pwN [] w1 ?_
    intros
    by_cases h1 : c.size - there < 1
    ·repeat apply za
     refine pwN [(2, 30)] (jn2 h1 zn) ?_
     intros
     repeat apply za
     refine zh rfl ?_
     (repeat apply za); refine pwn ?_; intros
     refine xW 8 rfl ?_
     repeat apply za
     exact zb ⟨_, S, (by simp; rfl), ⟨⟨[], false, by simp [zi], by simp, by intro z hz; cases hz⟩, rfl⟩, zL hd⟩
    by_cases h2 : cap < c.size - there
    ·repeat apply za
     refine pwN [(2, 30)] (jn2 h1 h2) ?_
     intros
     repeat apply za
     refine zh rfl ?_
     (repeat apply za); refine pwn ?_; intros
     refine xW 8 rfl ?_
     repeat apply za
     exact zb ⟨_, S, (by simp; rfl), ⟨⟨[], false, by simp [zi], by simp, by intro z hz; cases hz⟩, rfl⟩, zL hd⟩
    repeat apply za
    refine pwN [(2, 30)] (jn2 h1 h2) ?_
    intros
    repeat apply za
    refine zj rfl ?_
    refine zd ?_
    exact zt (c.size - there, v1) [] (by dsimp only; omega) (by simp) rfl (by simp)
   ·refine zd ?_
    exact zt (0, v1) [] (by simp) (by simp) rfl (by simp)
  ·rintro ⟨z, v1⟩ hz
   simp only at hz ⊢
   have w1 : IntKind.i64.wrap (there + z) = there + z := wr _ (by omega) (by omega)
   have w2 : IntKind.i64.wrap (there + z - c.rate) = there + z - c.rate := wr _ (by omega) (by omega)
   repeat apply za
   refine pwn ?_
   refine ⟨by omega, ?_⟩
   intros
   repeat apply za
   refine pwN [] (jn2 w1 w2) ?_
   intros
   (repeat apply za); refine pwn ?_; intros
   exact zk (k + 1, there + z - c.rate, out ++ [z], v1 + 1) [] ⟨by omega, by dsimp only; omega, by simp [hol], fun y hy => by rcases List.mem_append.1 hy with h | h; exact hq y h; rw [List.mem_singleton.1 h]; exact hz⟩ (by simp; omega) (by simp [wrN k (by omega)]) rfl (by simp)
 ·simp at hc1
  obtain rfl : k = n := by omega
  refine zm ?_
  refine zC 1 rfl ?_
  repeat apply za
  refine pwn ?_
  refine pwc (Xq c out hc (by omega)) ?_
  intros
  repeat apply za
  exact zb ⟨_, S, (by simp; rfl), ⟨⟨out, _, by simp [zi]; rfl, by omega, hq⟩, rfl⟩, zL hd⟩
def yX : Nat → List Int → List Visit
 | _, [] => []
 | i, z :: l => if 0 < z then ⟨i, z⟩ :: yX (i + 1) l else yX (i + 1) l
theorem Zbr : ∀ (l : List Int) (i : Nat), (yX i l).length ≤ l.length
 | [], _ => by simp [yX]
 | z :: l, i => by
  have := Zbr l (i + 1)
  simp only [yX]; split <;> simp <;> omega
theorem Zbs : ∀ (l : List Int) (i : Nat), Qs l → ∀ s ∈ yX i l, ((i : Int) ≤ s.d ∧ s.d < (i + l.length : Nat)) ∧ 1 ≤ s.q ∧ s.q ≤ 2147483648
 | [], _, _ => by intro s hs; cases hs
 | z :: l, i, h => by
  have ih := Zbs l (i + 1) fun x hx => h x (by simp [hx])
  have hz := h z (by simp)
  intro s hs
  simp only [yX] at hs
  split at hs
  ·rcases List.mem_cons.1 hs with rfl | hs
   ·simp only [List.length_cons]; omega
   ·have := ih s hs; simp only [List.length_cons]; omega
  ·have := ih s hs; simp only [List.length_cons]; omega
theorem Zbt : ∀ (l : List Int) (i : Nat), ∀ s ∈ yX i l, (i : Int) ≤ s.d
 | [], _ => by intro s hs; cases hs
 | z :: l, i => by
  have ih := Zbt l (i + 1)
  intro s hs
  simp only [yX] at hs
  split at hs
  ·rcases List.mem_cons.1 hs with rfl | hs
   ·exact Int.le_refl _
   ·have := ih s hs; omega
  ·have := ih s hs; omega
theorem Zbu : ∀ (l : List Int) (i : Nat), ((yX i l).map (·.d)).Nodup
 | [], _ => by simp [yX]
 | z :: l, i => by
  have ih := Zbu l (i + 1)
  simp only [yX]
  split
  ·rw [List.map_cons, List.nodup_cons]
   refine ⟨fun h => ?_, ih⟩
   obtain ⟨s, hs, e⟩ := List.mem_map.1 h
   have := Zbt l (i + 1) s hs
   simp only at e; omega
  ·exact ih
theorem Ziw (n a k : Nat) : (zX n a k).Nodup := by
 unfold zX
 refine List.Pairwise.map _ (fun x y (h : x ≠ y) => ?_) (List.Pairwise.filter _ List.nodup_range)
 intro e; apply h; omega
theorem Xz {q : List Int} {n : Nat} (hq : Qs q) (hl : q.length ≤ n) (hn : n ≤ 64) : GoodV n (yX 0 q) := by
 refine ⟨Nat.le_trans (Zbr q 0) (by omega), fun s hs => ?_, Zbu q 0⟩
 have := Zbs q 0 hq s hs
 omega
set_option maxRecDepth 20000 in
theorem XA (q : List Int) (hq : q.length ≤ 1048576) : Pure Tryz.prog 63 [L q] (L (yX 0 q)) := by
 refine pwe Tryz.func63 Tryz.ntmps63 Tryz.results63 fun S nx hd => ?_
 (repeat apply za); refine pwn ?_; intros
 (repeat apply za); refine pwn ?_; intros
 refine za (yA 3 103 2 rfl fun v1 => ?_)
 (repeat apply za); refine pwn ?_; intros
 repeat apply za
 refine ze (zq (fun s : Nat × List Visit × Nat => s.1 ≤ q.length ∧ s.2.1.length ≤ s.1 ∧ yX 0 q = s.2.1 ++ yX s.1 (q.drop s.1)) (fun (k, out, v1) => [(0, L q), (3, .sl nx v1 2 0 out.length), (4, I k)]) (fun (k, out, v1) => [.cells v1 103 (out.flatMap Enc.enc)]) (fun s => q.length - s.1) (0, [], v1) [] (by simp) (by simp) (by simp) ?_)
 rintro ⟨k, out, v1⟩ ⟨hk, hol, ho⟩
 simp only at hk hol ho ⊢
 (repeat apply za); refine pwn ?_; intros
 repeat apply za
 refine zl rfl (fun hc => ?_) (fun hc => ?_)
 ·simp at hc
  obtain ⟨z, tl, a1, a2, a3, e0⟩ := el1 rfl q k hc
  rw [a2] at ho
  simp only [yX] at ho
  refine zd (za (ze ?_))
  by_cases h : 0 < z
  ·rw [if_pos h] at ho
   repeat apply za
   refine pwN [] (jn2 e0 hc) ?_
   intros
   repeat apply za
   refine zh (by simp [h]) ?_
   repeat apply za
   refine pwN [] (jn2 e0 hc) ?_
   refine ⟨by omega, ?_⟩
   intros
   (repeat apply za); refine pwn ?_; intros
   exact zk (k + 1, out ++ [⟨k, z⟩], v1 + 1) [] ⟨hc, by simp; omega, by rw [ho]; simp⟩ (by simp; omega) (by simp [wrN k (by omega)]) rfl (by simp)
  ·rw [if_neg h] at ho
   repeat apply za
   refine pwN [] (jn2 e0 hc) ?_
   intros
   repeat apply za
   refine zj (by simp; omega) ?_
   refine zd ?_
   (repeat apply za); refine pwn ?_; intros
   exact zk (k + 1, out, v1) [] ⟨hc, Nat.le_succ_of_le hol, ho⟩ (by simp; omega) (by simp [wrN k (by omega)]) rfl (by simp)
 ·simp at hc
  obtain rfl : k = q.length := by omega
  rw [List.drop_length] at ho
  simp only [yX, List.append_nil] at ho
  refine zm ?_
  (repeat apply za); refine pwn ?_; intros
  refine zC 0 rfl ?_
  repeat apply za
  exact zb (zg hd (by simp; rfl) (by rw [ho]; simp [zi]))
set_option maxRecDepth 20000 in
theorem Zix (l : List Int) (d : Int) : RSpec Tryz.prog 132 [L l, I d] (fun p => ∃ z, p = I z) := by
 refine wG Tryz.func132 Tryz.ntmps132 Tryz.results132 fun S nx hd => ?_
 (repeat apply za); refine pwn ?_; intros
 by_cases h1 : d < 0
 ·repeat apply za
  refine pwN [(2, 7)] (jn2 h1 zn) ?_
  intros
  repeat apply za
  refine zh rfl ?_
  (repeat apply za); refine pwn ?_; intros
  repeat apply za
  exact zb ⟨_, S, (by simp; rfl), ⟨⟨0, rfl⟩, rfl⟩, zL hd⟩
 by_cases h2 : (l.length : Int) ≤ d
 ·repeat apply za
  refine pwN [(2, 7)] (jn2 h1 h2) ?_
  intros
  repeat apply za
  refine zh rfl ?_
  (repeat apply za); refine pwn ?_; intros
  repeat apply za
  exact zb ⟨_, S, (by simp; rfl), ⟨⟨0, rfl⟩, rfl⟩, zL hd⟩
 obtain ⟨k, rfl⟩ := Int.eq_ofNat_of_zero_le (show 0 ≤ d by omega)
 obtain ⟨z, tl, a1, a2, a3, e0⟩ := el1 rfl l k (by omega)
 have hk : k < l.length := by omega
 repeat apply za
 refine pwN [(2, 7)] (jn2 h1 h2) ?_
 intros
 repeat apply za
 refine zj rfl ?_
 refine zd ?_
 repeat apply za
 refine pwN [] (jn2 hk e0) ?_
 intros
 repeat apply za
 exact zb ⟨_, S, (by simp; rfl), ⟨⟨z, rfl⟩, rfl⟩, zL hd⟩
set_option maxRecDepth 20000 in
theorem Zbv (c : Cust) (n : Int) (l : List Int) (v : List Visit) (hc : CustFits c) (hv : VisOk v) : RSpec Tryz.prog 93 [.agg (zM c), I n, L l, L v] (fun p => ∃ z, p = I z) := by
 have hvn := hv.n
 have hb := Za9 v n hv
 have hbn : (wh v n).length ≤ 1048576 := by rw [Za6]; omega
 generalize wh v n = q at hb hbn
 have hni := Za7 c q hc hbn
 have hnl : (qK c q).1.length ≤ 1048576 := by
  unfold qK
  split
  ·simp
  ·cases h : qJ c.size c.rate c.start q with
   | none => simp
   | some l => simp [Za8 h]; exact hbn
 have hhe := Zh7 c (qK c q).1 hnl
 generalize Za5 c (qK c q).1 = hz at hhe
 generalize qK c q = ne at hni hhe
 obtain ⟨ns, er⟩ := ne
 simp only at hni hhe
 refine wG Tryz.func93 Tryz.ntmps93 Tryz.results93 fun S nx hd => ?_
 repeat apply za
 refine pwn ?_
 intro v0
 (repeat apply za); refine pwn ?_; intros
 (repeat apply za); refine pwn ?_; intros
 repeat apply za
 refine zR (nx := nx) (σ := Int) (fun _ => True) (fun z => [(1, I n), (3, L v), (4, .ptr nx v0 0), (9, I z)]) (fun _ => S) (fun _ => [.cells v0 41 (zM c)]) ?_ ?_
 ·refine ze (zq (fun s : Nat × Int => s.1 ≤ v.length) (fun (k, z) => [(1, I n), (2, L l), (3, L v), (4, .ptr nx v0 0), (9, I z), (10, I k)]) (fun _ => [.cells v0 41 (zM c)]) (fun s => v.length - s.1) (0, 0) [] (by simp) (by simp) (by simp) ?_)
  rintro ⟨k, z⟩ hk
  simp only at hk ⊢
  (repeat apply za); refine pwn ?_; intros
  repeat apply za
  refine zl rfl (fun hc1 => ?_) (fun hc1 => ?_)
  ·simp at hc1
   obtain ⟨s, tl, a1, a2, a3, _, e0⟩ := el 2 rfl v k hc1
   refine zd (za (ze ?_))
   repeat apply za
   refine zN [] (by rfl) (by rfl) fun K Gc Gh hK hGc hGh X hX0 hX => ?_
   simp -implicitDefEqProofs [hX0, hX, hc1, e0]
   try clear hX0 hX X
   refine hGc _ _ _ _ _ _ _ fun hsuf => ((Zix l s.d _).mono ?_).v
   rintro _ _ ⟨⟨y, rfl⟩, rfl⟩
   refine ⟨_, _, rfl, ?_⟩
   clear hGc hGh
   clear Gc Gh
   refine zI hsuf (D := []) (by rfl) fun Gc Gh hGc hGh X hX0 hX => ?_
   simp -implicitDefEqProofs [hX0, hX]
   try clear hX0 hX X
   intros
   refine hK _ _ _ ?_
   clear hK hGc hGh
   clear K Gc Gh
   (repeat apply za); refine pwn ?_; intros
   exact zk (k + 1, IntKind.i64.wrap (z + y)) [] hc1 (by simp; omega) (by simp [wrN k (by omega)]) rfl (by simp)
  ·simp at hc1
   exact zm (zt z [] trivial (by simp) rfl (by simp))
 intro z _
 (repeat apply za); refine pwn ?_; intros
 refine zR (nx := nx) (σ := Int) (fun _ => True) (fun z => [(9, I z)]) (fun _ => S) (fun _ => []) ?_ ?_
 ·repeat apply za
  refine zl rfl (fun hk => ?_) (fun hk => ?_)
  ·repeat apply za
   refine pwY (some [nx]) (Row.pures [0, 1, 2, 3, 4, 5, 6, 7, 8, 9] .done) mixed trivial ?_
   refine pwP (hb) trivial ?_
   refine pwP (hni) trivial ?_
   intros
   repeat apply za
   refine pwn ?_
   refine pwc hhe ?_
   intros
   exact zt (IntKind.i64.wrap (z + hz)) [_] trivial (by simp) rfl rfl
  ·refine zd ?_
   exact zt z [_] trivial (by simp) rfl rfl
 intro z _
 (repeat apply za); refine pwn ?_; intros
 repeat apply za
 exact zb ⟨_, S, (by simp; rfl), ⟨⟨z, rfl⟩, rfl⟩, zL hd⟩
def jP (c : Cust) (p : Nat) : List Visit := (zX p 0 64).map fun d => ⟨d, c.demand⟩
set_option maxRecDepth 20000 in
theorem Ziy (c : Cust) (p : Nat) (hp : p < 2 ^ 64) : Pure Tryz.prog 61 [.agg (zM c), U p] (L (jP c p)) := by
 have hall := Zbb p hp
 have hln := uo p 0 64
 unfold jP
 generalize zX p 0 64 = l at hall hln
 refine pwe Tryz.func61 Tryz.ntmps61 Tryz.results61 fun S nx hd => ?_
 repeat apply za
 refine pwn ?_
 intro v0
 (repeat apply za); refine pwn ?_; intros
 refine za (yA 5 103 2 rfl fun v1 => ?_)
 repeat apply za
 refine pwn ?_
 refine pwc hall ?_
 intros
 (repeat apply za); refine pwn ?_; intros
 repeat apply za
 refine ze (zq (fun s : Nat × List Visit × Nat => s.1 ≤ l.length ∧ s.2.1 = (l.take s.1).map fun d => ⟨d, c.demand⟩) (fun (k, out, v1) => [(2, .ptr nx v0 0), (5, .sl (nx + 1) v1 2 0 out.length), (6, L l), (7, I k)]) (fun (k, out, v1) => [.cells v0 41 (zM c), .cells v1 103 (out.flatMap Enc.enc)]) (fun s => l.length - s.1) (0, [], v1) [] (by simp) (by simp) (by simp) ?_)
 rintro ⟨k, out, v1⟩ ⟨hk, ho⟩
 simp only at hk ho ⊢
 have hol : out.length = k := by rw [ho]; simp; omega
 (repeat apply za); refine pwn ?_; intros
 repeat apply za
 refine zl rfl (fun hc => ?_) (fun hc => ?_)
 ·simp at hc
  obtain ⟨d, tl, a1, a2, a3, e0⟩ := el1 rfl l k hc
  refine zd (za (ze ?_))
  repeat apply za
  refine pwY (some [nx]) (Row.pures [0, 1, 2, 3, 4, 5, 6, 7, 8] (.alt 9 (Row.pures [10] .done) .stop)) mixed (jn2 e0 hc) ?_
  refine ⟨by omega, ?_⟩
  intros
  (repeat apply za); refine pwn ?_; intros
  exact zk (k + 1, out ++ [⟨d, c.demand⟩], v1 + 1) [] ⟨hc, by rw [a3, ho]; simp⟩ (by simp; omega) (by simp [wrN k (by omega)]) rfl (by simp)
 ·simp at hc
  obtain rfl : k = l.length := by omega
  rw [List.take_length] at ho
  refine zm ?_
  (repeat apply za); refine pwn ?_; intros
  refine zC 1 rfl ?_
  repeat apply za
  exact zb (zg hd (by simp; rfl) (by rw [ho]; simp [zi]))
set_option maxRecDepth 20000 in
theorem Ziz (c : Cust) (n : Nat) (cap : Int) (l : List Int) (hc : CustFits c) (hn : n ≤ 64) (hcap : cap ≤ 2147483648) :
  RSpec Tryz.prog 54 [.agg (zM c), I n, I cap, L l] (fun p => ∃ v b, p = .tup [L v, B b] ∧ (b = true → GoodV n v)) := by
 have vok : ∀ v, GoodV n v → VisOk v := fun v h => ⟨Nat.le_trans h.len (by decide), fun s hs => by have := h.ok s hs; omega, fun s hs => by have := h.ok s hs; unfold I64; omega⟩
 refine wG Tryz.func54 Tryz.ntmps54 Tryz.results54 fun S nx hd => ?_
 repeat apply za
 refine pwn ?_
 intro v0
 repeat apply za
 refine zN [] (by rfl) (by rfl) fun K Gc Gh hK hGc hGh X hX0 hX => ?_
 simp -implicitDefEqProofs [hX0, hX]
 try clear hX0 hX X
 refine hGc _ _ _ _ _ _ _ fun hsuf => ((Zbq c n cap false hc hn hcap _).mono ?_).v
 rintro _ _ ⟨⟨q, b, rfl, hq1, hq2⟩, rfl⟩
 refine ⟨_, _, rfl, ?_⟩
 clear hGc hGh
 clear Gc Gh
 refine zI hsuf (D := []) (by rfl) fun Gc Gh hGc hGh X hX0 hX => ?_
 simp -implicitDefEqProofs [hX0, hX]
 try clear hX0 hX X
 intros
 refine hK _ _ _ ?_
 clear hK hGc hGh
 clear K Gc Gh
 have gq := Xz hq2 (Nat.le_of_eq hq1) hn
 cases b with
 | false =>
  (repeat apply za); refine pwn ?_; intros
  repeat apply za
  refine zh rfl ?_
  (repeat apply za); refine pwn ?_; intros
  refine xW 8 rfl ?_
  repeat apply za
  exact zb ⟨_, S, (by simp; rfl), ⟨⟨[], false, by simp [zi], fun h => nomatch h⟩, rfl⟩, zL hd⟩
 | true =>
  (repeat apply za); refine pwn ?_; intros
  repeat apply za
  refine zj rfl ?_
  refine zd ?_
  repeat apply za
  refine pwn ?_
  refine pwc (XA q (by omega)) ?_
  intros
  repeat apply za
  refine zN [] (by rfl) (by rfl) fun K Gc Gh hK hGc hGh X hX0 hX => ?_
  simp -implicitDefEqProofs [hX0, hX]
  try clear hX0 hX X
  refine hGc _ _ _ _ _ _ _ fun hsuf => ((Zbq c n cap true hc hn hcap _).mono ?_).v
  rintro _ _ ⟨⟨q', b', rfl, hq1', hq2'⟩, rfl⟩
  refine ⟨_, _, rfl, ?_⟩
  clear hGc hGh
  clear Gc Gh
  refine zI hsuf (D := []) (by rfl) fun Gc Gh hGc hGh X hX0 hX => ?_
  simp -implicitDefEqProofs [hX0, hX]
  try clear hX0 hX X
  intros
  refine hK _ _ _ ?_
  clear hK hGc hGh
  clear K Gc Gh
  have gq' := Xz hq2' (Nat.le_of_eq hq1') hn
  repeat apply za
  refine pwn ?_
  refine pwc (XA q' (by omega)) ?_
  intros
  cases b' with
  | false =>
   repeat apply za
   refine pwY (some [nx]) (Row.pures [0, 1, 2, 3, 4, 5, 6, 7, 8, 9, 10, 11, 12, 13] .done) mixed zn ?_
   intros
   repeat apply za
   refine zj rfl ?_
   refine zd ?_
   (repeat apply za); refine pwn ?_; intros
   repeat apply za
   exact zb ⟨_, S, (by simp; rfl), ⟨⟨yX 0 q, true, by simp [zi], fun _ => gq⟩, rfl⟩, zL hd⟩
  | true =>
   have e1 := Zbv c n l (yX 0 q') hc (vok _ gq')
   have e2 := Zbv c n l (yX 0 q) hc (vok _ gq)
   generalize yX 0 q' = w at *
   generalize yX 0 q = v at *
   repeat apply za
   refine xV (some [nx]) (Row.pures [0, 1, 2, 3, 4, 5, 7, 8, 9, 10] (.alt 6 (.alt 11 (Row.pures [12, 13] .done) .stop) .stop)) mixed (by rfl) (by rfl) (by rfl) fun K Gp Gc Gh hK hGp hGc hGh X hX0 hX1 hX2 hX => ?_
   simp -implicitDefEqProofs [hX0, hX1, hX2, hX]
   try clear hX0 hX1 hX2 hX X
   refine hGc _ _ _ _ _ _ _ (((e1 _).mono ?_).v)
   rintro _ _ ⟨⟨y, rfl⟩, rfl⟩
   refine ⟨by simp, ?_⟩
   clear hGp hGc hGh
   clear Gp Gc Gh
   refine ju fun Gp Gc Gh hGp hGc hGh X hX0 hX1 hX2 hX => ?_
   simp -implicitDefEqProofs [hX0, hX1, hX2, hX]
   try clear hX0 hX1 hX2 hX X
   refine hGc _ _ _ _ _ _ _ (((e2 _).mono ?_).v)
   rintro _ _ ⟨⟨z, rfl⟩, rfl⟩
   refine ⟨by simp, ?_⟩
   clear hGp hGc hGh
   clear Gp Gc Gh
   refine ju fun Gp Gc Gh hGp hGc hGh X hX0 hX1 hX2 hX => ?_
   simp -implicitDefEqProofs [hX0, hX1, hX2, hX]
   try clear hX0 hX1 hX2 hX X
   refine hK _ _ _ ?_
   clear hK hGp hGc hGh
   clear K Gp Gc Gh
   repeat apply za
   refine zl rfl (fun h => ?_) (fun h => ?_)
   ·(repeat apply za); refine pwn ?_; intros
    repeat apply za
    exact zb ⟨_, S, (by simp; rfl), ⟨⟨w, true, by simp [zi], fun _ => gq'⟩, rfl⟩, zL hd⟩
   ·refine zd ?_
    (repeat apply za); refine pwn ?_; intros
    repeat apply za
    exact zb ⟨_, S, (by simp; rfl), ⟨⟨v, true, by simp [zi], fun _ => gq⟩, rfl⟩, zL hd⟩
open Go
set_option maxRecDepth 20000 in
theorem ZiA (c : Cust) (n : Nat) (cap : Int) (hc : CustFits c) (hn : n ≤ 16) (hcap : cap ≤ 2147483648) (hp : ∀ p ∈ c.pats, p < 2 ^ 64) (hpl : c.pats.length ≤ 1048576) (hpd : c.kind = 1 → (∀ p ∈ c.pats, ∀ d ∈ zX p 0 64, d < n) ∧ 1 ≤ c.demand ∧ c.demand ≤ 2147483648) :
  RSpec Tryz.prog 55 [.agg (zM c), I n, I cap] (fun p => ∃ vs : List (List Visit), p = L vs ∧ vs.length ≤ 1048576 ∧ ∀ v ∈ vs, GoodV n v) := by
 have patg : c.kind = 1 → ∀ p ∈ c.pats, GoodV n (jP c p) := fun hk p hpm => by
  obtain ⟨h1, h2⟩ := hpd hk
  refine ⟨by simp only [jP, List.length_map]; exact uo _ _ _, fun s hs => ?_, by simp only [jP, List.map_map]; exact (by simpa [Function.comp_def] using Ziw p 0 64)⟩
  simp only [jP, List.mem_map] at hs
  obtain ⟨d, hd, rfl⟩ := hs
  have h0 : 0 ≤ d := by
   simp only [zX, List.mem_map] at hd
   obtain ⟨i, _, rfl⟩ := hd; omega
  exact ⟨⟨h0, h1 p hpm d hd⟩, h2⟩
 refine wG Tryz.func55 Tryz.ntmps55 Tryz.results55 fun S nx hd => ?_
 repeat apply za
 refine pwn ?_
 intro v0
 (repeat apply za); refine pwn ?_; intros
 refine za (yA 7 42 1 rfl fun v1 => ?_)
 (repeat apply za); refine pwn ?_; intros
 repeat apply za
 refine zl rfl (fun hk => ?_) (fun hk => ?_)
 ·simp at hk
  (repeat apply za); refine pwn ?_; intros
  repeat apply za
  refine ze (zq (fun s : Nat × List (List Visit) × Nat => s.1 ≤ c.pats.length ∧ s.2.1.length ≤ s.1 ∧ ∀ v ∈ s.2.1, GoodV n v) (fun (k, out, v1) => [(1, I n), (2, I cap), (3, .ptr nx v0 0), (7, .sl (nx + 1) v1 1 0 out.length), (8, I k)]) (fun (k, out, v1) => [.cells v0 41 (zM c), .cells v1 42 (out.flatMap Enc.enc)]) (fun s => c.pats.length - s.1) (0, [], v1) [] (by simp) (by simp) (by simp) ?_)
  rintro ⟨k, out, v1⟩ ⟨hkl, hol, hg⟩
  simp only at hkl hol hg ⊢
  (repeat apply za); refine pwn ?_; intros
  repeat apply za
  refine zl rfl (fun hc1 => ?_) (fun hc1 => ?_)
  ·simp at hc1
   obtain ⟨p, tl, a1, a2, a3, e0⟩ := el1 rfl c.pats k hc1
   have hpm := List.mem_of_getElem? a1
   have hgp := patg hk p hpm
   refine zd (za (ze ?_))
   repeat apply za
   refine pwY (some [nx]) (Row.pures [0, 1, 2, 3, 4, 5, 6, 7] .done) mixed (jn2 hc1 e0) ?_
   refine pwP (Ziy c p (hp p hpm)) trivial ?_
   intros
   repeat apply za
   refine zR (nx := nx) (σ := Bool × Nat) (fun _ => True) (fun (t, v1) => [(1, I n), (2, I cap), (3, .ptr nx v0 0), (7, .sl (nx + 1) v1 1 0 out.length), (8, I k), (9, L (jP c p)), (40, B t)]) (fun _ => S) (fun (t, v1) => [.cells v0 41 (zM c), .cells v1 42 (out.flatMap Enc.enc)]) ?_ ?_
   ·by_cases h0 : jP c p = []
    ·repeat apply za
     refine pwN [(3, 35)] (jn2 h0 zn) ?_
     intros
     exact zt (true, v1) [] trivial (by simp [h0]) rfl (by simp)
    ·repeat apply za
     refine pwN [(3, 35)] h0 ?_
     intros
     exact zt (_, v1) [] trivial (by simp; rfl) rfl (by simp)
   rintro ⟨t, v1⟩ -
   simp only
   cases t with
   | true =>
    repeat apply za
    refine zh rfl ?_
    repeat apply za
    refine pwn ?_
    refine ⟨by omega, ?_⟩
    intros
    (repeat apply za); refine pwn ?_; intros
    exact zk (k + 1, out ++ [jP c p], v1 + 1) [] ⟨hc1, by simp; omega, fun v hv => by rcases List.mem_append.1 hv with h | h; exact hg v h; rw [List.mem_singleton.1 h]; exact hgp⟩ (by simp; omega) (by simp [wrN k (by omega)]) rfl (by simp)
   | false =>
    repeat apply za
    refine zj rfl ?_
    refine zd ?_
    (repeat apply za); refine pwn ?_; intros
    exact zk (k + 1, out, v1) [] ⟨hc1, Nat.le_succ_of_le hol, hg⟩ (by simp; omega) (by simp [wrN k (by omega)]) rfl (by simp)
  ·simp at hc1
   refine zm ?_
   (repeat apply za); refine pwn ?_; intros
   refine zC 1 rfl ?_
   repeat apply za
   exact zb ⟨_, S, (by simp; rfl), ⟨⟨out, by simp [zi], by omega, hg⟩, rfl⟩, zL hd⟩
 ·simp at hk
  refine zd ?_
  (repeat apply za); refine pwn ?_; intros
  (repeat apply za); refine pwn ?_; intros
  repeat apply za
  have h2n : ∀ k : Nat, k ≤ n → 2 ^ k ≤ 65536 := fun k hk => by
   calc 2 ^ k ≤ 2 ^ 16 := Nat.pow_le_pow_right (by decide) (by omega)
    _ = 65536 := by decide
  refine zR (nx := nx) (σ := Nat) (fun _ => True) (fun v1 => [(1, I n), (2, I cap), (3, .ptr nx v0 0), (7, .sl (nx + 1) v1 1 0 0), (10, U (2 ^ n))]) (fun _ => S) (fun v1 => [.cells v0 41 (zM c), .cells v1 42 []]) ?_ ?_
  ·refine ze (zq (fun s : Nat => s ≤ n) (fun k => [(1, I n), (2, I cap), (3, .ptr nx v0 0), (7, .sl (nx + 1) v1 1 0 0), (10, U (2 ^ k)), (11, I k)]) (fun k => [.cells v0 41 (zM c), .cells v1 42 []]) (fun s => n - s) 0 [] (by simp) (by simp) (by simp) ?_)
   rintro k hkn
   (repeat apply za); refine pwn ?_; intros
   repeat apply za
   refine zl rfl (fun hc1 => ?_) (fun hc1 => ?_)
   ·simp at hc1
    have := h2n k hkn
    have u1 : IntKind.u64.wrap (2 * 2 ^ k) = 2 ^ (k + 1) := by
     have e2 : (2 : Int) ^ k = ((2 ^ k : Nat) : Int) := by simp
     have e3 : (2 : Int) ^ (k + 1) = 2 * 2 ^ k := by rw [Int.pow_succ, Int.mul_comm]
     rw [e3, e2]
     generalize 2 ^ k = m at this ⊢
     rw [IntWalk.u64_in _ (by omega)]
    refine zd (za (ze ?_))
    repeat apply za
    refine pwN [] u1 ?_
    intros
    (repeat apply za); refine pwn ?_; intros
    exact zk (k + 1) [] hc1 (by omega) (by simp [wrN k (by omega)]) rfl (by simp)
   ·simp at hc1
    obtain rfl : k = n := by omega
    exact zm (zt v1 [] trivial (by simp) rfl (by simp))
  intro v1 _
  have hl16 := h2n n (Nat.le_refl _)
  generalize 2 ^ n = last at hl16 ⊢
  (repeat apply za); refine pwn ?_; intros
  repeat apply za
  refine ze (zq (fun s : Nat × List (List Visit) × Nat => s.1 ≤ last ∧ s.2.1.length ≤ s.1 ∧ ∀ v ∈ s.2.1, GoodV n v) (fun (k, out, v1) => [(1, I n), (2, I cap), (3, .ptr nx v0 0), (7, .sl (nx + 1) v1 1 0 out.length), (10, U last), (12, U k)]) (fun (k, out, v1) => [.cells v0 41 (zM c), .cells v1 42 (out.flatMap Enc.enc)]) (fun s => last - s.1) (0, [], v1) [] (by simp) (by simp) (by simp) ?_)
  rintro ⟨k, out, v1⟩ ⟨hkl, hol, hg⟩
  simp only at hkl hol hg ⊢
  (repeat apply za); refine pwn ?_; intros
  repeat apply za
  refine zl rfl (fun hc1 => ?_) (fun hc1 => ?_)
  ·simp at hc1
   have u1 : IntKind.u64.wrap ((k : Int) + 1) = ((k + 1 : Nat) : Int) := by rw [IntWalk.u64_in _ (by omega)]; omega
   refine zd (za (ze ?_))
   repeat apply za
   refine zN [] (by rfl) (by rfl) fun K Gc Gh hK hGc hGh X hX0 hX => ?_
   simp -implicitDefEqProofs [hX0, hX]
   try clear hX0 hX X
   refine hGc _ _ _ _ _ _ _ fun hsuf => ((Ziv c n cap k hc (by omega) hcap (by omega) _).mono ?_).v
   rintro _ _ ⟨⟨q, b, rfl, hq1, hq2⟩, rfl⟩
   refine ⟨_, _, rfl, ?_⟩
   clear hGc hGh
   clear Gc Gh
   refine zI hsuf (D := []) (by rfl) fun Gc Gh hGc hGh X hX0 hX => ?_
   simp -implicitDefEqProofs [hX0, hX]
   try clear hX0 hX X
   intros
   refine hK _ _ _ ?_
   clear hK hGc hGh
   clear K Gc Gh
   (repeat apply za); refine pwn ?_; intros
   cases b with
   | true =>
    repeat apply za
    refine zh rfl ?_
    repeat apply za
    refine pwn ?_
    refine pwc (XA q (by omega)) ?_
    refine ⟨by omega, ?_⟩
    intros
    repeat apply za
    refine pwN [] u1 ?_
    intros
    exact zk (k + 1, out ++ [yX 0 q], v1 + 1) [] ⟨hc1, by simp; omega, fun v hv => by rcases List.mem_append.1 hv with h | h; exact hg v h; rw [List.mem_singleton.1 h]; exact Xz hq2 hq1 (by omega)⟩ (by simp; omega) (by simp) rfl (by simp)
   | false =>
    repeat apply za
    refine zj rfl ?_
    refine zd ?_
    repeat apply za
    refine pwN [] u1 ?_
    intros
    exact zk (k + 1, out, v1) [] ⟨hc1, Nat.le_succ_of_le hol, hg⟩ (by simp; omega) (by simp) rfl (by simp)
  ·simp at hc1
   refine zm ?_
   (repeat apply za); refine pwn ?_; intros
   refine zC 1 rfl ?_
   repeat apply za
   exact zb ⟨_, S, (by simp; rfl), ⟨⟨out, by simp [zi], by omega, hg⟩, rfl⟩, zL hd⟩
structure CustMade (c : Cust) (n : Nat) : Prop where
 fits : CustFits c
 pats : ∀ p ∈ c.pats, p < 2 ^ 64
 npats : c.pats.length ≤ 1048576
 per : c.kind = 1 → (∀ p ∈ c.pats, ∀ d ∈ zX p 0 64, d < n) ∧ 1 ≤ c.demand ∧ c.demand ≤ 2147483648
set_option maxRecDepth 20000 in
theorem ZiB (x : Inst) (c : Cust) (n : Nat) (i : Nat) (pick : List Int) (hc : CustMade c n) (hxd : x.days = n) (hn : n ≤ 16) (hcap : x.cap ≤ 2147483648) (hpk : ∀ z ∈ pick, I64 z) :
  RSpec Tryz.prog 66 [.agg (zp x), .agg (zM c), I i, L pick] (fun p => ∃ v b, p = .tup [L v, B b] ∧ (b = true → GoodV n v)) := by
 have hany : RSpec Tryz.prog 54 [.agg (zM c), I n, I x.cap, .sc (.slice none 0 0)] (fun p => ∃ v b, p = .tup [L v, B b] ∧ (b = true → GoodV n v)) :=
  fun S => ZcR (.cons Wk.rfl (.cons Wk.rfl (.cons Wk.rfl (.cons Wk.nil .nil)))) (Ziz c n x.cap [] hc.fits (by omega) hcap S)
 refine wG Tryz.func66 Tryz.ntmps66 Tryz.results66 fun S nx hd => ?_
 repeat apply za
 refine pwn ?_
 intro v0 v1
 (repeat apply za); refine pwn ?_; intros
 repeat apply za
 refine zl rfl (fun hr => ?_) (fun hr => ?_)
 ·repeat apply za
  refine zN [] (by rfl) (by rfl) fun K Gc Gh hK hGc hGh X hX0 hX => ?_
  simp -implicitDefEqProofs [hX0, hX, hxd]
  try clear hX0 hX X
  refine hGc _ _ _ _ _ _ _ fun hsuf => ((hany _).mono ?_).v
  rintro _ _ ⟨⟨v, b, rfl, hg⟩, rfl⟩
  refine ⟨_, _, rfl, ?_⟩
  clear hGc hGh
  clear Gc Gh
  refine zI hsuf (D := []) (by rfl) fun Gc Gh hGc hGh X hX0 hX => ?_
  simp -implicitDefEqProofs [hX0, hX]
  try clear hX0 hX X
  intros
  refine hK _ _ _ ?_
  clear hK hGc hGh
  clear K Gc Gh
  repeat apply za
  exact zb ⟨_, S, (by simp; rfl), ⟨⟨v, b, by simp [zi], hg⟩, rfl⟩, zL hd⟩
 ·refine zd ?_
  repeat apply za
  refine zN [] (by rfl) (by rfl) fun K Gc Gh hK hGc hGh X hX0 hX => ?_
  simp -implicitDefEqProofs [hX0, hX, hxd]
  try clear hX0 hX X
  refine hGc _ _ _ _ _ _ _ fun hsuf => ((ZiA c n x.cap hc.fits hn hcap hc.pats hc.npats hc.per _).mono ?_).v
  rintro _ _ ⟨⟨vs, rfl, hvl, hg⟩, rfl⟩
  refine ⟨_, _, rfl, ?_⟩
  clear hGc hGh
  clear Gc Gh
  refine zI hsuf (D := []) (by rfl) fun Gc Gh hGc hGh X hX0 hX => ?_
  simp -implicitDefEqProofs [hX0, hX]
  try clear hX0 hX X
  intros
  refine hK _ _ _ ?_
  clear hK hGc hGh
  clear K Gc Gh
  by_cases h0 : vs = []
  ·repeat apply za
   refine pwN [] h0 ?_
   intros
   repeat apply za
   refine zh (by simp [h0]) ?_
   (repeat apply za); refine pwn ?_; intros
   refine xW 8 rfl ?_
   repeat apply za
   exact zb ⟨_, S, (by simp; rfl), ⟨⟨[], false, by simp [zi], fun h => nomatch h⟩, rfl⟩, zL hd⟩
  ·repeat apply za
   refine pwN [] h0 ?_
   intros
   repeat apply za
   refine zj (by simp [h0]) ?_
   refine zd ?_
   have hpos := List.length_pos_iff.2 h0
   (repeat apply za); refine pwn ?_; intros
   (repeat apply za); refine pwn ?_; intros
   repeat apply za
   refine zR (nx := nx) (σ := Int × Nat × Nat) (fun s => I64 s.1) (fun (z, v0, v1) => [(10, L vs), (11, I z)]) (fun _ => S) (fun (z, v0, v1) => []) ?_ ?_
   ·by_cases h1 : i < pick.length
    ·obtain ⟨z, tl, a1, a2, a3, e0⟩ := el1 rfl pick i h1
     repeat apply za
     refine zh (by simp [h1]) ?_
     repeat apply za
     refine pwN [] (jn2 h1 e0) ?_
     intros
     exact zt (z, v0, v1) [_, _] (hpk z (List.mem_of_getElem? a1)) (by simp) rfl rfl
    ·repeat apply za
     refine zj (by simp; omega) ?_
     refine zd ?_
     exact zt (0, v0, v1) [_, _] (by unfold I64; omega) (by simp) rfl rfl
   rintro ⟨z, v0, v1⟩ hz
   simp only at hz ⊢
   unfold I64 at hz
   (repeat apply za); refine pwn ?_; intros
   repeat apply za
   refine zR (nx := nx) (σ := Int) (fun z => 0 ≤ z ∧ z ≤ 9223372036854775807) (fun z => [(10, L vs), (11, I z)]) (fun _ => S) (fun z => []) ?_ ?_
   ·by_cases h1 : z < 0
    ·have q1 : IntKind.i64.wrap (z + 1) = z + 1 := wr _ (by omega) (by omega)
     have q2 : IntKind.i64.wrap (-(z + 1)) = -(z + 1) := wr _ (by omega) (by omega)
     repeat apply za
     refine zh (by simp [h1]) ?_
     repeat apply za
     refine pwN [] (jn2 q1 q2) ?_
     intros
     exact zt (-(z + 1)) [] (by omega) (by simp) rfl rfl
    ·repeat apply za
     refine zj (by simp; omega) ?_
     refine zd ?_
     exact zt z [] (by omega) (by simp) rfl rfl
   intro z hz
   have hvl' : ¬ vs.length = 0 := by omega
   obtain ⟨k, hk⟩ : ∃ k : Nat, z.tmod (vs.length : Int) = k := ⟨(z.tmod vs.length).toNat, by have := Int.tmod_nonneg (b := (vs.length : Int)) (a := z) hz.1; omega⟩
   have hkl : k < vs.length := by have := Int.tmod_lt_of_pos (a := z) (b := (vs.length : Int)) (by omega); omega
   obtain ⟨v, tl, a1, a2, a3, e0⟩ := el1 rfl vs k hkl
   repeat apply za
   refine pwN [] (jn4 hk hkl e0 h0) ?_
   intros
   repeat apply za
   exact zb ⟨_, S, (by simp; rfl), ⟨⟨v, true, by simp [zi], fun _ => hg v (List.mem_of_getElem? a1)⟩, rfl⟩, zL hd⟩
open Go
theorem Qt {α : Type} (l : List α) : l = [] ∨ ∃ m x, l = m ++ [x] := by
 rcases List.eq_nil_or_concat l with h | ⟨m, x, h⟩
 ·exact .inl h
 ·exact .inr ⟨m, x, by rw [h, List.concat_eq_append]⟩
def jA (x : Inst) (d : Day) (s : Stop) (join : Bool) : Day :=
 match d.reverse with
 | t :: r => if join = true ∧ zr x (t ++ [s]) = 0 then r.reverse ++ [t ++ [s]] else d ++ [[s]]
 | [] => [[s]]
theorem XB (x : Inst) (s : Stop) (j : Bool) : jA x [] s j = [[s]] := rfl
theorem Za (x : Inst) (d : Day) (t : zo) (s : Stop) (j : Bool) : jA x (d ++ [t]) s j = if j = true ∧ zr x (t ++ [s]) = 0 then d ++ [t ++ [s]] else (d ++ [t]) ++ [[s]] := by simp [jA]
theorem Qu (x : Inst) (d : Day) (s : Stop) (j : Bool) : (jA x d s j).flatten = d.flatten ++ [s] := by
 rcases Qt d with rfl | ⟨d', t, rfl⟩
 ·simp [XB]
 ·rw [Za]; split <;> simp
theorem ZiC (x : Inst) (d : Day) (s : Stop) (j : Bool) (h : ∀ t ∈ d, t ≠ []) : ∀ t ∈ jA x d s j, t ≠ [] := by
 rcases Qt d with rfl | ⟨d', t, rfl⟩
 ·simp [XB]
 ·rw [Za]
  split
  ·intro u hu
   rcases List.mem_append.1 hu with hu | hu
   ·exact h u (by simp [hu])
   ·rw [List.mem_singleton.1 hu]; simp
  ·intro u hu
   rcases List.mem_append.1 hu with hu | hu
   ·exact h u hu
   ·rw [List.mem_singleton.1 hu]; simp
theorem XC {α : Type} [Enc α] (h1 : Enc.sz α = 1) (l : List α) (k : Nat) (v : α) (h : k < l.length) : zJ (l.flatMap Enc.enc) k (Enc.enc v) = (l.set k v).flatMap Enc.enc := by
 have e1 : (l.flatMap Enc.enc).take k = (l.take k).flatMap Enc.enc := by
  have := w9 (α := α) Enc.enc (Enc.sz α) Enc.len l k; rwa [h1, Nat.mul_one] at this
 have e2 : (l.flatMap Enc.enc).drop (k + 1) = (l.drop (k + 1)).flatMap Enc.enc := by
  have := uB (α := α) Enc.enc (Enc.sz α) Enc.len l (k + 1); rwa [h1, Nat.mul_one] at this
 rw [zJ, Enc.len, h1, e1, e2, List.set_eq_take_append_cons_drop, if_pos h]
 simp
set_option maxRecDepth 20000 in
theorem ZiD (x : Inst) (d : Day) (s : Stop) (j : Bool) (hx : x.cust.length ≤ 1048576) (hd0 : d.length ≤ 1000000) (ht : ∀ t ∈ d, t.length ≤ 1000000) : Pure Tryz.prog 67 [.agg (zp x), .agg [L d], .agg [I s.c, I s.q], B j] (.agg [L (jA x d s j)]) := by
 refine pwe Tryz.func67 Tryz.ntmps67 Tryz.results67 fun S nx hd => ?_
 repeat apply za
 refine pwn ?_
 intro v0 v1 v2 v3
 repeat apply za
 refine pwn ?_
 intro v4
 repeat apply za
 refine pwn ?_
 refine ⟨by omega, fun v5 => ?_⟩
 intros
 (repeat apply za); refine pwn ?_; intros
 have last : (d = [] ∨ j = false ∨ jA x d s j = d ++ [[s]]) → jA x d s j = d ++ [[s]] := by
  intro h
  rcases Qt d with rfl | ⟨d', t, rfl⟩
  ·rfl
  ·rcases h with h | rfl | h
   ·simp at h
   ·rw [Za]; simp
   ·exact h
 rcases Qt d with rfl | ⟨d', t, rfl⟩
 ·repeat apply za
  refine zR (nx := nx) (σ := Unit) (fun _ => True) (fun _ => [(6, .ptr (nx + 2) v2 0), (8, .ptr (nx + 3) v3 0), (9, .ptr (nx + 4) v4 0), (25, B false)]) (fun _ => S) (fun _ => [.cells v0 25 (zp x), .cells v1 66 [L ([] : Day)], .cells v2 50 [I s.c, I s.q], .cells v3 66 [.sc (.slice none 0 0)], .cells v4 66 [.sl (nx + 5) v5 1 0 0], .cells v5 72 []]) ?_ ?_
  ·cases j with
   | true =>
    repeat apply za
    refine pwN [(1, 22)] trivial ?_
    intros
    exact zt () [] trivial (by simp) rfl (by simp)
   | false =>
    repeat apply za
    refine pwN [(1, 22)] zn ?_
    intros
    exact zt () [] trivial (by simp) rfl (by simp)
  intro _ _
  repeat apply za
  refine zj (by simp) ?_
  refine zd ?_
  (repeat apply za); refine pwn ?_; intros
  (repeat apply za); refine pwn ?_; intros
  refine zC 5 rfl ?_
  repeat apply za
  exact zb (zg hd (by simp; rfl) (by simp [XB, zi]))
 ·have htl := ht t (by simp)
  have hdl : d'.length + 1 ≤ 1000000 := by simpa using hd0
  obtain ⟨t', tl, a1, a2, a3, e0⟩ := el1 rfl (d' ++ [t]) d'.length (by simp)
  obtain rfl : t' = t := by simp at a1; exact a1.symm
  have hw : IntKind.i64.wrap (((d'.length : Int) + 1) - 1) = (d'.length : Int) := by rw [wr _ (by omega) (by omega)]; omega
  have hw' : IntKind.i64.wrap (d'.length : Int) = (d'.length : Int) := wr _ (by omega) (by omega)
  have hlt : (d'.length : Int) < (d'.length : Int) + 1 := by omega
  have hpos : (0 : Int) < (d'.length : Int) + 1 := by omega
  have e0' : List.drop d'.length (List.flatMap Enc.enc d' ++ Enc.enc t') = Enc.enc t' ++ tl := by simpa using e0
  have hsp := XC (α := zo) rfl (d' ++ [t']) d'.length (t' ++ [s]) (by simp)
  have hset : (d' ++ [t']).set d'.length (t' ++ [s]) = d' ++ [t' ++ [s]] := by simp
  rw [hset] at hsp
  have hsp' : zJ (List.flatMap Enc.enc d' ++ [L t']) d'.length [L (t' ++ [s])] = List.flatMap Enc.enc d' ++ [L (t' ++ [s])] := by simpa using hsp
  have htk : List.take (d'.length + 1) (List.flatMap Enc.enc d' ++ [L t']) = List.flatMap Enc.enc d' ++ [L t'] := List.take_of_length_le (by simp)
  cases j with
  | false =>
   repeat apply za
   refine pwN [(1, 22)] zn ?_
   intros
   repeat apply za
   refine zj rfl ?_
   refine zd ?_
   repeat apply za
   refine pwN [] htk ?_
   refine ⟨by omega, ?_⟩
   intros
   (repeat apply za); refine pwn ?_; intros
   refine zC 5 rfl ?_
   repeat apply za
   exact zb (zg hd (by simp; rfl) (by simp [Za, zi]))
  | true =>
   repeat apply za
   refine pwN [(1, 22)] hpos ?_
   intros
   repeat apply za
   refine zh (by simp) ?_
   repeat apply za
   refine pwn ?_
   intro v6
   repeat apply za
   refine pwY (some [nx + 4, nx + 5]) (Row.pures [0, 2, 3, 4, 5, 6, 7, 8] (.alt 1 (.alt 9 (Row.pures [10] (.alt 11 (.done) .stop)) .stop) .stop)) mixed (jn4 hw hw' hlt e0') ?_
   refine ⟨by omega, fun v7 => ?_⟩
   intros
   repeat apply za
   refine pwn ?_
   refine ⟨by omega, ?_⟩
   intros
   refine zC 7 rfl ?_
   have hmay := Vc x (t' ++ [s]) hx (by simp; omega)
   have hLt : L (t' ++ [s]) = .lst (t'.length + 1) (List.flatMap Enc.enc t' ++ [I s.c, I s.q]) := by simp
   have hsp2 := hsp'
   rw [hLt] at hmay hsp2
   have ht2 : (t'.length + 1) * 2 = t'.length * 2 + 2 := by omega
   repeat apply za
   refine pwN [] ht2 ?_
   refine pwc hmay ?_
   intros
   by_cases hm : zr x (t' ++ [s]) = 0
   ·repeat apply za
    refine zh (by simp [hm]) ?_
    repeat apply za
    refine pwN [] (jn4 hw hw' hlt hsp2) ?_
    intros
    (repeat apply za); refine pwn ?_; intros
    refine zC 5 rfl ?_
    repeat apply za
    exact zb (zg hd (by simp; rfl) (by simp [Za, hm, zi]))
   ·repeat apply za
    refine zj (by simp [hm]) ?_
    refine zd ?_
    repeat apply za
    refine pwN [] htk ?_
    refine ⟨by omega, ?_⟩
    intros
    (repeat apply za); refine pwn ?_; intros
    refine zC 5 rfl ?_
    repeat apply za
    exact zb (zg hd (by simp; rfl) (by simp [Za, hm, zi]))
open Go
def jB (p : zQ) : Nat := (p.map fun d => d.flatten.length).sum
theorem ZiE {p : zQ} {k : Nat} {d e : Day} (h : p[k]? = some d) (he : e.flatten.length = d.flatten.length + 1) : jB (p.set k e) = jB p + 1 := by
 induction p generalizing k with
 | nil => cases h
 | cons a p ih =>
  cases k with
  | zero =>
   simp only [List.getElem?_cons_zero, Option.some.injEq] at h; subst h
   simp only [List.set_cons_zero, jB, List.map_cons, List.sum_cons, he]; omega
  | succ k =>
   have := ih (k := k) (by simpa using h)
   simp only [List.set_cons_succ, jB, List.map_cons, List.sum_cons] at this ⊢; omega
theorem Zbw : ∀ (p : zQ) (i : Nat), (told i p).length = jB p
 | [], _ => rfl
 | d :: p, i => by
  have := Zbw p (i + 1)
  simp only [told, List.length_append, List.length_map, jB, List.map_cons, List.sum_cons] at this ⊢; omega
structure MadeP (m : Nat) (n : Nat) (p : zQ) : Prop where
 len : p.length = n
 ne : ∀ d ∈ p, ∀ t ∈ d, t ≠ []
 ok : ∀ d ∈ p, ∀ s ∈ d.flatten, (0 ≤ s.c ∧ s.c < m) ∧ 1 ≤ s.q ∧ s.q ≤ 2147483648
 nd : ∀ d ∈ p, (d.flatten.map (·.c)).Nodup
theorem Qv : ∀ (d : Day), (∀ t ∈ d, t ≠ []) → d.length ≤ d.flatten.length
 | [], _ => by simp
 | t :: d, h => by
  have h1 := Qv d fun u hu => h u (by simp [hu])
  have h2 := List.length_pos_iff.2 (h t (by simp))
  simp only [List.flatten_cons, List.length_cons, List.length_append]; omega
theorem ZX : ∀ (d : Day) (t : zo), t ∈ d → t.length ≤ d.flatten.length
 | [], _, h => by cases h
 | u :: d, t, h => by
  simp only [List.flatten_cons, List.length_append]
  rcases List.mem_cons.1 h with rfl | h
  ·omega
  ·have := ZX d t h; omega
theorem Zbx : ∀ (p : zQ) (d : Day), d ∈ p → d.flatten.length ≤ jB p
 | [], _, h => by cases h
 | u :: p, d, h => by
  simp only [jB, List.map_cons, List.sum_cons]
  rcases List.mem_cons.1 h with rfl | h
  ·omega
  ·have := Zbx p d h; simp only [jB] at this; omega
theorem MadeP.set {m n : Nat} {p : zQ} (h : MadeP m n p) {k : Nat} {d : Day} (hd : p[k]? = some d) (x : Inst) (s : Stop) (j : Bool) (hs : (0 ≤ s.c ∧ s.c < m) ∧ 1 ≤ s.q ∧ s.q ≤ 2147483648) (hno : ∀ u ∈ d.flatten, u.c ≠ s.c) : MadeP m n (p.set k (jA x d s j)) := by
 have hdm := List.mem_of_getElem? hd
 refine ⟨by simp [h.len], fun e he t ht => ?_, fun e he u hu => ?_, fun e he => ?_⟩
 ·rcases List.mem_or_eq_of_mem_set he with he | rfl
  ·exact h.ne e he t ht
  ·exact ZiC x d s j (h.ne d hdm) t ht
 ·rcases List.mem_or_eq_of_mem_set he with he | rfl
  ·exact h.ok e he u hu
  ·rw [Qu] at hu
   rcases List.mem_append.1 hu with hu | hu
   ·exact h.ok d hdm u hu
   ·rw [List.mem_singleton.1 hu]; exact hs
 ·rcases List.mem_or_eq_of_mem_set he with he | rfl
  ·exact h.nd e he
  ·rw [Qu, List.map_append]
   exact ZB _ _ (h.nd d hdm) (fun hm => by obtain ⟨u, hu, e⟩ := List.mem_map.1 hm; exact hno u hu e)
theorem ZiF (n : Nat) : y8 n (.agg #[.slice none 0 0]) = List.replicate n (.sc (.slice none 0 0)) := by
 induction n with
 | zero => simp
 | succ n ih => rw [wE, ih]; rfl
theorem ZiG (n : Nat) : (List.replicate n ([] : Day)).flatMap Enc.enc = List.replicate n (L ([] : Day)) := by
 induction n with
 | zero => simp
 | succ n ih => rw [List.replicate_succ, List.flatMap_cons, ih]; rfl
structure InstMade (x : Inst) (n : Nat) : Prop where
 days : x.days = n
 n16 : n ≤ 16
 cust : x.cust.length ≤ 1000
 made : ∀ c ∈ x.cust, CustMade c n
 cap : x.cap ≤ 2147483648
set_option maxRecDepth 20000 in
theorem ZiH (x : Inst) (n : Nat) (pick : List Int) (joins : List Bool) (hx : InstMade x n) (hpk : ∀ z ∈ pick, I64 z) :
  RSpec Tryz.prog 27 [.agg (zp x), L pick, L joins] (fun p => ∃ (pl : zQ) (b : Bool), p = .tup [.agg [L pl], B b] ∧ (b = true → MadeP x.cust.length n pl ∧ jB pl ≤ 64000)) := by
 have hn := hx.n16
 have hxd := hx.days
 have hxc := hx.cust
 refine wG Tryz.func27 Tryz.ntmps27 Tryz.results27 fun S nx hd => ?_
 repeat apply za
 refine pwn ?_
 intro v0 v1
 repeat apply za
 refine pwn ?_
 intro v2
 repeat apply za
 refine pwN [] hxd ?_
 refine ⟨by omega, fun v3 => ?_⟩
 intros
 refine ZcV 3 ((List.replicate n ([] : Day)).flatMap Enc.enc) rfl (by rw [ZiF, ZiG]; exact WF _ _ Wk.nil n) ?_
 simp only [List.set_cons_succ, List.set_cons_zero, List.append_eq, List.cons_append, List.nil_append]
 (repeat apply za); refine pwn ?_; intros
 repeat apply za
 refine ze (zq (fun s : Nat × zQ => s.1 ≤ x.cust.length ∧ MadeP x.cust.length n s.2 ∧ jB s.2 ≤ 64 * s.1 ∧ ∀ d ∈ s.2, ∀ u ∈ d.flatten, u.c < s.1) (fun (i, pl) => [(1, L pick), (2, L joins), (3, .ptr nx v0 0), (6, .ptr (nx + 1) v1 0), (8, .ptr (nx + 2) v2 0), (9, I i)])
  (fun (i, pl) => [.cells v0 25 (zp x), .cells v1 29 [.sc (.slice none 0 0)], .cells v2 29 [.sl (nx + 3) v3 1 0 n], .cells v3 66 (pl.flatMap Enc.enc)]) (fun s => x.cust.length - s.1) (0, List.replicate n []) [] ?_ (by simp) (by simp [hxd]) ?_)
 ·refine ⟨by simp, ⟨by simp, fun d hd t ht => ?_, fun d hd s hs => ?_, fun d hd => ?_⟩, ?_, fun d hd u hu => ?_⟩
  ·rw [(List.mem_replicate.1 hd).2] at ht; cases ht
  ·rw [(List.mem_replicate.1 hd).2] at hs; simp at hs
  ·rw [(List.mem_replicate.1 hd).2]; simp
  ·have : ∀ k : Nat, jB (List.replicate k []) = 0 := by
    intro k; induction k with
    | zero => rfl
    | succ k ih => simp [jB, List.replicate_succ] at ih ⊢
   simp [this]
  ·rw [(List.mem_replicate.1 hd).2] at hu; simp at hu
 rintro ⟨i, pl⟩ ⟨hi, hm, hcnt, hlow⟩
 simp only at hi hm hcnt hlow ⊢
 (repeat apply za); refine pwn ?_; intros
 repeat apply za
 refine zl rfl (fun hc => ?_) (fun hc => ?_)
 ·simp at hc
  obtain ⟨c, tl, a1, a2, a3, _, e0⟩ := el 8 rfl x.cust i hc
  have hcm := hx.made c (List.mem_of_getElem? a1)
  refine zd (za (ze ?_))
  repeat apply za
  refine xV (some [nx]) (Row.pures [0, 1, 2, 3, 4, 5, 6, 7] (.alt 8 (Row.pures [9, 10, 11, 12, 13] .done) .stop)) mixed (by rfl) (by rfl) (by rfl) fun K Gp Gc Gh hK hGp hGc hGh X hX0 hX1 hX2 hX => ?_
  simp -implicitDefEqProofs [hX0, hX1, hX2, hX, hc, e0]
  try clear hX0 hX1 hX2 hX X
  refine hGc _ _ _ _ _ _ _ (((ZiB x c n i pick hcm hxd hn hx.cap hpk _).mono ?_).v)
  rintro _ _ ⟨⟨v, b, rfl, hg⟩, rfl⟩
  refine ⟨by simp, ?_⟩
  clear hGp hGc hGh
  clear Gp Gc Gh
  refine ju fun Gp Gc Gh hGp hGc hGh X hX0 hX1 hX2 hX => ?_
  simp -implicitDefEqProofs [hX0, hX1, hX2, hX]
  try clear hX0 hX1 hX2 hX X
  refine hK _ _ _ ?_
  clear hK hGp hGc hGh
  clear K Gp Gc Gh
  cases b with
  | false =>
   (repeat apply za); refine pwn ?_; intros
   repeat apply za
   refine zh rfl ?_
   (repeat apply za); refine pwn ?_; intros
   refine vU 1 0 rfl rfl ?_
   repeat apply za
   exact zb ⟨_, S, (by simp; rfl), ⟨⟨[], false, by simp [zi], fun h => nomatch h⟩, rfl⟩, zL hd⟩
  | true =>
   have hg := hg rfl
   have hvl := hg.len
   (repeat apply za); refine pwn ?_; intros
   repeat apply za
   refine zj rfl ?_
   refine zd ?_
   (repeat apply za); refine pwn ?_; intros
   repeat apply za
   refine ze (zq (fun s : Nat × zQ => s.1 ≤ v.length ∧ MadeP x.cust.length n s.2 ∧ jB s.2 ≤ 64 * i + s.1 ∧ ∀ (dn : Nat) (d : Day), s.2[dn]? = some d → ∀ u ∈ d.flatten, u.c < i ∨ (u.c = i ∧ (dn : Int) ∈ (v.take s.1).map (·.d))) (fun (k, pl) => [(1, L pick), (2, L joins), (3, .ptr nx v0 0), (6, .ptr (nx + 1) v1 0), (8, .ptr (nx + 2) v2 0), (9, I i), (10, L v), (12, I k)])
    (fun (k, pl) => [.cells v0 25 (zp x), .cells v1 29 [.sc (.slice none 0 0)], .cells v2 29 [.sl (nx + 3) v3 1 0 n], .cells v3 66 (pl.flatMap Enc.enc)]) (fun s => v.length - s.1) (0, pl) [] ⟨by simp, hm, hcnt, fun dn d hd u hu => .inl (hlow d (List.mem_of_getElem? hd) u hu)⟩ (by simp) (by simp) ?_)
   clear hlow
   rintro ⟨k, pl⟩ ⟨hk, hm, hcnt, hlow⟩
   simp only at hk hm hcnt hlow ⊢
   (repeat apply za); refine pwn ?_; intros
   repeat apply za
   refine zl rfl (fun hc1 => ?_) (fun hc1 => ?_)
   ·simp at hc1
    obtain ⟨s, tl2, b1, b2, b3, e1, e2⟩ := el 2 rfl v k hc1
    have e21 := e1 1 (by omega)
    have hs := hg.ok s (List.mem_of_getElem? b1)
    obtain ⟨dn, hdn⟩ := Int.eq_ofNat_of_zero_le hs.1.1
    have hdl : dn < n := by omega
    obtain ⟨d, tl3, d1, d2, d3, e3⟩ := el1 rfl pl dn (by rw [hm.len]; exact hdl)
    have hdm := List.mem_of_getElem? d1
    refine zd (za (ze ?_))
    repeat apply za
    refine pwN [] (jn2 e21 hc1) ?_
    intro v4
    have w1 : IntKind.i64.wrap ((i : Int) + (dn : Int)) = ((i + dn : Nat) : Int) := by rw [wr _ (by omega) (by omega)]; omega
    repeat apply za
    refine zR (nx := nx) (σ := Bool) (fun _ => True) (fun t => [(1, L pick), (2, L joins), (3, .ptr nx v0 0), (6, .ptr (nx + 1) v1 0), (8, .ptr (nx + 2) v2 0), (9, I i), (10, L v), (12, I k), (13, .ptr (nx + 4) v4 0), (14, B t)]) (fun _ => S)
     (fun t => [.cells v0 25 (zp x), .cells v1 29 [.sc (.slice none 0 0)], .cells v2 29 [.sl (nx + 3) v3 1 0 n], .cells v3 66 (pl.flatMap Enc.enc), .cells v4 50 [I i, I s.q]]) ?_ ?_
    ·by_cases h : i + dn < joins.length
     ·obtain ⟨j, tl4, j1, j2, j3, e4⟩ := el1 rfl joins (i + dn) h
      have h' : (i : Int) + (dn : Int) < joins.length := by omega
      have h0 : (0 : Int) ≤ (i : Int) + (dn : Int) := by omega
      have hN : ((i : Int) + (dn : Int)).toNat = i + dn := by omega
      repeat apply za
      refine pwN [(10, 64)] (jn6 e2 hc1 hdn w1 h (jn4 h' e4 h0 hN)) ?_
      intros
      exact zt j [] trivial (by simp) rfl (by simp)
     ·have h' : ¬ (i : Int) + (dn : Int) < joins.length := by omega
      repeat apply za
      refine pwN [(10, 64)] (jn6 e2 hc1 hdn w1 h (jn2 h' zn)) ?_
      intros
      exact zt false [] trivial (by simp) rfl (by simp)
    intro j _
    have hpll := hm.len
    have hdf := Zbx pl d hdm
    have hdn2 := Qv d (hm.ne d hdm)
    have hput := ZiD x d ⟨i, s.q⟩ j (by omega) (by omega) (fun t ht => by have := ZX d t ht; omega)
    have hsp := XC (α := Day) rfl pl dn (jA x d ⟨i, s.q⟩ j) (by omega)
    have hsp' : zJ (pl.flatMap Enc.enc) dn [L (jA x d ⟨i, s.q⟩ j)] = (pl.set dn (jA x d ⟨i, s.q⟩ j)).flatMap Enc.enc := hsp
    have hnew := hm.set d1 x ⟨i, s.q⟩ j ⟨⟨by dsimp only; omega, by dsimp only; omega⟩, hs.2⟩ (fun u hu => by
     rcases hlow dn d d1 u hu with q | ⟨_, q⟩
     ·dsimp only; omega
     ·exfalso
      have hnd := hg.nd
      rw [← List.take_append_drop k v, b2, List.map_append, List.nodup_append] at hnd
      exact hnd.2.2 _ q s.d (by simp) (by rw [hdn]))
    have hlow' : ∀ (dn' : Nat) (d' : Day), (pl.set dn (jA x d ⟨i, s.q⟩ j))[dn']? = some d' → ∀ u ∈ d'.flatten, u.c < i ∨ (u.c = i ∧ (dn' : Int) ∈ (v.take (k + 1)).map (·.d)) := by
     intro dn' d' hd' u hu
     rw [List.getElem?_set] at hd'
     rw [b3, List.map_append]
     split at hd'
     ·rename_i e
      subst e
      split at hd'
      ·cases hd'
       rw [Qu] at hu
       rcases List.mem_append.1 hu with hu | hu
       ·exact (hlow dn d d1 u hu).imp id (fun q => ⟨q.1, List.mem_append_left _ q.2⟩)
       ·rw [List.mem_singleton.1 hu]
        exact .inr ⟨rfl, List.mem_append_right _ (by simp; rw [hdn])⟩
      ·cases hd'
     ·exact (hlow dn' d' hd' u hu).imp id (fun q => ⟨q.1, List.mem_append_left _ q.2⟩)
    have hcn := ZiE (e := jA x d ⟨i, s.q⟩ j) d1 (by rw [Qu]; simp)
    generalize jA x d ⟨i, s.q⟩ j = nd at hput hsp' hnew hcn hlow'
    have hfl : (pl.flatMap Enc.enc).length = n := by rw [qm, hpll]
    repeat apply za
    refine pwY (some [nx, nx + 2, nx + 4]) (Row.pures [0, 1, 2, 3, 4, 5, 6, 7, 8, 9, 10, 11, 12, 13, 14, 15, 17, 18] (.alt 16 (Row.pures [19, 20] (.alt 21 (.done) .stop)) .stop)) mixed (jn5 e2 hc1 hdn hdl e3) ?_
    refine pwP (hput) (jn3 hsp' hdl hdn) ?_
    refine ⟨by omega, ?_⟩
    intros
    (repeat apply za); refine pwn ?_; intros
    exact zk (k + 1, pl.set dn nd) [_] ⟨hc1, hnew, by dsimp only; omega, hlow'⟩ (by simp; omega) (by simp [wrN k (by omega)]) rfl (by simp; rfl)
   ·simp at hc1
    obtain rfl : k = v.length := by omega
    refine zm ?_
    (repeat apply za); refine pwn ?_; intros
    exact zk (i + 1, pl) [] ⟨hc, hm, by dsimp only; omega, fun d hd u hu => by
     obtain ⟨dn, _, hdn⟩ := List.getElem_of_mem hd
     rcases hlow dn d (by rw [List.getElem?_eq_getElem (by assumption), hdn]) u hu with q | q
     ·dsimp only; omega
     ·dsimp only; omega⟩ (by simp; omega) (by simp [wrN i (by omega)]) rfl (by simp)
 ·simp at hc
  obtain rfl : i = x.cust.length := by omega
  have hpll := hm.len
  refine zm ?_
  (repeat apply za); refine pwn ?_; intros
  refine zC 3 rfl ?_
  repeat apply za
  exact zb ⟨_, S, (by simp; rfl), ⟨⟨pl, true, by simp [zi, hpll], fun _ => ⟨hm, by omega⟩⟩, rfl⟩, zL hd⟩
open Go
def lx : Inst := ⟨1, 1, 9, 9, [], [[0]]⟩
def ly : Inst := ⟨1, 1, 9, 9, [⟨1, 1, [1], 0, 0, 0, 0, 0⟩], [[0, 3], [4, 0]]⟩
def lp : zQ := [[]]
theorem ZiI : ∀ i : Nat, yB 1 i = 1 ↔ i = 0 := by
 intro i
 cases i with
 | zero => simp [yB]
 | succ i => simp [yB, Nat.div_eq_of_lt (show 1 < 2 ^ (i + 1) from Nat.one_lt_two_pow (by omega))]
open Go
theorem Zby (p : Nat) : ∀ k : Nat, k ≤ 64 → ∀ i : Nat, yB (qn p k) i = 1 → i < k
 | 0, _, i, h => by simp [qn, yB] at h
 | k + 1, hk, i, h => by
  have ih := Zby p k (by omega) i
  unfold qn at h
  split at h
  ·rw [Zbf _ _ (Zz p k) (by omega)] at h
   have h2 : ((qn p k ||| 2 ^ k).testBit i) = true := by
    rw [Xw]; unfold vu at h; rw [if_pos (by omega), Int.toNat_natCast] at h; simp [h]
   rw [Nat.testBit_or, Nat.testBit_two_pow, Bool.or_eq_true] at h2
   rcases h2 with h2 | h2
   ·rw [Xw] at h2
    have := ih (by simpa using h2); omega
   ·have : k = i := by simpa using h2
    omega
  ·have := ih h; omega
theorem Zbz {p a k : Nat} {d : Int} (h : d ∈ zX p a k) : ∃ i : Nat, d = i ∧ i < k ∧ yB p i = 1 := by
 simp only [zX, List.mem_map, List.mem_filter, List.mem_range, Bool.and_eq_true, decide_eq_true_eq] at h
 obtain ⟨i, ⟨h1, _, h3⟩, rfl⟩ := h
 exact ⟨i, rfl, h1, h3⟩
theorem ZiJ (c : Cust) (days : Int) (h1 : 1 ≤ days) (h7 : days ≤ 7) : CustMade (qx c days) days.toNat := by
 unfold qx
 split
 ·have a := qM c.rate 0 9 (by omega)
  have b := qM c.size 1 30 (by omega)
  have d := qM c.start 0 (rnd c.size 1 30) (by omega)
  exact ⟨⟨by dsimp only; omega, by dsimp only; omega, by dsimp only; omega⟩, by simp, by simp, fun h => by simp at h⟩
 ·have a := qM c.demand 1 15 (by omega)
  refine ⟨⟨by simp, by simp, by simp⟩, ?_, ?_, fun _ => ⟨?_, by dsimp only; omega, by dsimp only; omega⟩⟩
  ·intro p hp
   simp only [vg] at hp
   split at hp
   ·simp only [List.mem_singleton] at hp; omega
   ·obtain ⟨q, _, rfl⟩ := List.mem_map.1 hp; exact Zz q _
  ·simp only [vg]; split
   ·simp
   ·simp; omega
  ·intro p hp d hd
   obtain ⟨i, rfl, _, hb⟩ := Zbz hd
   simp only [vg] at hp
   split at hp
   ·simp only [List.mem_singleton] at hp; subst hp
    have := (ZiI i).1 hb; omega
   ·obtain ⟨q, _, rfl⟩ := List.mem_map.1 hp
    have := Zby q days.toNat (by omega) i hb; omega
theorem ZiK (c : Cust) (days : Int) : CustOk (qx c days) := by
 unfold qx
 split
 ·have a := qM c.rate 0 9 (by omega)
  have b := qM c.size 1 30 (by omega)
  have d := qM c.start 0 (rnd c.size 1 30) (by omega)
  have e := qM c.rule 1 2 (by omega)
  have f := qM c.hold 0 4 (by omega)
  refine ⟨?_, ?_, by simp, by simp, ?_, ?_, ?_, ?_, ?_⟩ <;> (unfold I64; dsimp only; omega)
 ·have a := qM c.demand 1 15 (by omega)
  refine ⟨?_, ?_, ?_, ?_, ?_, ?_, ?_, ?_, ?_⟩
  ·unfold I64; dsimp only; omega
  ·unfold I64; dsimp only; omega
  ·intro p hp
   simp only [vg] at hp
   split at hp
   ·simp only [List.mem_singleton] at hp; omega
   ·obtain ⟨q, _, rfl⟩ := List.mem_map.1 hp; exact Zz q _
  ·simp only [vg]; split
   ·simp
   ·simp; omega
  all_goals (unfold I64; dsimp only; omega)
theorem XE (x : Inst) : 1 ≤ (zP x).days ∧ (zP x).days ≤ 7 := qM x.days 1 7 (by omega)
theorem ZiL (x : Inst) : 0 ≤ (zP x).cap ∧ (zP x).cap ≤ 40 := qM x.cap 0 40 (by omega)
theorem XF (x : Inst) : (zP x).cust.length ≤ 6 := by simp [zP]; omega
theorem ZbA (x : Inst) {c : Cust} (h : c ∈ (zP x).cust) : ∃ c0, c = qx c0 (zP x).days := by
 simp only [zP, List.mem_map] at h
 obtain ⟨c0, _, rfl⟩ := h
 exact ⟨c0, rfl⟩
def vG (x : Inst) (v c l : Int) : Inst := ⟨(zP x).days, v, c, l, (zP x).cust, (zP x).dist⟩
theorem ZiM (x : Inst) (v c l : Int) (hc : c ≤ 2147483648) : InstMade (vG x v c l) (zP x).days.toNat := by
 have h := XE x
 refine ⟨?_, by omega, ?_, ?_, hc⟩
 ·show (zP x).days = _; omega
 ·have := XF x; show (zP x).cust.length ≤ 1000; omega
 ·intro d hd
  obtain ⟨c0, rfl⟩ := ZbA x hd
  exact ZiJ c0 _ h.1 h.2
theorem ZiN (x : Inst) (v c l : Int) (hv : I64 v) (hc : I64 c) (hl : I64 l) : InstOk (vG x v c l) := by
 have h := XE x
 refine ⟨by unfold I64; show -9223372036854775808 ≤ (zP x).days ∧ (zP x).days ≤ _; omega, hv, hc, hl, ?_, ?_, ?_, ?_⟩
 ·have := XF x; show (zP x).cust.length ≤ _; omega
 ·intro d hd
  obtain ⟨c0, rfl⟩ := ZbA x hd
  exact ZiK c0 _
 ·show (zP x).dist.length ≤ _; simp [zP]; omega
 ·intro r hr
  have hr : r ∈ (zP x).dist := hr
  simp only [zP, List.mem_map] at hr
  obtain ⟨a, _, rfl⟩ := hr
  refine ⟨by simp [xn]; omega, fun d hd => ?_⟩
  simp only [xn, List.mem_map] at hd
  obtain ⟨b, _, rfl⟩ := hd
  split
  ·have := qM (arc x a b) 0 60 (by omega); unfold I64; omega
  ·unfold I64; omega
theorem ZbB {d : Day} {t : zo} (ht : t ∈ d) {s : Stop} (hs : s ∈ t) : s ∈ d.flatten := List.mem_flatten.2 ⟨t, ht, hs⟩
theorem ZbC {m : Nat} : ∀ (l : List Int), l.Nodup → (∀ c ∈ l, 0 ≤ c ∧ c < m) → l.length ≤ m := by
 intro l hn hl
 have h1 : (l.map Int.toNat).Nodup := by
  refine List.Pairwise.map _ ?_ (List.Pairwise.and_mem.1 hn)
  rintro a b ⟨ha, hb, hab⟩ e
  have := hl a ha; have := hl b hb
  exact hab (by omega)
 have h2 : ∀ c ∈ l.map Int.toNat, c ∈ List.range m := by
  intro c hc
  obtain ⟨z, hz, rfl⟩ := List.mem_map.1 hc
  have := hl z hz
  exact List.mem_range.2 (by omega)
 have := h1.length_le_of_subset h2
 simpa using this
theorem ZY {m n : Nat} {p : zQ} (h : MadeP m n p) {d : Day} (hd : d ∈ p) : d.flatten.length ≤ m ∧ d.length ≤ m ∧ ∀ t ∈ d, t.length ≤ m := by
 have h1 := ZbC (m := m) _ (h.nd d hd) (fun c hc => by
  obtain ⟨s, hs, rfl⟩ := List.mem_map.1 hc
  exact (h.ok d hd s hs).1)
 rw [List.length_map] at h1
 have h2 := Qv d (h.ne d hd)
 exact ⟨h1, by omega, fun t ht => by have := ZX d t ht; omega⟩
theorem ZiO {m n : Nat} {p : zQ} (h : MadeP m n p) (hm : m ≤ 1000) (hn : n ≤ 64) (hc : jB p ≤ 64000) : PlanSz p := by
 have hl := h.len
 refine ⟨⟨by omega, fun d hd => by have := (ZY h hd).2.1; omega, fun d hd t ht => by have := (ZY h hd).2.2 t ht; omega, by rw [Zbw]; omega⟩, fun d hd => by have := (ZY h hd).1; omega⟩
theorem ZiP {m n : Nat} {p : zQ} (h : MadeP m n p) (hm : m ≤ 1000) : ∀ d ∈ p, DayOk d := by
 intro d hd
 refine ⟨by have := (ZY h hd).2.1; omega, fun t ht => by have := (ZY h hd).2.2 t ht; omega, fun t ht s hs => ?_⟩
 have := (h.ok d hd s (ZbB ht hs)).1
 unfold small; omega
open Go Go.Proofs Hp
def jq (x : Inst) (c : Nat) : Stop := ⟨c, if (x.cust.getD c default).kind = 1 then (x.cust.getD c default).demand else 1⟩
def qS (x : Inst) (s : Stop) (d : Day) : Int := if (zW x d s).2 = true then max 0 (W (W (zA x (zW x d s).1) - W (zA x d))) else 4294967296
set_option maxRecDepth 20000 in
theorem ZiQ (x : Inst) (c : Int) : Pure Tryz.prog 70 [.agg (zp x), I c] (B (decide (0 ≤ c) && decide (c < x.cust.length))) := by
 refine pwe Tryz.func70 Tryz.ntmps70 Tryz.results70 fun S nx hd => ?_
 repeat apply za
 refine pwn ?_
 intro v0
 by_cases h : 0 ≤ c
 ·by_cases h2 : c < x.cust.length
  ·repeat apply za
   refine pwN [(2, 7)] (jn2 h h2) ?_
   intros
   repeat apply za
   exact zb (zg hd rfl (by simp [zi, h, h2]))
  ·repeat apply za
   refine pwN [(2, 7)] (jn2 h h2) ?_
   intros
   repeat apply za
   exact zb (zg hd rfl (by simp [zi, h, h2]))
 ·repeat apply za
  refine pwN [(2, 7)] (jn2 h zn) ?_
  intros
  repeat apply za
  exact zb (zg hd rfl (by simp [zi, h]))
structure DaysMay (x : Inst) (p : zQ) : Prop where
 len : p.length ≤ 1000
 ok : ∀ d ∈ p, RgOk x d [⟨0, 0⟩]
theorem DaysMay.ins {x : Inst} {p : zQ} (h : DaysMay x p) (hx : x.cust.length ≤ 1048576) {d : Day} (hd : d ∈ p) (s : Stop) : DayOk d ∧ zH x d = 0 ∧ d.flatten.length ≤ 1000 ∧ d.length ≤ 1000 ∧ DayOk (zW x d s).1 := by
 have g := h.ok d hd
 have hl := g.len
 simp only [List.length_cons, List.length_nil] at hl
 refine ⟨g.ok, g.may, by omega, g.dl, ?_⟩
 cases hi : (zW x d s).2 with
 | true => exact (g.step hx (i := 0) (by simp) hi).ok
 | false => rw [V2 hi]; exact g.ok
set_option maxHeartbeats 3200000 in
theorem ZiR (x : Inst) (p : zQ) (c : Nat) (hx : x.cust.length ≤ 1000) (hc : c < x.cust.length) (hp : DaysMay x p) : Pure Tryz.prog 31 [.agg (zp x), .agg [L p], I c] (L (p.map (qS x (jq x c)))) := by
 have hth := ZiQ x c
 rw [show (decide (0 ≤ (c : Int)) && decide ((c : Int) < x.cust.length)) = true from by simp; omega] at hth
 obtain ⟨cu, tlc, a1, -, -, e1, e0⟩ := el 8 rfl x.cust c hc
 have e11 := e1 1 (by omega)
 have hq : jq x c = ⟨c, if cu.kind = 1 then cu.demand else 1⟩ := by unfold jq; rw [List.getD_eq_getElem?_getD, a1]; rfl
 have hplen := hp.len
 refine pwe Tryz.func31 Tryz.ntmps31 Tryz.results31 fun S nx hd => ?_
 repeat apply za
 refine pwn ?_
 intro v0 v1
 repeat apply za
 refine pwn ?_
 intro v2
 refine za ?_
 refine zR (nx := nx) (σ := Unit) (fun _ => True) (fun _ => [(3, .ptr nx v0 0), (4, .ptr (nx + 1) v1 0), (7, .ptr (nx + 2) v2 0)]) (fun _ => S) (fun _ => [.cells v0 25 (zp x), .cells v1 29 [L p], .cells v2 50 [I c, I (jq x c).q]]) ?_ ?_
 ·by_cases hk : cu.kind = 1
  ·rw [if_pos hk] at hq
   repeat apply za
   refine pwN [(3, 19)] (jn3 e0 hc hk) ?_
   refine pwC [(3, 19)] hth (jn3 e0 hc hk) ?_
   intros
   repeat apply za
   refine zh (by simp [hk]) ?_
   repeat apply za
   refine pwN [] (jn2 e11 hc) ?_
   intros
   exact zt () [] trivial (by simp) rfl (by simp [hq])
  ·rw [if_neg hk] at hq
   repeat apply za
   refine pwN [(3, 19)] (jn3 e0 hc hk) ?_
   refine pwC [(3, 19)] hth (jn3 e0 hc hk) ?_
   intros
   repeat apply za
   refine zj (by simp [hk]) ?_
   refine zd ?_
   exact zt () [] trivial (by simp) rfl (by simp [hq])
 intro _ _
 have hsc : (jq x c).c = c := rfl
 generalize hst : jq x c = s at hsc
 clear hq
 repeat apply za
 (repeat apply za); refine pwn ?_; intros
 refine za (yA 8 3 1 rfl fun v3 => ?_)
 (repeat apply za); refine pwn ?_; intros
 repeat apply za
 refine ze (zq (fun st : Nat × List Int × Nat => st.1 ≤ p.length ∧ st.2.1 = (p.take st.1).map (qS x s)) (fun (k, out, w) => [(3, .ptr nx v0 0), (7, .ptr (nx + 2) v2 0), (8, .sl (nx + 3) w 1 0 out.length), (36, L p), (37, I p.length), (38, I k)]) (fun (k, out, w) => [.cells v0 25 (zp x), .cells v1 29 [L p], .cells v2 50 [I c, I s.q], .cells w 3 (out.flatMap Enc.enc)]) (fun st => p.length - st.1) (0, [], v3) [] (by simp) (by simp) (by simp) ?_)
 rintro ⟨k, out, w⟩ ⟨hk, ho⟩
 simp only at hk ho ⊢
 have hol : out.length = k := by rw [ho]; simp; omega
 (repeat apply za); refine pwn ?_; intros
 repeat apply za
 refine zl rfl (fun hc1 => ?_) (fun hc1 => ?_)
 ·simp at hc1
  obtain ⟨d, tl, b1, b2, b3, f0⟩ := el1 rfl p k hc1
  obtain ⟨g1, g2, g3, g4, g5⟩ := hp.ins (by omega) (List.mem_of_getElem? b1) s
  have hins := Zao x d s (by omega) g1 (by omega)
  have hc2 := Jl x d g1
  have hc3 := Jl x _ g5
  have hpr : qS x s d = if (zW x d s).2 = true then max 0 (W (W (zA x (zW x d s).1) - W (zA x d))) else 4294967296 := rfl
  rw [hsc] at hins
  generalize zW x d s = r at *
  obtain ⟨e, ok⟩ := r
  simp only at hins hc3 hpr
  generalize W (zA x d) = z1 at *
  generalize W (zA x e) = z2 at *
  have h1p : 1 ≤ p.length - k := by omega
  refine zd (za (ze ?_))
  repeat apply za
  refine pwN [] (jn3 f0 hc1 h1p) ?_
  intro v4
  (repeat apply za); refine pwn ?_; intros
  repeat apply za
  refine pwn ?_
  refine pwc hins ?_
  intro v5
  intros
  (repeat apply za); refine pwn ?_; intros
  cases ok with
  | true =>
   rw [if_pos rfl] at hpr
   have hmax : wY (0 : Int) (W (z2 - z1)) = qS x s d := by rw [hpr]; unfold wY; split <;> omega
   repeat apply za
   refine zh rfl ?_
   repeat apply za
   refine pwY (some [nx, nx + 4, nx + 5]) (Row.pures [0, 1, 2, 3, 4, 5, 6, 7, 8] .done) mixed trivial ?_
   refine pwP (hc3) hmax ?_
   refine pwP (hc2) hmax ?_
   intros
   repeat apply za
   refine pwn ?_
   refine ⟨by omega, ?_⟩
   intros
   (repeat apply za); refine pwn ?_; intros
   exact zk (k + 1, out ++ [qS x s d], w + 1) [_, _] ⟨hc1, by rw [b3, List.map_append, ho]; rfl⟩ (by simp; omega) (by simp [wrN k (by omega)]) rfl (by simp [hpr]; exact ⟨rfl, rfl⟩)
  | false =>
   rw [if_neg (by decide)] at hpr
   repeat apply za
   refine zj rfl ?_
   refine zd ?_
   repeat apply za
   refine pwn ?_
   refine ⟨by omega, ?_⟩
   intros
   (repeat apply za); refine pwn ?_; intros
   exact zk (k + 1, out ++ [qS x s d], w + 1) [_, _] ⟨hc1, by rw [b3, List.map_append, ho]; rfl⟩ (by simp; omega) (by simp [wrN k (by omega)]) rfl (by simp [hpr]; exact ⟨rfl, rfl⟩)
 ·simp at hc1
  obtain rfl : k = p.length := by omega
  rw [List.take_length] at ho
  refine zm ?_
  refine zC 3 rfl ?_
  (repeat apply za); refine pwn ?_; intros
  repeat apply za
  exact zb (zg hd (by simp; rfl) (by simp [zi, ho]))
set_option maxHeartbeats 3200000 in
theorem ZiS (x : Inst) (p : zQ) (c : Nat) (hx : x.cust.length ≤ 1000) (ha : yq x) (hc : c < x.cust.length) (hp : DaysMay x p) : Pure Tryz.prog 32 [.agg (zp x), .agg [L p], I c] (L (p.map (qS x (jq x c)))) := by
 obtain ⟨cu, tlc, a1, -, -, e1, e0⟩ := el 8 rfl x.cust c hc
 have e11 := e1 1 (by omega)
 have hq : jq x c = ⟨c, if cu.kind = 1 then cu.demand else 1⟩ := by unfold jq; rw [List.getD_eq_getElem?_getD, a1]; rfl
 have hplen := hp.len
 refine pwe Tryz.func32 Tryz.ntmps32 Tryz.results32 fun S nx hd => ?_
 repeat apply za
 refine pwn ?_
 intro v0 v1
 repeat apply za
 refine pwn ?_
 intro v2
 refine za ?_
 refine zR (nx := nx) (σ := Unit) (fun _ => True) (fun _ => [(3, .ptr nx v0 0), (4, .ptr (nx + 1) v1 0), (7, .ptr (nx + 2) v2 0)]) (fun _ => S) (fun _ => [.cells v0 25 (zp x), .cells v1 29 [L p], .cells v2 50 [I c, I (jq x c).q]]) ?_ ?_
 ·by_cases hk : cu.kind = 1
  ·rw [if_pos hk] at hq
   repeat apply za
   refine pwN [] (jn3 e0 hc hk) ?_
   intros
   repeat apply za
   refine zh (by simp [hk]) ?_
   repeat apply za
   refine pwN [] (jn2 e11 hc) ?_
   intros
   exact zt () [] trivial (by simp) rfl (by simp [hq])
  ·rw [if_neg hk] at hq
   repeat apply za
   refine pwN [] (jn3 e0 hc hk) ?_
   intros
   repeat apply za
   refine zj (by simp [hk]) ?_
   refine zd ?_
   exact zt () [] trivial (by simp) rfl (by simp [hq])
 intro _ _
 have hsc : (jq x c).c = c := rfl
 generalize hst : jq x c = s at hsc
 clear hq
 repeat apply za
 (repeat apply za); refine pwn ?_; intros
 refine za (yA 8 3 1 rfl fun v3 => ?_)
 (repeat apply za); refine pwn ?_; intros
 repeat apply za
 refine ze (zq (fun st : Nat × List Int × Nat => st.1 ≤ p.length ∧ st.2.1 = (p.take st.1).map (qS x s)) (fun (k, out, w) => [(3, .ptr nx v0 0), (4, .ptr (nx + 1) v1 0), (7, .ptr (nx + 2) v2 0), (8, .sl (nx + 3) w 1 0 out.length), (9, I k)]) (fun (k, out, w) => [.cells v0 25 (zp x), .cells v1 29 [L p], .cells v2 50 [I c, I s.q], .cells w 3 (out.flatMap Enc.enc)]) (fun st => p.length - st.1) (0, [], v3) [] (by simp) (by simp) (by simp) ?_)
 rintro ⟨k, out, w⟩ ⟨hk, ho⟩
 simp only at hk ho ⊢
 have hol : out.length = k := by rw [ho]; simp; omega
 (repeat apply za); refine pwn ?_; intros
 repeat apply za
 refine zl rfl (fun hc1 => ?_) (fun hc1 => ?_)
 ·simp at hc1
  obtain ⟨d, tl, b1, b2, b3, f0⟩ := el1 rfl p k hc1
  obtain ⟨g1, g2, g3, g4, g5⟩ := hp.ins (by omega) (List.mem_of_getElem? b1) s
  have hins := Zgl x d s (by omega) (by omega) (by omega)
  rw [Zf5 ha g2 (by omega) (by omega)] at hins
  have hc2 := YP x d g1
  have hc3 := YP x _ g5
  have hpr : qS x s d = if (zW x d s).2 = true then max 0 (W (W (zA x (zW x d s).1) - W (zA x d))) else 4294967296 := rfl
  have hz : (zW x d s).2 = true → 0 ≤ W (zA x d) ∧ W (zA x d) ≤ 4611686018427387904 ∧ 0 ≤ W (zA x (zW x d s).1) ∧ W (zA x (zW x d s).1) ≤ 4611686018427387904 := by
   intro hi
   have g6 := (hp.ok d (List.mem_of_getElem? b1)).step (x := x) (by omega) (i := 0) (by simp) hi
   have hfl : (zW x d s).1.flatten.length ≤ 1000 := by have := g6.len; omega
   have hdl := g6.dl
   have k1 := Y2 ha d
   have k2 := Y2 ha (zW x d s).1
   rw [Y3 ha (by omega) (by omega), Y3 ha (by omega) (by omega)]
   omega
  rw [hsc] at hins
  generalize zW x d s = r at *
  obtain ⟨e, ok⟩ := r
  simp only at hins hc3 hpr hz
  generalize W (zA x d) = z1 at *
  generalize W (zA x e) = z2 at *
  have h1p : 1 ≤ p.length - k := by omega
  refine zd (za (ze ?_))
  repeat apply za
  refine pwY (some [nx, nx + 1, nx + 2]) (Row.pures [0, 1, 2, 3, 4, 5, 6, 7, 8, 9, 10] (.alt 11 (.alt 12 (Row.pures [13] .done) .stop) .stop)) mixed (jn3 f0 hc1 h1p) ?_
  refine pwP (hins) (jn3 f0 hc1 h1p) ?_
  intro v5
  intros
  cases ok with
  | true =>
   have hz := hz rfl
   rw [if_pos rfl] at hpr
   have hw : W (z2 - z1) = z2 - z1 := wr _ (by omega) (by omega)
   rw [hw] at hpr
   by_cases hlt : z2 < z1
   ·have hp0 : qS x s d = 0 := by rw [hpr]; omega
    repeat apply za
    refine pwY (some [nx, nx + 1, nx + 4]) (Row.pures [0, 1, 2, 3, 4, 5, 6, 7, 8, 9, 10, 11, 12, 13] .done) mixed (jn4 f0 hc1 h1p hlt) ?_
    refine pwP (hc3) (jn4 f0 hc1 h1p hlt) ?_
    refine pwP (hc2) (jn4 f0 hc1 h1p hlt) ?_
    intros
    repeat apply za
    refine zh rfl ?_
    repeat apply za
    refine pwn ?_
    refine ⟨by omega, ?_⟩
    intros
    (repeat apply za); refine pwn ?_; intros
    exact zk (k + 1, out ++ [qS x s d], w + 1) [_] ⟨hc1, by rw [b3, List.map_append, ho]; rfl⟩ (by simp; omega) (by simp [wrN k (by omega)]) rfl (by simp [hp0]; exact rfl)
   ·have hp0 : qS x s d = z2 - z1 := by rw [hpr]; omega
    have hw' : IntKind.i64.wrap (z2 - z1) = z2 - z1 := hw
    repeat apply za
    refine pwY (some [nx, nx + 1, nx + 4]) (Row.pures [0, 1, 2, 3, 4, 5, 6, 7, 8, 9, 10, 11, 12, 13] .done) mixed (jn4 f0 hc1 h1p hlt) ?_
    refine pwP (hc3) (jn4 f0 hc1 h1p hlt) ?_
    refine pwP (hc2) (jn4 f0 hc1 h1p hlt) ?_
    intros
    repeat apply za
    refine zj rfl ?_
    (repeat apply za); refine pwn ?_; intros
    repeat apply za
    refine zh rfl ?_
    repeat apply za
    refine pwY (some [nx, nx + 1, nx + 4]) (Row.pures [0, 1, 2, 3, 4, 5, 6, 7, 8, 9, 10, 11, 12] (.alt 13 (Row.pures [14] .done) .stop)) mixed (jn4 f0 hc1 h1p hw') ?_
    refine pwP (hc3) (jn4 f0 hc1 h1p hw') ?_
    refine pwP (hc2) (jn4 f0 hc1 h1p hw') ?_
    refine ⟨by omega, ?_⟩
    intros
    (repeat apply za); refine pwn ?_; intros
    exact zk (k + 1, out ++ [qS x s d], w + 1) [_] ⟨hc1, by rw [b3, List.map_append, ho]; rfl⟩ (by simp; omega) (by simp [wrN k (by omega)]) rfl (by simp [hp0]; exact rfl)
  | false =>
   rw [if_neg (by decide)] at hpr
   repeat apply za
   refine pwY (some [nx, nx + 1, nx + 4]) (Row.pures [0, 1, 2, 3, 4, 5, 6, 7, 8, 9, 10, 11, 12, 13] .done) mixed zn ?_
   intros
   repeat apply za
   refine zj rfl ?_
   (repeat apply za); refine pwn ?_; intros
   repeat apply za
   refine zj rfl ?_
   repeat apply za
   refine pwn ?_
   refine ⟨by omega, ?_⟩
   intros
   (repeat apply za); refine pwn ?_; intros
   exact zk (k + 1, out ++ [qS x s d], w + 1) [_] ⟨hc1, by rw [b3, List.map_append, ho]; rfl⟩ (by simp; omega) (by simp [wrN k (by omega)]) rfl (by simp [hpr]; exact rfl)
 ·simp at hc1
  obtain rfl : k = p.length := by omega
  rw [List.take_length] at ho
  refine zm ?_
  refine zC 3 rfl ?_
  (repeat apply za); refine pwn ?_; intros
  repeat apply za
  exact zb (zg hd (by simp; rfl) (by simp [zi, ho]))
open Go Go.Proofs Hp
theorem ZiT {x : Inst} {p : zQ} (h : vE x p = 0) : qB x = true ∧ (p.length : Int) = x.days ∧ (∀ d ∈ p, zH x d = 0) ∧ ∀ i, i < x.cust.length → wu x p i = 0 := by
 unfold vE at h
 split at h
 ·cases h
 split at h
 ·cases h
 rename_i h1 h2
 split at h
 ·rename_i h3; exact absurd h h3
 rename_i h3
 refine ⟨by simpa using h1, Classical.not_not.1 h2, fun d hd => (Zbg _).1 (Classical.not_not.1 h3) _ (List.mem_map.2 ⟨d, hd, rfl⟩), fun i hi => (Zbg _).1 h _ (List.mem_map.2 ⟨i, List.mem_range.2 hi, rfl⟩)⟩
theorem ZbD {x : Inst} (hx : x.cust.length ≤ 900) {d : Day} (h : zH x d = 0) : d.flatten.length ≤ x.cust.length ∧ d.length ≤ x.cust.length ∧ RgOk x d [⟨0, 0⟩] := by
 obtain ⟨h1, h2, h3⟩ := (jm x d).1 h
 have hg := Zbi h
 have hl := ZbC (m := x.cust.length) _ h2 (fun c hc => by
  obtain ⟨s, hs, rfl⟩ := List.mem_map.1 hc
  have := hg s hs
  simp [yC] at this
  omega)
 rw [List.length_map] at hl
 have hn := Y7 h
 have hd := Qv d hn
 refine ⟨hl, by omega, ⟨by omega, fun t ht => ?_, fun t ht s hs => ?_⟩, h, by rw [List.length_singleton]; omega⟩
 ·have := ZX d t ht; omega
 ·have := hg s (ZbB ht hs)
  simp [yC] at this
  unfold small; omega
theorem ZiU {x : Inst} (hx : x.cust.length ≤ 900) {p : zQ} (hl : p.length ≤ 1000) (h : ∀ d ∈ p, zH x d = 0) : DaysMay x p := ⟨hl, fun d hd => (ZbD hx (h d hd)).2.2⟩
theorem ZiV {x : Inst} {M : Int} (hM : 0 ≤ M) (h : ∀ row ∈ x.dist, ∀ d ∈ row, 0 ≤ d ∧ d ≤ M) : ∀ a b, 0 ≤ arc x a b ∧ arc x a b ≤ M := by
 intro a b
 unfold arc
 split
 ·omega
 ·rw [List.getD_eq_getElem?_getD, List.getD_eq_getElem?_getD]
  cases hr : x.dist[a.toNat]? with
  | none => simp; omega
  | some row =>
   simp only [Option.getD_some]
   cases hd : row[b.toNat]? with
   | none => simp; omega
   | some d => exact h row (List.mem_of_getElem? hr) d (List.mem_of_getElem? hd)
theorem ZiW (x : Inst) : ∀ a b, 0 ≤ arc (zP x) a b ∧ arc (zP x) a b ≤ 60 := by
 refine ZiV (by omega) fun row hr d hd => ?_
 simp only [zP, List.mem_map] at hr
 obtain ⟨a, _, rfl⟩ := hr
 unfold xn at hd
 obtain ⟨b, _, rfl⟩ := List.mem_map.1 hd
 split
 ·have := qM (arc x a b) 0 60 (by omega); omega
 ·omega
theorem ZbE {x : Inst} (h : ∀ a b, 0 ≤ arc x a b ∧ arc x a b ≤ 60) : ∀ (l : List Int) (a : Int), zY x a l ≤ 60 * ((l.length : Int) + 1)
 | [], a => by
  have := h a 0
  simp only [zY, List.length_nil]; omega
 | c :: l, a => by
  have h1 := h a (c + 1)
  have h2 := ZbE h l (c + 1)
  simp only [zY, List.length_cons]; omega
theorem ZiX {x : Inst} (h : ∀ a b, 0 ≤ arc x a b ∧ arc x a b ≤ 60) (l : List Int) : zB x l ≤ 60 * ((l.length : Int) + 1) := by
 unfold zB; split
 ·omega
 ·exact ZbE h l 0
theorem ZiY (c : Int) (d : Day) : (yr c d).flatten = d.flatten.filter fun s => decide (s.c ≠ c) := by
 unfold yr
 have : ∀ l : Day, (l.filter fun t => !t.isEmpty).flatten = l.flatten := by
  intro l
  induction l with
  | nil => rfl
  | cons t l ih => cases t <;> simp [List.filter_cons, ih]
 rw [this]
 induction d with
 | nil => rfl
 | cons t d ih => simp only [List.map_cons, List.flatten_cons, List.filter_append, ih]; rfl
theorem ZbF {x : Inst} (c : Int) : ∀ t : zo, (∀ s ∈ t, yC x s = true) → zu (yk c t) ≤ zu t
 | [], _ => Int.le_refl _
 | s :: t, h => by
  have h1 := ZbF c t fun s hs => h s (by simp [hs])
  have h2 := h s (by simp)
  simp [yC] at h2
  unfold yk zu at h1 ⊢
  rw [List.filter_cons]
  split
  ·simp only [List.map_cons, List.sum_cons]; omega
  ·simp only [List.map_cons, List.sum_cons]; omega
theorem ZiZ {x : Inst} (hx : x.cust.length ≤ 6) (ha : ∀ a b, 0 ≤ arc x a b ∧ arc x a b ≤ 60) (hlen : x.len = 1000) {d : Day} (h : zH x d = 0) (c : Int) : zH x (yr c d) = 0 := by
 obtain ⟨h1, h2, h3⟩ := (jm x d).1 h
 obtain ⟨g1, g2, g3⟩ := ZbD (by omega) h
 have hA : yq x := fun a b => by have := ha a b; omega
 refine (jm x _).2 ⟨fun t' ht' => ?_, ?_, ?_⟩
 ·unfold yr at ht'
  obtain ⟨hm, hne⟩ := List.mem_filter.1 ht'
  obtain ⟨t, ht, rfl⟩ := List.mem_map.1 hm
  have hsub : (yk c t).Sublist t := List.filter_sublist
  have hg := (ZV (h1 t ht)).1
  have hnd := ((wJ x t).1 (h1 t ht)).2.1
  have hl := ZX d t ht
  have hlr := hsub.length_le
  have hgt : Qi x t := ⟨hg, hnd, by omega⟩
  have hgr : Qi x (yk c t) := ⟨fun s hs => hg s (hsub.subset hs), hnd.sublist (hsub.map _), by omega⟩
  have h5 := (ul hA hgt (ZV (h1 t ht)).2).1 (h1 t ht)
  have h6 := ZbF c t hg
  have h7 := ZiX ha ((yk c t).map (·.c))
  rw [List.length_map] at h7
  exact (ul hA hgr (by intro e; rw [e] at hne; simp at hne)).2 ⟨by omega, by omega⟩
 ·rw [ZiY]; exact h2.sublist (List.filter_sublist.map _)
 ·have := J1 c d; omega
open Go Go.Proofs Hp
set_option maxRecDepth 20000 in
theorem Zi0 (x : Inst) (v : List (List Visit)) (day : Int) (n : Nat) (hx : x.cust.length ≤ 1000) (hv : VsOk x.cust.length n v) : Pure Tryz.prog 22 [.agg (zp x), L v, I day] (L (qf v day x.cust.length)) := by
 have hvl := hv.len
 have hso := fun k => (Xy hv day k).1
 have hmi : vL (x.cust.length : Int) (x.cust.length : Int) = x.cust.length := by unfold vL; simp
 refine pwe Tryz.func22 Tryz.ntmps22 Tryz.results22 fun S nx hd => ?_
 repeat apply za
 refine pwn ?_
 intro v0
 (repeat apply za); refine pwn ?_; intros
 refine za (yA 7 50 2 rfl fun v1 => ?_)
 (repeat apply za); refine pwn ?_; intros
 repeat apply za
 refine ze (zq (fun s : Nat × List Stop × Nat => s.1 ≤ x.cust.length ∧ s.2.1 = qf v day s.1) (fun (i, out, w) => [(1, L v), (2, I day), (7, .sl (nx + 1) w 2 0 out.length), (16, I x.cust.length), (17, I i)]) (fun (i, out, w) => [.cells v0 25 (zp x), .cells w 50 (out.flatMap Enc.enc)]) (fun s => x.cust.length - s.1) (0, [], v1) [] (by simp [qf]) (by simp [hvl, hmi]) (by simp) ?_)
 rintro ⟨i, out, w⟩ ⟨hi, ho⟩
 simp only at hi ho ⊢
 (repeat apply za); refine pwn ?_; intros
 repeat apply za
 refine zl rfl (fun hc => ?_) (fun hc => ?_)
 ·simp at hc
  have hiv : i < v.length := by omega
  obtain ⟨l, tl, a1, a2, a3, e0⟩ := el1 rfl v i hiv
  have hll := hv.few l (List.mem_of_getElem? a1)
  have hoi := hso i
  refine zd (za (ze ?_))
  (repeat apply za); refine pwn ?_; intros
  repeat apply za
  refine pwN [] (jn2 e0 hiv) ?_
  intros
  repeat apply za
  refine ze (zq (fun s : Nat × List Stop × Nat => s.1 ≤ l.length ∧ s.2.1 = qf v day i ++ uq l day i s.1 ∧ s.2.1.length ≤ i + s.1) (fun (k, out, w) => [(1, L v), (2, I day), (7, .sl (nx + 1) w 2 0 out.length), (8, I i), (16, I x.cust.length), (17, I i), (23, L l), (24, I l.length), (25, I k)]) (fun (k, out, w) => [.cells v0 25 (zp x), .cells w 50 (out.flatMap Enc.enc)]) (fun s => l.length - s.1) (0, out, w) [] ⟨by simp, by simp [Zim, ho], by simp [ho]; omega⟩ (by simp) (by simp) ?_)
  clear ho
  rintro ⟨k, out, w⟩ ⟨hk, ho, hol⟩
  simp only at hk ho hol ⊢
  (repeat apply za); refine pwn ?_; intros
  repeat apply za
  refine zl rfl (fun hc2 => ?_) (fun hc2 => ?_)
  ·simp at hc2
   obtain ⟨s, tl2, b1, b2, b3, e1, e2⟩ := el 2 rfl l k hc2
   refine zd (za (ze ?_))
   repeat apply za
   refine pwN [] (jn3 e1 e2 hc2) ?_
   intro v2
   (repeat apply za); refine pwn ?_; intros
   by_cases hd : s.d = day
   ·repeat apply za
    refine zh (by simp [hd]) ?_
    repeat apply za
    refine pwn ?_
    refine ⟨by omega, ?_⟩
    intros
    (repeat apply za); refine pwn ?_; intros
    exact zk (k + 1, out ++ [⟨i, s.q⟩], w + 1) [_] ⟨hc2, by rw [Zbk b1, if_pos hd, ho]; simp, by simp; omega⟩ (by simp; omega) (by simp [wrN k (by omega)]) rfl (by simp; rfl)
   ·repeat apply za
    refine zj (by simp [hd]) ?_
    refine zd ?_
    (repeat apply za); refine pwn ?_; intros
    exact zk (k + 1, out, w) [_] ⟨hc2, by rw [Zbk b1, if_neg hd, ho]; simp, by dsimp only; omega⟩ (by simp; omega) (by simp [wrN k (by omega)]) rfl (by simp; rfl)
  ·simp at hc2
   obtain rfl : k = l.length := by omega
   rw [Zin v day i l a1, ← Zbj] at ho
   refine zm ?_
   (repeat apply za); refine pwn ?_; intros
   exact zk (i + 1, out, w) [] ⟨hc, ho⟩ (by simp; omega) (by simp [wrN i (by omega)]) rfl (by simp)
 ·simp at hc
  obtain rfl : i = x.cust.length := by omega
  refine zm ?_
  refine zC 1 rfl ?_
  (repeat apply za); refine pwn ?_; intros
  repeat apply za
  exact zb (zg hd (by simp; rfl) (by simp [zi, ho]))
set_option maxHeartbeats 800000 in
theorem Zi1 (a b : zQ) (ha : a.length ≤ 1048576) (hat : ∀ t ∈ a, t.length ≤ 1048576) (hau : ∀ t ∈ a, ∀ u ∈ t, u.length ≤ 1048576) : Pure Tryz.prog 26 [.agg [L a], .agg [L b]] (B (decide (a = b))) := by
 refine pwe Tryz.func26 Tryz.ntmps26 Tryz.results26 fun S nx hd => ?_
 repeat apply za
 refine pwn ?_
 intro v0 v1
 by_cases hab : a.length = b.length
 case neg =>
  have : a ≠ b := fun e => hab (by rw [e])
  (repeat apply za); refine pwn ?_; intros
  repeat apply za
  refine zh (by simp; omega) ?_
  (repeat apply za); refine pwn ?_; intros
  repeat apply za
  exact zb (zg hd rfl (by simp [this]))
 (repeat apply za); refine pwn ?_; intros
 repeat apply za
 refine zj (by simp; omega) ?_
 refine zd ?_
 (repeat apply za); refine pwn ?_; intros
 repeat apply za
 refine ze (zq (fun k : Nat => k ≤ a.length ∧ a.take k = b.take k) (fun k => [(2, .ptr nx v0 0), (3, .ptr (nx + 1) v1 0), (5, I k)]) (fun _ => [.cells v0 29 [L a], .cells v1 29 [L b]]) (fun k => a.length - k) 0 [] (by simp) (by simp) (by simp) ?_)
 rintro k ⟨hk, hkt⟩
 (repeat apply za); refine pwn ?_; intros
 repeat apply za
 refine zl rfl (fun hc => ?_) (fun hc => ?_)
 ·simp at hc
  obtain ⟨s, ts, a1, -, a3, e1⟩ := el1 rfl a k hc
  obtain ⟨t, tt, b1, -, b3, e2⟩ := el1 rfl b k (by omega)
  have hcb : k < b.length := by omega
  have h1 : 1 ≤ a.length - k := by omega
  have h2 : 1 ≤ b.length - k := by omega
  have hsl := hat s (List.mem_of_getElem? a1)
  have hsu := hau s (List.mem_of_getElem? a1)
  refine zd (za (ze ?_))
  repeat apply za
  refine pwY (some [nx, nx + 1]) (Row.pures [0, 1, 2, 3, 4, 5, 6, 7, 8, 9, 10, 11, 12, 13, 14] .done) mixed (jn6 e1 e2 hc hcb h1 h2) ?_
  intros
  by_cases hst : s.length = t.length
  case neg =>
   have : a ≠ b := uV a1 b1 fun e => hst (by rw [e])
   repeat apply za
   refine zh (by simp; omega) ?_
   (repeat apply za); refine pwn ?_; intros
   repeat apply za
   exact zb (zg hd rfl (by simp [this]))
  repeat apply za
  refine zj (by simp; omega) ?_
  refine zd ?_
  (repeat apply za); refine pwn ?_; intros
  repeat apply za
  refine ze (zq (fun j : Nat => j ≤ s.length ∧ s.take j = t.take j) (fun j => [(2, .ptr nx v0 0), (3, .ptr (nx + 1) v1 0), (5, I k), (6, I j)]) (fun _ => [.cells v0 29 [L a], .cells v1 29 [L b]]) (fun j => s.length - j) 0 [] (by simp) (by simp) (by simp) ?_)
  rintro j ⟨hj, hjt⟩
  repeat apply za
  refine pwN [] (jn3 e1 hc h1) ?_
  intros
  repeat apply za
  refine zl rfl (fun hcj => ?_) (fun hcj => ?_)
  ·simp at hcj
   obtain ⟨p, tp, p1, -, p3, q1⟩ := el1 rfl s j hcj
   obtain ⟨q, tq, c1, -, c3, q2⟩ := el1 rfl t j (by omega)
   have hjb : j < t.length := by omega
   have g1 : 1 ≤ s.length - j := by omega
   have g2 : 1 ≤ t.length - j := by omega
   have hpl := hsu p (List.mem_of_getElem? p1)
   refine zd (za (ze ?_))
   repeat apply za
   refine pwN [] (jn6 e1 hc h1 q1 hcj g1) ?_
   intros
   repeat apply za
   refine pwN [] (jn6 e2 hcb h2 q2 hjb g2) ?_
   intros
   (repeat apply za); refine pwn ?_; intros
   by_cases hpq : p.length = q.length
   case neg =>
    have : a ≠ b := uV a1 b1 (uV p1 c1 fun e => hpq (by rw [e]))
    repeat apply za
    refine zh (by simp; omega) ?_
    (repeat apply za); refine pwn ?_; intros
    repeat apply za
    exact zb (zg hd rfl (by simp [this]))
   repeat apply za
   refine zj (by simp; omega) ?_
   refine zd ?_
   (repeat apply za); refine pwn ?_; intros
   repeat apply za
   refine ze (zq (fun i : Nat => i ≤ p.length ∧ p.take i = q.take i) (fun i => [(2, .ptr nx v0 0), (3, .ptr (nx + 1) v1 0), (5, I k), (6, I j), (7, L p), (8, L q), (9, I i)]) (fun _ => [.cells v0 29 [L a], .cells v1 29 [L b]]) (fun i => p.length - i) 0 [] (by simp) (by simp) (by simp) ?_)
   rintro i ⟨hi, hit⟩
   (repeat apply za); refine pwn ?_; intros
   repeat apply za
   refine zl rfl (fun hci => ?_) (fun hci => ?_)
   ·simp at hci
    obtain ⟨y, ty, y1, -, y3, -, r1⟩ := el 2 rfl p i hci
    obtain ⟨z, tz, z1, -, z3, -, r2⟩ := el 2 rfl q i (by omega)
    have hib : i < q.length := by omega
    refine zd (za (ze ?_))
    repeat apply za
    refine pwY none (Row.pures [0, 1, 2, 3, 4, 5, 6, 7, 8] .done) mixed (jn4 r1 r2 hci hib) ?_
    intros
    by_cases hyz : y = z
    ·subst hyz
     repeat apply za
     refine zj (by simp) ?_
     refine zd ?_
     (repeat apply za); refine pwn ?_; intros
     exact zk (i + 1) [] ⟨by omega, by rw [y3, z3, hit]⟩ (by omega) (by simp [wrN i (by omega)]) rfl (by simp)
    ·have hne : ¬ y.c = z.c ∨ ¬ y.q = z.q := by
      by_cases h1 : y.c = z.c
      ·right
       intro h2
       apply hyz
       cases y; cases z
       cases h1; cases h2; rfl
      ·exact .inl h1
     have : a ≠ b := uV a1 b1 (uV p1 c1 (uV y1 z1 hyz))
     repeat apply za
     refine zh (by simp; exact hne) ?_
     (repeat apply za); refine pwn ?_; intros
     repeat apply za
     exact zb (zg hd rfl (by simp [this]))
   ·simp at hci
    obtain rfl : i = p.length := by omega
    rw [List.take_length, hpq, List.take_length] at hit
    refine zm ?_
    (repeat apply za); refine pwn ?_; intros
    exact zk (j + 1) [] ⟨by omega, by rw [p3, c3, hjt, hit]⟩ (by omega) (by simp [wrN j (by omega)]) rfl (by simp)
  ·simp at hcj
   obtain rfl : j = s.length := by omega
   rw [List.take_length, hst, List.take_length] at hjt
   refine zm ?_
   (repeat apply za); refine pwn ?_; intros
   exact zk (k + 1) [] ⟨by omega, by rw [a3, b3, hkt, hjt]⟩ (by omega) (by simp [wrN k (by omega)]) rfl (by simp)
 ·simp at hc
  obtain rfl : k = a.length := by omega
  rw [List.take_length, hab, List.take_length] at hkt
  refine zm ?_
  (repeat apply za); refine pwn ?_; intros
  repeat apply za
  exact zb (zg hd rfl (by simp [hkt]))
open Go
section
variable {P : Program} {r : Rd} {n N : Nat} {Q : Exit → (Nat → PV) → Store → Prop} {F : Nat → PV} {c : Code}
theorem Zi2 {S1 T : Store} {G : Nat → PV} {id ver e : Nat} {cs : List PV} (hid : S1 id = .cells ver e cs) (hT : T id = .dead) (hat : ∀ o, T o = .dead ∨ T o = S1 o ∨ T o = qD id ver cs (S1 o))
  (hG : ∀ i, G i = F i ∨ G i = yo id ver cs (F i)) (h : PW P r n N c Q G T) : PW P r n N c Q F S1 := by
 refine wC (F' := G) (S' := T) (fun C w a st => ?_) h
 have hver : ∀ o v, (T o).ver = some v → (S1 o).ver = some v := by
  intro o v hv
  rcases hat o with q | q | q
  ·rw [q] at hv; cases hv
  ·rw [q] at hv; exact hv
  ·rw [q, Wy] at hv; exact hv
 have hne : ∀ o, T o ≠ .dead → S1 o ≠ .dead := by
  intro o ho hd
  rcases hat o with q | q | q
  ·exact ho q
  ·exact ho (q.trans hd)
  ·rw [hd] at q; exact ho q
 have hM : ∀ b, C.M T b → C.M S1 b := fun b ⟨o, k, ho, hl⟩ => ⟨o, k, hne o ho, hl⟩
 have hstep : Step C S1 w C T w := ⟨rfl, ⟨rfl, Nat.le_refl _⟩, rfl, Nat.le_refl _, Nat.le_refl _, Nat.le_refl _, fun b _ hb => ⟨rfl, fun h => hb (hM b h)⟩, fun o v1 hv => .inr ⟨v1, hver o v1 hv, Nat.le_refl _, fun _ => rfl⟩⟩
 have hrel : ∀ {p u}, Rel C S1 w p u → Rel C T w (yo id ver cs p) u := fun h => YD st.sim hid hT hne hstep h
 refine ⟨C, ⟨⟨fun o ho => st.sim.lt o (hne o ho), fun o v hv => st.sim.clk o v (hver o v hv), fun o o' b k k' ho ho' => st.sim.dist o o' b k k' (hne o ho) (hne o' ho'), ?_, ?_⟩, st.size, fun i => ?_, r.keep hstep st.v⟩, hstep⟩
 ·intro o v e' ds ho
  rcases hat o with q | q | q
  ·rw [q] at ho; cases ho
  ·rw [q] at ho
   rcases st.sim.cells o v e' ds ho with hn | ⟨b, k, c, h1, h2, h3, h4, h5, h6⟩
   ·exact .inl hn
   ·exact .inr ⟨b, k, c, h1, h2, h3, h4, h5, fun i p u hp hu => (h6 i p u hp hu).mono hstep⟩
  ·rw [q] at ho
   cases hs : S1 o with
   | dead => rw [hs] at ho; cases ho
   | map v es => rw [hs] at ho; cases ho
   | cells v2 e2 ds2 =>
    rw [hs] at ho
    cases ho
    rcases st.sim.cells o _ _ ds2 hs with ⟨h1, h2⟩ | ⟨b, k, c, h1, h2, h3, h4, h5, h6⟩
    ·exact .inl ⟨h1, by rw [h2]; rfl⟩
    ·refine .inr ⟨b, k, c, h1, h2, h3, by simpa using h4, fun i v hi hv => h5 i v (by simpa using hi) hv, fun i p u hp hu => ?_⟩
     rw [List.getElem?_map] at hp
     obtain ⟨p0, hp0, rfl⟩ := Option.map_eq_some_iff.1 hp
     exact hrel (h6 i p0 u hp0 hu)
 ·intro o v es ho
  have hs : S1 o = .map v es := by
   rcases hat o with q | q | q
   ·rw [q] at ho; cases ho
   ·rw [q] at ho; exact ho
   ·rw [q] at ho
    cases hs : S1 o with
    | dead => rw [hs] at ho; cases ho
    | map v es => rw [hs] at ho; exact ho
    | cells v2 e2 ds2 => rw [hs] at ho; cases ho
  obtain ⟨b, k, ms, cl, h1, h2, h3, h4⟩ := st.sim.maps o v es hs
  exact ⟨b, k, ms, cl, h1, h2, h3, fun i x m hx hm => ⟨(h4 i x m hx hm).1, (h4 i x m hx hm).2.mono hstep⟩⟩
 ·rcases hG i with q | q
  ·rw [q]; exact (st.fr i).mono hstep
  ·rw [q]; exact hrel (st.fr i)
def rwC {α : Type} (base sz : Nat) (ws : Nat → Nat) (rows : List (List α)) : List PV := (List.range rows.length).map fun i => .sl (base + i) (ws i) sz 0 (rows.getD i []).length
theorem Zb {α : Type} (base sz : Nat) (ws : Nat → Nat) (rows : List (List α)) : (rwC base sz ws rows).length = rows.length := by simp [rwC]
theorem ZZ {α : Type} (base sz : Nat) (ws : Nat → Nat) (rows : List (List α)) (i : Nat) (h : i < rows.length) : (rwC base sz ws rows)[i]? = some (.sl (base + i) (ws i) sz 0 (rows.getD i []).length) := by
 simp [rwC, h]
theorem XG {α : Type} (base sz : Nat) (ws : Nat → Nat) (rows : List (List α)) (i : Nat) (h : i < rows.length) : ∃ tl, (rwC base sz ws rows).drop i = .sl (base + i) (ws i) sz 0 (rows.getD i []).length :: tl := by
 refine ⟨(rwC base sz ws rows).drop (i + 1), ?_⟩
 have hl : i < (rwC base sz ws rows).length := by rw [Zb]; exact h
 rw [List.drop_eq_getElem_cons hl]
 have := ZZ base sz ws rows i h
 rw [List.getElem?_eq_getElem hl] at this
 rw [Option.some.inj this]
structure RowsAt {α : Type} [Enc α] (T : Store) (A va tA base e sz : Nat) (ws : Nat → Nat) (rows : List (List α)) : Prop where
 arr : T A = .cells va tA (rwC base sz ws rows)
 row : ∀ i, i < rows.length → T (base + i) = .cells (ws i) e ((rows.getD i []).flatMap Enc.enc)
 out : A < base
theorem RowsAt.other {α : Type} [Enc α] {T T' : Store} {A va tA base e sz : Nat} {ws : Nat → Nat} {rows : List (List α)} (h : RowsAt T A va tA base e sz ws rows) (hT : ∀ o, o = A ∨ (base ≤ o ∧ o < base + rows.length) → T' o = T o) : RowsAt T' A va tA base e sz ws rows :=
 ⟨(hT A (.inl rfl)).trans h.arr, fun i hi => (hT _ (.inr ⟨by omega, by omega⟩)).trans (h.row i hi), h.out⟩
theorem RowsAt.turn {α : Type} [Enc α] {T T' : Store} {A va tA base e sz : Nat} {ws : Nat → Nat} {rows : List (List α)} (h : RowsAt T A va tA base e sz ws rows) {i : Nat} (hi : i < rows.length) (w : Nat) (l : List α)
  (hA : T' A = .cells va tA ((rwC base sz ws rows).set i (.sl (base + i) w sz 0 l.length))) (hB : T' (base + i) = .cells w e (l.flatMap Enc.enc)) (hT : ∀ o, o ≠ A → o ≠ base + i → T' o = T o) : RowsAt T' A va tA base e sz (fun k => if k = i then w else ws k) (rows.set i l) := by
 have hout := h.out
 refine ⟨?_, fun k hk => ?_, h.out⟩
 ·rw [hA]
  congr 1
  apply List.ext_getElem?
  intro k
  rw [List.getElem?_set, Zb]
  by_cases hki : i = k
  ·subst hki
   rw [if_pos rfl, if_pos hi, ZZ _ _ _ _ _ (by simpa using hi)]
   simp [hi]
  ·rw [if_neg hki]
   by_cases hk : k < rows.length
   ·rw [ZZ _ _ _ _ _ hk, ZZ _ _ _ _ _ (by simpa using hk)]
    simp only [List.getD_eq_getElem?_getD, List.getElem?_set_ne hki, if_neg (fun e : k = i => hki e.symm)]
   ·rw [List.getElem?_eq_none (by rw [Zb]; omega), List.getElem?_eq_none (by rw [Zb]; simp; omega)]
 ·rw [List.length_set] at hk
  by_cases hki : k = i
  ·subst hki
   rw [hB, if_pos rfl]
   simp [hi]
  ·rw [hT _ (by omega) (by omega), h.row k hk, if_neg hki]
   simp only [List.getD_eq_getElem?_getD, List.getElem?_set_ne (fun e : i = k => hki e.symm)]
theorem Zi3 {α : Type} (base sz : Nat) (ws : Nat → Nat) (m : Nat) : rwC (α := α) base sz ws (List.replicate m []) = (List.range m).map fun i => .sl (base + i) (ws i) sz 0 0 := by
 unfold rwC
 rw [List.length_replicate]
 refine List.map_congr_left fun i hi => ?_
 have := List.mem_range.1 hi
 simp [this]
theorem ZbG {α : Type} [Enc α] (A va tA base e sz m : Nat) (hAb : A < base) : ∀ (j k : Nat) (T : Store) (ws : Nat → Nat), k + j = m → T A = .cells va tA ((List.range k).map (fun i => .sl (base + i) (ws i) sz 0 0) ++ List.replicate j (.sc (.slice none 0 0))) →
  (∀ i, i < k → T (base + i) = .cells (ws i) e []) → zK (base + k) T →
  (∀ (T' : Store) (ws' : Nat → Nat), RowsAt T' A va tA base e sz ws' (List.replicate m ([] : List α)) → (∀ o, o ≠ A → o < base → T' o = T o) → zK (base + m) T' → PW P r n N c Q F T') → PW P r n N c Q F T
 | 0, k, T, ws, hk, hA, hrow, hd, h => by
  obtain rfl : k = m := by omega
  refine h T ws ⟨by rw [hA, Zi3]; simp, fun i hi => ?_, hAb⟩ (fun _ _ _ => rfl) hd
  rw [List.length_replicate] at hi
  rw [hrow i hi]; simp [hi]
 | j + 1, k, T, ws, hk, hA, hrow, hd, h => by
  have hget : ((List.range k).map (fun i => PV.sl (base + i) (ws i) sz 0 0) ++ List.replicate (j + 1) (.sc (.slice none 0 0)))[k]? = some (.sc (.slice none 0 0)) := by
   rw [List.getElem?_append_right (by simp)]; simp
  refine QU (o := A) k e sz hA hget (xQ (X := fun id v => PW P r n N c Q F ((T.set id (.cells v e [])).set A (.cells va tA (((List.range k).map (fun i => PV.sl (base + i) (ws i) sz 0 0) ++ List.replicate (j + 1) (PV.sc (.slice none 0 0))).set k (.sl id v sz 0 0))))) (base + k) (hd _ (Nat.le_refl _)) fun v => ?_)
  refine ZbG A va tA base e sz m hAb j (k + 1) _ (fun i => if i = k then v else ws i) (by omega) ?_ ?_ ?_ fun T' ws' hR hT' hd' => h T' ws' hR (fun o ho hob => ?_) hd'
  ·rw [Store.set_same]
   congr 1
   rw [List.set_append_right _ _ (by simp), List.range_succ, List.map_append]
   simp only [List.length_map, List.length_range, Nat.sub_self, List.replicate_succ, List.set_cons_zero, List.map_cons, List.map_nil, if_true]
   rw [List.append_assoc]
   congr 1
   refine List.map_congr_left fun i hi => ?_
   have := List.mem_range.1 hi
   rw [if_neg (by omega)]
  ·intro i hi
   rw [Store.set_other _ _ _ _ (by omega)]
   by_cases hik : i = k
   ·subst hik; rw [Store.set_same, if_pos rfl]
   ·rw [Store.set_other _ _ _ _ (by omega), if_neg hik]
    exact hrow i (by omega)
  ·intro i hi
   rw [Store.set_other _ _ _ _ (by omega), Store.set_other _ _ _ _ (by omega)]
   exact hd i (by omega)
  ·rw [hT' o ho hob, Store.set_other _ _ _ _ ho, Store.set_other _ _ _ _ (by omega)]
theorem Zi4 {α : Type} [Enc α] (A va tA base e sz m : Nat) {T : Store} (hA : T A = .cells va tA (List.replicate m (.sc (.slice none 0 0)))) (hd : zK base T)
  (h : ∀ (T' : Store) (ws : Nat → Nat), RowsAt T' A va tA base e sz ws (List.replicate m ([] : List α)) → (∀ o, o ≠ A → o < base → T' o = T o) → zK (base + m) T' → PW P r n N c Q F T') : PW P r n N c Q F T := by
 have hAb : A < base := by
  rcases Nat.lt_or_ge A base with q | q
  ·exact q
  ·rw [hd A q] at hA; cases hA
 exact ZbG A va tA base e sz m hAb m 0 T (fun _ => 0) (by omega) (by simpa using hA) (fun i hi => by omega) (by simpa using hd) h
theorem ZbH {nx : Nat} {S : Store} {obs : List Ob} {id ver e0 : Nat} {cs : List PV} (i e sz : Nat) (hlt : id < nx) (hs : S id = .cells ver e0 cs) (hi : cs[i]? = some (.sc (.slice none 0 0)))
  (h : ∀ v, PW P r n N c Q F (ext (S.set id (.cells ver e0 (cs.set i (.sl (nx + obs.length) v sz 0 0)))) nx (obs ++ [.cells v e []]))) : PW P r n N c Q F (ext S nx obs) :=
 QU (o := id) i e sz (by rw [zy hlt]; exact hs) hi (xQ (X := fun id' v => PW P r n N c Q F (((ext S nx obs).set id' (.cells v e [])).set id (.cells ver e0 (cs.set i (.sl id' v sz 0 0))))) _ xT fun v => by
  rw [qj, xz _ hlt]; exact h v)
end
open Go Go.Proofs
instance : Enc Mv := ⟨fun m => mvL m, 5, fun _ => rfl, fun _ => rfl⟩
@[simp] theorem ZlY (m : Mv) : Enc.enc m = mvL m := rfl
@[simp high] theorem ZlZ (l : List Mv) : (l.flatMap Enc.enc).length = l.length * 5 := jf l
@[simp high] theorem Zl0 (l : List Mv) : (l.flatMap Enc.enc).take (l.length * 5) = l.flatMap Enc.enc := vf l
open Go Go.Proofs Hp
abbrev plL (x : Inst) (v : PV) (b : Int) (p f pr : PV) : List PV := [I x.days, I x.veh, I x.cap, I x.len, L x.cust, L x.dist, v, I b, p, f, pr]
set_option maxRecDepth 20000 in
theorem Zi5 {S : Store} {id ver idF vF : Nat} (x : Inst) (v p pr : PV) (b : Int) (fs : List Int) (hS : S id = .cells ver 87 (plL x v b p (.sl idF vF 1 0 fs.length) pr)) (hF : S idF = .cells vF 30 (fs.flatMap Enc.enc)) (hl : fs.length ≤ 1000) :
  Spec Tryz.prog 90 [.ptr id ver 0] S (fun q S' => q = I (qh fs) ∧ S' = S) := by
 refine jg Tryz.func90 Tryz.ntmps90 Tryz.results90 fun nx hd => ?_
 have hlt : id < nx := yQ hd hS (by simp)
 have hltF : idF < nx := yQ hd hF (by simp)
 have xw := fun obs => zy (S := S) (obs := obs) hlt
 have xf := fun obs => zy (S := S) (obs := obs) hltF
 (repeat apply za); refine pwn ?_; intros
 repeat apply za
 refine pwN [] (jn2 xw hS) ?_
 intros
 repeat apply za
 refine ze (zq (fun k : Nat => k ≤ fs.length ∧ ∀ e ∈ fs.take k, e = 0) (fun k => [(8, .sl idF vF 1 0 fs.length), (9, I fs.length), (10, I k)]) (fun _ => []) (fun k => fs.length - k) 0 [] (by simp) (by simp) (by simp) ?_)
 rintro k ⟨hk, h0⟩
 (repeat apply za); refine pwn ?_; intros
 repeat apply za
 refine zl rfl (fun hc => ?_) (fun hc => ?_)
 ·simp at hc
  obtain ⟨e, tl, a1, a2, a3, e0⟩ := el1 rfl fs k hc
  refine zd (za (ze ?_))
  repeat apply za
  refine pwN [] (jn4 xf hF e0 hc) ?_
  intros
  (repeat apply za); refine pwn ?_; intros
  by_cases he : e = 0
  ·repeat apply za
   refine zj (by simp [he]) ?_
   refine zd ?_
   (repeat apply za); refine pwn ?_; intros
   exact zk (k + 1) [] ⟨hc, fun y hy => by rw [a3] at hy; rcases List.mem_append.1 hy with h | h; exact h0 y h; rw [List.mem_singleton.1 h]; exact he⟩ (by omega) (by simp [wrN k (by omega)]) rfl (by simp)
  ·repeat apply za
   refine zh (by simp [he]) ?_
   (repeat apply za); refine pwn ?_; intros
   repeat apply za
   exact zb ⟨_, S, rfl, ⟨by simp [zi, Xx h0 a1 he], rfl⟩, zL hd⟩
 ·simp at hc
  obtain rfl : k = fs.length := by omega
  rw [List.take_length] at h0
  refine zm ?_
  (repeat apply za); refine pwn ?_; intros
  repeat apply za
  exact zb ⟨_, S, rfl, ⟨by simp [zi, Qr h0], rfl⟩, zL hd⟩
set_option maxRecDepth 20000 in
theorem Zi6 {S : Store} {id ver idD vD idF vF : Nat} {x : Inst} {v : List (List Visit)} {b : Int} {pr : PV} {ds : zQ} {fs : List Int} {n : Nat} (k : Nat) (hS : S id = .cells ver 87 (plL x (L v) b (.sl idD vD 1 0 ds.length) (.sl idF vF 1 0 fs.length) pr))
  (hD : S idD = .cells vD 66 (ds.flatMap Enc.enc)) (hF : S idF = .cells vF 30 (fs.flatMap Enc.enc)) (d1 : id ≠ idD) (d2 : id ≠ idF) (d3 : idD ≠ idF) (hx : InstH x) (hv : VsOk x.cust.length n v) (hb : b ≤ 9223372036854775807) (hdl : ds.length ≤ 1000) (hfl : fs.length ≤ 1000) :
  Spec Tryz.prog 89 [.ptr id ver 0, I k] S (fun _ S' => S' = ((S.set id (.cells ver 87 (plL x (L v) b (.sl idD (vD + 1) 1 0 (ds.length + 1)) (.sl idF (vF + 1) 1 0 (fs.length + 1)) pr))).set idD (.cells (vD + 1) 66 ((ds ++ [(qZ x b (qf v k x.cust.length)).1]).flatMap Enc.enc))).set idF
   (.cells (vF + 1) 30 ((fs ++ [(qZ x b (qf v k x.cust.length)).2]).flatMap Enc.enc))) := by
 have hst := Zi0 x v k n hx.cust hv
 have hso := ZhI (Zbl hx hv k) hx.diag hb
 generalize qf v k x.cust.length = st at hst hso ⊢
 generalize qZ x b st = r at hso ⊢
 obtain ⟨d, e⟩ := r
 simp only at hso ⊢
 refine jg Tryz.func89 Tryz.ntmps89 Tryz.results89 fun nx hd => ?_
 have hlt : id < nx := yQ hd hS (by simp)
 have hltD : idD < nx := yQ hd hD (by simp)
 have hltF : idF < nx := yQ hd hF (by simp)
 have xw := fun obs => (zy (S := S) (obs := obs) hlt).trans hS
 have xd := fun obs => (zy (S := S) (obs := obs) hltD).trans hD
 have xf := fun obs => (zy (S := S) (obs := obs) hltF).trans hF
 have g1 : ¬ nx ≤ id := by omega
 have g2 : ¬ nx ≤ idD := by omega
 have g3 : ¬ nx ≤ idF := by omega
 have yw := fun (o : Ob) obs => (zy (S := S.set idD o) (obs := obs) hlt).trans ((Store.set_other _ _ _ _ d1).trans hS)
 have zw := fun (o o' : Ob) obs => (zy (S := (S.set idD o).set id o') (obs := obs) hlt).trans (Store.set_same _ _ _)
 have zf := fun (o o' : Ob) obs => (zy (S := (S.set idD o).set id o') (obs := obs) hltF).trans ((Store.set_other _ _ _ _ d2.symm).trans ((Store.set_other _ _ _ _ d3.symm).trans hF))
 have uw := fun (o o' o'' : Ob) obs => (zy (S := ((S.set idD o).set id o').set idF o'') (obs := obs) hlt).trans ((Store.set_other _ _ _ _ d2).trans (Store.set_same _ _ _))
 repeat apply za
 refine pwY (some [id]) (Row.pures [0, 1, 2, 3, 4, 5, 6, 7, 8, 9, 10, 11, 12, 13, 14, 15, 16, 17, 18, 19, 20, 21] (.alt 22 (.alt 23 (Row.pures [24] .done) .stop) .stop)) mixed xw ?_
 refine pwP (hst) xw ?_
 refine pwP (hso) xw ?_
 intro v2
 intros
 repeat apply za
 refine pwY (some [nx]) (Row.pures [0, 1, 2, 3, 4, 6, 7] (.alt 5 (.alt 8 (Row.pures [9, 10, 11] (.alt 12 (.done) .stop)) .stop) .stop)) mixed (jn5 xw xd yw g1 g2) ?_
 refine ⟨by omega, ?_⟩
 intros
 repeat apply za
 refine pwN [] (jn5 zw zf uw g1 g3) ?_
 refine ⟨by omega, ?_⟩
 intros
 have e1 : ∀ (a b c d : Ob), (((S.set idD a).set id b).set idF c).set id d = ((S.set id d).set idD a).set idF c := by
  intro a b c d
  funext i
  simp only [Store.set]
  by_cases h1 : i = id
  ·subst h1; simp [d1, d2]
  ·simp only [h1, if_false]
 have hdd : ∀ (a b c : Ob), zK nx (((S.set id a).set idD b).set idF c) := by
  intro a b c i hi
  rw [Store.set_other _ _ _ _ (by omega), Store.set_other _ _ _ _ (by omega), Store.set_other _ _ _ _ (by omega)]
  exact hd i hi
 rw [e1]
 exact ⟨_, _, rfl, by simp, zL (hdd _ _ _)⟩
set_option maxRecDepth 20000 in
theorem Zi7 {S : Store} {id ver : Nat} (x : Inst) (v p f pr : PV) (b : Int) (fn : FuncId) (fs : List PV) (n : Nat) (hn : x.days = n) (hn2 : n ≤ 1000) (hS : S id = .cells ver 87 (plL x v b p f pr)) (St : Nat → Store) (h0 : St 0 = S)
  (hSt : ∀ nx, zK nx S → ∀ k, k ≤ n → zK nx (St k)) (hstep : ∀ k, k < n → Spec Tryz.prog fn (fs ++ [I k]) (St k) (fun _ S' => S' = St (k + 1))) :
  Spec Tryz.prog 47 [.ptr id ver 0, .fn (.func fn) fs []] S (fun _ S' => S' = St n) := by
 refine jg Tryz.func47 Tryz.ntmps47 Tryz.results47 fun nx hd => ?_
 have hlt : id < nx := yQ hd hS (by simp)
 have xw := fun obs => (zy (S := S) (obs := obs) hlt).trans hS
 have hSt := hSt nx hd
 repeat apply za
 refine pwN [] (jn2 xw hn) ?_
 intros
 repeat apply za
 refine ze (qV (σ := Nat) (fun k => k ≤ n) (fun k => [(1, .fn (.func fn) fs []), (9, I n), (10, I k)]) (fun k => St k) (fun _ => []) (fun k => n - k) (zt 0 [] (by simp) (by simp) h0 (by simp)) ?_)
 rintro k hk
 (repeat apply za); refine pwn ?_; intros
 repeat apply za
 refine zl rfl (fun hc => ?_) (fun hc => ?_)
 ·simp at hc
  refine zd (za (ze ?_))
  (repeat apply za); refine pwn ?_; intros
  repeat apply za
  refine zN [] (by rfl) (by rfl) fun K Gc Gh hK hGc hGh X hX0 hX => ?_
  simp -implicitDefEqProofs [hX0, hX]
  try clear hX0 hX X
  refine hGc _ _ _ _ _ _ _ fun hsuf => (Spec.mono (by rw [yt (hSt k hk)]; simpa using hstep k hc) ?_).v
  rintro _ _ rfl
  refine ⟨St (k + 1), [], (yt (hSt (k + 1) hc)).symm, ?_⟩
  clear hGc hGh
  clear Gc Gh
  refine zI hsuf (D := []) (by rfl) fun Gc Gh hGc hGh X hX0 hX => ?_
  simp -implicitDefEqProofs [hX0, hX]
  clear hX0 hX X
  intros
  refine hK _ _ _ ?_
  clear hK hGc hGh
  clear K Gc Gh
  (repeat apply za); refine pwn ?_; intros
  exact zk (k + 1) [] hc (by omega) (by simp [wrN k (by omega)]) rfl (by simp)
 ·simp at hc
  obtain rfl : k = n := by omega
  refine zm ?_
  exact ⟨_, _, rfl, rfl, zL (hSt k (Nat.le_refl _))⟩
set_option maxRecDepth 20000 in
theorem Zi8 {S : Store} {nx id ver : Nat} (hd : zK nx S) {x : Inst} {v : List (List Visit)} {v0 p0 f0 pr : PV} {b : Int} {n : Nat} (hS : S id = .cells ver 87 (plL x v0 b p0 f0 pr)) (hx : InstH x) (hn : x.days = n) (hn2 : n ≤ 1000) (hv : VsOk x.cust.length n v) (hb : b ≤ 9223372036854775807) :
  Spec Tryz.prog 50 [.ptr id ver 0, L v] S (fun q S' => q = I (qh (yW x v b n)) ∧ ∃ vD vF, S' = ext (S.set id (.cells ver 87 (plL x (L v) b (.sl nx vD 1 0 (qQ x v b n).length) (.sl (nx + 1) vF 1 0 (yW x v b n).length) pr))) nx
   [.cells vD 66 ((qQ x v b n).flatMap Enc.enc), .cells vF 30 ((yW x v b n).flatMap Enc.enc)]) := by
 have hpl := Zbm x v b
 have hfl := Zbn x v b
 refine uI hd Tryz.func50 Tryz.ntmps50 Tryz.results50 ?_
 have hlt : id < nx := yQ hd hS (by simp)
 have g1 : ¬ nx ≤ id := by omega
 have xw := fun obs => (zy (S := S) (obs := obs) hlt).trans hS
 have yw := fun (o : Ob) obs => (zy (S := S.set id o) (obs := obs) hlt).trans (Store.set_same _ _ _)
 (repeat apply za); refine pwn ?_; intros
 repeat apply za
 refine pwN [] (jn4 xw yw g1 Store.set_set) ?_
 intros
 refine ZbH (id := id) 8 66 1 hlt (Store.set_same _ _ _) rfl fun vD => ?_
 rw [Store.set_set]
 refine ZbH (id := id) 9 30 1 hlt (Store.set_same _ _ _) rfl fun vF => ?_
 rw [Store.set_set]
 simp only [List.set_cons_succ, List.set_cons_zero, List.length_cons, List.length_nil, List.cons_append, List.nil_append, Nat.add_zero, Nat.zero_add]
 generalize hSt : (fun k : Nat => ext (S.set id (.cells ver 87 (plL x (L v) b (.sl nx (vD + k) 1 0 (qQ x v b k).length) (.sl (nx + 1) (vF + k) 1 0 (yW x v b k).length) pr))) nx
   [.cells (vD + k) 66 ((qQ x v b k).flatMap Enc.enc), .cells (vF + k) 30 ((yW x v b k).flatMap Enc.enc)]) = St
 have hSk : ∀ k, St k = ext (S.set id (.cells ver 87 (plL x (L v) b (.sl nx (vD + k) 1 0 (qQ x v b k).length) (.sl (nx + 1) (vF + k) 1 0 (yW x v b k).length) pr))) nx
   [.cells (vD + k) 66 ((qQ x v b k).flatMap Enc.enc), .cells (vF + k) 30 ((yW x v b k).flatMap Enc.enc)] := fun k => by rw [← hSt]
 have h0 : St 0 = ext (S.set id (.cells ver 87 (plL x (L v) b (.sl nx vD 1 0 0) (.sl (nx + 1) vF 1 0 0) pr))) nx [.cells vD 66 [], .cells vF 30 []] := hSk 0
 have hid : ∀ k, St k id = .cells ver 87 (plL x (L v) b (.sl nx (vD + k) 1 0 (qQ x v b k).length) (.sl (nx + 1) (vF + k) 1 0 (yW x v b k).length) pr) := fun k => by rw [hSk k, zy hlt, Store.set_same]
 have hstep : ∀ k, k < n → Spec Tryz.prog 89 ([.ptr id ver 0] ++ [I k]) (St k) (fun _ S' => S' = St (k + 1)) := by
  intro k hk
  have h1 := hpl k
  have h2 := hfl k
  refine (Zi6 (idD := nx) (idF := nx + 1) (n := n) k (hid k) (by rw [hSk k]; simp) (by rw [hSk k]; simp) (by omega) (by omega) (by omega) hx hv hb (by omega) (by omega)).mono ?_
  rintro _ _ rfl
  rw [hSk k, hSk (k + 1), xz _ hlt, Store.set_set, qg _ (by omega) (by simp), qg _ (by omega) (by simp), Zir, Zis]
  simp [Nat.add_assoc]
 have hdead : ∀ m, zK m (St 0) → ∀ k, k ≤ n → zK m (St k) := by
  intro m hm k _ i hi
  have hge : nx + 1 < m := by
   rcases Nat.lt_or_ge (nx + 1) m with q | q
   ·exact q
   ·have := hm (nx + 1) q; rw [hSk 0] at this; simp at this
  rw [hSk k]
  simp only [ext]
  rw [if_neg (by omega), List.getD_eq_getElem?_getD, List.getElem?_eq_none (by simp; omega)]; rfl
 rw [← h0]
 have hn0 := hid 0
 have hnx2 : nx + 2 = nx + [Ob.cells (vD + 0) 66 ((qQ x v b 0).flatMap Enc.enc), .cells (vF + 0) 30 ((yW x v b 0).flatMap Enc.enc)].length := rfl
 have hb0 : ∀ k, St k = ext (St k) (nx + 2) [] := fun k => by
  refine (yt ?_).symm
  rw [hSk k]; exact jF (obs := [_, _])
 rw [hb0 0]
 repeat apply za
 refine zN [] (by rfl) (by rfl) fun K Gc Gh hK hGc hGh X hX0 hX => ?_
 simp -implicitDefEqProofs [hX0, hX]
 try clear hX0 hX X
 refine hGc _ _ _ _ _ _ _ fun hsuf => ((Zi7 x (L v) _ _ pr b _ _ n hn hn2 (by rw [← hb0 0]; exact hn0) St (hb0 0) (fun m hm k hk => hdead m (by rw [hb0 0]; exact hm) k hk) hstep).mono ?_).v
 rintro _ _ rfl
 refine ⟨_, _, hb0 n, ?_⟩
 clear hGc hGh
 clear Gc Gh
 refine zI hsuf (D := []) (by rfl) fun Gc Gh hGc hGh X hX0 hX => ?_
 simp -implicitDefEqProofs [hX0, hX]
 clear hX0 hX X
 intros
 refine hK _ _ _ ?_
 clear hK hGc hGh
 clear K Gc Gh
 repeat apply za
 refine zN [] (by rfl) (by rfl) fun K Gc Gh hK hGc hGh X hX0 hX => ?_
 simp -implicitDefEqProofs [hX0, hX]
 try clear hX0 hX X
 refine hGc _ _ _ _ _ _ _ fun hsuf => ((Zi5 (idF := nx + 1) x _ _ _ _ (yW x v b n) (by rw [← hb0 n]; exact hid n) (by rw [← hb0 n, hSk n]; simp) (by rw [hfl]; exact hn2)).mono ?_).v
 rintro _ _ ⟨rfl, rfl⟩
 refine ⟨_, _, rfl, ?_⟩
 clear hGc hGh
 clear Gc Gh
 refine zI hsuf (D := []) (by rfl) fun Gc Gh hGc hGh X hX0 hX => ?_
 simp -implicitDefEqProofs [hX0, hX]
 clear hX0 hX X
 intros
 refine hK _ _ _ ?_
 clear hK hGc hGh
 clear K Gc Gh
 repeat apply za
 refine zb ⟨_, St n, rfl, ⟨by simp [zi], vD + n, vF + n, hSk n⟩, fun o => .inl ?_⟩
 rw [← hb0 n]
end Go.Proofs.YtaiplainginmaaaGreat.Pv
