/- Part of a proof, packed. -/
import Derived.Test.YtcnbiofjmioaiaaGreatS2
set_option maxRecDepth 100000
set_option maxHeartbeats 3200000
namespace Go.Proofs.YtcnbiofjmioaiaaGreat.Pv
open Go
def yR (n i : Nat) : Nat := n / 2 ^ i % 2
def jq (n : Nat) : List Int := (List.range 64).map fun i => ((yR n i : Nat) : Int)
def jC : List Int → Int
 | [] => 0
 | b :: l => 2 * jC l + b
theorem YH (n : Nat) : (jq n).length = 64 := by simp [jq]
theorem Zg5 (n i : Nat) : yR n i ≤ 1 := by unfold yR; omega
theorem WC (n : Nat) : ∀ b ∈ jq n, b = 0 ∨ b = 1 := by
 intro b hb
 simp only [jq, List.mem_map] at hb
 obtain ⟨i, _, rfl⟩ := hb
 have := Zg5 n i
 omega
theorem WD (l : List Int) (h : ∀ b ∈ l, b = 0 ∨ b = 1) : 0 ≤ jC l ∧ jC l < 2 ^ l.length := by
 induction l with
 | nil => simp [jC]
 | cons b l ih =>
  obtain ⟨h1, h2⟩ := ih (fun c hc => h c (by simp [hc]))
  have := h b (by simp)
  simp only [jC, List.length_cons, Int.pow_succ]
  omega
theorem J0 (l : List Int) (k : Nat) (v : Int) (h : k < l.length) : ye (l.flatMap Enc.enc) k [I v] = (l.set k v).flatMap Enc.enc := by
 have e : ∀ l : List Int, l.flatMap Enc.enc = l.map I := fun l => by induction l <;> simp_all
 rw [e, e, ye, List.map_set, List.set_eq_take_append_cons_drop, if_pos (by simpa using h)]
 simp
theorem WE (n : Nat) : ji n (.int .i64 0) = (List.replicate n (0 : Int)).flatMap Enc.enc := by
 induction n with
 | zero => simp
 | succ n ih => rw [Za, ih, List.replicate_succ]; simp [qD, Value.cells]
def xV (n k : Nat) : List Int := (List.range 64).map fun i => if i < k then ((yR n i : Nat) : Int) else 0
theorem Zg6 (n : Nat) : xV n 0 = List.replicate 64 0 := by
 apply List.ext_getElem
 ·simp [xV]
 ·intro i h1 h2; simp only [List.getElem_replicate]; simp [xV]
theorem Zg7 (n k : Nat) (h : 64 ≤ k) : xV n k = jq n := by
 apply List.ext_getElem
 ·simp [xV, jq]
 ·intro i h1 h2
  simp [xV] at h1
  simp [xV, jq, show i < k by omega]
theorem Zg8 (n k : Nat) (h : k < 64) : (xV n k).set k ((yR n k : Nat) : Int) = xV n (k + 1) := by
 apply List.ext_getElem
 ·simp [xV]
 ·intro i h1 h2
  rw [List.getElem_set]
  simp only [xV, List.getElem_map, List.getElem_range]
  split
  ·rename_i e; subst e; simp
  ·rename_i e
   by_cases q : i < k
   ·rw [if_pos q, if_pos (by omega)]
   ·rw [if_neg q, if_neg (by omega)]
theorem Zg9 (n k : Nat) : (xV n k).length = 64 := by simp [xV]
theorem Zbt (n : Nat) (hn : n < 2 ^ 64) (S : Store) (nx : Nat) (hd : zW nx S) : Spec Tryz.prog 124 [U n] S (fun p S' => ∃ v, p = .sl nx v 1 0 64 ∧ S' = S.set nx (.cells v 3 ((jq n).flatMap Enc.enc))) := by
 refine ui hd Tryz.func124 Tryz.ntmps124 Tryz.results124 ?_
 refine za (zb ?_)
 refine za (zb ?_)
 intro v0
 repeat apply za
 refine zb ?_
 refine zj (zG (fun s : Nat × Nat => s.1 ≤ 64) (fun (k, v) => [(0, U (n / 2 ^ k)), (3, .sl nx v 1 0 64), (4, I k)]) (fun (k, v) => [.cells v 3 ((xV n k).flatMap Enc.enc)]) (fun s => 64 - s.1) (0, v0) [] (by simp) (by simp) (by simp [Zg6, WE]) ?_)
 rintro ⟨k, v⟩ hk
 simp only at hk ⊢
 repeat apply za
 refine zb ?_
 refine zr rfl (fun hc => ?_) (fun hc => ?_)
 ·simp at hc
  have hc' : k < 64 := by omega
  have hl := Zg9 n k
  have hm : n / 2 ^ k < 18446744073709551616 := Nat.lt_of_le_of_lt (Nat.div_le_self _ _) hn
  generalize hm' : n / 2 ^ k = m at *
  have t1 : (m : Int).tmod 2 = (m : Int) % 2 := Int.tmod_eq_emod_of_nonneg (by omega)
  have t2 : IntKind.i64.wrap ((m : Int) % 2) = (m : Int) % 2 := wr _ (by omega) (by omega)
  have t3 : IntKind.u64.wrap ((m : Int) / 2) = (m : Int) / 2 := IntWalk.u64_in _ (by omega)
  have t7 : (m : Int).tdiv 2 = (m : Int) / 2 := Int.tdiv_eq_ediv_of_nonneg (by omega)
  have t4 : m % 2 = yR n k := by unfold yR; rw [hm']
  have t5 : m / 2 = n / 2 ^ (k + 1) := by rw [← hm', Nat.div_div_eq_div_mul, Nat.pow_succ]
  have t6 : (m : Int) / 2 = (n : Int) / 2 ^ (k + 1) := by exact_mod_cast t5
  have t8 : (m : Int) % 2 = (yR n k : Nat) := by exact_mod_cast t4
  have hs := J0 (xV n k) k ((m : Int) % 2) (by omega)
  refine zh (za (zj (za (ze [] (qm hc t1 t2 hs hl) ?_))))
  refine ⟨by omega, ?_⟩
  refine ze [] (zm t3 t7) ?_
  refine zb ?_
  exact zp (k + 1, v) [] hc' (by simp; omega) (by simp [zt k (by omega), t6, t7, t3]) rfl (by simp [← Zg8 n k hc', ← t8, t1, t2, hs])
 ·simp at hc
  have hk' : k = 64 := by omega
  subst hk'
  refine zy (za (zb ?_))
  refine zg ⟨_, _, rfl, ⟨v, rfl, rfl⟩, YC (j := 0) hd (by simp [Zg7 n 64])⟩
theorem Zha (n : Nat) (hn : n < 2 ^ 64) : Pure Tryz.prog 124 [U n] (L (jq n)) := by
 have := JU 0 (fun S nx hd => Zbt n hn S nx hd) (by simp [YH])
 rw [← YH n] at this
 exact this
theorem Zhb (l : List Int) (hl : l.length = 64) (h01 : ∀ b ∈ l, b = 0 ∨ b = 1) : Pure Tryz.prog 125 [L l] (.sc (.int .u64 (jC l))) := by
 refine zx Tryz.func125 Tryz.ntmps125 Tryz.results125 fun S nx hd => ?_
 refine za (zb ?_)
 refine za (zb ?_)
 repeat apply za
 refine zb ?_
 refine zj (zG (fun m : Nat => m ≤ 64) (fun m => [(0, L l), (3, .sc (.int .u64 (jC (l.drop m)))), (4, I ((m : Int) - 1))]) (fun _ => []) (fun m => m) 64 [] (by simp) (by simp [List.drop_of_length_le (Nat.le_of_eq hl), jC]) (by simp) ?_)
 rintro m hm
 repeat apply za
 refine zb ?_
 refine zr rfl (fun hc => ?_) (fun hc => ?_)
 ·simp at hc
  obtain ⟨j, rfl⟩ : ∃ j, m = j + 1 := ⟨m - 1, by omega⟩
  obtain ⟨b, tl, a1, a2, a3, e0⟩ := zE rfl l j (by omega)
  have hb := h01 b (List.mem_of_getElem? a1)
  have q := WD (l.drop (j + 1)) (fun c hc => h01 c (List.mem_of_mem_drop hc))
  have q2 : (2 : Int) ^ (l.drop (j + 1)).length ≤ 9223372036854775808 := by
   have : (l.drop (j + 1)).length ≤ 63 := by simp; omega
   calc (2 : Int) ^ (l.drop (j + 1)).length ≤ 2 ^ 63 := by exact_mod_cast Nat.pow_le_pow_right (by decide) this
    _ = 9223372036854775808 := by decide
  have g1 : (j : Int) < l.length := by omega
  have u1 : IntKind.u64.wrap (2 * jC (l.drop (j + 1))) = 2 * jC (l.drop (j + 1)) := IntWalk.u64_in _ (by omega)
  have u2 : IntKind.u64.wrap b = b := IntWalk.u64_in _ (by omega)
  have u3 : IntKind.u64.wrap (2 * jC (l.drop (j + 1)) + b) = jC (l.drop j) := by rw [IntWalk.u64_in _ (by omega), a2]; rfl
  have s1 : ((j : Int) + 1 - 1) = j := by omega
  refine zh (za (zj (ze [] (yh e0 g1 u1 u2 u3 s1) ?_)))
  refine zb ?_
  have w1 : IntKind.i64.wrap ((j : Int) - 1) = (j : Int) - 1 := wr _ (by omega) (by omega)
  exact zp j [] (by omega) (by omega) (by simp [s1, w1]) rfl (by simp)
 ·simp at hc
  have hk' : m = 0 := by omega
  subst hk'
  refine zy (za (zb ?_))
  exact zg (zk hd rfl rfl)
theorem Zbu (n d : Nat) (h : d < 64) : (jq n)[d]? = some ((yR n d : Nat) : Int) := by simp [jq, h]
theorem Zhc (n : Nat) (d : Int) (hn : n < 2 ^ 64) (h0 : 0 ≤ d) (h1 : d ≤ 63) : Pure Tryz.prog 85 [U n, I d] (B (decide (yR n d.toNat = 1))) := by
 obtain ⟨k, rfl⟩ := Int.eq_ofNat_of_zero_le h0
 have hk : k < 64 := by omega
 have hl := YH n
 obtain ⟨b, tl, a1, a2, a3, e0⟩ := zE rfl (jq n) k (by omega)
 rw [Zbu n k hk] at a1; cases a1
 have g1 : (k : Int) < 64 := by omega
 have g3 : ¬ (63 : Int) < k := by omega
 refine zx Tryz.func85 Tryz.ntmps85 Tryz.results85 fun S nx hd => ?_
 refine za (zb ?_)
 repeat apply za
 refine ze [(2, 8)] g3 ?_
 refine zn rfl (zh (za (zb ?_)))
 refine zz (Zha n hn) ?_
 refine za (ze [] (zF e0 g1 hl) ?_)
 exact zg (zk hd rfl (by simp; omega))
def QF (n d : Nat) : Int := jC ((jq n).set d 1)
theorem WF {l : List Int} {d : Nat} {v b : Int} (h : b ∈ l.set d v) : b ∈ l ∨ b = v := by
 rcases List.mem_or_eq_of_mem_set h with h | h
 ·exact .inl h
 ·exact .inr h
theorem Zhd (n : Nat) (d : Int) (hn : n < 2 ^ 64) (h0 : 0 ≤ d) (h1 : d ≤ 63) : Pure Tryz.prog 86 [U n, I d, I 1] (.sc (.int .u64 (QF n d.toNat))) := by
 obtain ⟨k, rfl⟩ := Int.eq_ofNat_of_zero_le h0
 have hk : k < 64 := by omega
 have hl := YH n
 have g1 : (k : Int) < 64 := by omega
 have g3 : ¬ (63 : Int) < k := by omega
 have hs := J0 (jq n) k 1 (by omega)
 refine zx Tryz.func86 Tryz.ntmps86 Tryz.results86 fun S nx hd => ?_
 refine za (zb ?_)
 repeat apply za
 refine ze [(2, 10)] g3 ?_
 refine zn rfl (zh (za (zV [] (by rfl) (by rfl) fun K Gc Gh hK hGc hGh X hX0 hX => ?_)))
 simp -implicitDefEqProofs [hX0, hX]
 try clear hX0 hX X
 refine hGc _ _ _ _ _ _ _ fun hsuf => ((Zbt n hn _ _ jO).mono ?_).v
 rintro _ _ ⟨v, rfl, rfl⟩
 refine ⟨_, _, jk _, ?_⟩
 clear hGc hGh
 clear Gc Gh
 refine zR hsuf (D := []) (by rfl) fun Gc Gh hGc hGh X hX0 hX => ?_
 simp -implicitDefEqProofs [hX0, hX]
 clear hX0 hX X
 refine hK _ _ _ ?_
 clear hK hGc hGh
 clear K Gc Gh
 refine za (ze [] (zF g1 hs hl) ?_)
 refine ⟨by omega, ?_⟩
 refine yc 0 rfl ?_
 have hl2 : ((jq n).set k 1).length = 64 := by simp [hl]
 have this0 := Zhb ((jq n).set k 1) hl2 (fun b hb => by
  rcases WF hb with h | h
  ·exact WC n b h
  ·exact .inr h)
 have this : Pure Tryz.prog 125 [.lst 64 (((jq n).set k 1).flatMap Enc.enc)] (.sc (.int .u64 (jC ((jq n).set k 1)))) := by rw [show (64 : Nat) = ((jq n).set k 1).length from hl2.symm]; exact this0
 refine za (ze [] hl ?_)
 refine zz this ?_
 exact zg (zk hd rfl rfl)
open Go
def yo (n lo hi : Int) : Int := lo + (if n < 0 then -(n + 1) else n) % (hi - lo + 1)
theorem qG (n lo hi : Int) (h : lo ≤ hi) : lo ≤ yo n lo hi ∧ yo n lo hi ≤ hi := by
 unfold yo
 have a1 := Int.emod_nonneg (if n < 0 then -(n + 1) else n) (show hi - lo + 1 ≠ 0 by omega)
 have a2 := Int.emod_lt_of_pos (if n < 0 then -(n + 1) else n) (show 0 < hi - lo + 1 by omega)
 omega
theorem vG (n lo hi : Int) (hn : zU n) (h0 : 0 ≤ lo) (h1 : lo ≤ hi) (h2 : hi ≤ 4294967296) : Pure Tryz.prog 44 [I n, I lo, I hi] (I (yo n lo hi)) := by
 have hr := qG n lo hi h1
 have w1 : IntKind.i64.wrap (hi - lo) = hi - lo := wr _ (by omega) (by omega)
 have w2 : IntKind.i64.wrap (hi - lo + 1) = hi - lo + 1 := wr _ (by omega) (by omega)
 have w0 : ¬ hi - lo + 1 = 0 := by omega
 have w3 : IntKind.i64.wrap (yo n lo hi) = yo n lo hi := wr _ (by omega) (by omega)
 unfold zU at hn
 refine zx Tryz.func44 Tryz.ntmps44 Tryz.results44 fun S nx hd => ?_
 refine za (zb ?_)
 repeat apply za
 refine zb ?_
 by_cases h : n < 0
 ·have w4 : IntKind.i64.wrap (n + 1) = n + 1 := wr _ (by omega) (by omega)
  have w5 : IntKind.i64.wrap (-(n + 1)) = -(n + 1) := wr _ (by omega) (by omega)
  have w6 : (-(n + 1)).tmod (hi - lo + 1) = (-(n + 1)) % (hi - lo + 1) := Int.tmod_eq_emod_of_nonneg (by omega)
  have w7 : lo + (-(n + 1)) % (hi - lo + 1) = yo n lo hi := by unfold yo; rw [if_pos h]
  refine zo (by simp [h]) ?_
  have e : -(n + 1) = -1 + -n := by omega
  refine ze [] (zm w4 w5) ?_
  refine za (ze [] (yh w1 w2 w0 w6 w7 w3) ?_)
  exact zg (zk hd rfl rfl)
 ·have w6 : n.tmod (hi - lo + 1) = n % (hi - lo + 1) := Int.tmod_eq_emod_of_nonneg (by omega)
  have w7 : lo + n % (hi - lo + 1) = yo n lo hi := by unfold yo; rw [if_neg h]
  refine zn (by simp [h]) ?_
  refine zh (za (ze [] (yh w1 w2 w0 w6 w7 w3) ?_))
  exact zg (zk hd rfl rfl)
open Go
def YI (n d : Nat) : Nat := (QF n d).toNat
theorem Zbv (n d : Nat) : QF n d = ((YI n d : Nat) : Int) ∧ YI n d < 2 ^ 64 := by
 have h := WD ((jq n).set d 1) (fun b hb => by
  rcases WF hb with h | h
  ·exact WC n b h
  ·exact .inr h)
 rw [List.length_set, YH] at h
 unfold YI QF
 omega
def jr (p : Nat) : Nat → Nat
 | 0 => 0
 | k + 1 => if yR p k = 1 then YI (jr p k) k else jr p k
theorem J1 (p : Nat) : ∀ k, jr p k < 2 ^ 64
 | 0 => by simp [jr]
 | k + 1 => by
  unfold jr
  split
  ·exact (Zbv _ _).2
  ·exact J1 p k
def vH (pats : List Nat) (days : Int) : List Nat :=
 if pats = [] then [1] else (pats.take 4).map fun p => jr p days.toNat
def qz (c : Cust) (days : Int) : Cust :=
 if c.kind.tmod 2 = 0 then ⟨2, 0, [], yo c.rate 0 9, yo c.size 1 30, yo c.start 0 (yo c.size 1 30), yo c.rule 1 2, yo c.hold 0 4⟩
 else ⟨1, yo c.demand 1 15, vH c.pats days, 0, 0, 0, 0, 0⟩
structure CustOk (c : Cust) : Prop where
 kind : zU c.kind
 demand : zU c.demand
 pats : ∀ p ∈ c.pats, p < 2 ^ 64
 npats : c.pats.length ≤ 9223372036854775807
 rate : zU c.rate
 size : zU c.size
 start : zU c.start
 rule : zU c.rule
 hold : zU c.hold
theorem Zbw {α β : Type} (f : α → β) {l : List α} {k : Nat} {a : α} (ht : l.take (k + 1) = l.take k ++ [a]) : (l.take (k + 1)).map f = (l.take k).map f ++ [f a] := by rw [ht]; simp
theorem Zhe (c : Cust) (days : Int) (hc : CustOk c) (h0 : 0 ≤ days) (h1 : days ≤ 63) : Pure Tryz.prog 45 [.agg (zZ c), I days] (.agg (zZ (qz c days))) := by
 obtain ⟨n, rfl⟩ := Int.eq_ofNat_of_zero_le h0
 have hs := qG c.size 1 30 (by omega)
 refine zx Tryz.func45 Tryz.ntmps45 Tryz.results45 fun S nx hd => ?_
 refine za (zb ?_)
 intro v0 v1
 repeat apply za
 refine zb ?_
 by_cases hk : c.kind.tmod 2 = 0
 ·refine zo (by simp [hk]) ?_
  refine za (zC (some [nx]) (Row.pures [0, 1, 2, 3, 4, 5, 6, 7, 8, 9, 10, 11, 12] (.alt 13 (.alt 14 (.done) .stop) .stop)) mixed trivial ?_)
  refine zI (vG _ _ _ hc.rate (by omega) (by omega) (by omega)) trivial ?_
  refine zI (vG _ _ _ hc.size (by omega) (by omega) (by omega)) trivial ?_
  refine zI (vG _ _ _ hc.rule (by omega) (by omega) (by omega)) trivial ?_
  refine zI (vG _ _ _ hc.hold (by omega) (by omega) (by omega)) trivial ?_
  intro v2
  refine za (zb ?_)
  refine zz (vG _ _ _ hc.start (by omega) (by omega) (by omega)) ?_
  refine za (zb ?_)
  refine uP 1 2 rfl rfl ?_
  exact zg (zk hd (by simp; rfl) (by simp [qz, hk]))
 ·refine zn (by simp [hk]) ?_
  refine zh (za (zb ?_))
  refine zz (vG _ _ _ hc.demand (by omega) (by omega) (by omega)) ?_
  intro v2
  refine za (qQ 2 2 93 1 rfl rfl fun v3 => ?_)
  refine za (zb ?_)
  have hnp := hc.npats
  refine qh (nx := nx) (σ := Nat × Nat × Nat × Nat) (fun _ => True) (fun (v, v1, v2, v3) => [(4, .ptr (nx + 1) v1 0), (6, .ptr (nx + 2) v2 0)]) (fun _ => S)
   (fun (v, v1, v2, v3) => [.cells v 65 (zZ c), .cells v1 65 [I 0, I 0, .sc (.slice none 0 0), I 0, I 0, I 0, I 0, I 0], .cells v2 65 [I 1, I (yo c.demand 1 15), .sl (nx + 3) v3 1 0 (c.pats.take 4).length, I 0, I 0, I 0, I 0, I 0], .cells v3 93 (((c.pats.take 4).map fun p => jr p n).flatMap Enc.enc)]) ?_ ?_
  ·repeat apply za
   refine zj (zG (fun s : Nat × List Nat × Nat × Nat × Nat × Nat => s.1 ≤ c.pats.length ∧ s.1 ≤ 4 ∧ s.2.1 = (c.pats.take s.1).map fun p => jr p n) (fun (k, out, v, v1, v2, v3) => [(1, I n), (2, .ptr nx v 0), (4, .ptr (nx + 1) v1 0), (6, .ptr (nx + 2) v2 0), (7, I k)])
    (fun (k, out, v, v1, v2, v3) => [.cells v 65 (zZ c), .cells v1 65 [I 0, I 0, .sc (.slice none 0 0), I 0, I 0, I 0, I 0, I 0], .cells v2 65 [I 1, I (yo c.demand 1 15), .sl (nx + 3) v3 1 0 out.length, I 0, I 0, I 0, I 0, I 0], .cells v3 93 (out.flatMap Enc.enc)])
    (fun s => 4 - s.1) (0, [], v0, v1, v2, v3) [] (by simp) (by simp) (by simp) ?_)
   rintro ⟨k, out, v0, v1, v2, v3⟩ ⟨hk1, hk4, ho⟩
   simp only at hk1 hk4 ho ⊢
   have hol : out.length = k := by rw [ho]; simp; omega
   have fin : (k = c.pats.length ∨ k = 4) → out = (c.pats.take 4).map fun p => jr p n := by
    rintro (q | q)
    ·rw [ho, List.take_of_length_le (by omega), List.take_of_length_le (by omega)]
    ·rw [ho, q]
   have fin2 : (k = c.pats.length ∨ k = 4) → out.length = (c.pats.take 4).length := fun q => by rw [fin q]; simp
   by_cases hq1 : k < c.pats.length
   ·by_cases hq2 : (k : Int) < 4
    ·repeat apply za
     refine ze [(5, 43)] (zm hq1 hq2) ?_
     refine zo rfl ?_
     obtain ⟨p, tl, a1, a2, a3, e0⟩ := zE rfl c.pats k hq1
     have hp := hc.pats p (List.mem_of_getElem? a1)
     refine zh (za (zj (za (zb ?_))))
     repeat apply za
     refine zb ?_
     refine zj (zG (fun s : Nat × Nat × Nat × Nat × Nat => s.1 ≤ n) (fun (d, v, v1, v2, v3) => [(1, I n), (2, .ptr nx v 0), (4, .ptr (nx + 1) v1 0), (6, .ptr (nx + 2) v2 0), (7, I k), (8, U (jr p d)), (9, I d)])
      (fun (d, v, v1, v2, v3) => [.cells v 65 (zZ c), .cells v1 65 [I 0, I 0, .sc (.slice none 0 0), I 0, I 0, I 0, I 0, I 0], .cells v2 65 [I 1, I (yo c.demand 1 15), .sl (nx + 3) v3 1 0 out.length, I 0, I 0, I 0, I 0, I 0], .cells v3 93 (out.flatMap Enc.enc)])
      (fun s => n - s.1) (0, v0, v1, v2, v3) [] (by simp) (by simp [jr]) (by simp) ?_)
     rintro ⟨d, v0, v1, v2, v3⟩ hdn
     simp only at hdn ⊢
     repeat apply za
     refine zb ?_
     refine zr rfl (fun hd1 => ?_) (fun hd1 => ?_)
     ·simp at hd1
      refine zh (za (zj (za (ze [] (zm hq1 e0) ?_))))
      refine zz (Zhc p d hp (by omega) (by omega)) ?_
      refine zr rfl (fun hb => ?_) (fun hb => ?_)
      ·simp at hb
       refine zb ?_
       refine zz (Zhd _ d (J1 p d) (by omega) (by omega)) ?_
       refine zb ?_
       exact zp (d + 1, v0, v1, v2, v3) [] (by simp; omega) (by simp; omega) (by simp [zt d (by omega), jr, hb, (Zbv _ _).1]) rfl (by simp)
      ·simp at hb
       refine zh (zb ?_)
       exact zp (d + 1, v0, v1, v2, v3) [] (by simp; omega) (by simp; omega) (by simp [zt d (by omega), jr, hb]) rfl (by simp)
     ·simp at hd1
      have hd' : d = n := by omega
      subst hd'
      refine zy (zb ?_)
      refine ⟨by omega, ?_⟩
      refine zb ?_
      exact zp (k + 1, out ++ [jr p d], v0, v1, v2, v3 + 1) [] (by simp [Zbw _ a3, ho]; omega) (by simp; omega) (by simp [zt k (by omega)]) rfl (by simp)
    ·repeat apply za
     refine ze [(5, 43)] (zm hq1 hq2) ?_
     refine zn rfl ?_
     have hk := fin (.inr (by omega))
     have hk2 := fin2 (.inr (by omega))
     exact zy (zP (v0, v1, v2, v3) [] trivial (by simp) rfl (by simp only [hk2]; rw [← hk]; simp))
   ·repeat apply za
    refine ze [(5, 43)] (zm hq1 zL) ?_
    refine zn rfl ?_
    have hk := fin (.inl (by omega))
    have hk2 := fin2 (.inl (by omega))
    exact zy (zP (v0, v1, v2, v3) [] trivial (by simp) rfl (by simp only [hk2]; rw [← hk]; simp))
  ·rintro ⟨v0, v1, v2, v3⟩ -
   simp only
   by_cases he : c.pats = []
   ·have hg : qz c n = ⟨1, yo c.demand 1 15, [1], 0, 0, 0, 0, 0⟩ := by simp [qz, hk, vH, he]
    rw [hg, he]
    repeat apply za
    refine zb ?_
    refine zo rfl (zb ?_)
    refine za (zb ?_)
    refine yc 3 rfl ?_
    exact zg (zk hd (by simp; rfl) rfl)
   ·have hg : qz c n = ⟨1, yo c.demand 1 15, (c.pats.take 4).map fun p => jr p n, 0, 0, 0, 0, 0⟩ := by simp [qz, hk, vH, he]
    have hlen : ((c.pats.take 4).map fun p => jr p n).length = (c.pats.take 4).length := by simp
    have hne : ¬ (c.pats.take 4).length = 0 := by simp [he]
    rw [hg, ← hlen]
    rw [← hlen] at hne
    generalize (c.pats.take 4).map (fun p => jr p n) = out at *
    have hne' : out ≠ [] := by simpa using hne
    repeat apply za
    refine ze [] (zm hne hne') ?_
    refine zn rfl (zh (za (zb ?_)))
    refine yc 3 rfl ?_
    exact zg (zk hd (by simp; rfl) rfl)
open Go
def arc (x : Inst) (a b : Int) : Int := if a < 0 ∨ b < 0 then 0 else ((x.dist.getD a.toNat []).getD b.toNat 0)
theorem J2 (x : Inst) (a b : Int) (h : a < 0 ∨ b < 0) : arc x a b = 0 := if_pos h
theorem Zbx (x : Inst) (a b : Int) (h : (x.dist.length : Int) ≤ a) : arc x a b = 0 := by
 unfold arc; split
 ·rfl
 ·have : x.dist.getD a.toNat [] = [] := by rw [List.getD_eq_getElem?_getD, List.getElem?_eq_none (by omega)]; rfl
  rw [this]; rfl
theorem Zby {x : Inst} {a : Int} {row : List Int} (hr : x.dist[a.toNat]? = some row) : x.dist.getD a.toNat [] = row := by rw [List.getD_eq_getElem?_getD, hr]; rfl
theorem Zbz (x : Inst) (a b : Int) {row : List Int} (hr : x.dist[a.toNat]? = some row) (h : (row.length : Int) ≤ b) : arc x a b = 0 := by
 unfold arc; split
 ·rfl
 ·rw [Zby hr, List.getD_eq_getElem?_getD, List.getElem?_eq_none (by omega)]; rfl
theorem ZbA (x : Inst) (a b : Int) {row : List Int} {d : Int} (ha : 0 ≤ a) (hb : 0 ≤ b) (hr : x.dist[a.toNat]? = some row) (h : row[b.toNat]? = some d) : arc x a b = d := by
 unfold arc
 rw [if_neg (by omega), Zby hr, List.getD_eq_getElem?_getD, h]; rfl
theorem J3 (x : Inst) (a b : Int) : Pure Tryz.prog 46 [.agg (zA x), I a, I b] (I (arc x a b)) := by
 refine zx Tryz.func46 Tryz.ntmps46 Tryz.results46 fun S nx hd => ?_
 refine za (zb ?_)
 intros
 by_cases ha : a < 0
 ·repeat apply za
  refine ze [(2, 10), (6, 14)] (zm ha zL) ?_
  refine zo rfl (za (zb ?_))
  exact zg (zk hd rfl (by rw [J2 _ _ _ (.inl ha)]; rfl))
 by_cases hb : b < 0
 ·repeat apply za
  refine ze [(2, 10), (6, 14)] (zF ha hb zL) ?_
  refine zo rfl (za (zb ?_))
  exact zg (zk hd rfl (by rw [J2 _ _ _ (.inr hb)]; rfl))
 by_cases hl : (x.dist.length : Int) ≤ a
 ·repeat apply za
  refine ze [(2, 10), (6, 14)] (zF ha hb hl) ?_
  refine zo rfl (za (zb ?_))
  exact zg (zk hd rfl (by rw [Zbx _ _ _ hl]; rfl))
 have hl' : a < x.dist.length := by omega
 have ha' : 0 ≤ a := by omega
 obtain ⟨row, tl, a1, _, _, e0⟩ := zE rfl x.dist a.toNat (by omega)
 repeat apply za
 refine ze [(2, 10), (6, 14)] (zF ha hb hl) ?_
 refine zn rfl (zh (za (ze [(2, 10), (6, 14)] (zF ha' hl' e0) ?_)))
 by_cases hw : (row.length : Int) ≤ b
 ·repeat apply za
  refine ze [] hw ?_
  refine zo rfl (za (zb ?_))
  exact zg (zk hd rfl (by rw [Zbz _ _ _ a1 hw]; rfl))
 have hw' : b < row.length := by omega
 have hb' : 0 ≤ b := by omega
 obtain ⟨d, tl2, b1, _, _, e1⟩ := zE rfl row b.toNat (by omega)
 repeat apply za
 refine ze [] hw ?_
 refine zn rfl (zh (za (ze [] (zF hb' hw' e1) ?_)))
 exact zg (zk hd rfl (by rw [ZbA x a b ha' hb' a1 b1]; rfl))
theorem wO (x : Inst) (a b : Int) : Pure Tryz.prog 150 [.agg (zA x), I a, I b] (I (arc x a b)) := by
 refine zx Tryz.func150 Tryz.ntmps150 Tryz.results150 fun S nx hd => ?_
 refine za (zb ?_)
 intros
 by_cases ha : a < 0
 ·repeat apply za
  refine ze [(2, 9), (9, 16), (13, 20)] (zm ha zL) ?_
  refine zo rfl (za (zb ?_))
  exact zg (zk hd rfl (by rw [J2 _ _ _ (.inl ha)]; rfl))
 by_cases hl : (x.dist.length : Int) ≤ a
 ·repeat apply za
  refine ze [(2, 9), (9, 16), (13, 20)] (zF ha hl zL) ?_
  refine zo rfl (za (zb ?_))
  exact zg (zk hd rfl (by rw [Zbx _ _ _ hl]; rfl))
 by_cases hb : b < 0
 ·repeat apply za
  refine ze [(2, 9), (9, 16), (13, 20)] (yi ha hb hl zL) ?_
  refine zo rfl (za (zb ?_))
  exact zg (zk hd rfl (by rw [J2 _ _ _ (.inr hb)]; rfl))
 have hl' : a < x.dist.length := by omega
 have ha' : 0 ≤ a := by omega
 obtain ⟨row, tl, a1, _, _, e0⟩ := zE rfl x.dist a.toNat (by omega)
 by_cases hw : (row.length : Int) ≤ b
 ·repeat apply za
  refine ze [(2, 9), (9, 16), (13, 20)] (yh ha hb hl ha' hl' (zm e0 hw)) ?_
  refine zo rfl (za (zb ?_))
  exact zg (zk hd rfl (by rw [Zbz _ _ _ a1 hw]; rfl))
 have hw' : b < row.length := by omega
 have hb' : 0 ≤ b := by omega
 obtain ⟨d, tl2, b1, _, _, e1⟩ := zE rfl row b.toNat (by omega)
 repeat apply za
 refine ze [(2, 9), (9, 16), (13, 20)] (yh ha hb hl ha' hl' (zm e0 hw)) ?_
 refine zn rfl (zh (za (ze [(2, 9), (9, 16), (13, 20)] (yh ha' hl' e0 hb' hw' e1) ?_)))
 exact zg (zk hd rfl (by rw [ZbA x a b ha' hb' a1 b1]; rfl))
open Go
def yV (x : Inst) : Int → List Int → Int
 | a, [] => arc x a 0
 | a, c :: l => arc x a (c + 1) + yV x (c + 1) l
def zX (x : Inst) (l : List Int) : Int := if l = [] then 0 else yV x 0 l
def small (c : Int) : Prop := -4611686018427387904 ≤ c ∧ c ≤ 4611686018427387904
theorem vI {c : Int} (h : small c) : IntKind.i64.wrap (c + 1) = c + 1 := wr _ (by unfold small at h; omega) (by unfold small at h; omega)
theorem ZbB (x : Inst) (l : List Int) (hl : l.length ≤ 1048576) (hs : ∀ c ∈ l, small c) : Pure Tryz.prog 110 [.agg (zA x), L l] (I (W (zX x l))) := by
 refine zx Tryz.func110 Tryz.ntmps110 Tryz.results110 fun S nx hd => ?_
 refine za (zb ?_)
 intro v0
 repeat apply za
 refine zb ?_
 refine zr rfl (fun hc => ?_) (fun hc => ?_)
 ·simp at hc
  subst hc
  refine za (zb ?_)
  exact zg (zk hd rfl rfl)
 refine zh ?_
 simp at hc
 refine za (zb ?_)
 repeat apply za
 refine zb ?_
 refine zj (zG (fun s : Nat × Int × Int × Nat => s.1 ≤ l.length ∧ s.2.1 + yV x s.2.2.1 (l.drop s.1) = yV x 0 l) (fun (k, s, at', v) => [(2, .ptr nx v 0), (5, I (W s)), (6, I at'), (12, L l), (13, I l.length), (14, I k)])
  (fun (k, s, at', v) => [.cells v 25 (zA x)]) (fun s => l.length - s.1) (0, 0, 0, v0) [] (by simp) (by simp) (by simp) ?_)
 rintro ⟨k, s, at', v⟩ ⟨hk, ho⟩
 simp only at hk ho ⊢
 refine za (zb ?_)
 refine za (zr rfl (fun hq => ?_) (fun hq => ?_))
 ·simp at hq
  obtain ⟨c, tl, a1, a2, a3, e0⟩ := zE rfl l k hq
  have hw := vI (hs c (List.mem_of_getElem? a1))
  rw [a2] at ho
  refine zh (za (zj (za (ze [] (zm hq e0) ?_))))
  refine za (ze [] hw ?_)
  refine jB [] (wO _ _ _) hw ?_
  refine ze [] hw ?_
  refine zb ?_
  exact zp (k + 1, s + arc x at' (c + 1), c + 1, v) [] (by simp only [yV] at ho; exact ⟨by omega, by rw [← ho]; simp; omega⟩) (by simp; omega) (by simp [zt k (by omega), xE, hw]) rfl (by simp)
 ·simp at hq
  refine zy (za (zb ?_))
  refine zz (wO _ _ _) ?_
  rw [List.drop_of_length_le hq] at ho
  exact zg (zk hd rfl (by simp only [zX, if_neg hc, ← ho, yV, zq]; simp [xE]))
theorem Zhf (x : Inst) (l : List Int) (hl : l.length ≤ 1048576) (hs : ∀ c ∈ l, small c) : Pure Tryz.prog 77 [.agg (zA x), L l] (I (W (zX x l))) := by
 refine zx Tryz.func77 Tryz.ntmps77 Tryz.results77 fun S nx hd => ?_
 refine za (zb ?_)
 intro v0
 repeat apply za
 refine zb ?_
 refine zr rfl (fun hc => ?_) (fun hc => ?_)
 ·simp at hc
  subst hc
  refine za (zb ?_)
  exact zg (zk hd rfl rfl)
 refine zh ?_
 simp at hc
 cases l with
 | nil => exact absurd rfl hc
 | cons c0 l0 =>
 have hw0 := vI (hs c0 (by simp))
 obtain ⟨cl, tl, a1, a2, a3, e0⟩ := zE rfl (c0 :: l0) l0.length (by simp)
 simp only [List.flatMap_cons, Zgt, List.singleton_append, List.cons_append, List.nil_append] at e0
 have lt1 : (l0.length : Int) < l0.length + 1 := by omega
 have hwl := vI (hs cl (List.mem_of_getElem? a1))
 have wl : IntKind.i64.wrap (l0.length : Int) = (l0.length : Int) := wr _ (by omega) (by simp at hl; omega)
 refine za (zC none (Row.pures [0, 1, 2, 3, 4, 5, 6, 7, 8, 9, 10, 11, 12, 13, 14, 15, 16] .done) mixed (qm hw0 wl e0 hwl lt1) ?_)
 refine zI (J3 _ _ _) (qm hw0 wl e0 hwl lt1) ?_
 refine zI (J3 _ _ _) (qm hw0 wl e0 hwl lt1) ?_
 repeat apply za
 refine zb ?_
 generalize hll : c0 :: l0 = l at *
 have hlen : l.length = l0.length + 1 := by rw [← hll]; rfl
 have hL : (PV.lst (l0.length + 1) (I c0 :: l0.flatMap Enc.enc)) = L l := by rw [← hll]; rfl
 refine zj (zG (fun s : Nat × Int × Int × Nat => s.1 + 1 ≤ l.length ∧ l[s.1]? = some s.2.2.1 ∧ s.2.1 + yV x (s.2.2.1 + 1) (l.drop (s.1 + 1)) = yV x 0 l + arc x (cl + 1) 0) (fun (j, s, p, v) => [(1, L l), (2, .ptr nx v 0), (5, I (W s)), (6, I ((j + 1 : Nat) : Int))])
  (fun (j, s, p, v) => [.cells v 25 (zA x)]) (fun s => l.length - s.1) (0, arc x 0 (c0 + 1) + arc x (cl + 1) 0, c0, v0) [] (by rw [← hll]; simp [yV]; omega) (by simp [hL]) (by simp) ?_)
 rintro ⟨j, s, p, v⟩ ⟨hk, hp, ho⟩
 simp only at hk ho hp ⊢
 repeat apply za
 refine zb ?_
 refine zr rfl (fun hq => ?_) (fun hq => ?_)
 ·simp at hq
  have hq' : j + 1 < l.length := by omega
  obtain ⟨c, tl1, b1, b2, b3, e1⟩ := zE rfl l (j + 1) hq'
  obtain ⟨p', tl2, d1, d2, d3, e2⟩ := zE rfl l j (by omega)
  rw [hp] at d1; cases d1
  have hwc := vI (hs c (List.mem_of_getElem? b1))
  have hwp := vI (hs p (List.mem_of_getElem? hp))
  have wj : IntKind.i64.wrap (j : Int) = j := wr _ (by omega) (by omega)
  have g1 : (j : Int) < l.length := by omega
  have g2 : (j : Int) + 1 < l.length := by omega
  have g3 : 0 ≤ (j : Int) + 1 := by omega
  rw [b2] at ho
  refine zh (za (zj (zC none (Row.pures [0, 1, 2, 3, 4, 5, 6, 7, 8, 9, 10, 11, 12, 13, 14, 15] .done) mixed (yh hwc hwp wj e1 e2 (zF g1 g2 g3)) ?_)))
  refine zI (J3 _ _ _) (zm hwc hwp) ?_
  have w2 : IntKind.i64.wrap ((j : Int) + 1 + 1) = ((j + 1 + 1 : Nat) : Int) := by rw [wr _ (by omega) (by omega)]; omega
  refine zb ?_
  exact zp (j + 1, s + arc x (p + 1) (c + 1), c, v) [] (by simp only [yV] at ho; exact ⟨by omega, b1, by rw [← ho]; simp; omega⟩) (by simp; omega) (by simp [w2, xE]) rfl (by simp)
 ·simp at hq
  refine zy (za (zb ?_))
  rw [List.drop_of_length_le (by omega)] at ho
  have hpc : p = cl := by
   have : j = l0.length := by omega
   subst this; rw [hp] at a1; cases a1; rfl
  subst hpc
  have hs' : s = yV x 0 l := by simp only [yV] at ho; omega
  exact zg (zk hd rfl (by simp [zX, hc, hs']))
open Go
def xi (x : Inst) (n a : Nat) : List Int := (List.range (n + 1)).map fun b => if a ≠ b then yo (arc x a b) 0 60 else 0
def zO (x : Inst) : Inst :=
 ⟨yo x.days 1 7, yo x.veh 0 5, yo x.cap 0 40, yo x.len 0 300, (x.cust.take 6).map fun c => qz c (yo x.days 1 7), (List.range ((x.cust.take 6).length + 1)).map fun a => xi x (x.cust.take 6).length a⟩
structure InstOk (x : Inst) : Prop where
 days : zU x.days
 veh : zU x.veh
 cap : zU x.cap
 len : zU x.len
 ncust : x.cust.length ≤ 9223372036854775807
 cust : ∀ c ∈ x.cust, CustOk c
 ndist : x.dist.length ≤ 9223372036854775807
 dist : ∀ r ∈ x.dist, r.length ≤ 9223372036854775807 ∧ ∀ d ∈ r, zU d
theorem Zhg {x : Inst} (hx : InstOk x) (a b : Int) : zU (arc x a b) := by
 unfold arc
 split
 ·unfold zU; omega
 ·rw [List.getD_eq_getElem?_getD, List.getD_eq_getElem?_getD]
  cases hr : x.dist[a.toNat]? with
  | none => simp [zU]
  | some r =>
   cases hd : r[b.toNat]? with
   | none => simp [hd, zU]
   | some d =>
    simp only [Option.getD_some, hd]
    exact (hx.dist r (List.mem_of_getElem? hr)).2 d (List.mem_of_getElem? hd)
def jR (x : Inst) (n a k : Nat) : List Int := (List.range (n + 1)).map fun b => if b < k then (if a ≠ b then yo (arc x a b) 0 60 else 0) else 0
theorem ZbC (x : Inst) (n a k : Nat) : (jR x n a k).length = n + 1 := by simp [jR]
theorem Zhh (x : Inst) (n a : Nat) : jR x n a 0 = List.replicate (n + 1) 0 := by
 apply List.ext_getElem
 ·simp [jR]
 ·intro i h1 h2; simp only [List.getElem_replicate]; simp [jR]
theorem ZbD (x : Inst) (n a : Nat) : jR x n a (n + 1) = xi x n a := by
 apply List.ext_getElem
 ·simp [jR, xi]
 ·intro i h1 h2
  simp [jR] at h1
  simp [jR, xi, h1]
theorem Zhi (x : Inst) (n a k : Nat) (h : k ≤ n) (hne : a ≠ k) : (jR x n a k).set k (yo (arc x a k) 0 60) = jR x n a (k + 1) := by
 apply List.ext_getElem
 ·simp [jR]
 ·intro i h1 h2
  rw [List.getElem_set]
  simp only [jR, List.getElem_map, List.getElem_range]
  split
  ·rename_i e; subst e; simp [hne]
  ·rename_i e
   by_cases q : i < k
   ·simp [q, show i < k + 1 by omega]
   ·simp [q, show ¬ i < k + 1 by omega]
theorem Zhj (x : Inst) (n k : Nat) : jR x n k k = jR x n k (k + 1) := by
 apply List.ext_getElem
 ·simp [jR]
 ·intro i h1 h2
  simp only [jR, List.getElem_map, List.getElem_range]
  by_cases q : i < k
  ·simp [q, show i < k + 1 by omega]
  ·by_cases e : i = k
   ·subst e; simp
   ·simp [q, show ¬ i < k + 1 by omega]
abbrev J4 (x : Inst) (v0 v1 v2 : Nat) (cs ds : PV) : List Ob :=
 [.cells v0 25 (zA x), .cells v1 25 [I 0, I 0, I 0, I 0, .sc (.slice none 0 0), .sc (.slice none 0 0)], .cells v2 25 [I (yo x.days 1 7), I (yo x.veh 0 5), I (yo x.cap 0 40), I (yo x.len 0 300), cs, ds]]
theorem Zhk (x : Inst) (hx : InstOk x) : Pure Tryz.prog 12 [.agg (zA x)] (.agg (zA (zO x))) := by
 have hd7 := qG x.days 1 7 (by omega)
 have hnc := hx.ncust
 refine zx Tryz.func12 Tryz.ntmps12 Tryz.results12 fun S nx hd => ?_
 refine za (zb ?_)
 intro v0 v1
 refine za (zC (some [nx]) (Row.pures [0, 1, 2, 3, 4, 5, 6, 7, 8, 9, 10, 11, 12] (.alt 13 (.alt 14 (.done) .stop) .stop)) mixed trivial ?_)
 refine zI (vG _ _ _ hx.days (by omega) (by omega) (by omega)) trivial ?_
 refine zI (vG _ _ _ hx.veh (by omega) (by omega) (by omega)) trivial ?_
 refine zI (vG _ _ _ hx.cap (by omega) (by omega) (by omega)) trivial ?_
 refine zI (vG _ _ _ hx.len (by omega) (by omega) (by omega)) trivial ?_
 intro v2
 refine za (qQ 2 4 65 8 rfl rfl fun v3 => ?_)
 refine za (zb ?_)
 have hdz : yo x.days 1 7 ≤ 63 := by omega
 generalize hdy : yo x.days 1 7 = dz at *
 refine qh (nx := nx) (σ := Nat × Nat × Nat × Nat) (fun _ => True) (fun (v0, v1, v2, v3) => [(1, .ptr nx v0 0), (2, .ptr (nx + 1) v1 0), (3, .ptr (nx + 2) v2 0)]) (fun _ => S)
  (fun (v0, v1, v2, v3) => J4 x v0 v1 v2 (.sl (nx + 3) v3 8 0 ((x.cust.take 6).map fun c => qz c dz).length) (.sc (.slice none 0 0)) ++ [.cells v3 65 (((x.cust.take 6).map fun c => qz c dz).flatMap Enc.enc)]) ?_ ?_
 ·repeat apply za
  refine zj (zG (fun s : Nat × List Cust × Nat × Nat × Nat × Nat => s.1 ≤ x.cust.length ∧ s.1 ≤ 6 ∧ s.2.1 = (x.cust.take s.1).map fun c => qz c dz) (fun (k, out, v0, v1, v2, v3) => [(1, .ptr nx v0 0), (2, .ptr (nx + 1) v1 0), (3, .ptr (nx + 2) v2 0), (4, I k)])
   (fun (k, out, v0, v1, v2, v3) => J4 x v0 v1 v2 (.sl (nx + 3) v3 8 0 out.length) (.sc (.slice none 0 0)) ++ [.cells v3 65 (out.flatMap Enc.enc)]) (fun s => 6 - s.1) (0, [], v0, v1, v2, v3) [] (by simp) (by simp) (by simp [hdy]) ?_)
  rintro ⟨k, out, v0, v1, v2, v3⟩ ⟨hk1, hk6, ho⟩
  simp only at hk1 hk6 ho ⊢
  have hol : out.length = k := by rw [ho]; simp; omega
  have fin : (k = x.cust.length ∨ k = 6) → out = (x.cust.take 6).map fun c => qz c dz := by
   rintro (q | q)
   ·rw [ho, List.take_of_length_le (by omega), List.take_of_length_le (by omega)]
   ·rw [ho, q]
  by_cases hq1 : k < x.cust.length
  ·by_cases hq2 : (k : Int) < 6
   ·repeat apply za
    refine ze [(5, 27)] (zm hq1 hq2) ?_
    refine zo rfl ?_
    obtain ⟨c, tl, a1, a2, a3, e1, e0⟩ := el 8 rfl x.cust k hq1
    have hc := hx.cust c (List.mem_of_getElem? a1)
    refine zh (za (zj (zC (some [nx]) (Row.pures [0, 2, 3, 4, 5, 6, 7] (.alt 1 (.alt 8 (Row.pures [9, 10] (.alt 11 (Row.pures [12] (.alt 13 (.done) .stop)) .stop)) .stop) (.alt 8 (Row.pures [9, 10] (.alt 1 (.alt 11 (Row.pures [12] (.alt 13 (.done) .stop)) .stop) .stop)) .stop))) mixed (zF hq1 e0 hdy) ?_)))
    have w1 := zt k (by omega)
    refine ⟨?_, ?_⟩
    all_goals
     refine zI (Zhe c dz hc (by omega) hdz) trivial ?_
     refine ⟨by omega, ?_⟩
     refine zb ?_
     exact zp (k + 1, out ++ [qz c dz], v0, v1, v2, v3 + 1) [] (by simp [Zbw _ a3, ho]; omega) (by simp; omega) (by simp [w1]) rfl (by simp [hdy])
   ·repeat apply za
    refine ze [(5, 27)] (zm hq1 hq2) ?_
    refine zn rfl ?_
    have hk := fin (.inr (by omega))
    exact zy (zP (v0, v1, v2, v3) [] trivial (by simp) rfl (by simp only [← hk]; simp))
  ·repeat apply za
   refine ze [(5, 27)] (zm hq1 zL) ?_
   refine zn rfl ?_
   have hk := fin (.inl (by omega))
   exact zy (zP (v0, v1, v2, v3) [] trivial (by simp) rfl (by simp only [← hk]; simp))
 ·rintro ⟨v0, v1, v2, v3⟩ -
  simp only
  have hg : zO x = ⟨dz, yo x.veh 0 5, yo x.cap 0 40, yo x.len 0 300, (x.cust.take 6).map fun c => qz c dz, (List.range ((x.cust.take 6).length + 1)).map fun a => xi x (x.cust.take 6).length a⟩ := by unfold zO; rw [hdy]
  have hcl : ((x.cust.take 6).map fun c => qz c dz).length = (x.cust.take 6).length := by simp
  have hn6 : (x.cust.take 6).length ≤ 6 := by simp; omega
  rw [hg]
  rw [← hcl] at hn6 ⊢
  generalize (x.cust.take 6).map (fun c => qz c dz) = cs at *
  refine za (zb ?_)
  refine za (qQ 2 5 45 1 rfl rfl fun v4 => ?_)
  refine za (zb ?_)
  have w0 : IntKind.i64.wrap ((cs.length : Int) + 1) = ((cs.length + 1 : Nat) : Int) := zt _ (by omega)
  refine zj (zG (fun s : Nat × List (List Int) × Nat × Nat × Nat × Nat × Nat => s.1 ≤ cs.length + 1 ∧ s.2.1 = (List.range s.1).map fun a => xi x cs.length a) (fun (a, out, v0, v1, v2, v3, v4) => [(1, .ptr nx v0 0), (2, .ptr (nx + 1) v1 0), (3, .ptr (nx + 2) v2 0), (5, I cs.length), (6, I a)])
   (fun (a, out, v0, v1, v2, v3, v4) => J4 x v0 v1 v2 (.sl (nx + 3) v3 8 0 cs.length) (.sl (nx + 4) v4 1 0 out.length) ++ [.cells v3 65 (cs.flatMap Enc.enc), .cells v4 45 (out.flatMap Enc.enc)]) (fun s => cs.length + 1 - s.1) (0, [], v0, v1, v2, v3, v4) [] (by simp) (by simp) (by simp [hdy]) ?_)
  rintro ⟨a, out, v0, v1, v2, v3, v4⟩ ⟨ha, ho⟩
  simp only at ha ho ⊢
  have hol : out.length = a := by rw [ho]; simp
  repeat apply za
  refine zb ?_
  refine zr rfl (fun hc => ?_) (fun hc => ?_)
  ·simp at hc
   refine zh (za (zj (za (ze [] w0 ?_))))
   refine ⟨by omega, fun v5 => ?_⟩
   repeat apply za
   refine zb ?_
   refine zj (zG (fun s : Nat × Nat × Nat × Nat × Nat × Nat × Nat => s.1 ≤ cs.length + 1) (fun (b, v0, v1, v2, v3, v4, v5) => [(1, .ptr nx v0 0), (2, .ptr (nx + 1) v1 0), (3, .ptr (nx + 2) v2 0), (5, I cs.length), (6, I a), (7, .sl (nx + 5) v5 1 0 (cs.length + 1)), (8, I b)])
    (fun (b, v0, v1, v2, v3, v4, v5) => J4 x v0 v1 v2 (.sl (nx + 3) v3 8 0 cs.length) (.sl (nx + 4) v4 1 0 out.length) ++ [.cells v3 65 (cs.flatMap Enc.enc), .cells v4 45 (out.flatMap Enc.enc), .cells v5 3 ((jR x cs.length a b).flatMap Enc.enc)]) (fun s => cs.length + 1 - s.1) (0, v0, v1, v2, v3, v4, v5) [] (by simp) (by simp) (by simp [hdy, Zhh, WE]) ?_)
   rintro ⟨b, v0, v1, v2, v3, v4, v5⟩ hb
   simp only at hb ⊢
   repeat apply za
   refine zb ?_
   refine zr rfl (fun hc2 => ?_) (fun hc2 => ?_)
   ·simp at hc2
    have hrl := ZbC x cs.length a b
    have hsp := J0 (jR x cs.length a b) b (yo (arc x a b) 0 60) (by omega)
    have g1 : (b : Int) < cs.length + 1 := by omega
    refine zh (za (zj (za (zb ?_))))
    by_cases hab : a = b
    ·subst hab
     refine zn (by simp) ?_
     refine zh (zb ?_)
     exact zp (a + 1, v0, v1, v2, v3, v4, v5) [] (by simp; omega) (by simp; omega) (by simp [zt a (by omega)]) rfl (by simp [hdy, Zhj])
    ·have hab' : ((a : Int) != b) = true := by simp; omega
     refine zo (by simp; omega) ?_
     refine zb ?_
     refine zz (J3 x a b) ?_
     refine jB [] (vG _ _ _ (Zhg hx _ _) (by omega) (by omega) (by omega)) (zF g1 hsp hrl) ?_
     refine ⟨by omega, ?_⟩
     refine zb ?_
     exact zp (b + 1, v0, v1, v2, v3, v4, v5) [] (by simp; omega) (by simp; omega) (by simp [zt b (by omega)]) rfl (by simp [hdy, Zhi x _ _ _ (show b ≤ cs.length by omega) hab])
   ·simp at hc2
    have hb' : b = cs.length + 1 := by omega
    subst hb'
    refine zy ?_
    have hrl := ZbC x cs.length a (cs.length + 1)
    refine yc 5 rfl ?_
    refine ze [] hrl ?_
    refine ⟨by omega, ?_⟩
    refine zb ?_
    have hgl : (xi x cs.length a).length = cs.length + 1 := by rw [← ZbD, hrl]
    exact zp (a + 1, out ++ [xi x cs.length a], v0, v1, v2, v3, v4 + 1) [.dead] (by simp [List.range_succ, ho]; omega) (by simp; omega) (by simp [zt a (by omega)]) rfl (by simp [hdy, ZbD, hgl])
  ·simp at hc
   have ha' : a = cs.length + 1 := by omega
   subst ha'
   refine zy (za (zb ?_))
   refine yc 3 rfl ?_
   refine yc 4 rfl ?_
   exact zg (zk hd (by simp; rfl) (by simp [ho, hdy]))
open Go
theorem Zhl (w : World) : uj Tryz.prog w 65 Cust CustOk := by
 intro H enc fuel cs x h
 obtain ⟨hl, n, hf⟩ := Zbm Tryz.underlying65 h
 simp only [c65] at hl
 match cs, hl with
 | [v0, v1, v2, v3, v4, v5, v6, v7], _ =>
  obtain ⟨y0, h0⟩ := hf 0 _ rfl
  obtain ⟨y1, h1⟩ := hf 1 _ rfl
  obtain ⟨y2, h2⟩ := hf 2 _ rfl
  obtain ⟨y3, h3⟩ := hf 3 _ rfl
  obtain ⟨y4, h4⟩ := hf 4 _ rfl
  obtain ⟨y5, h5⟩ := hf 5 _ rfl
  obtain ⟨y6, h6⟩ := hf 6 _ rfl
  obtain ⟨y7, h7⟩ := hf 7 _ rfl
  simp at h0 h1 h2 h3 h4 h5 h6 h7
  obtain ⟨z0, k0, r0⟩ := wv Tryz.underlying3 H enc n _ _ h0
  obtain ⟨z1, k1, r1⟩ := wv Tryz.underlying3 H enc n _ _ h1
  obtain ⟨z2, k2, r2⟩ := QE (α := Nat) Tryz.underlying63 (by simp; rfl) (by decide) (ZgF Tryz.underlying93) H enc n _ _ h2
  obtain ⟨z3, k3, r3⟩ := wv Tryz.underlying3 H enc n _ _ h3
  obtain ⟨z4, k4, r4⟩ := wv Tryz.underlying3 H enc n _ _ h4
  obtain ⟨z5, k5, r5⟩ := wv Tryz.underlying3 H enc n _ _ h5
  obtain ⟨z6, k6, r6⟩ := wv Tryz.underlying3 H enc n _ _ h6
  obtain ⟨z7, k7, r7⟩ := wv Tryz.underlying3 H enc n _ _ h7
  exact ⟨⟨z0, z1, z2, z3, z4, z5, z6, z7⟩, ⟨k0, k1, k2.2, k2.1, k3, k4, k5, k6, k7⟩,
   vg (vs := [v0]) r0 (vg (vs := [v1]) r1 (vg (vs := [v2]) r2 (vg (vs := [v3]) r3 (vg (vs := [v4]) r4 (vg (vs := [v5]) r5 (vg (vs := [v6]) (us := [v7]) r6 r7))))))⟩
instance : Enc Inst := ⟨zA, 6, fun _ => rfl, fun _ => rfl⟩
theorem Zhm (w : World) : uj Tryz.prog w 25 Inst InstOk := by
 intro H enc fuel cs x h
 obtain ⟨hl, n, hf⟩ := Zbm Tryz.underlying25 h
 simp only [c25] at hl
 match cs, hl with
 | [v0, v1, v2, v3, v4, v5], _ =>
  obtain ⟨y0, h0⟩ := hf 0 _ rfl
  obtain ⟨y1, h1⟩ := hf 1 _ rfl
  obtain ⟨y2, h2⟩ := hf 2 _ rfl
  obtain ⟨y3, h3⟩ := hf 3 _ rfl
  obtain ⟨y4, h4⟩ := hf 4 _ rfl
  obtain ⟨y5, h5⟩ := hf 5 _ rfl
  simp at h0 h1 h2 h3 h4 h5
  obtain ⟨z0, k0, r0⟩ := wv Tryz.underlying3 H enc n _ _ h0
  obtain ⟨z1, k1, r1⟩ := wv Tryz.underlying3 H enc n _ _ h1
  obtain ⟨z2, k2, r2⟩ := wv Tryz.underlying3 H enc n _ _ h2
  obtain ⟨z3, k3, r3⟩ := wv Tryz.underlying3 H enc n _ _ h3
  obtain ⟨z4, k4, r4⟩ := QE (α := Cust) Tryz.underlying22 (by simp; rfl) (by decide) (Zhl w) H enc n _ _ h4
  obtain ⟨z5, k5, r5⟩ := QE (α := List Int) Tryz.underlying23 (by simp; rfl) (by decide) (QE (α := Int) Tryz.underlying45 (by simp; rfl) (by decide) (wv Tryz.underlying3)) H enc n _ _ h5
  exact ⟨⟨z0, z1, z2, z3, z4, z5⟩, ⟨k0, k1, k2, k3, k4.1, k4.2, k5.1, k5.2⟩,
   vg (vs := [v0]) r0 (vg (vs := [v1]) r1 (vg (vs := [v2]) r2 (vg (vs := [v3]) r3 (vg (vs := [v4]) (us := [v5]) r4 r5))))⟩
open Go
theorem Zhn (w : World) : uj Tryz.prog w 45 (List Int) (fun l => l.length ≤ 9223372036854775807 ∧ ∀ z ∈ l, zU z) := QE Tryz.underlying45 (by simp; rfl) (by decide) (wv Tryz.underlying3)
open Go
abbrev yM (l : List Int) : List Int := l.mergeSort fun x y => decide (x ≤ y)
theorem Zg (l : List Int) : (yM l).length = l.length := List.length_mergeSort l
theorem J5 (l : List Int) : l.flatMap Enc.enc = l.map I := by induction l <;> simp_all
theorem YJ (S : Store) (o : Nat) (x : Ob) (h : S o = x) : S.set o x = S := by
 funext i; simp only [Store.set]; split
 ·rename_i e; rw [e, h]
 ·rfl
theorem ZO {C : Ctx} {S : Store} {w : World} {x : Int} {v : Value} (h : Rel C S w (I x) v) : v = .int .i64 x := by cases h; rfl
theorem WG {vs : Array Value} (h : 1 = vs.size) : ∃ v, vs = #[v] := by
 match vs, h with
 | ⟨[v]⟩, _ => exact ⟨v, rfl⟩
theorem J6 {S : Store} {id ver : Nat} (zs : List Int) (hid : S id = .cells ver 3 (zs.flatMap Enc.enc)) (hn : zs.length ≤ 1048576) :
  Spec Tryz.prog 175 [.sl id ver 1 0 zs.length] S (fun p S' => S' = S.set id (.cells ver 3 ((yM zs).flatMap Enc.enc))) := by
 refine ⟨qE Tryz.func175 (by rfl) rfl, ?_⟩
 intro C w vs hS hl hr
 obtain ⟨v, rfl⟩ := WG hl
 have hv := hr 0 _ v rfl rfl
 cases hv with
 | sl h1 h2 h3 =>
  obtain ⟨a, cap, rfl, q1, q2, q3, q4⟩ := h1
  by_cases h0 : zs = []
  ·subst h0
   refine (Tryz.slices_Sort_int_none a cap w).mono ?_
   rintro e w' ⟨rfl, rfl⟩
   exact ⟨.junk, _, S, C, rfl, by rw [show yM [] = [] from by simp [yM]]; exact (YJ S id _ hid).symm, .junk _, hS, .refl _ _ _⟩
  ·have hpos : 0 < zs.length := List.length_pos_iff.2 h0
   rcases hS.cells id ver _ _ hid with ⟨hn', hnil⟩ | ⟨b, k, c, g1, g2, g3, g4, g5, g6⟩
   ·rw [J5] at hnil; simp at hnil; exact absurd hnil h0
   ·have ha : a = some ⟨b, 0, none⟩ := by
     rcases (h3 ver (by rw [hid]; rfl)).2 rfl with ⟨z1, _⟩ | ⟨b', k', a', cap', z1, z2, z3, z4⟩
     ·rw [g1] at z1; cases z1
     ·rw [g1] at z1; cases z1; cases z2; exact (z3 rfl).1
    subst ha
    rw [q8] at g4
    have hcells : ∀ i, i < zs.length → c[i]? = some (.int .i64 (zs.getD i 0)) := by
     intro i hi
     have hi' : i < c.size := by omega
     have e1 : (zs.flatMap Enc.enc)[i]? = some (I (zs.getD i 0)) := by rw [J5]; simp [hi]
     have e2 : c[i]? = some c[i] := by simp
     have := ZO (g6 i _ _ e1 e2)
     rw [e2, this]
    have htake : c.toList.take zs.length = zs.map (Value.int .i64) := by
     apply List.ext_getElem?
     intro i
     by_cases hi : i < zs.length
     ·rw [List.getElem?_take_of_lt hi, Array.getElem?_toList, hcells i hi]; simp [hi]
     ·rw [List.getElem?_eq_none (by simp; omega), List.getElem?_eq_none (by simp; omega)]
    refine (Tryz.slices_Sort_int b 0 cap zs w (holds_of_blockI g2 htake) (qj g2) (by omega)).mono ?_
    rintro e w' ⟨rfl, n, os, rfl⟩
    have hb' := heap_sortedI (n := n) (os := os) (yM zs).toArray g2
    have hlz := Zg zs
    have hcs : ∀ i, (Sort.putCells (Value.int .i64) 0 (yM zs).toArray c)[i]? = if i < zs.length then some (.int .i64 ((yM zs).getD i 0)) else c[i]? := by
     intro i
     by_cases hi : i < zs.length
     ·rw [if_pos hi]
      have : i < c.size := by omega
      have hi2 : i < (yM zs).length := by omega
      simp [Sort.putCells, hi2, this]
      intro h; omega
     ·rw [if_neg hi]
      by_cases hc : i < c.size
      ·have hi2 : ¬ i < (yM zs).length := by omega
       simp [Sort.putCells, hi2, hc]
       intro h; omega
      ·rw [Array.getElem?_eq_none (by simp [Sort.putCells]; omega), Array.getElem?_eq_none (by omega)]
    obtain ⟨t1, t2⟩ := hS.turn (l := C.loc id) (ver' := ver) (cs' := (yM zs).flatMap Enc.enc) hid (Nat.le_refl _) (fun _ => rfl) (by rw [g1]; exact ⟨grownBy_sortedI (n := n) (os := os) (yM zs).toArray, Nat.le_add_right _ _⟩)
     (.inr ⟨b, k, _, g1, .inr (by rw [g1]; rfl), hb', by simp [Sort.putCells, g3], by rw [q8, hlz]; exact g4, fun i z hi hz => by
       rw [hcs] at hz
       rw [q8, hlz] at hi
       rw [if_pos hi] at hz; cases hz; rfl,
      fun i p z hp hz => by
       rw [hcs] at hz
       have hi : i < zs.length := by
        have := (List.getElem?_eq_some_iff.1 hp).1
        rw [q8, hlz] at this; exact this
       rw [if_pos hi] at hz; cases hz
       rw [J5, List.getElem?_map] at hp
       have hi2 : i < (yM zs).length := by omega
       rw [List.getElem?_eq_getElem hi2] at hp
       cases hp
       rw [List.getD_eq_getElem?_getD, List.getElem?_eq_getElem hi2]
       exact .sc _⟩)
    exact ⟨.junk, _, _, _, rfl, rfl, .junk _, t1, t2⟩
open Go
def yf (l : List Stop) : List Value := l.flatMap fun s => [.int .i64 s.c, .int .i64 s.q]
theorem ZbE (l : List Stop) : l.flatMap Enc.enc = (yf l).map PV.sc := by
 unfold yf
 induction l <;> simp_all
theorem YK (l : List Stop) : (yf l).length = l.length * 2 := by
 unfold yf
 induction l with
 | nil => rfl
 | cons s l ih => simp at ih ⊢; omega
theorem J7 (l m : List Stop) : yf (l ++ m) = yf l ++ yf m := by simp [yf]
theorem ZbF (l : List Stop) (i : Nat) (h : i ≤ l.length) : (yf l).take (i * 2) = yf (l.take i) := by
 conv => lhs; rw [← List.take_append_drop i l, J7]
 have : (yf (l.take i)).length = i * 2 := by rw [YK]; simp; omega
 rw [← this, List.take_left]
theorem ZbG (l : List Stop) (i : Nat) (h : i ≤ l.length) : (yf l).drop (i * 2) = yf (l.drop i) := by
 conv => lhs; rw [← List.take_append_drop i l, J7]
 have : (yf (l.take i)).length = i * 2 := by rw [YK]; simp; omega
 rw [← this, List.drop_left]
theorem YL (l : List Stop) : ∀ v ∈ yf l, v.oneCell' = true := by
 intro v hv
 obtain ⟨s, _, hs⟩ := List.mem_flatMap.1 hv
 simp at hs
 rcases hs with rfl | rfl <;> rfl
theorem Zho {V vs cur : List Value} {i n : Nat} (hi : i < n) (hV : V.length = n * 2) (hv : vs.length = 2) (hc : cur.take (n * 2) = V) (hl : n * 2 + 2 ≤ cur.length) :
  ((cur.take ((i + 1) * 2) ++ V.drop (i * 2) ++ cur.drop ((i + 1) * 2 + (V.drop (i * 2)).length)).take (i * 2) ++ vs ++ (cur.take ((i + 1) * 2) ++ V.drop (i * 2) ++ cur.drop ((i + 1) * 2 + (V.drop (i * 2)).length)).drop (i * 2 + 2)) =
   V.take (i * 2) ++ vs ++ V.drop (i * 2) ++ cur.drop ((i + 1) * 2 + (V.drop (i * 2)).length) := by
 have h1 : (cur.take ((i + 1) * 2)).length = i * 2 + 2 := by simp; omega
 have h2 : (cur.take ((i + 1) * 2) ++ V.drop (i * 2) ++ cur.drop ((i + 1) * 2 + (V.drop (i * 2)).length)).take (i * 2) = V.take (i * 2) := by
  rw [List.append_assoc, List.take_append_of_le_length (by omega), List.take_take, Nat.min_eq_left (by omega), ← hc, List.take_take, Nat.min_eq_left (by omega)]
 rw [h2, ← h1, List.append_assoc (cur.take _), List.drop_left]
 simp
theorem Zhp {V vs ROW : List Value} {i n : Nat} (hi : i < n) (hV : V.length = n * 2) (hv : vs.length = 2) (hc : ROW.take (i * 2) = V.take (i * 2)) :
  ((ROW.take (i * 2) ++ vs ++ ROW.drop (i * 2 + 2)).take ((i + 1) * 2) ++ V.drop (i * 2) ++ (ROW.take (i * 2) ++ vs ++ ROW.drop (i * 2 + 2)).drop ((i + 1) * 2 + (V.drop (i * 2)).length)) =
   V.take (i * 2) ++ vs ++ V.drop (i * 2) ++ (ROW.take (i * 2) ++ vs ++ ROW.drop (i * 2 + 2)).drop ((i + 1) * 2 + (V.drop (i * 2)).length) := by
 have h1 : (ROW.take (i * 2) ++ vs).length = (i + 1) * 2 := by rw [hc]; simp; omega
 have h2 : (ROW.take (i * 2) ++ vs ++ ROW.drop (i * 2 + 2)).take ((i + 1) * 2) = V.take (i * 2) ++ vs := by
  rw [← h1, List.take_left, hc]
 rw [h2]
theorem ZbH {vs : Array Value} (h : 3 = vs.size) : ∃ u v x, vs = #[u, v, x] := by
 match vs, h with
 | ⟨[u, v, x]⟩, _ => exact ⟨u, v, x, rfl⟩
theorem WH {C : Ctx} {S : Store} {w : World} {R : Array Value} {V rest : List Value} (h : R.toList = V ++ rest) (h1 : ∀ v ∈ V, v.oneCell' = true) :
  (∀ (i : Nat) (v : Value), i < (V.map PV.sc).length → R[i]? = some v → v.oneCell' = true) ∧ ∀ (i : Nat) (p : PV) (v : Value), (V.map PV.sc)[i]? = some p → R[i]? = some v → Rel C S w p v := by
 have hat : ∀ (i : Nat) (v : Value), i < V.length → R[i]? = some v → V[i]? = some v := by
  intro i v hi hv
  rw [← Array.getElem?_toList, h, List.getElem?_append_left hi] at hv
  exact hv
 refine ⟨fun i v hi hv => h1 v (List.mem_of_getElem? (hat i v (by simpa using hi) hv)), fun i p v hp hv => ?_⟩
 rw [List.getElem?_map] at hp
 obtain ⟨u, hu, rfl⟩ := Option.map_eq_some_iff.1 hp
 have := hat i v (List.getElem?_eq_some_iff.1 hu).1 hv
 rw [hu] at this
 cases this
 exact .sc _
theorem Zhq {S : Store} {id ver : Nat} (cs : List Stop) (i : Nat) (s : Stop) (hi : i < cs.length) (hn : cs.length ≤ 1000000) (hid : S id = .cells ver 35 (cs.flatMap Enc.enc)) :
  Spec Tryz.prog 102 [.sl id ver 2 0 cs.length, I i, L [s]] S (fun p S' => p = .sl id (ver + 1) 2 0 (cs.length + 1) ∧ S' = S.set id (.cells (ver + 1) 35 ((cs.take i ++ s :: cs.drop i).flatMap Enc.enc))) := by
 refine ⟨qE Tryz.func102 (by rfl) rfl, ?_⟩
 intro C w vs hS hl hr
 obtain ⟨u, v, x, rfl⟩ := ZbH hl
 obtain rfl := ZO (hr 1 _ v rfl rfl)
 have hu := hr 0 _ u rfl rfl
 have hx : Rel C S w (.lst 1 [I s.c, I s.q]) x := hr 2 _ x rfl rfl
 have hvl : (yf cs).length = cs.length * 2 := YK cs
 rw [ZbE] at hid ⊢
 obtain ⟨i0, hi0⟩ := Option.isSome_iff_exists.1 Wz
 have hz := z35
 have hc := Wy
 have hb := b35
 simp only [Program.zeroOf, Program.cellsOf, Program.bytesOf', hi0, Option.bind_some, Option.map_some, Option.getD_some, Option.some.injEq] at hz hc hb
 cases hu with
 | sl h1 h2 h3 =>
  obtain ⟨ad, cap, rfl, q1, q2, q3, q4⟩ := h1
  have hloc := (h3 ver (by rw [hid]; rfl)).2 rfl
  rcases hS.cells id ver _ _ hid with ⟨hno, hnil⟩ | ⟨b, k, c, g1, g2, g3, g4, g5, g6⟩
  ·have := congrArg List.length hnil
   simp [hvl] at this
   exfalso; omega
  rcases hloc with ⟨z1, _⟩ | ⟨b', k', ad', cap', z1, z2, z3, z4⟩
  ·rw [g1] at z1; cases z1
  rw [g1] at z1; cases z1; cases z2
  obtain ⟨rfl, hcap⟩ := z3 rfl
  rw [List.length_map, hvl] at g4
  -- what stands in the block
  have hcells : ∀ (j : Nat) v, (yf cs)[j]? = some v → c[j]? = some v := by
   intro j v hj
   have hjl := (List.getElem?_eq_some_iff.1 hj).1
   have e2 : c[j]? = some c[j] := Array.getElem?_eq_getElem (by omega)
   have := g6 j (.sc v) _ (by rw [List.getElem?_map, hj]; rfl) e2
   rw [e2]
   generalize c[j] = y at this
   cases this; rfl
  have hcur : c.toList.take (cs.length * 2) = yf cs := by
   apply List.ext_getElem?
   intro j
   by_cases hj : j < cs.length * 2
   ·rw [List.getElem?_take_of_lt hj, Array.getElem?_toList]
    have e : (yf cs)[j]? = some (yf cs)[j] := List.getElem?_eq_getElem (by omega)
    rw [e, hcells j _ e]
   ·rw [List.getElem?_eq_none (by simp; omega), List.getElem?_eq_none (by omega)]
  have hccell : ∀ (j : Nat) v, (yf cs)[j]? = some v → w.cell? ⟨b, j, none⟩ = some v := fun j v hj => by
   simp only [World.cell?, g2]
   exact hcells j v hj
  have hnew : yf (cs.take i ++ s :: cs.drop i) = (yf cs).take (i * 2) ++ [.int .i64 s.c, .int .i64 s.q] ++ (yf cs).drop (i * 2) := by
   rw [ZbF cs i (by omega), ZbG cs i (by omega), J7]
   simp [yf]
  have hnl : (yf (cs.take i ++ s :: cs.drop i)).length = (cs.length + 1) * 2 := by rw [YK]; simp; omega
  cases hx with
  | lst1 y1 y2 y3 y4 y5 y6 y7 =>
   rename_i vc vb vo cv ev fz
   have y5' := y5 (by simp)
   simp only [List.length_cons, List.length_nil] at y5'
   have hvcell : ∀ (j : Nat) v, ([.int .i64 s.c, .int .i64 s.q] : List Value)[j]? = some v → w.cell? ⟨vb, vo + j, none⟩ = some v := by
    intro j v hj
    have hjl := (List.getElem?_eq_some_iff.1 hj).1
    simp at hjl
    simp only [World.cell?, y3]
    have e2 : cv[vo + j]? = some (cv[vo + j]'(by omega)) := Array.getElem?_eq_getElem (by omega)
    have := y7 j (.sc v) _ (by
     match j, hj with
     | 0, hj => cases hj; rfl
     | 1, hj => cases hj; rfl) e2
    rw [if_neg (by simp), e2]
    generalize cv[vo + j]'(by omega) = y at this
    cases this; rfl
   have hvb : vb ≠ b := by
    rintro rfl
    exact y4 ⟨id, k, by rw [hid]; simp, g1⟩
   have newsl : ∀ (w' : World) (b' cap' : Nat), cs.length + 1 ≤ cap' → cap' ≤ maxLen →
     Rel (C.at id (ver + 1) (some (b', cap' * 2))) (S.set id (.cells (ver + 1) 35 ((yf (cs.take i ++ s :: cs.drop i)).map .sc))) w' (.sl id (ver + 1) 2 0 (cs.length + 1)) (.slice (some ⟨b', 0, none⟩) (cs.length + 1) cap') := by
    intro w' b' cap' hkm hcl
    refine .sl ⟨_, _, rfl, hkm, by unfold jn; omega, hcl, fun _ => ⟨_, _, rfl⟩⟩ ⟨h2.1, by simp only [Ctx.at]; omega⟩ fun v0 hv0 => ?_
    rw [Store.set_same] at hv0; cases hv0
    exact ⟨Nat.le_refl _, fun _ => .inr ⟨b', _, _, _, by simp [Ctx.at], rfl, fun _ => ⟨rfl, rfl⟩, fun _ => rfl⟩⟩
   have hsv : ∀ v ∈ ([.int .i64 s.c, .int .i64 s.q] : List Value), v.oneCell' = true := by
    intro v hv
    simp at hv
    rcases hv with rfl | rfl <;> rfl
   by_cases hroom : cs.length + 1 ≤ cap
   ·obtain ⟨R1, hR1⟩ : ∃ R1 : Array Value, R1 = (c.toList.take ((i + 1) * 2) ++ (yf cs).drop (i * 2) ++ c.toList.drop ((i + 1) * 2 + ((yf cs).drop (i * 2)).length)).toArray := ⟨_, rfl⟩
    obtain ⟨R2, hR2⟩ : ∃ R2 : Array Value, R2 = (R1.toList.take (i * 2) ++ ([.int .i64 s.c, .int .i64 s.q] : List Value) ++ R1.toList.drop (i * 2 + 2)).toArray := ⟨_, rfl⟩
    have hcsz : c.size = cap * 2 := g3.trans hcap.symm
    have hctl : c.toList.length = cap * 2 := by simpa using hcsz
    have hR2l : R2.toList = yf (cs.take i ++ s :: cs.drop i) ++ c.toList.drop ((i + 1) * 2 + ((yf cs).drop (i * 2)).length) := by
     rw [hR2, hR1, hnew]
     simp only []
     exact Zho hi hvl rfl hcur (by omega)
    have hR2s : R2.size = cap * 2 := by
     rw [← Array.length_toList, hR2l]
     simp [hnl, hvl]
     omega
    refine (Zfx b cs.length cap i vb vo vc (yf cs) [.int .i64 s.c, .int .i64 s.q] w (by rw [hi0]; simp [hc]) c g2 hcsz hi hroom (by unfold maxLen at q3; omega) (by omega) hvl rfl hvb hccell hvcell (YL cs) hsv ev (cv.size - 1) (by unfold World.shape?; rw [y3]; simp; omega) R1 R2 hR1 hR2).mono ?_
    rintro e w' ⟨rfl, rfl⟩
    obtain ⟨r1, r2⟩ := WH (C := C) (S := S) (w := w) hR2l (YL _)
    have hb1 := setRow_heap w.drew b c R1 _ _ g2
    obtain ⟨t1, t2⟩ := hS.turn (l := some (b, cap * 2)) (ver' := ver + 1) (cs' := (yf (cs.take i ++ s :: cs.drop i)).map .sc) hid (by omega) (fun h => absurd h (by omega)) (w' := (w.drew.setRow b R1).setRow b R2)
     (by
      rw [g1]
      refine ⟨⟨rfl, rfl, rfl, by simp [World.setRow], fun j hj hne => ?_⟩, Nat.le_succ _⟩
      have hjb : j ≠ b := fun e => hne (by rw [e]; rfl)
      rw [setRow_other _ _ _ _ hjb, setRow_other _ _ _ _ hjb]; rfl)
     (.inr ⟨b, cap * 2, R2, rfl, .inr (by rw [g1]; rfl), setRow_heap _ _ _ _ _ _ hb1, hR2s, by rw [List.length_map, hnl]; omega, r1, r2⟩)
    exact ⟨_, _, _, _, rfl, ⟨rfl, rfl⟩, newsl _ b cap hroom q3, t1, t2⟩
   ·obtain ⟨G, hG⟩ : ∃ G, G = grownCap w (cs.length + 1) cap 35 := ⟨_, rfl⟩
    have hGn : cs.length + 1 ≤ G := by rw [hG]; exact grownCap_ge w _ _ _
    have hGm : G ≤ maxLen := by rw [hG]; exact grownCap_le_maxLen w _ _ _ (by unfold maxLen; omega)
    obtain ⟨ROW, hROW⟩ : ∃ ROW : Array Value, ROW = ((yf cs).take (i * 2)).toArray ++ Builtin.zeroCells (Value.agg #[.int .i64 0, .int .i64 0]).cells (cs.length + 1 - i) ++ Builtin.zeroCells (Value.agg #[.int .i64 0, .int .i64 0]).cells (G - (cs.length + 1)) := ⟨_, rfl⟩
    obtain ⟨R1, hR1⟩ : ∃ R1 : Array Value, R1 = (ROW.toList.take (i * 2) ++ ([.int .i64 s.c, .int .i64 s.q] : List Value) ++ ROW.toList.drop (i * 2 + 2)).toArray := ⟨_, rfl⟩
    obtain ⟨R2, hR2⟩ : ∃ R2 : Array Value, R2 = (R1.toList.take ((i + 1) * 2) ++ (yf cs).drop (i * 2) ++ R1.toList.drop ((i + 1) * 2 + ((yf cs).drop (i * 2)).length)).toArray := ⟨_, rfl⟩
    have htl : ((yf cs).take (i * 2)).length = i * 2 := by simp; omega
    have hROWs : ROW.size = G * 2 := by
     rw [hROW]
     simp only [Array.size_append, size_zeroCells, List.size_toArray, htl]
     simp [Value.cells]
     omega
    have hROWt : ROW.toList.take (i * 2) = (yf cs).take (i * 2) := by
     rw [hROW]
     simp only [Array.toList_append]
     rw [List.append_assoc]
     exact List.take_left' htl
    have hR1s : R1.size = G * 2 := by rw [hR1]; simp; omega
    have hR2l : R2.toList = yf (cs.take i ++ s :: cs.drop i) ++ R1.toList.drop ((i + 1) * 2 + ((yf cs).drop (i * 2)).length) := by
     rw [hR2, hR1, hnew]
     simp only []
     exact Zhp hi hvl rfl hROWt
    have hR2s : R2.size = G * 2 := by
     rw [← Array.length_toList, hR2l]
     simp [hnl, hvl, hR1s]
     omega
    refine (Zfw b cs.length cap i vb vo vc (yf cs) [.int .i64 s.c, .int .i64 s.q] w i0 _ hi0 hz (by omega) hb rfl hi q1 (by omega) (by omega) hvl rfl hccell hvcell (YL cs) hsv G hG ROW hROW R1 R2 hR1 hR2).mono ?_
    rintro e w' ⟨rfl, rfl⟩
    obtain ⟨r1, r2⟩ := WH (C := C) (S := S) (w := w) hR2l (YL _)
    have hb0 := u6 w.drew (.cells ROW 35)
    have hb1 := setRow_heap (w.drew.alloc (.cells ROW 35)) w.heap.size ROW R1 _ _ hb0
    obtain ⟨t1, t2⟩ := hS.turn (l := some (w.heap.size, G * 2)) (ver' := ver + 1) (cs' := (yf (cs.take i ++ s :: cs.drop i)).map .sc) hid (by omega) (fun h => absurd h (by omega)) (w' := ((w.drew.alloc (.cells ROW 35)).setRow w.heap.size R1).drew.setRow w.heap.size R2)
     ⟨⟨rfl, rfl, rfl, by simp [World.setRow], fun j hj _ => by
      rw [setRow_other _ _ _ _ (by omega)]
      show ((w.drew.alloc (.cells ROW 35)).setRow w.heap.size R1).heap[j]? = _
      rw [setRow_other _ _ _ _ (by omega)]
      exact vw w.drew _ j hj⟩, Nat.le_succ_of_le (Nat.le_succ _)⟩
     (.inr ⟨w.heap.size, G * 2, R2, rfl, .inl (Nat.le_refl _), setRow_heap _ _ _ _ _ _ hb1, hR2s, by rw [List.length_map, hnl]; omega, r1, r2⟩)
    exact ⟨_, _, _, _, rfl, ⟨rfl, rfl⟩, newsl _ w.heap.size G hGn hGm, t1, t2⟩
open Go
def zK (t : List Stop) : Int := (t.map (·.q)).sum
theorem J8 (t : List Stop) (s : Stop) : zK (t ++ [s]) = zK t + s.q := by simp [zK]
theorem Zhr (t : List Stop) (ht : t.length ≤ 1048576) : Pure Tryz.prog 96 [.agg [L t]] (L (t.map (·.c))) := by
 refine zx Tryz.func96 Tryz.ntmps96 Tryz.results96 fun S nx hd => ?_
 refine za (zb ?_)
 intro v0
 refine za (zb ?_)
 refine za (qZ 3 3 1 rfl fun v1 => ?_)
 refine za (zb ?_)
 refine zj (zG (fun s : Nat × List Int × Nat × Nat => s.1 ≤ t.length ∧ s.2.1 = (t.take s.1).map (·.c)) (fun (k, out, v, v2) => [(1, .ptr nx v 0), (3, .sl (nx + 1) v2 1 0 out.length), (4, I k)]) (fun (k, out, v, v2) => [.cells v 72 [L t], .cells v2 3 (out.flatMap Enc.enc)]) (fun s => t.length - s.1) (0, [], v0, v1) [] (by simp) (by simp) (by simp) ?_)
 rintro ⟨k, out, v1, v2⟩ ⟨hk, ho⟩
 simp only at hk ho ⊢
 repeat apply za
 refine zb ?_
 refine zr rfl (fun hc => ?_) (fun hc => ?_)
 ·simp at hc
  obtain ⟨s, tl, a1, a2, a3, e1, e0⟩ := el 2 rfl t k hc
  refine zh (za (zj (ze [] (zm hc e0) ?_)))
  have hl : out.length = k := by rw [ho]; simp; omega
  refine ⟨by omega, ?_⟩
  refine zb ?_
  exact zp (k + 1, out ++ [s.c], v1, v2 + 1) [] (by simp [a3, ho]; omega) (by simp; omega) (by simp [zt k (by omega)]) rfl (by simp)
 ·simp at hc
  have hk' : k = t.length := by omega
  subst hk'
  refine zy (za (zb ?_))
  refine yc 1 rfl ?_
  exact zg (zk hd rfl (by simp [ho]))
theorem J9 (l : List Int) (c : Int) (h : l.Nodup) (hc : c ∉ l) : (l ++ [c]).Nodup := by
 rw [List.nodup_append]; exact ⟨h, by simp, fun a ha b hb e => by simp at hb; subst hb; subst e; exact hc ha⟩
theorem ZbI {l : List Int} {i k : Nat} {c : Int} (hi : l[i]? = some c) (hk : l[k]? = some c) (h : k < i) : ¬ l.Nodup := by
 intro hn
 have := (List.getElem?_inj (List.getElem?_eq_some_iff.1 hi).1 hn).1 (hi.trans hk.symm)
 omega
open Go
theorem QG (t : List Stop) (ht : t.length ≤ 1048576) (S : Store) (nx : Nat) (hd : zW nx S) : Spec Tryz.prog 143 [.agg [L t]] S (fun p S' => ∃ v, p = .sl (nx + 1) v 1 0 t.length ∧ S' = S.set (nx + 1) (.cells v 3 ((t.map (·.c)).flatMap Enc.enc))) := by
 refine ui hd Tryz.func143 Tryz.ntmps143 Tryz.results143 ?_
 refine za (zb ?_)
 intro v0
 refine za (zb ?_)
 refine za (qZ 3 3 1 rfl fun v1 => ?_)
 refine za (zb ?_)
 refine zj (zG (fun s : Nat × List Int × Nat × Nat => s.1 ≤ t.length ∧ s.2.1 = (t.take s.1).map (·.c)) (fun (k, out, v, v2) => [(3, .sl (nx + 1) v2 1 0 out.length), (7, L t), (8, I t.length), (9, I k)]) (fun (k, out, v, v2) => [.cells v 72 [L t], .cells v2 3 (out.flatMap Enc.enc)]) (fun s => t.length - s.1) (0, [], v0, v1) [] (by simp) (by simp) (by simp) ?_)
 rintro ⟨k, out, v1, v2⟩ ⟨hk, ho⟩
 simp only at hk ho ⊢
 refine za (zb ?_)
 refine za (zr rfl (fun hc => ?_) (fun hc => ?_))
 ·simp at hc
  obtain ⟨s, tl, a1, a2, a3, e1, e0⟩ := el 2 rfl t k hc
  refine zh (za (zj (za (ze [] (zm hc e0) ?_))))
  intros
  have hl : out.length = k := by rw [ho]; simp; omega
  refine zb ?_
  refine ⟨by omega, ?_⟩
  refine zb ?_
  exact zp (k + 1, out ++ [s.c], v1, v2 + 1) [_] (by simp [a3, ho]; omega) (by simp; omega) (by simp [zt k (by omega)]) rfl (by simp; rfl)
 ·simp at hc
  have hk' : k = t.length := by omega
  subst hk'
  refine zy (za (zb ?_))
  refine zg ⟨_, _, rfl, ⟨v2, by simp [ho], rfl⟩, YC hd (by simp [ho])⟩
theorem Zhs (t : List Stop) (ht : t.length ≤ 1048576) : Pure Tryz.prog 143 [.agg [L t]] (L (t.map (·.c))) := by
 have := JU 1 (fun S nx hd => QG t ht S nx hd) (by simp)
 rw [← List.length_map (f := (·.c))] at this
 exact this
theorem ZbJ (t : List Stop) (ht : t.length ≤ 1048576) : Pure Tryz.prog 137 [.agg [L t]] (I (W (zK t))) := by
 refine zx Tryz.func137 Tryz.ntmps137 Tryz.results137 fun S nx hd => ?_
 refine za (zb ?_)
 intro v0
 refine za (zb ?_)
 repeat apply za
 refine zb ?_
 refine zj (zG (fun s : Nat × Nat => s.1 ≤ t.length) (fun (k, v) => [(3, I (W (zK (t.take k)))), (7, L t), (8, I t.length), (9, I k)]) (fun (k, v) => [.cells v 72 [L t]]) (fun s => t.length - s.1) (0, v0) [] (by simp) (by simp [zK]) (by simp) ?_)
 rintro ⟨k, v1⟩ hk
 simp only at hk ⊢
 refine za (zb ?_)
 refine za (zr rfl (fun hc => ?_) (fun hc => ?_))
 ·simp at hc
  obtain ⟨s, tl, a1, a2, a3, e1, e0⟩ := el 2 rfl t k hc
  refine zh (za (zj (za (ze [] (zm hc e0) ?_))))
  intros
  refine zb ?_
  refine zb ?_
  exact zp (k + 1, v1) [_] hc (by simp; omega) (by simp [zt k (by omega), a3, J8, xE]) rfl (by simp; rfl)
 ·simp at hc
  have hk' : k = t.length := by omega
  subst hk'
  refine zy (za (zb ?_))
  exact zg (zk hd rfl (by simp))
theorem QH (x : Inst) (t : List Stop) (ht : t.length ≤ 1048576) (hs : ∀ s ∈ t, small s.c) : Pure Tryz.prog 103 [.agg (zA x), .agg [L t]] (I (W (zX x (t.map (·.c))))) := by
 refine zx Tryz.func103 Tryz.ntmps103 Tryz.results103 fun S nx hd => ?_
 refine za (zb ?_)
 intros
 refine za (zC none (Row.pures [0, 1, 2, 3, 4] .done) mixed trivial ?_)
 refine zI (Zhs _ ht) trivial ?_
 refine zI (ZbB _ _ (by simpa using ht) (by simpa using hs)) trivial ?_
 exact zg (zk hd rfl rfl)
def zM (x : Inst) (d : zi) : Int := (d.map fun t => zX x (t.map (·.c))).sum
theorem ZbK (x : Inst) (d : zi) (t : zD) : zM x (d ++ [t]) = zM x d + zX x (t.map (·.c)) := by simp [zM]
structure DayOk (d : zi) : Prop where
 n : d.length ≤ 1048576
 t : ∀ t ∈ d, t.length ≤ 1048576
 s : ∀ t ∈ d, ∀ s ∈ t, small s.c
theorem YM (x : Inst) (d : zi) (hd' : DayOk d) : Pure Tryz.prog 58 [.agg (zA x), .agg [L d]] (I (W (zM x d))) := by
 have hn := hd'.n
 refine zx Tryz.func58 Tryz.ntmps58 Tryz.results58 fun S nx hd => ?_
 refine za (zb ?_)
 intro v0 v1
 refine za (zb ?_)
 repeat apply za
 refine zb ?_
 refine zj (zG (fun s : Nat × Nat × Nat => s.1 ≤ d.length) (fun (k, v, v') => [(2, .ptr nx v 0), (5, I (W (zM x (d.take k)))), (9, L d), (10, I d.length), (11, I k)]) (fun (k, v, v') => [.cells v 25 (zA x), .cells v' 58 [L d]]) (fun s => d.length - s.1) (0, v0, v1) [] (by simp) (by simp [zM]) (by simp) ?_)
 rintro ⟨k, v1, v2⟩ hk
 simp only at hk ⊢
 refine za (zb ?_)
 refine za (zr rfl (fun hc => ?_) (fun hc => ?_))
 ·simp at hc
  obtain ⟨t, tl, a1, a2, a3, e0⟩ := zE rfl d k hc
  have htd := List.mem_of_getElem? a1
  refine zh (za (zj (za (ze [] (zm hc e0) ?_))))
  intros
  refine zb ?_
  refine zz (QH _ _ (hd'.t t htd) (hd'.s t htd)) ?_
  refine zb ?_
  exact zp (k + 1, v1, v2) [_] hc (by simp; omega) (by simp [zt k (by omega), a3, ZbK, xE, QA]) rfl (by simp; rfl)
 ·simp at hc
  have hk' : k = d.length := by omega
  subst hk'
  refine zy (za (zb ?_))
  exact zg (zk hd rfl (by simp))
theorem ZbL (d : zi) (hn : d.length ≤ 1048576) (hf : d.flatten.length ≤ 1048576) : Pure Tryz.prog 134 [.agg [L d]] (L d.flatten) := by
 refine zx Tryz.func134 Tryz.ntmps134 Tryz.results134 fun S nx hd => ?_
 refine za (zb ?_)
 intro v0
 refine za (zb ?_)
 refine za (qZ 3 35 2 rfl fun v1 => ?_)
 refine za (zb ?_)
 refine zj (zG (fun s : Nat × List Stop × Nat × Nat => s.1 ≤ d.length ∧ s.2.1 = (d.take s.1).flatten) (fun (k, out, v, v2) => [(3, .sl (nx + 1) v2 2 0 out.length), (7, L d), (8, I d.length), (9, I k)]) (fun (k, out, v, v2) => [.cells v 58 [L d], .cells v2 35 (out.flatMap Enc.enc)]) (fun s => d.length - s.1) (0, [], v0, v1) [] (by simp) (by simp) (by simp) ?_)
 rintro ⟨k, out, v1, v2⟩ ⟨hk, ho⟩
 simp only at hk ho ⊢
 refine za (zb ?_)
 refine za (zr rfl (fun hc => ?_) (fun hc => ?_))
 ·simp at hc
  obtain ⟨t, tl, a1, a2, a3, e0⟩ := zE rfl d k hc
  refine zh (za (zj (za (ze [] (zm hc e0) ?_))))
  intros
  have hl : out.length + t.length ≤ 1048576 := by
   have : (out ++ t).length ≤ d.flatten.length := by
    have e : d.flatten = (d.take (k + 1)).flatten ++ (d.drop (k + 1)).flatten := by rw [← List.flatten_append, List.take_append_drop]
    rw [e, a3]; simp [ho]
   simp only [List.length_append] at this; omega
  refine zb ?_
  refine ⟨by omega, ?_⟩
  refine zb ?_
  exact zp (k + 1, out ++ t, v1, v2 + 1) [_] (by simp [a3, ho]; omega) (by simp; omega) (by simp [zt k (by omega)]) rfl (by simp; rfl)
 ·simp at hc
  have hk' : k = d.length := by omega
  subst hk'
  refine zy (za (zb ?_))
  refine yc 1 rfl ?_
  exact zg (zk hd rfl (by simp [ho]))
open Go
def q9 (x : Inst) (s : Stop) : Bool := decide (0 ≤ s.c ∧ s.c < x.cust.length ∧ 1 ≤ s.q ∧ s.q ≤ 2147483648)
def qn (x : Inst) (t : zD) : Bool := t.all (q9 x) && !t.isEmpty
def zJ (x : Inst) (t : zD) : Int :=
 if qn x t = false then 1 else if ¬ (t.map (·.c)).Nodup then 11 else if x.cap < W (zK t) then 12 else if x.len < W (zX x (t.map (·.c))) then 13 else 0
theorem Zht {x : Inst} {t : zD} {k : Nat} {s : Stop} (h : (t.take k).all (q9 x) = true) (ht : t.take (k + 1) = t.take k ++ [s]) (hs : 0 ≤ s.c ∧ s.c < x.cust.length ∧ 1 ≤ s.q ∧ s.q ≤ 2147483648) : (t.take (k + 1)).all (q9 x) = true := by
 rw [ht, List.all_append, h]; simp [q9]; omega
theorem Zhu {x : Inst} {t : zD} (hx : x.cust.length ≤ 1048576) (h : t.all (q9 x) = true) : ∀ s ∈ t, small s.c := by
 intro s hs
 have := List.all_eq_true.1 h s hs
 simp [q9] at this
 unfold small; omega
open Go
theorem QI (l : List Int) : (yM l).Pairwise (· ≤ ·) := by
 have := List.pairwise_mergeSort (le := fun x y : Int => decide (x ≤ y)) (fun a b c h1 h2 => by simp at *; omega) (fun a b => by simp; omega) l
 simpa using this
theorem ZbM (l : List Int) : (yM l).Perm l := List.mergeSort_perm l _
theorem WI (l : List Int) : (yM l).Nodup ↔ l.Nodup := (ZbM l).nodup_iff
theorem ZbN {z : List Int} {j : Nat} {p c : Int} (hz : z.Pairwise (· ≤ ·)) (hn : (z.take (j + 1)).Nodup) (h1 : z.take (j + 1) = z.take j ++ [p]) (h2 : z.take (j + 1 + 1) = z.take (j + 1) ++ [c]) (hpc : p ≠ c) : (z.take (j + 1 + 1)).Nodup := by
 rw [h2]
 refine J9 _ _ hn fun hc => ?_
 have hs : (z.take (j + 1 + 1)).Pairwise (· ≤ ·) := hz.sublist (List.take_sublist _ _)
 rw [h2, h1, List.append_assoc, List.pairwise_append] at hs
 rw [h1, List.mem_append] at hc
 rcases hc with hc | hc
 ·have a1 := hs.2.2 c hc p (by simp)
  have a2 := (List.pairwise_cons.1 hs.2.1).1 c (by simp)
  omega
 ·simp at hc; exact hpc hc.symm
theorem ZbO {S : Store} {id ver : Nat} (zs : List Int) (hid : S id = .cells ver 3 (zs.flatMap Enc.enc)) (hn : zs.length ≤ 1048576) :
  Spec Tryz.prog 202 [.sl id ver 1 0 zs.length] S (fun p S' => p = B (decide zs.Nodup) ∧ S' = S.set id .dead) := by
 refine yU Tryz.func202 Tryz.ntmps202 Tryz.results202 fun nx hd => ?_
 have hlt : id < nx := by
  rcases Nat.lt_or_ge id nx with h | h
  ·exact h
  ·rw [hd id h] at hid; cases hid
 refine za (zb ?_)
 refine za (zV [] (by rfl) (by rfl) fun K Gc Gh hK hGc hGh X hX0 hX => ?_)
 simp -implicitDefEqProofs [hX0, hX]
 try clear hX0 hX X
 refine hGc _ _ _ _ _ _ _ fun hsuf => ((J6 zs (by rw [zH hlt]; exact hid) hn).mono ?_).v
 rintro p _ rfl
 refine ⟨S.set id (.cells ver 3 ((yM zs).flatMap Enc.enc)), [], jZ _ hlt, ?_⟩
 clear hGc hGh
 clear Gc Gh
 refine zR hsuf (D := []) (by rfl) fun Gc Gh hGc hGh X hX0 hX => ?_
 simp -implicitDefEqProofs [hX0, hX]
 clear hX0 hX X
 refine hK _ _ _ ?_
 clear hK hGc hGh
 clear K Gc Gh
 generalize hz : yM zs = z
 have hzl : zs.length = z.length := by rw [← hz, Zg]
 have hzs : z.Pairwise (· ≤ ·) := by rw [← hz]; exact QI zs
 have hfin : ∀ o, S.set id .dead o = ext (S.set id (.cells ver 3 (z.flatMap Enc.enc))) nx [] o ∨ S.set id .dead o = .dead := by
  intro o
  by_cases ho : o = id
  ·subst ho; exact .inr (Store.set_same _ _ _)
  ·rw [Store.set_other _ _ _ _ ho]
   by_cases h2 : o < nx
   ·rw [zH h2, Store.set_other _ _ _ _ ho]; exact .inl rfl
   ·exact .inr (hd o (by omega))
 have hS1 : (S.set id (.cells ver 3 (z.flatMap Enc.enc))) id = .cells ver 3 (z.flatMap Enc.enc) := Store.set_same _ _ _
 have hres : decide zs.Nodup = decide z.Nodup := by rw [← hz, decide_eq_decide, WI]
 rw [hres]
 have hzn : z.length ≤ 1048576 := by omega
 rw [hzl]
 generalize S.set id (.cells ver 3 (z.flatMap Enc.enc)) = S1 at *
 have hx1 := zH (S := S1) (obs := []) hlt
 repeat apply za
 refine zb ?_
 refine zj (zG (fun j : Nat => (j = 0 ∨ j + 1 ≤ z.length) ∧ (z.take (j + 1)).Nodup) (fun j => [(0, .sl id ver 1 0 z.length), (3, I ((j + 1 : Nat) : Int))]) (fun _ => []) (fun j => z.length - j) 0 [] (by cases z <;> simp) (by simp) (by simp) ?_)
 rintro j ⟨hj, hjn⟩
 repeat apply za
 refine zb ?_
 refine zr rfl (fun hc => ?_) (fun hc => ?_)
 ·simp at hc
  have hc' : j + 1 < z.length := by omega
  obtain ⟨c, tl1, b1, b2, b3, e1⟩ := zE rfl z (j + 1) hc'
  obtain ⟨p, tl2, d1, d2, d3, e2⟩ := zE rfl z j (by omega)
  have wj : IntKind.i64.wrap (j : Int) = j := wr _ (by omega) (by omega)
  have g1 : (j : Int) < z.length := by omega
  have g2 : (j : Int) + 1 < z.length := by omega
  have g3 : 0 ≤ (j : Int) + 1 := by omega
  refine zh (za (zj (za (zC none (Row.pures [0, 1, 2, 3, 4, 5, 6, 7, 8, 9] .done) mixed (yh hx1 hS1 wj e1 e2 (zF g1 g2 g3)) ?_))))
  refine zr rfl (fun hq => ?_) (fun hq => ?_)
  ·simp at hq
   refine za (zb ?_)
   exact zg ⟨_, _, rfl, ⟨by simp; exact ZbI b1 (by rw [d1, hq]) (by omega), rfl⟩, hfin⟩
  ·simp at hq
   refine zh (zb ?_)
   have w2 : IntKind.i64.wrap ((j : Int) + 1 + 1) = ((j + 1 + 1 : Nat) : Int) := by rw [wr _ (by omega) (by omega)]; omega
   exact zp (j + 1) [] ⟨by omega, ZbN hzs hjn d3 b3 (fun e => hq e.symm)⟩ (by omega) (by simp [w2]) rfl (by simp)
 ·simp at hc
  refine zy (za (zb ?_))
  rw [List.take_of_length_le (by omega)] at hjn
  exact zg ⟨_, _, rfl, ⟨by simp [hjn], rfl⟩, hfin⟩
open Go
abbrev QJ (x : Inst) (t : zD) : List PV := [I x.days, I x.veh, I x.cap, I x.len, L x.cust, L x.dist, L t]
theorem Zhv (x : Inst) (t : zD) (ht : t.length ≤ 1048576) : Pure Tryz.prog 220 [.agg (QJ x t)] (B (qn x t)) := by
 have bad : ∀ {k : Nat} {s : Stop}, t[k]? = some s → ¬ (0 ≤ s.c ∧ s.c < x.cust.length ∧ 1 ≤ s.q ∧ s.q ≤ 2147483648) → qn x t = false := by
  intro k s h hb
  unfold qn
  have : t.all (q9 x) = false := by
   rw [List.all_eq_false]; exact ⟨s, List.mem_of_getElem? h, by simp [q9]; omega⟩
  rw [this]; rfl
 refine zx Tryz.func220 Tryz.ntmps220 Tryz.results220 fun S nx hd => ?_
 refine za (zb ?_)
 intro v0
 repeat apply za
 refine zb ?_
 refine zj (zG (fun s : Nat × Nat => s.1 ≤ t.length ∧ (t.take s.1).all (q9 x) = true) (fun (k, v) => [(1, .ptr nx v 0), (7, L t), (8, I t.length), (9, I k)]) (fun (k, v) => [.cells v 233 (QJ x t)]) (fun s => t.length - s.1) (0, v0) [] (by simp) (by simp) (by simp) ?_)
 rintro ⟨k, v0⟩ ⟨hk, ha⟩
 simp only at hk ha ⊢
 refine za (zb ?_)
 refine za (zr rfl (fun hc => ?_) (fun hc => ?_))
 ·simp at hc
  obtain ⟨s, tl, a1, a2, a3, e1, e0⟩ := el 2 rfl t k hc
  refine zh (za (zj (za (ze [] (zm hc e0) ?_))))
  intros
  by_cases h1 : s.c < 0
  ·repeat apply za
   refine ze [(3, 16)] (zm h1 zL) ?_
   refine zo rfl (za (zb ?_))
   exact zg (zk hd rfl (by rw [bad a1 (by omega)]; rfl))
  by_cases h2 : (x.cust.length : Int) ≤ s.c
  ·repeat apply za
   refine ze [(3, 16)] (zF h2 h1 zL) ?_
   refine zo rfl (za (zb ?_))
   exact zg (zk hd rfl (by rw [bad a1 (by omega)]; rfl))
  repeat apply za
  refine ze [(3, 16)] (zm h1 h2) ?_
  refine zn rfl (zh ?_)
  by_cases h3 : s.q < 1
  ·refine za (ze [(3, 28)] (zm h3 zL) ?_)
   refine zo rfl (za (zb ?_))
   exact zg (zk hd rfl (by rw [bad a1 (by omega)]; rfl))
  by_cases h4 : 2147483648 < s.q
  ·refine za (ze [(3, 28)] (zF h4 h3 zL) ?_)
   refine zo rfl (za (zb ?_))
   exact zg (zk hd rfl (by rw [bad a1 (by omega)]; rfl))
  refine za (ze [(3, 28)] (zm h3 h4) ?_)
  refine zn rfl (zh (zb ?_))
  exact zp (k + 1, v0) [_] ⟨hc, Zht ha a3 (by omega)⟩ (by simp; omega) (by simp [zt k (by omega)]) rfl (by simp; rfl)
 ·simp at hc
  have hk' : k = t.length := by omega
  subst hk'
  rw [List.take_length] at ha
  refine zy (za (zb ?_))
  exact zg (zk hd rfl (by cases t with | nil => rfl | cons a t => simp [qn, ha]))
theorem Zhw (x : Inst) (t : zD) (ht : t.length ≤ 1048576) : Pure Tryz.prog 221 [.agg (QJ x t)] (B (decide (t.map (·.c)).Nodup)) := by
 refine zx Tryz.func221 Tryz.ntmps221 Tryz.results221 fun S nx hd => ?_
 refine za (zb ?_)
 intro v0
 refine za (zV [] (by rfl) (by rfl) fun K Gc Gh hK hGc hGh X hX0 hX => ?_)
 simp -implicitDefEqProofs [hX0, hX]
 try clear hX0 hX X
 refine hGc _ _ _ _ _ _ _ fun hsuf => ((QG t ht _ _ jO).mono ?_).v
 rintro _ _ ⟨v1, rfl, rfl⟩
 refine ⟨_, _, YD _, ?_⟩
 clear hGc hGh
 clear Gc Gh
 refine zR hsuf (D := []) (by rfl) fun Gc Gh hGc hGh X hX0 hX => ?_
 simp -implicitDefEqProofs [hX0, hX, Nat.add_assoc]
 clear hX0 hX X
 rw [← List.length_map (f := fun s : Stop => s.c)]
 refine hGc _ _ _ _ _ _ _ fun hsuf => ((ZbO _ (by simp) (by simpa using ht)).mono ?_).v
 rintro _ _ ⟨rfl, rfl⟩
 refine ⟨_, _, y9 _ (by simp) (by simp), ?_⟩
 clear hGc hGh
 clear Gc Gh
 refine zR hsuf (D := []) (by rfl) fun Gc Gh hGc hGh X hX0 hX => ?_
 simp -implicitDefEqProofs [hX0, hX]
 clear hX0 hX X
 refine hK _ _ _ ?_
 clear hK hGc hGh
 clear K Gc Gh
 exact zg (zk hd rfl rfl)
theorem Zhx (x : Inst) (t : zD) (ht : t.length ≤ 1048576) : Pure Tryz.prog 222 [.agg (QJ x t)] (B (decide (W (zK t) ≤ x.cap))) := by
 refine zx Tryz.func222 Tryz.ntmps222 Tryz.results222 fun S nx hd => ?_
 refine za (zb ?_)
 intro v0
 refine za (zC none (Row.pures [0, 1, 2, 3, 4, 5, 6, 7] .done) mixed trivial ?_)
 refine zI (ZbJ _ ht) trivial ?_
 exact zg (zk hd rfl rfl)
theorem Zhy (x : Inst) (t : zD) (ht : t.length ≤ 1048576) (hs : ∀ s ∈ t, small s.c) : Pure Tryz.prog 223 [.agg (QJ x t)] (B (decide (W (zX x (t.map (·.c))) ≤ x.len))) := by
 refine zx Tryz.func223 Tryz.ntmps223 Tryz.results223 fun S nx hd => ?_
 refine za (zb ?_)
 intro v0
 refine za (zC none (Row.pures [0, 1, 2, 3, 4, 5, 6, 7, 8, 9] .done) mixed trivial ?_)
 refine zI (QH _ _ ht hs) trivial ?_
 exact zg (zk hd rfl rfl)
abbrev ZbP : List PV := [.fn (.func 220) [] [], I 1, .fn (.func 221) [] [], I 11, .fn (.func 222) [] [], I 12, .fn (.func 223) [] [], I 13]
theorem Zhz : Pure Tryz.prog 176 [] (.lst 4 ZbP) := by
 refine zx Tryz.func176 Tryz.ntmps176 Tryz.results176 fun S nx hd => ?_
 refine za (zb ?_)
 refine za (zb ?_)
 exact zg (zk hd rfl rfl)
theorem QK (x : Inst) (t : zD) (hx : x.cust.length ≤ 1048576) (ht : t.length ≤ 1048576) : Pure Tryz.prog 136 [.agg (zA x), .agg [L t]] (I (zJ x t)) := by
 refine zx Tryz.func136 Tryz.ntmps136 Tryz.results136 fun S nx hd => ?_
 refine za (zb ?_)
 intro v0 v1
 repeat apply za
 refine zb ?_
 refine zz Zhz ?_
 refine zj (zG (fun s : Nat × Nat × Nat => s.1 ≤ 4 ∧ (1 ≤ s.1 → qn x t = true) ∧ (2 ≤ s.1 → (t.map (·.c)).Nodup) ∧ (3 ≤ s.1 → W (zK t) ≤ x.cap) ∧ (4 ≤ s.1 → W (zX x (t.map (·.c))) ≤ x.len)) (fun (k, v, v') => [(2, .ptr nx v 0), (3, .ptr (nx + 1) v' 0), (7, .lst 4 ZbP), (8, I 4), (9, I k)]) (fun (k, v, v') => [.cells v 25 (zA x), .cells v' 72 [L t]]) (fun s => 4 - s.1) (0, v0, v1) [] (by simp) (by simp) (by simp) ?_)
 rintro ⟨k, v0, v1⟩ ⟨hk, i1, i2, i3, i4⟩
 simp only at hk i1 i2 i3 i4 ⊢
 have hsm : 1 ≤ k → ∀ s ∈ t, small s.c := fun h => Zhu hx (by have := i1 h; unfold qn at this; simp only [Bool.and_eq_true] at this; exact this.1)
 match k, hk with
 | 0, _ =>
  refine za (zb ?_)
  refine za (zo rfl (zh (za (zj (za (zb ?_))))))
  intros
  refine za (zb ?_)
  refine zz (Zhv x t ht) ?_
  refine zr rfl (fun h1 => ?_) (fun h1 => ?_)
  ·simp at h1
   refine za (zb ?_)
   exact zg (zk hd rfl (by simp [zJ, h1]))
  ·simp at h1
   refine zh (zb ?_)
   exact zp (1, v0, v1) [_] (by simp [h1]) (by simp) (by simp; rfl) rfl (by simp; rfl)
 | 1, _ =>
  refine za (zb ?_)
  refine za (zo rfl (zh (za (zj (za (zb ?_))))))
  intros
  refine za (zb ?_)
  refine zz (Zhw x t ht) ?_
  refine zr rfl (fun h1 => ?_) (fun h1 => ?_)
  ·simp at h1
   refine za (zb ?_)
   exact zg (zk hd rfl (by simp [zJ, h1, i1 (by omega)]))
  ·simp at h1
   refine zh (zb ?_)
   exact zp (2, v0, v1) [_] (by simp [h1, i1 (by omega)]) (by simp) (by simp; rfl) rfl (by simp; rfl)
 | 2, _ =>
  refine za (zb ?_)
  refine za (zo rfl (zh (za (zj (za (zb ?_))))))
  intros
  refine za (zb ?_)
  refine zz (Zhx x t ht) ?_
  refine zr rfl (fun h1 => ?_) (fun h1 => ?_)
  ·simp at h1
   refine za (zb ?_)
   exact zg (zk hd rfl (by simp [zJ, h1, i1 (by omega), i2 (by omega)]))
  ·simp at h1
   refine zh (zb ?_)
   exact zp (3, v0, v1) [_] (by simp [h1, i1 (by omega), i2 (by omega)]) (by simp) (by simp; rfl) rfl (by simp; rfl)
 | 3, _ =>
  refine za (zb ?_)
  refine za (zo rfl (zh (za (zj (za (zb ?_))))))
  intros
  refine za (zb ?_)
  refine zz (Zhy x t ht (hsm (by omega))) ?_
  have h3 := Int.not_lt.2 (i3 (by omega))
  refine zr rfl (fun h1 => ?_) (fun h1 => ?_)
  ·simp at h1
   refine za (zb ?_)
   exact zg (zk hd rfl (by simp [zJ, h1, i1 (by omega), i2 (by omega), h3]))
  ·simp at h1
   refine zh (zb ?_)
   exact zp (4, v0, v1) [_] (by simp [h1, i1 (by omega), i2 (by omega), i3 (by omega)]) (by simp) (by simp; rfl) rfl (by simp; rfl)
 | 4, _ =>
  refine za (zb ?_)
  refine za (zn rfl (zy (za (zb ?_))))
  exact zg (zk hd rfl (by simp [zJ, i1 (by omega), i2 (by omega), Int.not_lt.2 (i3 (by omega)), Int.not_lt.2 (i4 (by omega))]))
open Go
def yq (x : Inst) (d : zi) : Int :=
 match d.find? (fun t => zJ x t != 0) with
 | some t => zJ x t
 | none => if ¬ (d.flatten.map (·.c)).Nodup then 11 else if x.veh < d.length then 14 else 0
theorem ZbQ {α : Type} {p : α → Bool} {l : List α} {k : Nat} {a : α} (h : (l.take k).find? p = none) (ht : l.take (k + 1) = l.take k ++ [a]) (ha : p a = false) : (l.take (k + 1)).find? p = none := by
 rw [ht, List.find?_append, h]; simp [ha]
theorem ZbR {α : Type} {p : α → Bool} {l : List α} {k : Nat} {a : α} (h : (l.take k).find? p = none) (hd : l.drop k = a :: l.drop (k + 1)) (ha : p a = true) : l.find? p = some a := by
 have e : l = l.take k ++ a :: l.drop (k + 1) := by rw [← hd, List.take_append_drop]
 rw [e, List.find?_append, h]; simp [ha]
theorem ZbS (x : Inst) (d : zi) (hx : x.cust.length ≤ 1048576) (hn : d.length ≤ 1048576) (ht : ∀ t ∈ d, t.length ≤ 1048576) (hf : d.flatten.length ≤ 1048576) : Pure Tryz.prog 159 [.agg (zA x), .agg [L d]] (I (yq x d)) := by
 refine zx Tryz.func159 Tryz.ntmps159 Tryz.results159 fun S nx hd => ?_
 refine za (zb ?_)
 intro v0 v1
 repeat apply za
 refine zb ?_
 refine zj (zG (fun s : Nat × Nat × Nat => s.1 ≤ d.length ∧ (d.take s.1).find? (fun t => zJ x t != 0) = none) (fun (k, v, v') => [(2, .ptr nx v 0), (3, .ptr (nx + 1) v' 0), (9, L d), (10, I d.length), (11, I k)]) (fun (k, v, v') => [.cells v 25 (zA x), .cells v' 58 [L d]]) (fun s => d.length - s.1) (0, v0, v1) [] (by simp) (by simp) (by simp) ?_)
 rintro ⟨k, v0, v1⟩ ⟨hk, ha⟩
 simp only at hk ha ⊢
 refine za (zb ?_)
 refine za (zr rfl (fun hc => ?_) (fun hc => ?_))
 ·simp at hc
  obtain ⟨t, tl, a1, a2, a3, e0⟩ := zE rfl d k hc
  refine zh (za (zj (za (ze [] (zm hc e0) ?_))))
  intros
  refine za (zb ?_)
  refine zz (QK x t hx (ht t (List.mem_of_getElem? a1))) ?_
  refine za (zb ?_)
  refine zr rfl (fun h1 => ?_) (fun h1 => ?_)
  ·simp at h1
   refine za (zb ?_)
   exact zg (zk hd rfl (by simp only [yq, ZbR ha a2 (by simpa using h1)]; simp))
  ·simp at h1
   refine zh (zb ?_)
   exact zp (k + 1, v0, v1) [_] ⟨hc, ZbQ ha a3 (by simpa using h1)⟩ (by simp; omega) (by simp [zt k (by omega)]) rfl (by simp; rfl)
 ·simp at hc
  have hk' : k = d.length := by omega
  subst hk'
  rw [List.take_length] at ha
  have hst := ZbL d hn hf
  have hres : yq x d = if ¬ (d.flatten.map (·.c)).Nodup then 11 else if x.veh < d.length then 14 else 0 := by unfold yq; rw [ha]
  generalize d.flatten = fl at *
  refine zy ?_
  repeat apply za
  refine zV [] (by rfl) (by rfl) fun K Gc Gh hK hGc hGh X hX0 hX => ?_
  simp -implicitDefEqProofs [hX0, hX]
  try clear hX0 hX X
  refine hGc _ _ _ _ _ _ _ fun hsuf => ((hst _).mono ?_).v
  rintro _ _ ⟨rfl, rfl⟩
  refine ⟨_, _, rfl, ?_⟩
  clear hGc hGh
  clear Gc Gh
  refine zR hsuf (D := []) (by rfl) fun Gc Gh hGc hGh X hX0 hX => ?_
  simp -implicitDefEqProofs [hX0, hX]
  try clear hX0 hX X
  refine hGc _ _ _ _ _ _ _ fun hsuf => ((QG fl hf _ _ jO).mono ?_).v
  rintro _ _ ⟨v2, rfl, rfl⟩
  refine ⟨_, _, YD _, ?_⟩
  clear hGc hGh
  clear Gc Gh
  refine zR hsuf (D := []) (by rfl) fun Gc Gh hGc hGh X hX0 hX => ?_
  simp -implicitDefEqProofs [hX0, hX, Nat.add_assoc]
  clear hX0 hX X
  rw [← List.length_map (f := fun s : Stop => s.c)]
  refine hGc _ _ _ _ _ _ _ fun hsuf => ((ZbO _ (by simp) (by simpa using hf)).mono ?_).v
  rintro _ _ ⟨rfl, rfl⟩
  refine ⟨_, _, y9 _ (by simp) (by simp), ?_⟩
  clear hGc hGh
  clear Gc Gh
  refine zR hsuf (D := []) (by rfl) fun Gc Gh hGc hGh X hX0 hX => ?_
  simp -implicitDefEqProofs [hX0, hX]
  clear hX0 hX X
  refine hK _ _ _ ?_
  clear hK hGc hGh
  clear K Gc Gh
  refine zr rfl (fun h2 => ?_) (fun h2 => ?_)
  ·simp at h2
   refine za (zb ?_)
   exact zg (zk hd rfl (by simp [hres, h2]))
  ·simp at h2
   refine zh ?_
   repeat apply za
   refine zb ?_
   refine zr rfl (fun h3 => ?_) (fun h3 => ?_)
   ·simp at h3
    refine za (zb ?_)
    exact zg (zk hd rfl (by simp [hres, h2, h3]))
   ·simp at h3
    refine zh (za (zb ?_))
    exact zg (zk hd rfl (by simp [hres, h2, Int.not_lt.2 h3]))
def qi (l : List Stop) : zi := l.map fun s => [s]
theorem ZhA (l : List Stop) (hl : l.length ≤ 1048576) : Pure Tryz.prog 210 [L l] (.agg [L (qi l)]) := by
 refine zx Tryz.func210 Tryz.ntmps210 Tryz.results210 fun S nx hd => ?_
 refine za (zb ?_)
 intro v0
 refine za (zb ?_)
 intro v1
 refine za (qQ 1 0 72 1 rfl rfl fun v2 => ?_)
 refine za (zb ?_)
 refine zj (zG (fun s : Nat × zi × Nat × Nat × Nat => s.1 ≤ l.length ∧ s.2.1 = qi (l.take s.1)) (fun (k, out, v, v', v2) => [(2, .ptr nx v 0), (3, .ptr (nx + 1) v' 0), (6, L l), (7, I l.length), (8, I k)]) (fun (k, out, v, v', v2) => [.cells v 58 [.sc (.slice none 0 0)], .cells v' 58 [.sl (nx + 2) v2 1 0 out.length], .cells v2 72 (out.flatMap Enc.enc)]) (fun s => l.length - s.1) (0, [], v0, v1, v2) [] (by simp [qi]) (by simp) (by simp) ?_)
 rintro ⟨k, out, v0, v1, v2⟩ ⟨hk, ho⟩
 simp only at hk ho ⊢
 refine za (zb ?_)
 refine za (zr rfl (fun hc => ?_) (fun hc => ?_))
 ·simp at hc
  obtain ⟨s, tl, a1, a2, a3, e1, e0⟩ := el 2 rfl l k hc
  refine zh (za (zj (za (ze [] (zm hc e0) ?_))))
  intros
  have hol : out.length = k := by rw [ho]; simp [qi]; omega
  refine zb ?_
  refine ⟨by omega, ?_⟩
  refine zb ?_
  exact zp (k + 1, out ++ [[s]], v0, v1, v2 + 1) [_] (by simp [a3, ho, qi]; omega) (by simp; omega) (by simp [zt k (by omega)]) rfl (by simp; rfl)
 ·simp at hc
  have hk' : k = l.length := by omega
  subst hk'
  refine zy (za (zb ?_))
  refine yc 2 rfl ?_
  exact zg (zk hd (by simp; rfl) (by simp [ho]))
open Go
theorem WJ (s : Stop) : Pure Tryz.prog 101 [.agg [I s.c, I s.q]] (.agg [L [s]]) := by
 refine zx Tryz.func101 Tryz.ntmps101 Tryz.results101 fun S nx hd => ?_
 refine za (zb ?_)
 intro v0 v1
 refine za (zb ?_)
 exact zg (zk hd (by simp; rfl) rfl)
theorem ZbT (l : List Int) (hl : l.length ≤ 1048576) (hs : l.Pairwise (· ≤ ·)) : Pure Tryz.prog 135 [L l] (B (decide (¬ l.Nodup))) := by
 refine zx Tryz.func135 Tryz.ntmps135 Tryz.results135 fun S nx hd => ?_
 refine za (zb ?_)
 repeat apply za
 refine zb ?_
 refine zj (zG (fun j : Nat => (j = 0 ∨ j + 1 ≤ l.length) ∧ (l.take (j + 1)).Nodup) (fun j => [(0, L l), (3, I ((j + 1 : Nat) : Int))]) (fun _ => []) (fun j => l.length - j) 0 [] (by cases l <;> simp) (by simp) (by simp) ?_)
 rintro j ⟨hj, hjn⟩
 repeat apply za
 refine zb ?_
 refine zr rfl (fun hc => ?_) (fun hc => ?_)
 ·simp at hc
  have hc' : j + 1 < l.length := by omega
  obtain ⟨c, tl1, b1, b2, b3, e1⟩ := zE rfl l (j + 1) hc'
  obtain ⟨p, tl2, d1, d2, d3, e2⟩ := zE rfl l j (by omega)
  have wj : IntKind.i64.wrap (j : Int) = j := wr _ (by omega) (by omega)
  have g1 : (j : Int) < l.length := by omega
  have g2 : (j : Int) + 1 < l.length := by omega
  have g3 : 0 ≤ (j : Int) + 1 := by omega
  refine zh (za (zj (za (zC none (Row.pures [0, 1, 2, 3, 4, 5, 6, 7, 8, 9] .done) mixed (yh wj e1 e2 g1 g2 g3) ?_))))
  refine zr rfl (fun hq => ?_) (fun hq => ?_)
  ·simp at hq
   refine za (zb ?_)
   exact zg (zk hd rfl (by simp; exact ZbI b1 (by rw [d1, hq]) (by omega)))
  ·simp at hq
   refine zh (zb ?_)
   have w2 : IntKind.i64.wrap ((j : Int) + 1 + 1) = ((j + 1 + 1 : Nat) : Int) := by rw [wr _ (by omega) (by omega)]; omega
   exact zp (j + 1) [] ⟨by omega, ZbN hs hjn d3 b3 (fun e => hq e.symm)⟩ (by omega) (by simp [w2]) rfl (by simp)
 ·simp at hc
  refine zy (za (zb ?_))
  rw [List.take_of_length_le (by omega)] at hjn
  exact zg (zk hd rfl (by simp [hjn]))
theorem ZbU (ss : List Stop) (hss : ss.length ≤ 1048576) : Pure Tryz.prog 133 [L ss] (L (yM (ss.map (·.c)))) := by
 have hcust := fun S nx hd => QG ss hss S nx hd
 obtain ⟨zs, hzs⟩ : ∃ zs, zs = ss.map (·.c) := ⟨_, rfl⟩
 have hzl : ss.length = zs.length := by rw [hzs]; simp
 rw [← hzs, hzl] at hcust
 rw [← hzs]
 have hz4 := Zg zs
 refine zx Tryz.func133 Tryz.ntmps133 Tryz.results133 fun S nx hd => ?_
 refine za (zb ?_)
 refine za (zV [] (by rfl) (by rfl) fun K Gc Gh hK hGc hGh X hX0 hX => ?_)
 simp -implicitDefEqProofs [hX0, hX]
 try clear hX0 hX X
 refine hGc _ _ _ _ _ _ _ fun hsuf => ((hcust _ _ jO).mono ?_).v
 rintro _ _ ⟨v1, rfl, rfl⟩
 refine ⟨_, _, YD _, ?_⟩
 clear hGc hGh
 clear Gc Gh
 refine zR hsuf (D := []) (by rfl) fun Gc Gh hGc hGh X hX0 hX => ?_
 simp -implicitDefEqProofs [hX0, hX, Nat.add_assoc]
 clear hX0 hX X
 refine hK _ _ _ ?_
 clear hK hGc hGh
 clear K Gc Gh
 refine za (zV [] (by rfl) (by rfl) fun K Gc Gh hK hGc hGh X hX0 hX => ?_)
 simp -implicitDefEqProofs [hX0, hX]
 try clear hX0 hX X
 refine hGc _ _ _ _ _ _ _ fun hsuf => ((J6 zs (by simp) (by omega)).mono ?_).v
 rintro _ _ rfl
 refine ⟨_, _, y9 _ (by simp) (by simp), ?_⟩
 clear hGc hGh
 clear Gc Gh
 refine zR hsuf (D := []) (by rfl) fun Gc Gh hGc hGh X hX0 hX => ?_
 simp -implicitDefEqProofs [hX0, hX]
 clear hX0 hX X
 refine hK _ _ _ ?_
 clear hK hGc hGh
 clear K Gc Gh
 generalize yM zs = c at *
 rw [← hz4]
 refine yc 1 rfl ?_
 refine za (zb ?_)
 exact zg (zk hd (by simp; rfl) rfl)
def jD (x : Inst) (l : List Stop) : Int :=
 match l.find? (fun s => zJ x [s] != 0) with
 | some s => zJ x [s]
 | none => if ¬ (l.map (·.c)).Nodup then 11 else 0
theorem ZhB (x : Inst) (l : List Stop) (hx : x.cust.length ≤ 1048576) (hl : l.length ≤ 1048576) : Pure Tryz.prog 167 [.agg (zA x), L l] (I (jD x l)) := by
 have hcu := ZbU l hl
 have hdo := ZbT (yM (l.map (·.c))) (by rw [Zg]; simpa using hl) (QI _)
 have hdd : decide (¬ (yM (l.map (·.c))).Nodup) = decide (¬ (l.map (·.c)).Nodup) := by rw [decide_eq_decide, WI]
 rw [hdd] at hdo
 refine zx Tryz.func167 Tryz.ntmps167 Tryz.results167 fun S nx hd => ?_
 refine za (zb ?_)
 intro v0
 repeat apply za
 refine zb ?_
 refine zj (zG (fun k : Nat => k ≤ l.length ∧ (l.take k).find? (fun s => zJ x [s] != 0) = none) (fun k => [(1, L l), (2, .ptr nx v0 0), (8, L l), (9, I l.length), (10, I k)]) (fun _ => [.cells v0 25 (zA x)]) (fun k => l.length - k) 0 [] (by simp) (by simp) (by simp) ?_)
 rintro k ⟨hk, ha⟩
 refine za (zb ?_)
 refine za (zr rfl (fun hc => ?_) (fun hc => ?_))
 ·simp at hc
  obtain ⟨s, tl, a1, a2, a3, e1, e0⟩ := el 2 rfl l k hc
  refine zh (za (zj (za (ze [] (zF hc e1 e0) ?_))))
  intro v1
  refine za (zC none (Row.pures [0, 1, 2, 3, 4] .done) mixed trivial ?_)
  refine zI (WJ s) trivial ?_
  refine zI (QK x [s] hx (by simp)) trivial ?_
  refine za (zb ?_)
  refine zr rfl (fun h1 => ?_) (fun h1 => ?_)
  ·simp at h1
   refine za (zb ?_)
   exact zg (zk hd rfl (by simp only [jD, ZbR ha a2 (by simpa using h1)]; simp))
  ·simp at h1
   refine zh (zb ?_)
   exact zp (k + 1) [_] ⟨hc, ZbQ ha a3 (by simpa using h1)⟩ (by omega) (by simp [zt k (by omega)]) rfl (by simp; rfl)
 ·simp at hc
  obtain rfl : k = l.length := by omega
  rw [List.take_length] at ha
  have hres : jD x l = if ¬ (l.map (·.c)).Nodup then 11 else 0 := by unfold jD; rw [ha]
  refine zy ?_
  repeat apply za
  refine zb ?_
  refine zz hcu ?_
  refine zz hdo ?_
  by_cases h2 : (l.map (·.c)).Nodup
  ·repeat apply za
   refine zn (by simp [h2]) ?_
   refine zh (za (zb ?_))
   exact zg (zk hd (by simp; rfl) (by simp [hres, h2, zq]))
  ·repeat apply za
   refine zo (by simp [h2]) ?_
   refine za (zb ?_)
   exact zg (zk hd (by simp; rfl) (by simp [hres, h2, zq]))
theorem ZhC (x : Inst) (d : zi) (hd' : DayOk d) : Pure Tryz.prog 60 [.agg (zA x), .agg [L d]] (I (W (zM x d))) := by
 have hdn := hd'.1
 refine zx Tryz.func60 Tryz.ntmps60 Tryz.results60 fun S nx hd => ?_
 refine za (zb ?_)
 intro v0 v1
 refine za (zb ?_)
 repeat apply za
 refine zb ?_
 refine zj (zG (fun s : Nat => s ≤ d.length) (fun k => [(2, .ptr nx v0 0), (3, .ptr (nx + 1) v1 0), (5, I (W (zM x (d.take k)))), (6, I k)]) (fun _ => [.cells v0 25 (zA x), .cells v1 58 [L d]]) (fun s => d.length - s) 0 [] (by simp) (by simp [zM]) (by simp) ?_)
 rintro k hk
 repeat apply za
 refine zb ?_
 refine zr rfl (fun hc => ?_) (fun hc => ?_)
 ·simp at hc
  obtain ⟨t, tl, a1, a2, a3, e0⟩ := zE rfl d k hc
  have htm := List.mem_of_getElem? a1
  have htl := hd'.2 t htm
  have hsm := hd'.3 t htm
  refine zh (za (zj (zC none (Row.pures [0, 1, 2, 3, 4, 5, 6, 7, 8, 9, 10] .done) mixed (zm hc e0) ?_)))
  refine zI (Zhr t htl) trivial ?_
  refine zI (Zhf x (t.map (·.c)) (by simpa using htl) (by simpa using hsm)) trivial ?_
  have hw : W (W (zM x (d.take k)) + W (zX x (t.map (·.c)))) = W (zM x (d.take (k + 1))) := by rw [a3, ZbK, xE, QA]
  refine zb ?_
  exact zp (k + 1) [] hc (by omega) (by simp [zt k (by omega)]; exact hw) rfl (by simp)
 ·simp at hc
  obtain rfl : k = d.length := by omega
  rw [List.take_length]
  refine zy (za (zb ?_))
  exact zg (zk hd (by simp; rfl) rfl)
open Go
structure KeyOk {α : Type} [DecidableEq α] (d : TypeDesc) (key : α → Value) : Prop where
 same : ∀ a b, Instr.sameNow d (key a) (key b) = some (decide (a = b))
theorem ZP (k : IntKind) : KeyOk (.int k) (fun i : Int => Value.int k i) := ⟨fun a b => by
 simp only [Instr.sameNow]
 by_cases e : a = b <;> simp [e]⟩
def MapIs {α β : Type} (key : α → Value) (enc : β → PV) (es : List (Value × PV)) (g : α → Option β) : Prop :=
 ∃ l : List (α × β), es = l.map (fun x => (key x.1, enc x.2)) ∧ (l.map (·.1)).Nodup ∧ (∀ a b, (a, b) ∈ l ↔ g a = some b)
def qv {α β : Type} [DecidableEq α] (g : α → Option β) (a : α) (v : Option β) : α → Option β := fun x => if x = a then v else g x
theorem ZbV {α β : Type} (key : α → Value) (enc : β → PV) : MapIs key enc [] (fun _ => none) := ⟨[], rfl, by simp, by simp⟩
theorem ZbW {α β : Type} [DecidableEq α] {d : TypeDesc} {key : α → Value} {enc : β → PV} (hk : KeyOk d key) (a : α) : ∀ (l : List (α × β)) (i : Nat), a ∉ l.map (·.1) → xh d (key a) (l.map fun x => (key x.1, enc x.2)) i = some none
 | [], _, _ => rfl
 | x :: l, i, h => by
  simp only [List.map_cons, List.mem_cons, not_or] at h
  simp only [List.map_cons, xh, hk.same, decide_eq_false h.1]
  exact ZbW hk a l (i + 1) h.2
theorem ZbX {α β : Type} [DecidableEq α] {d : TypeDesc} {key : α → Value} {enc : β → PV} (hk : KeyOk d key) (a : α) (b : β) : ∀ (l : List (α × β)) (i : Nat), (l.map (·.1)).Nodup → (a, b) ∈ l →
  ∃ j, l[j]? = some (a, b) ∧ xh d (key a) (l.map fun x => (key x.1, enc x.2)) i = some (some (i + j, enc b))
 | [], _, _, h => by cases h
 | x :: l, i, hn, h => by
  simp only [List.map_cons, List.nodup_cons] at hn
  by_cases e : a = x.1
  ·have hx : x = (a, b) := by
    rcases List.mem_cons.1 h with h | h
    ·exact h.symm
    ·exact absurd (List.mem_map.2 ⟨_, h, e⟩) hn.1
   subst hx
   exact ⟨0, rfl, by simp [xh, hk.same]⟩
  ·have hm : (a, b) ∈ l := by
    rcases List.mem_cons.1 h with h | h
    ·exact absurd (by rw [← h]) e
    ·exact h
   obtain ⟨j, h1, h2⟩ := ZbX hk a b l (i + 1) hn.2 hm
   refine ⟨j + 1, by simpa using h1, ?_⟩
   simp only [List.map_cons, xh, hk.same, decide_eq_false e]
   rw [h2, show i + 1 + j = i + (j + 1) by omega]
theorem MapIs.find {α β : Type} [DecidableEq α] {d : TypeDesc} {key : α → Value} {enc : β → PV} {es : List (Value × PV)} {g : α → Option β} (hk : KeyOk d key) (h : MapIs key enc es g) (a : α) :
  ∃ res, xh d (key a) es 0 = some res ∧ (g a = none → res = none) ∧ (∀ b, g a = some b → ∃ j, res = some (j, enc b)) ∧ (∀ b, MapIs key enc (qY (key a) (enc b) es res) (qv g a (some b))) ∧ MapIs key enc (Qx es res) (qv g a none) := by
 obtain ⟨l, rfl, hn, hg⟩ := h
 cases hga : g a with
 | none =>
  have hna : a ∉ l.map (·.1) := by
   intro hm
   obtain ⟨x, hx, rfl⟩ := List.mem_map.1 hm
   have := (hg x.1 x.2).1 hx
   rw [hga] at this; cases this
  have q1 : ∀ b, MapIs key enc (qY (key a) (enc b) (l.map fun x => (key x.1, enc x.2)) none) (qv g a (some b)) := fun b => by
   refine ⟨l ++ [(a, b)], by simp [qY], ?_, fun a' b' => ?_⟩
   rotate_left
   focus
    unfold qv
    by_cases e : a' = a
    ·subst e
     simp only [if_pos, List.mem_append, List.mem_singleton, hg, hga]
     simp [eq_comm]
    ·simp [List.mem_append, hg, e]
   rw [List.map_append, List.nodup_append]
   refine ⟨hn, by simp, fun x hx y hy => ?_⟩
   simp at hy; subst hy
   exact fun e => hna (e ▸ hx)
  refine ⟨none, ZbW hk a l 0 hna, (by intro _; rfl), (by intro b hb; cases hb), q1, l, by simp [Qx], hn, fun a' b' => ?_⟩
  ·unfold qv
   by_cases e : a' = a
   ·subst e; simp [hg, hga]
   ·simp [if_neg e, hg]
 | some b0 =>
  obtain ⟨j, h1, h2⟩ := ZbX (enc := enc) hk a b0 l 0 hn ((hg a b0).2 hga)
  have hj : j < l.length := (List.getElem?_eq_some_iff.1 h1).1
  have hja : l[j] = (a, b0) := (List.getElem?_eq_some_iff.1 h1).2
  have huniq : ∀ (i : Nat) (hi : i < l.length), l[i].1 = a → i = j := by
   intro i hi he
   have hp := List.pairwise_iff_getElem.1 hn
   rcases Nat.lt_trichotomy i j with h | h | h
   ·exact absurd (show (l.map (·.1))[i]'(by simpa using hi) = (l.map (·.1))[j]'(by simpa using hj) by rw [List.getElem_map, List.getElem_map, he, hja]) (hp i j (by simpa using hi) (by simpa using hj) h)
   ·exact h
   ·exact absurd (show (l.map (·.1))[j]'(by simpa using hj) = (l.map (·.1))[i]'(by simpa using hi) by rw [List.getElem_map, List.getElem_map, he, hja]) (hp j i (by simpa using hj) (by simpa using hi) h)
  suffices hh : (∀ b, MapIs key enc (qY (key a) (enc b) (l.map fun x => (key x.1, enc x.2)) (some (0 + j, enc b0))) (qv g a (some b))) ∧ MapIs key enc (Qx (l.map fun x => (key x.1, enc x.2)) (some (0 + j, enc b0))) (qv g a none) from
   ⟨some (0 + j, enc b0), h2, (by intro h; cases h), (by intro b hb; cases hb; exact ⟨_, rfl⟩), hh.1, hh.2⟩
  refine ⟨fun b => ⟨l.set j (a, b), ?_, ?_, fun a' b' => ?_⟩, l.eraseIdx j, ?_, ?_, fun a' b' => ?_⟩
  ·simp [qY, List.map_set]
  ·rw [List.map_set]
   have : (l.map (·.1)).set j a = l.map (·.1) := by
    apply List.ext_getElem?
    intro i
    rw [List.getElem?_set]
    split
    ·rename_i e; subst e; simp [hj, hja]
    ·rfl
   rw [this]; exact hn
  ·unfold qv
   rw [List.mem_iff_getElem?]
   constructor
   ·rintro ⟨i, hi⟩
    rw [List.getElem?_set] at hi
    by_cases hij : j = i
    ·subst hij
     simp [hj] at hi
     rw [if_pos hi.1.symm, hi.2]
    ·have hne := hij
     rw [if_neg hij] at hi
     have hil := (List.getElem?_eq_some_iff.1 hi).1
     have hie := (List.getElem?_eq_some_iff.1 hi).2
     by_cases e : a' = a
     ·exact absurd (huniq i hil (by rw [hie]; exact e)).symm hne
     ·rw [if_neg e]; exact (hg a' b').1 (List.mem_of_getElem? hi)
   ·intro h
    by_cases e : a' = a
    ·rw [if_pos e] at h; cases h
     exact ⟨j, by rw [List.getElem?_set]; simp [hj, e]⟩
    ·rw [if_neg e] at h
     obtain ⟨i, hi⟩ := List.mem_iff_getElem?.1 ((hg a' b').2 h)
     refine ⟨i, ?_⟩
     rw [List.getElem?_set]
     rw [if_neg]
     ·exact hi
     ·rintro rfl; rw [h1] at hi; cases hi; exact e rfl
  ·simp only [Qx, Nat.zero_add]
   apply List.ext_getElem?
   intro i
   simp only [List.getElem?_eraseIdx, List.getElem?_map]
   split <;> rfl
  ·refine hn.sublist ?_
   exact (List.eraseIdx_sublist l j).map _
  ·unfold qv
   by_cases e : a' = a
   ·rw [if_pos e]
    refine ⟨fun h => ?_, fun h => by cases h⟩
    obtain ⟨i, hi⟩ := List.mem_iff_getElem?.1 h
    rw [List.getElem?_eraseIdx] at hi
    split at hi
    ·have hil := (List.getElem?_eq_some_iff.1 hi).1
     have := huniq i hil (by rw [(List.getElem?_eq_some_iff.1 hi).2]; exact e)
     omega
    ·have hil := (List.getElem?_eq_some_iff.1 hi).1
     have := huniq (i + 1) hil (by rw [(List.getElem?_eq_some_iff.1 hi).2]; exact e)
     omega
   ·rw [if_neg e, ← hg]
    refine ⟨fun h => (List.eraseIdx_sublist l j).subset h, fun h => ?_⟩
    obtain ⟨i, hi⟩ := List.mem_iff_getElem?.1 h
    have hij : i ≠ j := by rintro rfl; rw [h1] at hi; cases hi; exact e rfl
    rw [List.mem_iff_getElem?]
    by_cases hlt : i < j
    ·exact ⟨i, by rw [List.getElem?_eraseIdx, if_pos hlt]; exact hi⟩
    ·refine ⟨i - 1, ?_⟩
     rw [List.getElem?_eraseIdx, if_neg (by omega)]
     rw [show i - 1 + 1 = i by omega]; exact hi
open Go Hp
abbrev yN : Int → Int → Bool := fun a b => decide (a < b)
theorem vJ : Str yN := ⟨fun a => by simp, fun a b c h1 h2 => by simp at *; omega, fun a b h1 h2 => by simp at *; omega⟩
def zY (x : Int × Int) : List PV := [.sc (.int .i64 x.1), .sc (.int .i64 x.2)]
theorem Zh (x : Int × Int) : (zY x).length = 2 := rfl
abbrev qp (x : Int) : Value := .int .i64 x
structure PosOk (g : Int → Option Nat) (l : zB Int) : Prop where
 here : ∀ i, i < l.length → g (zv l i).1 = some i
 gone : ∀ id, (∀ i, i < l.length → (zv l i).1 ≠ id) → g id = none
abbrev WK (i : Nat) : PV := .sc (.int .i64 (i : Int))
def RowIs (cs : List PV) (l : zB Int) : Prop := ∃ rest, cs = l.flatMap zY ++ rest
theorem RowIs.at {cs : List PV} {l : zB Int} (h : RowIs cs l) (i : Nat) (hi : i < l.length) : ∃ tl, cs.drop (i * 2) = .sc (.int .i64 (zv l i).1) :: .sc (.int .i64 (zv l i).2) :: tl := by
 obtain ⟨rest, rfl⟩ := h
 refine ⟨(l.drop (i + 1)).flatMap zY ++ rest, ?_⟩
 rw [List.drop_append_of_le_length (by rw [Yu zY 2 Zh]; omega), Za0 zY 2 Zh l i hi]
 have : zv l i = l[i] := by unfold zv; simp [hi]
 rw [this]; rfl
theorem RowIs.big {cs : List PV} {l : zB Int} (h : RowIs cs l) : l.length * 2 ≤ cs.length := by
 obtain ⟨rest, rfl⟩ := h
 rw [List.length_append, Yu zY 2 Zh]; omega
theorem RowIs.put {cs : List PV} {l : zB Int} (h : RowIs cs l) (i : Nat) (hi : i < l.length) (x : Int × Int) : RowIs (ye cs (i * 2) [.sc (.int .i64 x.1), .sc (.int .i64 x.2)]) (l.set i x) := by
 obtain ⟨rest, rfl⟩ := h
 refine ⟨rest, ?_⟩
 have hl : (l.flatMap zY).length = l.length * 2 := Yu zY 2 Zh l
 show List.take (i * 2) (l.flatMap zY ++ rest) ++ zY x ++ List.drop (i * 2 + 2) (l.flatMap zY ++ rest) = _
 rw [List.take_append_of_le_length (by omega), Zb zY 2 Zh, show i * 2 + 2 = (i + 1) * 2 by omega, List.drop_append_of_le_length (by omega), Yt zY 2 Zh]
 rw [List.set_eq_take_append_cons_drop, if_pos hi]
 simp
theorem RowIs.take {cs : List PV} {l : zB Int} (h : RowIs cs l) : cs.take (l.length * 2) = l.flatMap zY := by
 obtain ⟨rest, rfl⟩ := h
 rw [List.take_append_of_le_length (by rw [Yu zY 2 Zh]; omega), Zb zY 2 Zh, List.take_length]
structure HS (S : Store) (hid hv rid mid mv : Nat) (l : zB Int) (g : Int → Option Nat) : Prop where
 h : ∃ ver, S hid = .cells hv 327 [.sl rid ver 2 0 l.length, .mp mid mv] ∧ ∃ cs, S rid = .cells ver 332 cs ∧ RowIs cs l
 m : ∃ es, S mid = .map mv es ∧ MapIs qp WK es g
 ne : hid ≠ rid ∧ hid ≠ mid ∧ rid ≠ mid
 len : l.length ≤ 2147483648
def Offd (S : Store) (ids : List Nat) (S' : Store) : Prop := ∀ o, o ∉ ids → S' o = S o ∨ S o = .dead
def Off (S : Store) (ids : List Nat) (S' : Store) : Prop := ∀ o, o ∉ ids → S' o = S o
theorem Offd.refl (S : Store) (ids : List Nat) : Offd S ids S := fun _ _ => .inl rfl
theorem Offd.set {S T : Store} {ids : List Nat} (h : Offd S ids T) {o : Nat} (ho : o ∈ ids ∨ S o = .dead) (x : Ob) : Offd S ids (T.set o x) := by
 intro i hi
 by_cases e : i = o
 ·subst e; exact .inr (ho.resolve_left hi)
 ·rw [qK _ _ _ _ e]; exact h i hi
theorem Off.offd {S T : Store} {ids : List Nat} (h : Off S ids T) : Offd S ids T := fun o ho => .inl (h o ho)
theorem Off.trans {S T U : Store} {ids : List Nat} (h : Off S ids T) (k : Off T ids U) : Off S ids U := fun o ho => (k o ho).trans (h o ho)
def cut (S : Store) (ids : List Nat) (S' : Store) : Store := fun o => if o ∈ ids then S' o else S o
theorem uk (S : Store) (ids : List Nat) (S' : Store) : Off S ids (cut S ids S') := fun o ho => by simp [cut, ho]
theorem ZhD (S : Store) (ids : List Nat) (S' : Store) {o : Nat} (h : o ∈ ids) : cut S ids S' o = S' o := by simp [cut, h]
theorem ul {S S' : Store} {ids : List Nat} (h : Offd S ids S') : ∀ o, cut S ids S' o = S' o ∨ cut S ids S' o = .dead := by
 intro o
 unfold cut
 split
 ·exact .inl rfl
 ·rename_i ho
  rcases h o ho with h | h
  ·exact .inl h.symm
  ·exact .inr h
theorem HS.congr {S T : Store} {hid hv rid mid mv : Nat} {l : zB Int} {g : Int → Option Nat} (h : HS S hid hv rid mid mv l g) (e : ∀ o ∈ [hid, rid, mid], T o = S o) : HS T hid hv rid mid mv l g := by
 obtain ⟨ver, h1, cs, h2, hR⟩ := h.h
 obtain ⟨es, h3⟩ := h.m
 exact ⟨⟨ver, by rw [e _ (by simp)]; exact h1, cs, by rw [e _ (by simp)]; exact h2, hR⟩, ⟨es, by rw [e _ (by simp)]; exact h3⟩, h.ne, h.len⟩
theorem HS.cut {S T : Store} {hid hv rid mid mv : Nat} {l : zB Int} {g : Int → Option Nat} (h : HS T hid hv rid mid mv l g) : HS (cut S [hid, rid, mid] T) hid hv rid mid mv l g := h.congr fun _ ho => ZhD _ _ _ ho
theorem xG (S : Store) (o : Nat) (x : Ob) (i : Nat) : S.set o x i = if i = o then x else S i := by
 split
 ·rename_i h; subst h; exact Store.set_same ..
 ·rename_i h; exact qK _ _ _ _ h
theorem ZbY {S : Store} {o i : Nat} {x : Ob} (h : S.set o x i = .dead) (hx : x ≠ .dead) : i ≠ o ∧ S i = .dead := by
 rw [xG] at h
 split at h
 ·exact absurd h hx
 ·rename_i e; exact ⟨e, h⟩
theorem ww {S : Store} {o i : Nat} {x : Ob} (h : S o = x) (hx : x ≠ .dead) (d : S i = .dead) : o ≠ i := by
 rintro rfl; rw [h] at d; exact hx d
theorem ZhE {S : Store} {hid hv rid mid mv : Nat} {l : zB Int} {g : Int → Option Nat} (hs : HS S hid hv rid mid mv l g) :
  PCalls Tryz.prog 319 [.ptr hid hv 0] S (fun p S' => p = zN l.length ∧ S' = S) := by
 obtain ⟨ver, h1, cs, h2, hR⟩ := hs.h
 refine xU Tryz.func319 rfl Tryz.ntmps319 (congrArg Array.toList Tryz.results319) (by simp) ?_
 refine za (qg (by rfl) (by simp; rfl) (za (yK [] (by rfl) fun K hK => ?_)))
 simp [h1]
 refine hK _ _ (zg ?_)
 simp [vB, zN]
theorem ZhF {S : Store} {hid hv rid mid mv : Nat} {l : zB Int} {g : Int → Option Nat} (hs : HS S hid hv rid mid mv l g) (i j : Nat) (hi : i < l.length) (hj : j < l.length) :
  PCalls Tryz.prog 320 [.ptr hid hv 0, zN i, zN j] S (fun p S' => p = xD (il yN (zv l i) (zv l j)) ∧ S' = S) := by
 obtain ⟨ver, h1, cs, h2, hR⟩ := hs.h
 obtain ⟨tl1, e1⟩ := hR.at i hi
 obtain ⟨tl2, e2⟩ := hR.at j hj
 refine xU Tryz.func320 rfl Tryz.ntmps320 (congrArg Array.toList Tryz.results320) (by simp) ?_
 refine za (qg (by rfl) (by simp; rfl) (za ?_))
 refine ZL (some [hid, rid]) (Row.pures [0, 1, 2, 3, 4, 5, 6, 7, 8, 9, 10, 11, 12, 13] (.alt 14 (.alt 15 (.alt 16 (.alt 17 (.done) .stop) .stop) .stop) (.alt 15 (.alt 14 (.alt 16 (.alt 17 (.done) .stop) .stop) .stop) .stop))) mixed (by rfl) (by rfl) (by rfl) fun K hK => ?_
 have z1 : hid ≠ rid := hs.ne.1
 have tail : ∀ (F : Nat → PV) (T : Store) (a b : Nat), F 7 = .ptr a 0 0 → F 8 = .ptr b 0 0 → T a = .cells 0 332 (zY (zv l i)) → T b = .cells 0 332 (zY (zv l j)) → Offd S [] T → K F T := by
  intro F T a b f7 f8 ta tb hoff
  have fin : ∀ o, S o = T o ∨ S o = .dead := fun o => (hoff o (by simp)).imp Eq.symm id
  refine hK _ _ ?_
  refine za (za (yK [] (by rfl) fun K' hK' => ?_))
  simp [f7, f8, ta, tb, zY]
  refine hK' _ _ (zr rfl (fun hc => ?_) (fun hc => ?_))
  ·refine za (yK [] (by rfl) fun K2 hK2 => ?_)
   simp [f7, f8, ta, tb, zY]
   refine hK2 _ _ (zg ⟨_, S, rfl, ⟨?_, rfl⟩, fin⟩)
   simp at hc
   simp [il, hc, xD]
  ·refine zh (za (yK [] (by rfl) fun K2 hK2 => ?_))
   simp [f7, f8, ta, tb, zY]
   refine hK2 _ _ (zg ⟨_, S, rfl, ⟨?_, rfl⟩, fin⟩)
   simp at hc
   simp [il, hc, xD]
 simp [h1, h2, hi, hj, e1, e2, zN]
 constructor
 ·refine ZM rfl (by simp; rfl) (by simp) fun a ha => ?_
  have n1 := ww h1 (by simp) ha
  have n2 := ww h2 (by simp) ha
  simp [h1, h2, xG, n1, n2]
  refine ZM rfl (by simp; rfl) (by simp) fun b hb => ?_
  have n3 := ZbY hb (by simp)
  have n4 := ww h1 (by simp) n3.2
  have n5 := ww h2 (by simp) n3.2
  simp [h1, h2, xG, n1, n2, n3, n4, n5, n3.1.symm]
  exact tail _ _ a b rfl rfl (by simp [xG, n3.1, n3.1.symm, zY]) (by simp [xG, n3.1, n3.1.symm, zY]) (by repeat (first | exact Offd.refl _ _ | refine Offd.set ?_ (by first | exact .inr ha | exact .inr n3.2) _))
 ·refine ZM rfl (by simp; rfl) (by simp) fun a ha => ?_
  have n1 := ww h1 (by simp) ha
  have n2 := ww h2 (by simp) ha
  simp [h1, h2, xG, n1, n2]
  refine ZM rfl (by simp; rfl) (by simp) fun b hb => ?_
  have n3 := ZbY hb (by simp)
  have n4 := ww h1 (by simp) n3.2
  have n5 := ww h2 (by simp) n3.2
  simp [h1, h2, xG, n1, n2, n3, n4, n5, n3.1.symm]
  exact tail _ _ b a rfl rfl (by simp [xG, n3.1, n3.1.symm, zY]) (by simp [xG, n3.1, n3.1.symm, zY]) (by repeat (first | exact Offd.refl _ _ | refine Offd.set ?_ (by first | exact .inr ha | exact .inr n3.2) _))
theorem ZhG {S : Store} {hid hv rid mid mv : Nat} {l : zB Int} {g : Int → Option Nat} (hs : HS S hid hv rid mid mv l g) (i j : Nat) (hi : i < l.length) (hj : j < l.length) :
  PCalls Tryz.prog 323 [.ptr hid hv 0, zN i, zN j] S (fun _ S' => Off S [hid, rid, mid] S' ∧ HS S' hid hv rid mid mv (swp l i j) (qv (qv g (zv (swp l i j) i).1 (some i)) (zv (swp l i j) j).1 (some j))) := by
 obtain ⟨ver, h1, cs, h2, hR⟩ := hs.h
 obtain ⟨es, h3, h4⟩ := hs.m
 obtain ⟨z1, z2, z3⟩ := hs.ne
 obtain ⟨tl1, e1⟩ := hR.at i hi
 obtain ⟨tl2, e2⟩ := hR.at j hj
 have b0 := hR.big
 have b1 : i * 2 + 2 ≤ cs.length := by omega
 have b2 : j * 2 + 2 ≤ cs.length := by omega
 refine xU Tryz.func323 rfl Tryz.ntmps323 (congrArg Array.toList Tryz.results323) (by simp) ?_
 refine za (ZL (some [hid]) (Row.pures [0, 1, 2, 3, 4, 5, 6, 7, 8, 9, 10, 11, 12, 13, 14, 15, 17, 18, 19, 20, 21, 22] (.alt 16 (.alt 23 (Row.pures [24] (.alt 25 (Row.pures [26] (.alt 27 (.done) .stop)) .stop)) .stop) (.alt 23 (.alt 16 (Row.pures [24] (.alt 25 (Row.pures [26] (.alt 27 (.done) .stop)) .stop)) .stop) .stop))) mixed (by rfl) (by rfl) (by rfl) fun K hK => ?_)
 have r1 := (hR.put i hi (zv l j)).put j (by simpa using hj) (zv l i)
 have hsw : (l.set i (zv l j)).set j (zv l i) = swp l i j := rfl
 rw [hsw] at r1
 have hsl : (swp l i j).length = l.length := wZ l i j
 have tail : ∀ (F : Nat → PV), F 0 = .ptr hid hv 0 → F 1 = zN i → F 2 = zN j → K F (S.set rid (.cells ver 332 (ye (ye cs (i * 2) [.sc (.int .i64 (zv l j).1), .sc (.int .i64 (zv l j).2)]) (j * 2) [.sc (.int .i64 (zv l i).1), .sc (.int .i64 (zv l i).2)]))) := by
  intro F f0 f1 f2
  refine hK _ _ ?_
  generalize hcs' : ye (ye cs (i * 2) [.sc (.int .i64 (zv l j).1), .sc (.int .i64 (zv l j).2)]) (j * 2) [.sc (.int .i64 (zv l i).1), .sc (.int .i64 (zv l i).2)] = cs' at r1
  obtain ⟨tl1, e1⟩ := r1.at i (by omega)
  obtain ⟨tl2, e2⟩ := r1.at j (by omega)
  have b0 := r1.big
  have b1 : i * 2 + 2 ≤ cs'.length := by omega
  have b2 : j * 2 + 2 ≤ cs'.length := by omega
  have hT : Offd S [hid, rid, mid] (S.set rid (.cells ver 332 cs')) := (Offd.refl _ _).set (.inl (by simp)) _
  have t1 : S.set rid (.cells ver 332 cs') hid = _ := (qK _ _ _ _ z1).trans h1
  have t2 : S.set rid (.cells ver 332 cs') rid = _ := Store.set_same _ _ _
  have t3 : S.set rid (.cells ver 332 cs') mid = _ := (qK _ _ _ _ (Ne.symm z3)).trans h3
  generalize S.set rid (.cells ver 332 cs') = T at hT t1 t2 t3
  obtain ⟨res, m1, _, _, m2, _⟩ := h4.find (ZP .i64) (zv (swp l i j) i).1
  refine za (ZL (some [hid, rid]) (Row.pures [0, 1, 2, 3, 4, 5, 6, 7, 8, 9, 10, 11, 12] (.alt 13 (.done) .stop)) mixed (by rfl) (by rfl) (by rfl) fun K hK => ?_)
  simp -implicitDefEqProofs [f0, f1, f2, t1, t2, hi, hj, e1, e2, zN, b1, b2]
  refine Qw (.inl rfl) Tryz.underlying286 Tryz.underlying3 rfl rfl rfl t3 m1 ?_
  simp -implicitDefEqProofs [qK, z2, z3, t1, t2]
  refine hK _ _ ?_
  clear hK
  have u1 : T.set mid (.map mv (qY (qp (zv (swp l i j) i).1) (zN i) es res)) hid = _ := (qK _ _ _ _ z2).trans t1
  have u2 : T.set mid (.map mv (qY (qp (zv (swp l i j) i).1) (zN i) es res)) rid = _ := (qK _ _ _ _ z3).trans t2
  have u3 : T.set mid (.map mv (qY (qp (zv (swp l i j) i).1) (zN i) es res)) mid = _ := Store.set_same _ _ _
  have hU : Offd S [hid, rid, mid] (T.set mid (.map mv (qY (qp (zv (swp l i j) i).1) (zN i) es res))) := hT.set (.inl (by simp)) _
  have m3 := m2 i
  obtain ⟨res2, m4, _, _, m5, _⟩ := m3.find (ZP .i64) (zv (swp l i j) j).1
  show PW _ _ _ _ _ _ _ (T.set mid (.map mv (qY (qp (zv (swp l i j) i).1) (zN i) es res)))
  change MapIs qp WK (qY (qp (zv (swp l i j) i).1) (zN i) es res) _ at m3
  generalize T.set mid (.map mv (qY (qp (zv (swp l i j) i).1) (zN i) es res)) = U at u1 u2 u3 hU
  refine ZL (some [hid, rid]) (Row.pures [0, 1, 2, 3, 4, 5, 6, 7, 8, 9, 10, 11, 12] (.alt 13 (.done) .stop)) mixed (by rfl) (by rfl) (by rfl) fun K hK => ?_
  simp -implicitDefEqProofs [f0, f1, f2, u1, u2, hi, hj, e1, e2, zN, b1, b2]
  refine Qw (.inl rfl) Tryz.underlying286 Tryz.underlying3 rfl rfl rfl u3 m4 ?_
  simp -implicitDefEqProofs [qK, z2, z3, u1, u2]
  refine hK _ _ ⟨_, _, rfl, ⟨uk _ _ _, HS.cut ⟨⟨ver, ?_, cs', ?_, r1⟩, ⟨_, ?_, m5 j⟩, ⟨z1, z2, z3⟩, ?_⟩⟩, ul (hU.set (.inl (by simp)) _)⟩
  ·rw [qK _ _ _ _ z2, u1, hsl]
  ·rw [qK _ _ _ _ z3, u2]
  ·exact Store.set_same _ _ _
  ·rw [hsl]; exact hs.len
 simp -implicitDefEqProofs [h1, h2, hi, hj, e1, e2, zN, b1, b2, xG, z1]
 exact ⟨tail _ rfl rfl rfl, tail _ rfl rfl rfl⟩
theorem ZhH : ElemOk Tryz.prog 323 332 (.agg #[.int .i64 0, .int .i64 0]) 16 :=
 ⟨Tryz.underlying323, by simp, by simp, by simp, by simp, by omega⟩
theorem ZhI {S : Store} {hid hv rid mid mv : Nat} {l : zB Int} {g : Int → Option Nat} (hs : HS S hid hv rid mid mv l g) (x : Int × Int) (hn : l.length + 1 ≤ 2147483648) :
  PCalls Tryz.prog 322 [.ptr hid hv 0, .ifc 332 (.agg (zY x))] S (fun _ S' => Off S [hid, rid, mid] S' ∧ HS S' hid hv rid mid mv (l ++ [x]) (qv g x.1 (some l.length))) := by
 obtain ⟨ver, h1, cs, h2, hR⟩ := hs.h
 obtain ⟨es, h3, h4⟩ := hs.m
 obtain ⟨z1, z2, z3⟩ := hs.ne
 have b0 := hR.big
 refine xU Tryz.func322 rfl Tryz.ntmps322 (congrArg Array.toList Tryz.results322) (by simp) ?_
 refine za (yK [] (by rfl) fun K hK => ?_)
 simp -implicitDefEqProofs [zY]
 refine Zgi rfl Tryz.underlying332 (by intro ms; simp) (by simp; rfl) (p := .tup [.agg (zY x), .sc (.bool true)]) (by simp [Wm, zY]) ?_
 simp -implicitDefEqProofs [zY]
 refine ZM rfl (by simp; rfl) (by simp) fun a ha => ?_
 simp -implicitDefEqProofs [zY]
 have n1 := ww h1 (by simp) ha
 have n2 := ww h2 (by simp) ha
 have n3 := ww h3 (by simp) ha
 refine hK _ _ ?_
 clear hK
 have hT : Offd S [hid, rid, mid] (S.set a (.cells 0 332 (zY x))) := (Offd.refl _ _).set (.inr ha) _
 have t1 : S.set a (.cells 0 332 (zY x)) hid = _ := (qK _ _ _ _ n1).trans h1
 have t2 : S.set a (.cells 0 332 (zY x)) rid = _ := (qK _ _ _ _ n2).trans h2
 have t3 : S.set a (.cells 0 332 (zY x)) mid = _ := (qK _ _ _ _ n3).trans h3
 have t4 : S.set a (.cells 0 332 (zY x)) a = _ := Store.set_same _ _ _
 show PW _ _ _ _ _ _ _ (S.set a (.cells 0 332 (zY x)))
 generalize S.set a (.cells 0 332 (zY x)) = T at hT t1 t2 t3 t4
 refine za (qg (by rfl) (by simp; rfl) (zr rfl (fun _ => ?_) (fun h => by simp at h)))
 obtain ⟨res, m1, _, _, m2, _⟩ := h4.find (ZP .i64) x.1
 refine za (ZL (some [hid, a]) (Row.pures [0, 1, 2, 3, 4, 5, 6, 7, 8, 9, 10] (.alt 11 (.done) .stop)) mixed (by rfl) (by rfl) (by rfl) fun K hK => ?_)
 simp -implicitDefEqProofs [t1, t4, zY]
 refine Qw (.inl rfl) Tryz.underlying286 Tryz.underlying3 rfl rfl rfl t3 m1 ?_
 simp -implicitDefEqProofs [qK, z2, n3.symm, t1, t4, zY]
 refine hK _ _ ?_
 clear hK
 have m3 := m2 l.length
 have u1 : T.set mid (.map mv (qY (qp x.1) (zN l.length) es res)) hid = _ := (qK _ _ _ _ z2).trans t1
 have u2 : T.set mid (.map mv (qY (qp x.1) (zN l.length) es res)) rid = _ := (qK _ _ _ _ z3).trans t2
 have u3 : T.set mid (.map mv (qY (qp x.1) (zN l.length) es res)) mid = _ := Store.set_same _ _ _
 have u4 : T.set mid (.map mv (qY (qp x.1) (zN l.length) es res)) a = _ := (qK _ _ _ _ n3.symm).trans t4
 have hU : Offd S [hid, rid, mid] (T.set mid (.map mv (qY (qp x.1) (zN l.length) es res))) := hT.set (.inl (by simp)) _
 show PW _ _ _ _ _ _ _ (T.set mid (.map mv (qY (qp x.1) (zN l.length) es res)))
 change MapIs qp WK (qY (qp x.1) (zN l.length) es res) _ at m3
 generalize T.set mid (.map mv (qY (qp x.1) (zN l.length) es res)) = U at u1 u2 u3 u4 hU
 refine ZL (some [a]) (Row.pures [0, 1, 2, 3, 5, 6] (.alt 4 (.alt 7 (Row.pures [8, 9] (.alt 10 (.done) .stop)) .stop) .stop)) mixed (by rfl) (by rfl) (by rfl) fun K hK => ?_
 simp -implicitDefEqProofs [u1, u4, zY]
 refine Wj rfl ZhH (by simp; rfl) u2 (by simpa using b0) (m := 1) (ds := zY x) (by simp [zY]) (by omega) (by omega) ?_
 simp -implicitDefEqProofs [xG, z1, n1.symm, n2.symm, u1, u4, zY]
 have r1 : RowIs (cs.take (l.length * 2) ++ zY x) (l ++ [x]) := ⟨[], by rw [hR.take]; simp⟩
 refine hK _ _ ⟨_, _, rfl, ⟨uk _ _ _, HS.cut ⟨⟨ver + 1, ?_, _, ?_, r1⟩, ⟨_, ?_, m3⟩, ⟨z1, z2, z3⟩, ?_⟩⟩, ul ((hU.set (.inl (by simp)) _).set (.inl (by simp)) _)⟩
 ·rw [Wl]; simp
 ·rw [qK _ _ _ _ z1.symm, Wl]; simp [zY]
 ·rw [qK _ _ _ _ z2.symm, qK _ _ _ _ z3.symm, u3]
 ·simp; omega
theorem ZhJ {S : Store} {hid hv rid mid mv : Nat} {l : zB Int} {g : Int → Option Nat} (x : Int × Int) (hs : HS S hid hv rid mid mv (l ++ [x]) g) :
  PCalls Tryz.prog 321 [.ptr hid hv 0] S (fun p S' => p = .ifc 332 (.agg (zY x)) ∧ Off S [hid, rid, mid] S' ∧ HS S' hid hv rid mid mv l (qv g x.1 none)) := by
 obtain ⟨ver, h1, cs, h2, hR⟩ := hs.h
 obtain ⟨es, h3, h4⟩ := hs.m
 obtain ⟨z1, z2, z3⟩ := hs.ne
 have b0 := hR.big
 have hlen := hs.len
 simp only [List.length_append, List.length_cons, List.length_nil, Nat.zero_add] at h1 b0 hlen
 refine xU Tryz.func321 rfl Tryz.ntmps321 (congrArg Array.toList Tryz.results321) (by simp) ?_
 have hw : IntKind.i64.wrap (l.length : Int) = l.length := ud _ (by omega) (by omega)
 obtain ⟨tl, e1⟩ := hR.at l.length (by simp)
 have ha : zv (l ++ [x]) l.length = x := by simp [zv]
 rw [ha] at e1
 refine za (qg (by rfl) (by simp; rfl) (za (yK [] (by rfl) fun K hK => ?_)))
 simp -implicitDefEqProofs [h1, hw]
 refine hK _ _ ?_
 clear hK
 refine za (yK [] (by rfl) fun K hK => ?_)
 have hlt : (l.length : Int) < l.length + 1 := by omega
 have b1 : l.length * 2 + 2 ≤ cs.length := by omega
 simp -implicitDefEqProofs [h1, h2, e1, hlt]
 refine ZM rfl (by simp; rfl) (by simp) fun a ha => ?_
 have n1 := ww h1 (by simp) ha
 have n2 := ww h2 (by simp) ha
 have n3 := ww h3 (by simp) ha
 simp -implicitDefEqProofs
 refine hK _ _ ?_
 clear hK
 refine za (yK [] (by rfl) fun K hK => ?_)
 simp -implicitDefEqProofs [xG, n1, n2, h1, h2, hlt, b1]
 refine hK _ _ ?_
 clear hK
 refine za (yK [] (by rfl) fun K hK => ?_)
 simp -implicitDefEqProofs [xG, n1, n2, z1, h1, h2, hlt, b1]
 refine hK _ _ ?_
 clear hK
 have r1 : RowIs (ye cs (l.length * 2) [.sc (.int .i64 0), .sc (.int .i64 0)]) l := by
  obtain ⟨rest, q⟩ := hR.put l.length (by simp) (0, 0)
  exact ⟨zY (0, 0) ++ rest, by rw [q, List.set_append_right _ _ (Nat.le_refl _)]; simp⟩
 have hT : Offd S [hid, rid, mid] (((S.set a (.cells 0 332 (zY x))).set rid (.cells ver 332 (ye cs (l.length * 2) [.sc (.int .i64 0), .sc (.int .i64 0)]))).set hid (.cells hv 327 [.sl rid ver 2 0 l.length, .mp mid mv])) :=
  (((Offd.refl _ _).set (.inr ha) _).set (.inl (by simp)) _).set (.inl (by simp)) _
 have t1 : (((S.set a (.cells 0 332 (zY x))).set rid (.cells ver 332 (ye cs (l.length * 2) [.sc (.int .i64 0), .sc (.int .i64 0)]))).set hid (.cells hv 327 [.sl rid ver 2 0 l.length, .mp mid mv])) hid = .cells hv 327 [.sl rid ver 2 0 l.length, .mp mid mv] := by simp
 have t2 : (((S.set a (.cells 0 332 (zY x))).set rid (.cells ver 332 (ye cs (l.length * 2) [.sc (.int .i64 0), .sc (.int .i64 0)]))).set hid (.cells hv 327 [.sl rid ver 2 0 l.length, .mp mid mv])) rid = .cells ver 332 (ye cs (l.length * 2) [.sc (.int .i64 0), .sc (.int .i64 0)]) := by simp [xG, z1.symm]
 have t3 : (((S.set a (.cells 0 332 (zY x))).set rid (.cells ver 332 (ye cs (l.length * 2) [.sc (.int .i64 0), .sc (.int .i64 0)]))).set hid (.cells hv 327 [.sl rid ver 2 0 l.length, .mp mid mv])) mid = .map mv es := by simp [xG, z2.symm, z3.symm, n3, h3]
 have t4 : (((S.set a (.cells 0 332 (zY x))).set rid (.cells ver 332 (ye cs (l.length * 2) [.sc (.int .i64 0), .sc (.int .i64 0)]))).set hid (.cells hv 327 [.sl rid ver 2 0 l.length, .mp mid mv])) a = .cells 0 332 (zY x) := by simp [xG, n1.symm, n2.symm]
 show PW _ _ _ _ _ _ _ (((S.set a (.cells 0 332 (zY x))).set rid (.cells ver 332 (ye cs (l.length * 2) [.sc (.int .i64 0), .sc (.int .i64 0)]))).set hid (.cells hv 327 [.sl rid ver 2 0 l.length, .mp mid mv]))
 generalize (((S.set a (.cells 0 332 (zY x))).set rid (.cells ver 332 (ye cs (l.length * 2) [.sc (.int .i64 0), .sc (.int .i64 0)]))).set hid (.cells hv 327 [.sl rid ver 2 0 l.length, .mp mid mv])) = T at hT t1 t2 t3 t4
 obtain ⟨res, m1, _, _, _, m2⟩ := h4.find (ZP .i64) x.1
 refine za (ZL (some [hid, a]) (Row.pures [0, 1, 2, 3, 4, 5] (.alt 6 (.done) .stop)) mixed (by rfl) (by rfl) (by rfl) fun K hK => ?_)
 simp -implicitDefEqProofs [t1, t4, zY]
 refine Zgg rfl rfl Tryz.underlying286 Tryz.underlying3 rfl rfl rfl t3 m1 ?_
 simp -implicitDefEqProofs [qK, z2, n3.symm, t1, t4, zY]
 refine hK _ _ ?_
 clear hK
 refine za (yK [] (by rfl) fun K hK => ?_)
 simp -implicitDefEqProofs [qK, z2, n3.symm, t1, t4, zY]
 refine hK _ _ (zg ⟨_, _, rfl, ⟨rfl, uk _ _ _, HS.cut ⟨⟨ver, ?_, _, ?_, r1⟩, ⟨_, ?_, m2⟩, ⟨z1, z2, z3⟩, ?_⟩⟩, ul (hT.set (.inl (by simp)) _)⟩)
 ·rw [qK _ _ _ _ z2, t1]
 ·rw [qK _ _ _ _ z3, t2]
 ·exact Wl _ _ _
 ·omega
open Go Hp
def HP (S : Store) (hid hv rid mid mv : Nat) (l : zB Int) : Prop := ∃ g, HS S hid hv rid mid mv l g ∧ PosOk g l
theorem PosOk.inj {g : Int → Option Nat} {l : zB Int} (h : PosOk g l) {i j : Nat} (hi : i < l.length) (hj : j < l.length) (e : (zv l i).1 = (zv l j).1) : i = j := by
 have h1 := h.here i hi
 rw [e, h.here j hj] at h1
 exact (Option.some.inj h1).symm
theorem PosOk.swp {g : Int → Option Nat} {l : zB Int} (h : PosOk g l) (i j : Nat) (hi : i < l.length) (hj : j < l.length) : PosOk (qv (qv g (zv (swp l i j) i).1 (some i)) (zv (swp l i j) j).1 (some j)) (swp l i j) := by
 have at' := fun k => Qi l i j k hi hj
 have ei : (zv (Hp.swp l i j) i).1 = (zv l j).1 := by
  rw [at' i]
  by_cases e : i = j
  ·rw [if_pos e, e]
  ·rw [if_neg e, if_pos rfl]
 have ej : (zv (Hp.swp l i j) j).1 = (zv l i).1 := by rw [at' j, if_pos rfl]
 rw [ei, ej]
 refine ⟨fun k hk => ?_, fun id hid => ?_⟩
 ·rw [wZ] at hk
  rw [at' k]
  unfold qv
  by_cases k1 : k = j
  ·rw [if_pos k1, if_pos rfl, k1]
  ·rw [if_neg k1]
   by_cases k2 : k = i
   ·rw [if_pos k2]
    rw [if_neg (fun e => k1 (by rw [k2]; exact (h.inj hj hi e).symm)), if_pos rfl, k2]
   ·rw [if_neg k2, if_neg (fun e => k2 (h.inj hk hi e)), if_neg (fun e => k1 (h.inj hk hj e))]
    exact h.here k hk
 ·unfold qv
  have q1 := hid i (by rw [wZ]; exact hi)
  have q2 := hid j (by rw [wZ]; exact hj)
  rw [ei] at q1; rw [ej] at q2
  rw [if_neg (Ne.symm q2), if_neg (Ne.symm q1)]
  refine h.gone id fun k hk e => ?_
  have q3 := hid k (by rw [wZ]; exact hk)
  rw [at' k] at q3
  by_cases k1 : k = j
  ·subst k1; exact q1 e
  ·rw [if_neg k1] at q3
   by_cases k2 : k = i
   ·subst k2; exact q2 e
   ·rw [if_neg k2] at q3; exact q3 e
theorem QL (l : zB Int) (x : Int × Int) (k : Nat) (hk : k < l.length) : zv (l ++ [x]) k = zv l k := by
 unfold zv; rw [List.getD_eq_getElem?_getD, List.getD_eq_getElem?_getD, List.getElem?_append_left hk]
theorem Xa (l : zB Int) (x : Int × Int) : zv (l ++ [x]) l.length = x := by simp [zv]
theorem PosOk.push {g : Int → Option Nat} {l : zB Int} (h : PosOk g l) (x : Int × Int) (hx : g x.1 = none) : PosOk (qv g x.1 (some l.length)) (l ++ [x]) := by
 refine ⟨fun k hk => ?_, fun id hid => ?_⟩
 ·simp only [List.length_append, List.length_cons, List.length_nil, Nat.zero_add] at hk
  unfold qv
  by_cases k1 : k = l.length
  ·subst k1; rw [Xa, if_pos rfl]
  ·have hk' : k < l.length := by omega
   rw [QL l x k hk', if_neg]
   ·exact h.here k hk'
   ·intro e
    have := h.here k hk'
    rw [e, hx] at this; cases this
 ·have q := hid l.length (by simp)
  rw [Xa] at q
  unfold qv
  rw [if_neg (Ne.symm q)]
  refine h.gone id fun k hk => ?_
  have := hid k (by simp; omega)
  rw [QL l x k hk] at this
  exact this
theorem PosOk.pop {g : Int → Option Nat} {l : zB Int} (x : Int × Int) (h : PosOk g (l ++ [x])) : PosOk (qv g x.1 none) l := by
 have hl : l.length < (l ++ [x]).length := by simp
 refine ⟨fun k hk => ?_, fun id hid => ?_⟩
 ·have hk' : k < (l ++ [x]).length := by simp; omega
  have := h.here k hk'
  rw [QL l x k hk] at this
  unfold qv
  rw [if_neg]
  ·exact this
  ·intro e
   have := h.inj hk' hl (by rw [QL l x k hk, Xa]; exact e)
   omega
 ·unfold qv
  by_cases e : id = x.1
  ·rw [if_pos e]
  ·rw [if_neg e]
   refine h.gone id fun k hk => ?_
   simp only [List.length_append, List.length_cons, List.length_nil, Nat.zero_add] at hk
   by_cases k1 : k = l.length
   ·subst k1; rw [Xa]; exact Ne.symm e
   ·have hk' : k < l.length := by omega
    rw [QL l x k hk']; exact hid k hk'
theorem ZbZ : Yx Tryz.prog 330 "Len" 319 := by intro v w; kernel_rfl
theorem WL : Yx Tryz.prog 330 "Less" 320 := by intro v w; kernel_rfl
theorem WM : Yx Tryz.prog 330 "Swap" 323 := by intro v w; kernel_rfl
theorem ZhK : Yx Tryz.prog 330 "Push" 322 := by intro v w; kernel_rfl
theorem ZhL : Yx Tryz.prog 330 "Pop" 321 := by intro v w; kernel_rfl
abbrev hI (hid hv : Nat) : PV := .ifc 330 (.ptr hid hv 0)
theorem HP.len {S : Store} {hid hv rid mid mv : Nat} {l : zB Int} (h : HP S hid hv rid mid mv l) : l.length ≤ 2147483648 := by obtain ⟨g, h, _⟩ := h; exact h.len
theorem HP.cut {S T : Store} {hid hv rid mid mv : Nat} {l : zB Int} (h : HP T hid hv rid mid mv l) : HP (cut S [hid, rid, mid] T) hid hv rid mid mv l := by obtain ⟨g, h, k⟩ := h; exact ⟨g, h.cut, k⟩
theorem Zb0 {S : Store} {hid hv rid mid mv : Nat} {l : zB Int} (h : HP S hid hv rid mid mv l) : PCalls Tryz.prog 319 [.ptr hid hv 0] S (fun p S' => p = zN l.length ∧ S' = S) := by
 obtain ⟨g, h, _⟩ := h; exact ZhE h
theorem WN {S : Store} {hid hv rid mid mv : Nat} {l : zB Int} (h : HP S hid hv rid mid mv l) (i j : Nat) (hi : i < l.length) (hj : j < l.length) : PCalls Tryz.prog 320 [.ptr hid hv 0, zN i, zN j] S (fun p S' => p = xD (il yN (zv l i) (zv l j)) ∧ S' = S) := by
 obtain ⟨g, h, _⟩ := h; exact ZhF h i j hi hj
theorem WO {S : Store} {hid hv rid mid mv : Nat} {l : zB Int} (h : HP S hid hv rid mid mv l) (i j : Nat) (hi : i < l.length) (hj : j < l.length) : PCalls Tryz.prog 323 [.ptr hid hv 0, zN i, zN j] S (fun _ S' => Off S [hid, rid, mid] S' ∧ HP S' hid hv rid mid mv (swp l i j)) := by
 obtain ⟨g, h, k⟩ := h
 exact (ZhG h i j hi hj).mono fun p S' q => ⟨q.1, _, q.2, k.swp i j hi hj⟩
theorem ZhM {S : Store} {hid hv rid mid mv : Nat} {l : zB Int} (h : HP S hid hv rid mid mv l) (x : Int × Int) (hx : ∀ i, i < l.length → (zv l i).1 ≠ x.1) (hn : l.length + 1 ≤ 2147483648) : PCalls Tryz.prog 322 [.ptr hid hv 0, .ifc 332 (.agg (zY x))] S (fun _ S' => Off S [hid, rid, mid] S' ∧ HP S' hid hv rid mid mv (l ++ [x])) := by
 obtain ⟨g, h, k⟩ := h
 exact (ZhI h x hn).mono fun p S' q => ⟨q.1, _, q.2, k.push x (k.gone _ hx)⟩
theorem ZhN {S : Store} {hid hv rid mid mv : Nat} {l : zB Int} (x : Int × Int) (h : HP S hid hv rid mid mv (l ++ [x])) : PCalls Tryz.prog 321 [.ptr hid hv 0] S (fun p S' => p = .ifc 332 (.agg (zY x)) ∧ Off S [hid, rid, mid] S' ∧ HP S' hid hv rid mid mv l) := by
 obtain ⟨g, h, k⟩ := h
 exact (ZhJ x h).mono fun p S' q => ⟨q.1, q.2.1, _, q.2.2, k.pop x⟩
theorem ZhO (j : Nat) : ((j : Int) - 1).tdiv 2 = (zS j : Nat) := by
 unfold zS
 cases j with
 | zero => rfl
 | succ k => simp
theorem Zb1 {S : Store} {hid hv rid mid mv : Nat} {l : zB Int} (h : HP S hid hv rid mid mv l) (j : Nat) (hj : j < l.length) :
  PCalls Tryz.prog 283 [hI hid hv, zN j] S (fun _ S' => Off S [hid, rid, mid] S' ∧ HP S' hid hv rid mid mv (xz yN (j + 1) l j)) := by
 refine xU Tryz.func283 rfl Tryz.ntmps283 (congrArg Array.toList Tryz.results283) (by simp) ?_
 refine zj (X9 (fun F S' m => ∃ (lc : zB Int) (jc : Nat), m = jc ∧ jc < lc.length ∧ F 0 = hI hid hv ∧ F 1 = zN jc ∧ Off S [hid, rid, mid] S' ∧ HP S' hid hv rid mid mv lc ∧ xz yN (jc + 1) lc jc = xz yN (j + 1) l j) j ⟨l, j, rfl, hj, rfl, rfl, fun _ _ => rfl, h, rfl⟩ ?_)
 rintro jc F T ⟨lc, _, rfl, hjc, f0, f1, hoff, hp, hup⟩
 have hlen := hp.len
 have w1 : IntKind.i64.wrap ((jc : Int) - 1) = (jc : Int) - 1 := ud _ (by omega) (by omega)
 have hpar : zS jc ≤ jc := by unfold zS; omega
 have w2 : IntKind.i64.wrap (zS jc : Int) = zS jc := ud _ (by omega) (by omega)
 refine zj (za (yK [] (by rfl) fun K hK => ?_))
 simp -implicitDefEqProofs [f0, f1, zN, w1, ZhO, w2]
 refine hK _ _ ?_
 clear hK
 by_cases hc : zS jc = jc
 ·refine za (za (yK [] (by rfl) fun K hK => ?_))
  simp -implicitDefEqProofs [f0, f1, zN, hc]
  refine hK _ _ (zr rfl (fun _ => zy ?_) (fun q => by simp at q))
  refine ⟨_, _, rfl, ⟨uk _ _ _, ?_⟩, ul hoff.offd⟩
  rw [← hup]
  unfold xz
  rw [if_pos (.inl hc)]
  exact hp.cut
 ·refine za (za (yK [] (by rfl) fun K hK => ?_))
  have hc' : ¬ ((zS jc : Nat) : Int) = jc := by omega
  simp -implicitDefEqProofs [f0, f1, zN, hc, hc']
  refine ue rfl rfl rfl WL WA (by exact WN hp jc (zS jc) hjc (by omega)) fun p S' hq => ?_
  obtain ⟨rfl, rfl⟩ := hq
  simp -implicitDefEqProofs [xD]
  refine hK _ _ ?_
  clear hK
  cases hl : il yN (zv lc jc) (zv lc (zS jc)) with
  | false =>
   refine zr rfl (fun _ => zy ?_) (fun q => by simp at q)
   refine ⟨_, _, rfl, ⟨uk _ _ _, ?_⟩, ul hoff.offd⟩
   rw [← hup]
   unfold xz
   rw [if_pos (.inr hl)]
   exact hp.cut
  | true =>
   refine zr rfl (fun q => by simp at q) (fun _ => zh (za (yK [] (by rfl) fun K hK => ?_)))
   simp -implicitDefEqProofs [f0, f1, zN]
   refine ue rfl rfl rfl WM WB (by exact WO hp (zS jc) jc (by omega) hjc) fun p S' hq => ?_
   obtain ⟨hq1, hq2⟩ := hq
   refine hK _ _ ?_
   clear hK
   refine qg (by rfl) (by simp; rfl) ?_
   refine ⟨zS jc, ⟨swp lc (zS jc) jc, zS jc, rfl, by rw [wZ]; omega, f0, by rfl, hoff.trans hq1, hq2, ?_⟩, by omega⟩
   rw [← hup]
   conv => rhs; unfold xz
   rw [if_neg (by rintro (e | e); exact hc e; rw [hl] at e; cases e)]
   exact Zfy _ _ _ _ (by omega) (by unfold zS at *; omega)
theorem ZhP {S : Store} {hid hv rid mid mv : Nat} {l : zB Int} (h : HP S hid hv rid mid mv l) (i n : Nat) (hi : i < n) (hn : n ≤ l.length) :
  PCalls Tryz.prog 286 [hI hid hv, zN i, zN n] S (fun p S' => p = xD (decide (i < (yY yN n l i n).2)) ∧ Off S [hid, rid, mid] S' ∧ HP S' hid hv rid mid mv (yY yN n l i n).1) := by
 refine xU Tryz.func286 rfl Tryz.ntmps286 (congrArg Array.toList Tryz.results286) (by simp) ?_
 refine za (qg (by rfl) (by simp; rfl) (za (qg (by rfl) (by simp; rfl) (za ?_))))
 refine Qo (Q := fun e F T => e = .normal ∧ F 1 = zN i ∧ F 7 = zN (yY yN n l i n).2 ∧ Off S [hid, rid, mid] T ∧ HP T hid hv rid mid mv (yY yN n l i n).1) (zj (X9 (fun F S' m => ∃ (lc : zB Int) (ic : Nat), m = n - ic ∧ ic < n ∧ n ≤ lc.length ∧ F 0 = hI hid hv ∧ F 1 = zN i ∧ F 2 = zN n ∧ F 7 = zN ic ∧ Off S [hid, rid, mid] S' ∧ HP S' hid hv rid mid mv lc ∧ yY yN n lc ic n = yY yN n l i n) (n - i) ⟨l, i, rfl, hi, hn, rfl, rfl, rfl, rfl, fun _ _ => rfl, h, rfl⟩ ?_)) ?_
 rotate_left
 ·rintro e F T ⟨rfl, f1, f7, hoff, hp⟩
  refine za (yK [] (by rfl) fun K hK => ?_)
  simp -implicitDefEqProofs [f1, f7, zN]
  refine hK _ _ (zg ⟨_, _, rfl, ⟨?_, uk _ _ _, hp.cut⟩, ul hoff.offd⟩)
  simp [xD]
 rintro _ F T ⟨lc, ic, rfl, hic, hnl, f0, f1, f2, f7, hoff, hp, hdown⟩
 have hlen := hp.len
 have w1 : IntKind.i64.wrap (2 * (ic : Int)) = 2 * (ic : Int) := ud _ (by omega) (by omega)
 have w2 : IntKind.i64.wrap (2 * (ic : Int) + 1) = ((2 * ic + 1 : Nat) : Int) := by rw [ud _ (by omega) (by omega)]; omega
 have w3 : IntKind.i64.wrap (((2 * ic + 1 : Nat) : Int) + 1) = ((2 * ic + 2 : Nat) : Int) := by rw [ud _ (by omega) (by omega)]; omega
 refine zj (za (yK [] (by rfl) fun K hK => ?_))
 simp -implicitDefEqProofs only [f0, f1, f7, zN, w1, w2]
 generalize hk1 : 2 * ic + 1 = k1 at w2 w3
 simp -implicitDefEqProofs [f0, f1, f7, zN, w1, w2]
 refine hK _ _ ?_
 clear hK
 by_cases hc : n ≤ k1
 ·refine za (za (yK [] (by rfl) fun K hK => ?_))
  have hc' : (n : Int) ≤ k1 := by omega
  simp -implicitDefEqProofs [f0, f1, f2, f7, zN, hc, hc']
  refine hK _ _ (zr rfl (fun _ => zy ?_) (fun q => by simp at q))
  have hd : yY yN n lc ic n = (lc, ic) := by
   cases n with
   | zero => omega
   | succ n => unfold yY; rw [if_pos (by omega)]
  rw [hdown] at hd
  refine ⟨rfl, f1, ?_, hoff, ?_⟩
  ·rw [hd]; exact f7
  ·rw [hd]; exact hp
 ·refine za (za (yK [] (by rfl) fun K hK => ?_))
  have hc' : ¬ (n : Int) ≤ k1 := by omega
  have hc2 : ¬ (k1 : Int) < 0 := by omega
  simp -implicitDefEqProofs [f0, f1, f2, f7, zN, hc', hc2]
  refine hK _ _ (zr rfl (fun q => by simp at q) (fun _ => zh ?_))
  clear hK
  refine za (qg (by rfl) (by simp; rfl) ?_)
  obtain ⟨c1, c2, c3, c4, c5⟩ := Zav vJ lc ic n (by omega)
  have hkd : qW yN lc ic n < lc.length := by omega
  refine za (Qo (Q := fun e F' T' => e = .normal ∧ T' = T ∧ F' 0 = hI hid hv ∧ F' 1 = zN i ∧ F' 2 = zN n ∧ F' 7 = zN ic ∧ F' 9 = zN (qW yN lc ic n)) ?_ ?_)
  ·generalize hk2 : 2 * ic + 2 = k2 at w3
   refine za (yK [] (by rfl) fun K hK => ?_)
   simp -implicitDefEqProofs [f0, f1, f2, f7, zN, w3]
   refine hK _ _ ?_
   clear hK
   by_cases h2 : k2 < n
   ·refine za (yK [] (by rfl) fun K hK => ?_)
    have h2' : (k2 : Int) < n := by omega
    simp -implicitDefEqProofs [f0, f1, f2, f7, zN, h2, h2']
    refine ue rfl rfl rfl WL WA (by exact WN hp k2 k1 (by omega) (by omega)) fun p S' hq => ?_
    obtain ⟨rfl, rfl⟩ := hq
    simp -implicitDefEqProofs [xD]
    refine hK _ _ ?_
    clear hK
    cases hl : il yN (zv lc k2) (zv lc k1) with
    | true =>
     refine zr rfl (fun _ => qg (by rfl) (by simp; rfl) ?_) (fun q => by simp at q)
     refine ⟨rfl, rfl, f0, f1, f2, f7, ?_⟩
     unfold qW
     rw [hk1, hk2, if_pos ⟨h2, hl⟩]; rfl
    | false =>
     refine zr rfl (fun q => by simp at q) (fun _ => zh ⟨rfl, rfl, f0, f1, f2, f7, ?_⟩)
     unfold qW
     rw [hk1, hk2, if_neg (by rw [hl]; simp)]; rfl
   ·refine za (yK [] (by rfl) fun K hK => ?_)
    have h2' : ¬ (k2 : Int) < n := by omega
    simp -implicitDefEqProofs [f0, f1, f2, f7, zN, h2, h2']
    refine hK _ _ (zr rfl (fun q => by simp at q) (fun _ => zh ⟨rfl, rfl, f0, f1, f2, f7, ?_⟩))
    unfold qW
    rw [hk1, hk2, if_neg (fun q => h2 q.1)]; rfl
  ·clear f0 f1 f2 f7 F
   rintro e F S' ⟨rfl, rfl, f0, f1, f2, f7, f9⟩
   have hstep : yY yN n lc ic n = if il yN (zv lc (qW yN lc ic n)) (zv lc ic) = false then (lc, ic) else yY yN n (swp lc ic (qW yN lc ic n)) (qW yN lc ic n) n := by
    cases n with
    | zero => omega
    | succ n =>
     conv => lhs; unfold yY
     rw [if_neg (by omega)]
     split
     ·rfl
     ·exact ZfA _ _ _ _ _ (by omega) (by omega)
   rw [hdown] at hstep
   generalize hkk : qW yN lc ic n = kk at *
   refine za (za (yK [] (by rfl) fun K hK => ?_))
   simp -implicitDefEqProofs [f0, f1, f2, f7, f9, zN]
   refine ue rfl rfl rfl WL WA (by exact WN hp kk ic (by omega) (by omega)) fun p S' hq => ?_
   obtain ⟨rfl, rfl⟩ := hq
   simp -implicitDefEqProofs [xD]
   refine hK _ _ ?_
   clear hK
   cases hl : il yN (zv lc kk) (zv lc ic) with
   | false =>
    rw [if_pos hl] at hstep
    refine zr rfl (fun _ => zy ⟨rfl, f1, ?_, hoff, ?_⟩) (fun q => by simp at q)
    ·rw [hstep]; exact f7
    ·rw [hstep]; exact hp
   | true =>
    rw [if_neg (by rw [hl]; simp)] at hstep
    refine zr rfl (fun q => by simp at q) (fun _ => zh (za (yK [] (by rfl) fun K hK => ?_)))
    simp -implicitDefEqProofs [f0, f1, f2, f7, f9, zN]
    refine ue rfl rfl rfl WM WB (by exact WO hp ic kk (by omega) hkd) fun p S' hq => ?_
    obtain ⟨hq1, hq2⟩ := hq
    refine hK _ _ ?_
    clear hK
    refine qg (by rfl) (by simp [f9]; rfl) ?_
    refine ⟨n - kk, ⟨swp lc ic kk, kk, rfl, c2, by rw [wZ]; exact hnl, f0, f1, f2, rfl, hoff.trans hq1, hq2, hstep.symm⟩, by omega⟩
end Go.Proofs.YtcnbiofjmioaiaaGreat.Pv
namespace Go.Proofs.YtcnbiofjmioaiaaGreat.Hp
section
variable {α : Type} [DecidableEq α] [Inhabited α] {lt : α → α → Bool}
def um (lt : α → α → Bool) (l : zB α) (i n : Nat) : zB α := if i < (yY lt n l i n).2 then (yY lt n l i n).1 else xz lt (i + 1) (yY lt n l i n).1 i
theorem ZhQ (h : Str lt) (l : zB α) (i n : Nat) (hn : n ≤ l.length) (hi : i < n) (inv : DownInv lt l n i) : vu lt (um lt l i n) n ∧ (um lt l i n).Perm l ∧ (um lt l i n).length = l.length ∧ ∀ k, n ≤ k → zv (um lt l i n) k = zv l k := by
 obtain ⟨q1, q2, q3, q4, q5, q6, q7⟩ := Zaw h n l n i hn hi (by omega) inv
 unfold um
 split
 ·rename_i hm; exact ⟨q6 hm, q1, q2, q3⟩
 ·rename_i hm
  obtain ⟨r1, r2⟩ := q7 (by omega)
  rw [r1]
  exact Zau h (i + 1) l n i hn hi (by omega) ⟨r2, inv.kids⟩
theorem ZhR {l : zB α} (x : Int × α) (h : vu lt l l.length) : UpInv lt (l ++ [x]) (l.length + 1) l.length := by
 have ap : ∀ k, k < l.length → zv (l ++ [x]) k = zv l k := fun k hk => by
  unfold zv; rw [List.getD_eq_getElem?_getD, List.getD_eq_getElem?_getD, List.getElem?_append_left hk]
 refine ⟨fun k k0 kn kj => ?_, fun k k0 kn kp j0 => ?_⟩
 ·have := wK k0
  rw [ap k (by omega), ap (zS k) (by omega)]
  exact h k k0 (by omega)
 ·have := wK k0; omega
theorem ZhS (hs : Str lt) {l : zB α} (i n : Nat) (hi : i < n) (hn : n + 1 = l.length) (h : vu lt l l.length) : DownInv lt (swp l i n) n i := by
 have at' := fun k => Qi l i n k (by omega) (by omega)
 refine ⟨fun k k0 kn kp ki => ?_, fun k k0 kn kp i0 => ?_⟩
 ·have := wK k0
  rw [at' k, at' (zS k), if_neg (by omega), if_neg ki, if_neg (by omega), if_neg kp]
  exact h k k0 (by omega)
 ·have := wK k0
  have := wK i0
  rw [at' k, at' (zS i), if_neg (by omega), if_neg (by omega), if_neg (by omega), if_neg (by omega)]
  have e1 := h k k0 (by omega)
  rw [kp] at e1
  exact Qj hs e1 (h i i0 (by omega))
theorem ZhT {l : zB α} (n : Nat) (h : vu lt l n) : vu lt (l.take n) n := by
 intro k k0 kn
 have := wK k0
 have e : ∀ j, j < n → zv (l.take n) j = zv l j := fun j hj => by
  unfold zv; rw [List.getD_eq_getElem?_getD, List.getD_eq_getElem?_getD, List.getElem?_take, if_pos hj]
 rw [e k kn, e (zS k) (by omega)]
 exact h k k0 kn
end
theorem ZhU {α : Type} [Inhabited α] (l : zB α) (n : Nat) (hn : n + 1 = l.length) : l = l.take n ++ [zv l n] := by
 apply List.ext_getElem?
 intro k
 rw [List.getElem?_append]
 by_cases h1 : k < n
 ·rw [if_pos (by simp; omega), List.getElem?_take, if_pos h1]
 ·rw [if_neg (by simp; omega)]
  by_cases h2 : k = n
  ·subst h2
   have : k < l.length := by omega
   simp [zv, this, Nat.min_eq_left (Nat.le_of_lt this)]
  ·rw [List.getElem?_eq_none (by omega), List.getElem?_eq_none (by simp; omega)]
end Go.Proofs.YtcnbiofjmioaiaaGreat.Hp
namespace Go.Proofs.YtcnbiofjmioaiaaGreat.Pv
open Go Hp
def HH (S : Store) (hid hv rid mid mv : Nat) (l : zB Int) : Prop := HP S hid hv rid mid mv l ∧ vu yN l l.length
theorem HH.cut {S T : Store} {hid hv rid mid mv : Nat} {l : zB Int} (h : HH T hid hv rid mid mv l) : HH (cut S [hid, rid, mid] T) hid hv rid mid mv l := ⟨h.1.cut, h.2⟩
theorem ZhV {S : Store} {hid hv rid mid mv : Nat} {l : zB Int} (h : HH S hid hv rid mid mv l) (x : Int × Int) (hx : ∀ i, i < l.length → (zv l i).1 ≠ x.1) (hn : l.length + 1 ≤ 2147483648) :
  PCalls Tryz.prog 274 [hI hid hv, .ifc 332 (.agg (zY x))] S (fun _ S' => Off S [hid, rid, mid] S' ∧ ∃ l', HH S' hid hv rid mid mv l' ∧ l'.Perm (x :: l)) := by
 obtain ⟨hp, hh⟩ := h
 refine xU Tryz.func274 rfl Tryz.ntmps274 (congrArg Array.toList Tryz.results274) (by simp) ?_
 refine za (yK [] (by rfl) fun K hK => ?_)
 simp -implicitDefEqProofs
 refine ue rfl rfl rfl ZhK Zg4 (by exact ZhM hp x hx hn) fun p S1 hq => ?_
 obtain ⟨o1, p1⟩ := hq
 refine hK _ _ ?_
 clear hK
 refine yK [] (by rfl) fun K hK => ?_
 simp -implicitDefEqProofs
 refine ue rfl rfl rfl ZbZ Zbs (by exact Zb0 p1) fun p S2 hq => ?_
 obtain ⟨rfl, rfl⟩ := hq
 have w1 : IntKind.i64.wrap (l.length : Int) = l.length := ud _ (by omega) (by omega)
 simp -implicitDefEqProofs [zN, w1]
 obtain ⟨q1, q2, q3, _⟩ := Zau vJ (l.length + 1) (l ++ [x]) (l.length + 1) l.length (by simp) (by omega) (by omega) (ZhR x hh)
 refine ZJ rfl rfl rfl Zbr (by exact Zb1 p1 l.length (by simp)) fun p S3 hq => ?_
 obtain ⟨o3, p3⟩ := hq
 refine hK _ _ ⟨_, _, rfl, ⟨uk _ _ _, _, HH.cut ⟨p3, ?_⟩, q2.trans (List.perm_append_comm (l₁ := l) (l₂ := [x]))⟩, ul (o1.trans o3).offd⟩
 rw [q3]; simpa using q1
theorem ZhW {S : Store} {hid hv rid mid mv : Nat} {l : zB Int} (h : HH S hid hv rid mid mv l) (i : Nat) (hi : i < l.length) :
  PCalls Tryz.prog 284 [hI hid hv, zN i] S (fun p S' => p = .ifc 332 (.agg (zY (zv l i))) ∧ Off S [hid, rid, mid] S' ∧ ∃ l', HH S' hid hv rid mid mv l' ∧ (zv l i :: l').Perm l) := by
 obtain ⟨hp, hh⟩ := h
 have hlen := hp.len
 obtain ⟨n, hn⟩ : ∃ n, n + 1 = l.length := ⟨l.length - 1, by omega⟩
 refine xU Tryz.func284 rfl Tryz.ntmps284 (congrArg Array.toList Tryz.results284) (by simp) ?_
 refine za (qg (by rfl) (by simp; rfl) (za (yK [] (by rfl) fun K hK => ?_)))
 simp -implicitDefEqProofs
 refine ue rfl rfl rfl ZbZ Zbs (by exact Zb0 hp) fun p S2 hq => ?_
 obtain ⟨rfl, rfl⟩ := hq
 have w1 : IntKind.i64.wrap ((l.length : Int) - 1) = n := by rw [ud _ (by omega) (by omega)]; omega
 simp -implicitDefEqProofs [zN, w1]
 refine hK _ _ ?_
 clear hK
 refine za (Qo (Q := fun e F' T' => e = .normal ∧ F' 0 = hI hid hv ∧ Off S2 [hid, rid, mid] T' ∧ ∃ l3 : zB Int, HP T' hid hv rid mid mv l3 ∧ vu yN l3 n ∧ l3.Perm l ∧ l3.length = l.length ∧ zv l3 n = zv l i) ?_ ?_)
 ·refine za (qg (by rfl) (by simp [zN]; rfl) ?_)
  by_cases hc : n = i
  ·refine zr rfl (fun q => by simp [hc] at q) (fun _ => zh ⟨rfl, rfl, fun _ _ => rfl, l, hp, fun k k0 kn => hh k k0 (by omega), .refl _, rfl, by rw [hc]⟩)
  ·have hc' : ¬ (n : Int) = i := by omega
   refine zr rfl (fun _ => ?_) (fun q => by simp [hc'] at q)
   refine za (yK [] (by rfl) fun K hK => ?_)
   simp -implicitDefEqProofs [zN]
   refine ue rfl rfl rfl WM WB (by exact WO hp i n (by omega) (by omega)) fun p S3 hq => ?_
   obtain ⟨o3, p3⟩ := hq
   refine hK _ _ ?_
   clear hK
   have inv := ZhS vJ i n (by omega) hn hh
   have hsl := wZ l i n
   obtain ⟨s1, s2, s3, s4⟩ := ZhQ vJ (swp l i n) i n (by omega) (by omega) inv
   have hlast : zv (um yN (swp l i n) i n) n = zv l i := by rw [s4 n (Nat.le_refl _), Qi l i n n hi (by omega), if_pos rfl]
   refine za (yK [] (by rfl) fun K hK => ?_)
   simp -implicitDefEqProofs [zN]
   refine ZJ rfl rfl rfl Zg2 (by exact ZhP p3 i n (by omega) (by omega)) fun p S4 hq => ?_
   obtain ⟨rfl, o4, p4⟩ := hq
   simp -implicitDefEqProofs [xD]
   refine hK _ _ ?_
   clear hK
   by_cases hm : i < (yY yN n (swp l i n) i n).2
   ·refine zr rfl (fun q => by simp at q; omega) (fun _ => zh ⟨rfl, rfl, o3.trans o4, um yN (swp l i n) i n, ?_, s1, s2.trans (Jh l _ _ hi (by omega)), s3.trans hsl, hlast⟩)
    unfold um; rw [if_pos hm]; exact p4
   ·refine zr rfl (fun _ => ?_) (fun q => by simp at q; omega)
    refine yK [] (by rfl) fun K hK => ?_
    simp -implicitDefEqProofs [zN]
    have hdl : (yY yN n (swp l i n) i n).1.length = l.length := ((Zaw vJ n (swp l i n) n i (by omega) (by omega) (by omega) inv).2.1).trans hsl
    refine ZJ rfl rfl rfl Zbr (by exact Zb1 p4 i (by omega)) fun p S5 hq => ?_
    obtain ⟨o5, p5⟩ := hq
    refine hK _ _ ⟨rfl, rfl, (o3.trans o4).trans o5, um yN (swp l i n) i n, ?_, s1, s2.trans (Jh l _ _ hi (by omega)), s3.trans hsl, hlast⟩
    unfold um; rw [if_neg hm]; exact p5
 ·rintro e F T ⟨rfl, f0, hoff, l3, p3, h3, pm, hl3, hx⟩
  have hsp := ZhU l3 n (by omega)
  rw [hx] at hsp
  rw [hsp] at p3 pm
  refine za (yK [] (by rfl) fun K hK => ?_)
  simp -implicitDefEqProofs [f0]
  refine ue rfl rfl rfl ZhL Zg3 (by exact ZhN _ p3) fun p S4 hq => ?_
  obtain ⟨rfl, o4, p4⟩ := hq
  have hheap : vu yN (l3.take n) (l3.take n).length := by
   have e : (l3.take n).length = n := by simp; omega
   rw [e]; exact ZhT n h3
  refine hK _ _ (zg ⟨_, _, rfl, ⟨rfl, uk _ _ _, _, HH.cut ⟨p4, hheap⟩, ?_⟩, ul (hoff.trans o4).offd⟩)
  exact (List.perm_append_comm (l₁ := [zv l i]) (l₂ := l3.take n)).trans pm
open Go Hp
abbrev xk (a b : Int × Int) : Bool := il yN a b
def wx (r : zB Int) : Prop := r.Pairwise (fun a b => xk a b = true)
def un (x : Int × Int) : zB Int → zB Int
 | [] => [x]
 | y :: r => if xk x y = true then x :: y :: r else y :: un x r
def uQ (id : Int) (r : zB Int) : zB Int := r.filter fun x => decide (x.1 ≠ id)
def js (id : Int) (r : zB Int) : Bool := r.any fun x => decide (x.1 = id)
theorem QM (x : Int × Int) : ∀ r, (un x r).Perm (x :: r)
 | [] => .refl _
 | y :: r => by
  unfold un
  split
  ·exact .refl _
  ·exact ((QM x r).cons y).trans (.swap x y r)
theorem ZhX {a b c : Int × Int} (h1 : xk a b = true) (h2 : xk b c = true) : xk a c = true := (uF vJ).tr _ _ _ h1 h2
theorem ZhY {a b : Int × Int} (h : xk a b = false) (hne : a.1 ≠ b.1) : xk b a = true := by
 cases hq : xk b a with
 | true => rfl
 | false => exact absurd (congrArg Prod.fst ((uF vJ).tot _ _ h hq)) hne
theorem Zb2 (x : Int × Int) : ∀ r, wx r → (∀ y ∈ r, y.1 ≠ x.1) → wx (un x r)
 | [], _, _ => by simp [un, wx]
 | y :: r, h, hx => by
  unfold un
  have h' := List.pairwise_cons.1 h
  split
  ·rename_i hl
   refine List.pairwise_cons.2 ⟨fun z hz => ?_, h⟩
   rcases List.mem_cons.1 hz with rfl | hz
   ·exact hl
   ·exact ZhX hl (h'.1 z hz)
  ·rename_i hl
   have hl' : xk x y = false := by simpa using hl
   refine List.pairwise_cons.2 ⟨fun z hz => ?_, Zb2 x r h'.2 fun z hz => hx z (List.mem_cons_of_mem _ hz)⟩
   rcases List.mem_cons.1 ((QM x r).subset hz) with rfl | hz
   ·exact ZhY hl' (Ne.symm (hx y (by simp)))
   ·exact h'.1 z hz
theorem ZhZ (id : Int) (r : zB Int) (h : wx r) : wx (uQ id r) := List.Pairwise.filter _ h
def HM (S : Store) (hid hv rid mid mv : Nat) (r : zB Int) : Prop := ∃ l, HH S hid hv rid mid mv l ∧ l.Perm r ∧ wx r
theorem HM.cut {S T : Store} {hid hv rid mid mv : Nat} {r : zB Int} (h : HM T hid hv rid mid mv r) : HM (cut S [hid, rid, mid] T) hid hv rid mid mv r := by obtain ⟨l, h, k⟩ := h; exact ⟨l, h.cut, k⟩
theorem HM.len {S : Store} {hid hv rid mid mv : Nat} {r : zB Int} (h : HM S hid hv rid mid mv r) : r.length ≤ 2147483648 := by obtain ⟨l, h, k, _⟩ := h; rw [← k.length_eq]; exact h.1.len
theorem WP {l : zB Int} {i : Nat} (hi : i < l.length) : zv l i ∈ l := by
 have : zv l i = l[i] := by unfold zv; simp [hi]
 rw [this]; exact List.getElem_mem hi
theorem WQ {l : zB Int} {x : Int × Int} (h : x ∈ l) : ∃ i, i < l.length ∧ zv l i = x := by
 obtain ⟨i, hi, rfl⟩ := List.getElem_of_mem h
 exact ⟨i, hi, by unfold zv; simp [hi]⟩
theorem HS.look {S : Store} {hid hv rid mid mv : Nat} {l : zB Int} {g : Int → Option Nat} (h : HS S hid hv rid mid mv l g) (k : PosOk g l) (id : Int) : ∃ es res, S mid = .map mv es ∧ xh (.int .i64) (qp id) es 0 = some res ∧
  ((js id l = false ∧ Qv true (.int .i64 0) res = .tup [zN 0, .sc (.bool false)]) ∨ (js id l = true ∧ ∃ i, i < l.length ∧ (zv l i).1 = id ∧ Qv true (.int .i64 0) res = .tup [zN i, .sc (.bool true)])) := by
 obtain ⟨es, h3, h4⟩ := h.m
 obtain ⟨res, m1, m2, m3, _, _⟩ := h4.find (ZP .i64) id
 refine ⟨es, res, h3, m1, ?_⟩
 by_cases hi : ∃ i, i < l.length ∧ (zv l i).1 = id
 ·obtain ⟨i, hi, e⟩ := hi
  refine .inr ⟨?_, i, hi, e, ?_⟩
  ·simp only [js, List.any_eq_true]
   exact ⟨_, WP hi, by simpa using e⟩
  ·obtain ⟨j, rfl⟩ := m3 i (by rw [← e]; exact k.here i hi)
   rfl
 ·refine .inl ⟨?_, ?_⟩
  ·simp only [js, List.any_eq_false]
   intro x hx
   obtain ⟨i, hi', rfl⟩ := WQ hx
   simp; exact fun e => hi ⟨i, hi', e⟩
  ·have := m2 (k.gone id fun i hi' e => hi ⟨i, hi', e⟩)
   subst this; rfl
theorem WR {id : Int} {l r : zB Int} (h : l.Perm r) : js id l = js id r := by
 unfold js
 rw [Bool.eq_iff_iff, List.any_eq_true, List.any_eq_true]
 exact ⟨fun ⟨x, hx, e⟩ => ⟨x, h.subset hx, e⟩, fun ⟨x, hx, e⟩ => ⟨x, h.symm.subset hx, e⟩⟩
theorem Zh0 {S : Store} {hid hv rid mid mv : Nat} {r : zB Int} (h : HM S hid hv rid mid mv r) (id w : Int) (hn : r.length + 1 ≤ 2147483648) :
  PCalls Tryz.prog 263 [.ptr hid hv 0, zN id, zN w] S (fun p S' => p = xD (!js id r) ∧ Off S [hid, rid, mid] S' ∧ HM S' hid hv rid mid mv (bif js id r then r else un (id, w) r)) := by
 obtain ⟨l, ⟨hp, hh⟩, pm, hs⟩ := h
 have hp0 := hp
 obtain ⟨g, hS, hk⟩ := hp0
 obtain ⟨ver, h1, cs, h2, hR⟩ := hS.h
 obtain ⟨es, res, h3, h4, h5⟩ := hS.look hk id
 refine xU Tryz.func263 rfl Tryz.ntmps263 (congrArg Array.toList Tryz.results263) (by simp) ?_
 refine za (qg (by rfl) (by simp; rfl) (za (za (yK [] (by rfl) fun K hK => ?_))))
 simp -implicitDefEqProofs [h1]
 refine Yw rfl Tryz.underlying286 Tryz.underlying3 rfl rfl rfl h3 h4 (by simp; rfl) ?_
 rcases h5 with ⟨h5, h6⟩ | ⟨h5, i, hi, hid, h6⟩
 ·rw [h6]
  simp -implicitDefEqProofs
  refine hK _ _ ?_
  clear hK
  refine za (qg (by rfl) (by simp; rfl) (zr rfl (fun q => by simp at q) (fun _ => zh ?_)))
  refine za (yK [] (by rfl) fun K hK => ?_)
  simp -implicitDefEqProofs [zN]
  have hx : ∀ i, i < l.length → (zv l i).1 ≠ id := by
   intro i hi e
   have : js id l = true := by
    simp only [js, List.any_eq_true]; exact ⟨_, WP hi, by simpa using e⟩
   rw [h5] at this; cases this
  refine ZJ rfl rfl rfl ZgY (by exact ZhV ⟨hp, hh⟩ (id, w) hx (by rw [pm.length_eq]; exact hn)) fun p S3 hq => ?_
  obtain ⟨o3, l', hh', pm'⟩ := hq
  refine hK _ _ ?_
  clear hK
  refine za (qg (by rfl) (by simp; rfl) (zg ?_))
  rw [← WR pm, h5]
  refine ⟨_, _, rfl, ⟨rfl, uk _ _ _, HM.cut ⟨l', hh', pm'.trans (((List.Perm.cons _ pm)).trans (QM _ _).symm), Zb2 _ _ hs fun y hy e => ?_⟩⟩, ul o3.offd⟩
  obtain ⟨j, hj, rfl⟩ := WQ (pm.symm.subset hy)
  exact hx j hj e
 ·rw [h6]
  simp -implicitDefEqProofs
  refine hK _ _ ?_
  clear hK
  refine za (qg (by rfl) (by simp; rfl) (zr rfl (fun _ => ?_) (fun q => by simp at q)))
  refine za (qg (by rfl) (by simp; rfl) (zg ?_))
  rw [← WR pm, h5]
  exact ⟨_, _, rfl, ⟨rfl, fun _ _ => rfl, ⟨l, ⟨hp, hh⟩, pm, hs⟩⟩, fun o => .inl rfl⟩
open Go Hp
def Once (r : zB Int) : Prop := (r.map (·.1)).Nodup
theorem HP.once {S : Store} {hid hv rid mid mv : Nat} {l : zB Int} (h : HP S hid hv rid mid mv l) : Once l := by
 obtain ⟨g, _, k⟩ := h
 unfold Once
 refine List.pairwise_iff_getElem.2 fun i j hi hj hij e => ?_
 simp only [List.length_map] at hi hj
 simp only [List.getElem_map] at e
 have q : ∀ i (hi : i < l.length), zv l i = l[i] := fun i hi => by unfold zv; simp [hi]
 have := k.inj hi hj (by rw [q i hi, q j hj]; exact e)
 omega
theorem Once.perm {l r : zB Int} (h : l.Perm r) (k : Once l) : Once r := (List.Perm.nodup_iff (h.map fun x : Int × Int => x.1)).1 k
theorem HM.once {S : Store} {hid hv rid mid mv : Nat} {r : zB Int} (h : HM S hid hv rid mid mv r) : Once r := by
 obtain ⟨l, ⟨hp, _⟩, pm, _⟩ := h
 exact hp.once.perm pm
theorem Zb3 {x : Int × Int} {l : zB Int} (h : Once (x :: l)) : uQ x.1 (x :: l) = l := by
 unfold uQ
 rw [List.filter_cons, if_neg (by simp), List.filter_eq_self]
 intro y hy
 simp only [decide_eq_true_eq]
 intro e
 have := (List.nodup_cons.1 (show (x.1 :: l.map (·.1)).Nodup from h)).1
 exact this (List.mem_map.2 ⟨y, hy, e⟩)
theorem Zh1 {l r : zB Int} (id : Int) (h : l.Perm r) : (uQ id l).Perm (uQ id r) := h.filter _
theorem Zh2 {id : Int} {l : zB Int} (h : js id l = false) : uQ id l = l := by
 unfold uQ
 rw [List.filter_eq_self]
 intro y hy
 simp only [js, List.any_eq_false] at h
 simpa using h y hy
theorem Zh3 {S : Store} {hid hv rid mid mv : Nat} {r : zB Int} (h : HM S hid hv rid mid mv r) (id : Int) :
  PCalls Tryz.prog 276 [.ptr hid hv 0, zN id] S (fun p S' => p = xD (js id r) ∧ Off S [hid, rid, mid] S' ∧ HM S' hid hv rid mid mv (uQ id r)) := by
 have hM := h
 obtain ⟨l, ⟨hp, hh⟩, pm, hs⟩ := h
 have hp0 := hp
 obtain ⟨g, hS, hk⟩ := hp0
 obtain ⟨ver, h1, cs, h2, hR⟩ := hS.h
 obtain ⟨es, res, h3, h4, h5⟩ := hS.look hk id
 refine xU Tryz.func276 rfl Tryz.ntmps276 (congrArg Array.toList Tryz.results276) (by simp) ?_
 refine za (qg (by rfl) (by simp; rfl) (za (yK [] (by rfl) fun K hK => ?_)))
 simp -implicitDefEqProofs [h1]
 refine Yw rfl Tryz.underlying286 Tryz.underlying3 rfl rfl rfl h3 h4 (by simp; rfl) ?_
 rw [WR pm] at h5
 rcases h5 with ⟨h5, h6⟩ | ⟨h5, i, hi, hid, h6⟩
 ·rw [h6]
  simp -implicitDefEqProofs
  refine hK _ _ ?_
  clear hK
  refine za (za (qg (by rfl) (by simp; rfl) (zr rfl (fun _ => ?_) (fun q => by simp at q))))
  refine za (qg (by rfl) (by simp; rfl) (zg ?_))
  rw [h5, Zh2 h5]
  exact ⟨_, _, rfl, ⟨rfl, fun _ _ => rfl, hM⟩, fun o => .inl rfl⟩
 ·rw [h6]
  simp -implicitDefEqProofs [zN]
  refine hK _ _ ?_
  clear hK
  refine za (za (qg (by rfl) (by simp; rfl) (zr rfl (fun q => by simp at q) (fun _ => zh ?_))))
  refine za (yK [] (by rfl) fun K hK => ?_)
  simp -implicitDefEqProofs
  refine ZJ rfl rfl rfl Zg1 (by exact ZhW ⟨hp, hh⟩ i hi) fun p S3 hq => ?_
  obtain ⟨_, o3, l', hh', pm'⟩ := hq
  refine hK _ _ ?_
  clear hK
  refine za (qg (by rfl) (by simp; rfl) (zg ?_))
  rw [h5]
  have e1 : uQ id (zv l i :: l') = l' := by rw [← hid]; exact Zb3 (Once.perm pm'.symm hp.once)
  refine ⟨_, _, rfl, ⟨rfl, uk _ _ _, HM.cut ⟨l', hh', ?_, ZhZ id r hs⟩⟩, ul o3.offd⟩
  have := Zh1 id (pm'.trans pm)
  rw [e1] at this
  exact this
end Go.Proofs.YtcnbiofjmioaiaaGreat.Pv
namespace Go.Proofs.YtcnbiofjmioaiaaGreat.Hp
section
variable {α : Type} [DecidableEq α] [Inhabited α] {lt : α → α → Bool}
theorem Zh4 (hs : Str lt) {l : zB α} (h : vu lt l l.length) : ∀ k, k < l.length → il lt (zv l k) (zv l 0) = false := by
 intro k
 induction k using Nat.strongRecOn with
 | _ k ih =>
  intro hk
  rcases Nat.eq_zero_or_pos k with e | e
  ·subst e; exact (uF hs).irr _
  ·have := wK e
   exact Qj hs (h k e hk) (ih (zS k) this (by omega))
end
end Go.Proofs.YtcnbiofjmioaiaaGreat.Hp
namespace Go.Proofs.YtcnbiofjmioaiaaGreat.Pv
open Go Hp
theorem HM.root {S : Store} {hid hv rid mid mv : Nat} {x : Int × Int} {r : zB Int} {l : zB Int} (h : HH S hid hv rid mid mv l) (pm : l.Perm (x :: r)) (hs : wx (x :: r)) : zv l 0 = x := by
 have hl : 0 < l.length := by rw [pm.length_eq]; simp
 obtain ⟨k, hk, e⟩ := WQ (pm.symm.subset (List.mem_cons_self))
 have h1 := Zh4 vJ h.2 k hk
 rw [e] at h1
 rcases List.mem_cons.1 (pm.subset (WP hl)) with h2 | h2
 ·exact h2
 ·have := (List.pairwise_cons.1 hs).1 _ h2
  rw [show xk x (zv l 0) = false from h1] at this; cases this
def ZQ : zB Int → PV
 | [] => .tup [zN 0, zN 0, xD false]
 | x :: _ => .tup [zN x.1, zN x.2, xD true]
theorem Zh5 {S : Store} {hid hv rid mid mv : Nat} {r : zB Int} (h : HM S hid hv rid mid mv r) :
  PCalls Tryz.prog 275 [.ptr hid hv 0] S (fun p S' => p = ZQ r ∧ S' = S) := by
 obtain ⟨l, hh, pm, hs⟩ := h
 have hp := hh.1
 obtain ⟨g, hS, hk⟩ := hp
 obtain ⟨ver, h1, cs, h2, hR⟩ := hS.h
 refine xU Tryz.func275 rfl Tryz.ntmps275 (congrArg Array.toList Tryz.results275) (by simp) ?_
 refine za (qg (by rfl) (by simp; rfl) (za (za (yK [] (by rfl) fun K hK => ?_))))
 simp -implicitDefEqProofs [h1]
 refine hK _ _ ?_
 clear hK
 cases r with
 | nil =>
  have hl : l.length = 0 := by rw [pm.length_eq]; rfl
  refine zr rfl (fun _ => ?_) (fun q => by simp at q; exact absurd (List.eq_nil_of_length_eq_zero hl) q)
  refine za (qg (by rfl) (by simp; rfl) (za (qg (by rfl) (by simp; rfl) (zg ?_))))
  exact ⟨_, S, rfl, ⟨rfl, rfl⟩, fun o => .inl rfl⟩
 | cons x r =>
  have hl : 0 < l.length := by rw [pm.length_eq]; simp
  have hx := HM.root hh pm hs
  obtain ⟨tl, e1⟩ := hR.at 0 hl
  rw [hx] at e1
  simp at e1
  refine zr rfl (fun q => by simp at q; subst q; simp at hl) (fun _ => zh ?_)
  refine za (yK [] (by rfl) fun K hK => ?_)
  have hl' : 0 < l.length := hl
  simp -implicitDefEqProofs [h1, h2, hl', e1]
  refine ZM rfl (by simp; rfl) (by simp) fun a ha => ?_
  simp -implicitDefEqProofs
  refine hK _ _ ?_
  clear hK
  refine za (Zf9 mixed (by rfl) (by rfl) (by rfl) (by simp; rfl) (zg ?_))
  refine ⟨_, S, rfl, ⟨rfl, rfl⟩, fun o => ?_⟩
  by_cases e : o = a
  ·exact .inr (e ▸ ha)
  ·exact .inl (by rw [qK _ _ _ _ e])
theorem Zh6 {S : Store} {hid hv rid mid mv : Nat} {r : zB Int} (h : HM S hid hv rid mid mv r) :
  PCalls Tryz.prog 264 [.ptr hid hv 0] S (fun p S' => p = ZQ r ∧ Off S [hid, rid, mid] S' ∧ HM S' hid hv rid mid mv r.tail) := by
 refine xU Tryz.func264 rfl Tryz.ntmps264 (congrArg Array.toList Tryz.results264) (by simp) ?_
 refine za (qg (by rfl) (by simp; rfl) (za (yK [] (by rfl) fun K hK => ?_)))
 simp -implicitDefEqProofs
 refine ZJ rfl rfl rfl ZgZ (by exact Zh5 h) fun p S2 hq => ?_
 obtain ⟨rfl, rfl⟩ := hq
 cases r with
 | nil =>
  simp -implicitDefEqProofs [ZQ]
  refine hK _ _ ?_
  clear hK
  refine za (za (qg (by rfl) (by simp; rfl) (zr rfl (fun q => by simp at q) (fun _ => zh ?_))))
  refine za (qg (by rfl) (by simp; rfl) (zg ?_))
  exact ⟨_, S2, rfl, ⟨rfl, fun _ _ => rfl, h⟩, fun o => .inl rfl⟩
 | cons x r =>
  simp -implicitDefEqProofs [ZQ]
  refine hK _ _ ?_
  clear hK
  refine za (za (qg (by rfl) (by simp; rfl) (zr rfl (fun _ => ?_) (fun q => by simp at q))))
  refine yK [] (by rfl) fun K hK => ?_
  simp -implicitDefEqProofs
  refine ZJ rfl rfl rfl Zg0 (by exact Zh3 h x.1) fun p S3 hq => ?_
  obtain ⟨_, o3, h3⟩ := hq
  refine hK _ _ ?_
  clear hK
  refine za (qg (by rfl) (by simp; rfl) (zg ?_))
  rw [Zb3 h.once] at h3
  exact ⟨_, S3, rfl, ⟨rfl, o3, h3⟩, fun o => .inl rfl⟩
open Go Hp
theorem HM.congr {S T : Store} {hid hv rid mid mv : Nat} {r : zB Int} (h : HM S hid hv rid mid mv r) (e : ∀ o ∈ [hid, rid, mid], T o = S o) : HM T hid hv rid mid mv r := by
 obtain ⟨l, ⟨⟨g, h, k⟩, hh⟩, pm, hs⟩ := h
 exact ⟨l, ⟨⟨g, h.congr e, k⟩, hh⟩, pm, hs⟩
def HX (o : Ob × Ob × Ob) (a hv mv : Nat) (r : zB Int) : Prop := ∀ S : Store, S a = o.1 → S (a + 1) = o.2.1 → S (a + 2) = o.2.2 → HM S (a + 1) hv (a + 2) a mv r
def uo (obs : List Ob) (j : Nat) (o : Ob × Ob × Ob) : List Ob := ((obs.set j o.1).set (j + 1) o.2.1).set (j + 2) o.2.2
theorem HM.hx {S : Store} {a hv mv : Nat} {r : zB Int} (h : HM S (a + 1) hv (a + 2) a mv r) : HX (S a, S (a + 1), S (a + 2)) a hv mv r := by
 intro T h1 h2 h3
 refine h.congr fun o ho => ?_
 simp at ho
 rcases ho with rfl | rfl | rfl
 ·exact h2
 ·exact h3
 ·exact h1
theorem HX.hm {S : Store} {nx j hv mv : Nat} {obs : List Ob} {o : Ob × Ob × Ob} {r : zB Int} (h : HX o (nx + j) hv mv r) (h1 : obs[j]? = some o.1) (h2 : obs[j + 1]? = some o.2.1) (h3 : obs[j + 2]? = some o.2.2) : HM (ext S nx obs) (nx + j + 1) hv (nx + j + 2) (nx + j) mv r := by
 refine h _ ?_ ?_ ?_
 ·rw [yQ, List.getD_eq_getElem?_getD, h1]; rfl
 ·rw [Nat.add_assoc, yQ, List.getD_eq_getElem?_getD, h2]; rfl
 ·rw [Nat.add_assoc, yQ, List.getD_eq_getElem?_getD, h3]; rfl
theorem Zh7 {S T : Store} {nx j : Nat} {obs : List Ob} (h : Off (ext S nx obs) [nx + j + 1, nx + j + 2, nx + j] T) (hl : j + 2 < obs.length) : T = ext S nx (uo obs j (T (nx + j), T (nx + j + 1), T (nx + j + 2))) := by
 funext i
 by_cases h1 : i = nx + j
 ·subst h1
  rw [yQ, List.getD_eq_getElem?_getD, uo, List.getElem?_set_ne (by omega), List.getElem?_set_ne (by omega), List.getElem?_set_self (by omega)]; rfl
 by_cases h2 : i = nx + j + 1
 ·subst h2
  rw [Nat.add_assoc, yQ, List.getD_eq_getElem?_getD, uo, List.getElem?_set_ne (by omega), List.getElem?_set_self (by simp; omega)]; rfl
 by_cases h3 : i = nx + j + 2
 ·subst h3
  rw [Nat.add_assoc, yQ, List.getD_eq_getElem?_getD, uo, List.getElem?_set_self (by simp; omega)]; rfl
 rw [h i (by simp; omega)]
 simp only [ext]
 split
 ·rfl
 ·rw [List.getD_eq_getElem?_getD, List.getD_eq_getElem?_getD, uo, List.getElem?_set_ne (by omega), List.getElem?_set_ne (by omega), List.getElem?_set_ne (by omega)]
section
variable {S : Store} {nx j hv mv : Nat} {obs : List Ob} {o : Ob × Ob × Ob} {r : zB Int}
theorem Zb4 {f : FuncId} {args : List PV} {q : PV} {r' : zB Int} (he : qy Tryz.prog f) (hl : j + 2 < obs.length)
  (h : PCalls Tryz.prog f args (ext S nx obs) (fun p T => p = q ∧ Off (ext S nx obs) [nx + j + 1, nx + j + 2, nx + j] T ∧ HM T (nx + j + 1) hv (nx + j + 2) (nx + j) mv r')) :
  Spec Tryz.prog f args (ext S nx obs) (fun p T => p = q ∧ ∃ o', HX o' (nx + j) hv mv r' ∧ T = ext S nx (uo obs j o')) := by
 refine ⟨he, h.mono ?_⟩
 rintro p T ⟨h1, h2, h3⟩
 exact ⟨h1, _, h3.hx, Zh7 h2 hl⟩
variable (h : HX o (nx + j) hv mv r) (h1 : obs[j]? = some o.1) (h2 : obs[j + 1]? = some o.2.1) (h3 : obs[j + 2]? = some o.2.2)
include h h1 h2 h3
theorem Zb5 (id w : Int) (hn : r.length + 1 ≤ 2147483648) : Spec Tryz.prog 263 [.ptr (nx + j + 1) hv 0, I id, I w] (ext S nx obs) (fun p T => p = B (!js id r) ∧ ∃ o', HX o' (nx + j) hv mv (bif js id r then r else un (id, w) r) ∧ T = ext S nx (uo obs j o')) :=
 Zb4 ZgW (List.getElem?_eq_some_iff.1 h3).1 (Zh0 (h.hm h1 h2 h3) id w hn)
theorem Zh8 : Spec Tryz.prog 264 [.ptr (nx + j + 1) hv 0] (ext S nx obs) (fun p T => p = ZQ r ∧ ∃ o', HX o' (nx + j) hv mv r.tail ∧ T = ext S nx (uo obs j o')) :=
 Zb4 ZgX (List.getElem?_eq_some_iff.1 h3).1 (Zh6 (h.hm h1 h2 h3))
end
theorem Zh9 {S : Store} {nx : Nat} {obs : List Ob} : Spec Tryz.prog 261 [] (ext S nx obs) (fun p T => ∃ hv mv o, p = .ptr (nx + obs.length + 1) hv 0 ∧ HX o (nx + obs.length) hv mv [] ∧ T = ext S nx (obs ++ [o.1, o.2.1, o.2.2])) := by
 have hd := jO (S := S) (nx := nx) (obs := obs)
 have e : ∀ o : Ob × Ob × Ob, ext S nx (obs ++ [o.1, o.2.1, o.2.2]) = ext (ext S nx obs) (nx + obs.length) [o.1, o.2.1, o.2.2] := by
  intro o
  have p1 := jk (S := S) (nx := nx) (obs := obs) o.1
  have p2 := jk (S := S) (nx := nx) (obs := obs ++ [o.1]) o.2.1
  have p3 := jk (S := S) (nx := nx) (obs := obs ++ [o.1] ++ [o.2.1]) o.2.2
  have q0 := qk hd
  have q1 := jk (S := ext S nx obs) (nx := nx + obs.length) (obs := []) o.1
  have q2 := jk (S := ext S nx obs) (nx := nx + obs.length) (obs := [o.1]) o.2.1
  have q3 := jk (S := ext S nx obs) (nx := nx + obs.length) (obs := [o.1, o.2.1]) o.2.2
  simp only [List.length_append, List.length_cons, List.length_nil, List.append_assoc, List.cons_append, List.nil_append, Nat.add_zero, Nat.zero_add] at p1 p2 p3 q1 q2 q3
  rw [← p3, ← p2, ← p1, ← q3, ← q2, ← q1, q0]
  simp only [Nat.add_assoc]
 generalize ext S nx obs = S1 at *
 generalize nx + obs.length = m at *
 refine ui hd Tryz.func261 Tryz.ntmps261 Tryz.results261 ?_
 refine za (zb ?_)
 refine za (zb ?_)
 intro mv hv
 refine qQ 1 0 332 2 rfl rfl fun rv => ?_
 refine zg ⟨_, _, rfl, ⟨hv, mv, (.map mv [], .cells hv 327 [.sl (m + 2) rv 2 0 0, .mp m mv], .cells rv 332 []), rfl, ?_, (e _).symm⟩, fun o => .inl (by simp)⟩
 intro T h1 h2 h3
 refine ⟨[], ⟨⟨fun _ => none, ⟨⟨rv, h2, [], h3, [], rfl⟩, ⟨[], h1, ZbV _ _⟩, ⟨by omega, by omega, by omega⟩, by simp⟩, ⟨fun i hi => by simp at hi, fun _ _ => rfl⟩⟩, fun k k0 kn => by simp at kn⟩, .refl _, by simp [wx]⟩
open Go Hp
@[simp] theorem Zrt (a b c : Ob) (l : List Ob) (o : Ob × Ob × Ob) : uo (a :: b :: c :: l) 0 o = o.1 :: o.2.1 :: o.2.2 :: l := rfl
open Go Hp
instance : Enc (Int × Int) := ⟨fun x => [I x.1, I x.2], 2, fun _ => rfl, fun _ => rfl⟩
@[simp] theorem Zru (s : Int × Int) : Enc.enc s = [I s.1, I s.2] := rfl
@[simp high] theorem Zrv (l : zB Int) : (l.flatMap Enc.enc).length = l.length * 2 := jQ l
@[simp high] theorem Zrw (l : zB Int) : (l.flatMap Enc.enc).take (l.length * 2) = l.flatMap Enc.enc := uO l
open Go Hp
theorem HM.alive {S : Store} {nx hid hv rid mid mv : Nat} {r : zB Int} (h : HM S hid hv rid mid mv r) (hd : zW nx S) : ∀ o ∈ [hid, rid, mid], o < nx := by
 intro o ho
 have : S o ≠ .dead := by
  obtain ⟨l, ⟨⟨g, h, _⟩, _⟩, _⟩ := h
  obtain ⟨ver, h1, cs, h2, _⟩ := h.h
  obtain ⟨es, h3, _⟩ := h.m
  simp at ho
  rcases ho with rfl | rfl | rfl
  ·rw [h1]; simp
  ·rw [h2]; simp
  ·rw [h3]; simp
 exact Nat.lt_of_not_le fun q => this (hd o q)
theorem HM.old {S : Store} {nx hid hv rid mid mv : Nat} {obs : List Ob} {r : zB Int} (h : HM S hid hv rid mid mv r) (hd : zW nx S) : HM (ext S nx obs) hid hv rid mid mv r :=
 h.congr fun o ho => by have := h.alive hd o ho; simp [ext, this]
section
variable {S : Store} {nx hid hv rid mid mv : Nat} {obs : List Ob} {r : zB Int}
variable (h : HM S hid hv rid mid mv r) (hd : zW nx S)
include h hd
end
structure Deed where
 kind : Int
 id : Int
 w : Int
instance : Enc Deed := ⟨fun d => [I d.kind, I d.id, I d.w], 3, fun _ => rfl, fun _ => rfl⟩
@[simp] theorem Zrx (d : Deed) : Enc.enc d = [I d.kind, I d.id, I d.w] := rfl
@[simp high] theorem Zry (l : List Deed) : (l.flatMap Enc.enc).length = l.length * 3 := jQ l
@[simp high] theorem Zrz (l : List Deed) : (l.flatMap Enc.enc).take (l.length * 3) = l.flatMap Enc.enc := uO l
open Go Hp Go.Sort
def wP (a b : Int) : Int := if a < b then -1 else if b < a then 1 else 0
def xW (l : List Int) (i : Nat) : Int × Int := ((i : Int), l.getD i 0)
def xH (l : List Int) (i j : Fin l.length) : Int := if wP (l.getD i 0) (l.getD j 0) = 0 then wP (i.val : Int) j.val else wP (l.getD i 0) (l.getD j 0)
theorem QN (l : List Int) (i j : Fin l.length) : ltOf (xH l) i j = xk (xW l i) (xW l j) := by
 unfold ltOf xH wP xk il xW yN
 simp only
 generalize l.getD i.val 0 = a
 generalize l.getD j.val 0 = b
 by_cases h : a = b
 ·subst h
  have e1 : (if a < a then (-1 : Int) else if a < a then 1 else 0) = 0 := by rw [if_neg (by omega), if_neg (by omega)]
  rw [e1, if_pos rfl, if_pos rfl]
  by_cases h4 : (i.val : Int) < j.val
  ·rw [if_pos h4]; simp; omega
  ·rw [if_neg h4]
   by_cases h5 : (j.val : Int) < i.val
   ·rw [if_pos h5]; simp; omega
   ·rw [if_neg h5]; simp; omega
 ·rw [if_neg h]
  by_cases h2 : a < b
  ·have e1 : (if a < b then (-1 : Int) else if b < a then 1 else 0) = -1 := by rw [if_pos h2]
   rw [e1, if_neg (by decide)]; simp [h2]
  ·have e1 : (if a < b then (-1 : Int) else if b < a then 1 else 0) = 1 := by rw [if_neg h2, if_pos (by omega)]
   rw [e1, if_neg (by decide)]; simp [h2]
theorem Xb (l : List Int) : SWO (ltOf (xH l)) := by
 have H := uF vJ
 refine ⟨fun x => ?_, fun x y z h1 h2 => ?_, fun x y z h1 h2 => ?_⟩
 ·rw [QN]; exact H.irr _
 ·rw [QN] at *; exact H.tr _ _ _ h1 h2
 ·rw [QN] at *
  cases h : xk (xW l x) (xW l z) with
  | false => rfl
  | true =>
   exfalso
   cases h3 : xk (xW l y) (xW l x) with
   | true => have hh : xk (xW l y) (xW l z) = true := H.tr _ _ _ h3 h; rw [h2] at hh; cases hh
   | false =>
    have e := H.tot _ _ h1 h3
    rw [e, h2] at h; cases h
theorem Zb6 (l : List Int) : ∀ x y, ltOf (xH l) x y = false → ltOf (xH l) y x = false → x = y := by
 intro x y h1 h2
 rw [QN] at h1 h2
 have := (uF vJ).tot _ _ h1 h2
 have : (x.val : Int) = y.val := congrArg Prod.fst this
 exact Fin.ext (by omega)
def ZR (l : List Int) : List (Fin l.length) := (List.finRange l.length).mergeSort fun x y => !(ltOf (xH l)) y x
theorem WS (l : List Int) : (ZR l).Perm (List.finRange l.length) := List.mergeSort_perm _ _
theorem Zia (l : List Int) : ((ZR l).map fun i : Fin l.length => xW l i.val).Perm ((List.range l.length).map (xW l)) := by
 refine ((WS l).map _).trans ?_
 have e : (List.finRange l.length).map (fun i : Fin l.length => xW l i.val) = (List.range l.length).map (xW l) := by
  apply List.ext_getElem
  ·simp
  ·intro i h1 h2; simp
 rw [e]
theorem Zib (l : List Int) : (ZR l).Nodup := (WS l).nodup_iff.2 (List.nodup_finRange _)
theorem Zic (l : List Int) : wx ((ZR l).map fun i : Fin l.length => xW l i.val) := by
 have H := uF vJ
 have h1 : (ZR l).Pairwise fun a b => (!(ltOf (xH l)) b a) = true := by
  refine List.pairwise_mergeSort ?_ ?_ _
  ·intro a b c h1 h2
   simp only [Bool.not_eq_true'] at *
   exact (Xb l).ntrans c b a h2 h1
  ·intro a b
   simp only [Bool.or_eq_true, Bool.not_eq_true']
   cases h : ltOf (xH l) b a with
   | false => exact .inl rfl
   | true =>
    refine .inr ?_
    cases h2 : ltOf (xH l) a b with
    | false => rfl
    | true => have := (Xb l).trans _ _ _ h h2; rw [(Xb l).irrefl] at this; cases this
 have h2 := List.Pairwise.and h1 (Zib l)
 unfold wx
 refine List.Pairwise.map _ ?_ h2
 rintro a b ⟨h3, h4⟩
 have h3' : ltOf (xH l) b a = false := by simpa using h3
 rw [← QN]
 cases h : ltOf (xH l) a b with
 | true => rfl
 | false => exact absurd (Zb6 l a b h h3') h4
def wy (l : List Int) : List Int := (ZR l).map fun i => (i.val : Int)
theorem WT (l : List Int) : (wy l).length = l.length := by
 unfold wy; rw [List.length_map, (WS l).length_eq]; simp
theorem Zid {l : List Int} {z : Int} (h : z ∈ wy l) : 0 ≤ z ∧ z < l.length := by
 obtain ⟨i, _, rfl⟩ := List.mem_map.1 h
 have := i.isLt
 omega
end Go.Proofs.YtcnbiofjmioaiaaGreat.Pv
namespace Go.Proofs.YtcnbiofjmioaiaaGreat.Hp
section
variable {α : Type} {lt : α → α → Bool}
def Sd (lt : α → α → Bool) (l : List α) : Prop := l.Pairwise fun a b => lt a b = true
theorem Zie (rows : List (List α)) (i : Nat) (y : α) (tl : List α) (h : rows[i]? = some (y :: tl)) : rows.flatten.Perm (y :: (rows.set i tl).flatten) := by
 induction rows generalizing i with
 | nil => simp at h
 | cons r rows ih =>
  cases i with
  | zero =>
   simp at h; subst h
   simp
  | succ i =>
   simp only [List.getElem?_cons_succ] at h
   have := ih i h
   simp only [List.flatten_cons, List.set_cons_succ]
   exact (this.append_left r).trans List.perm_middle
theorem Zif (H : Str lt) {P : List α} (hP : Sd lt P) {rows : List (List α)} (hr : ∀ r ∈ rows, Sd lt r) {k : Nat} (hp : rows.flatten.Perm (P.drop k)) {i : Nat} {y : α} {tl : List α} (hi : rows[i]? = some (y :: tl))
  (hmin : ∀ (j : Nat) z tz, rows[j]? = some (z :: tz) → j ≠ i → lt y z = true) :
  P[k]? = some y ∧ (rows.set i tl).flatten.Perm (P.drop (k + 1)) ∧ ∀ r ∈ rows.set i tl, Sd lt r := by
 have hfs := Zie rows i y tl hi
 have hsi : Sd lt (y :: tl) := hr _ (List.mem_of_getElem? hi)
 -- y is the least of what is left
 have hle : ∀ z ∈ rows.flatten, z = y ∨ lt y z = true := by
  intro z hz
  obtain ⟨r, hrm, hzr⟩ := List.mem_flatten.1 hz
  obtain ⟨j, hj⟩ := List.mem_iff_getElem?.1 hrm
  by_cases e : j = i
  ·subst e
   rw [hi] at hj
   cases hj
   rcases List.mem_cons.1 hzr with e | e
   ·exact .inl e
   ·exact .inr ((List.pairwise_cons.1 hsi).1 z e)
  ·cases r with
   | nil => cases hzr
   | cons a ar =>
    have h1 := hmin j a ar hj e
    rcases List.mem_cons.1 hzr with e2 | e2
    ·exact .inr (e2 ▸ h1)
    ·exact .inr (H.tr _ _ _ h1 ((List.pairwise_cons.1 (hr _ hrm)).1 z e2))
 have hyP : y ∈ P.drop k := hp.subset (hfs.symm.subset List.mem_cons_self)
 cases hd : P.drop k with
 | nil => rw [hd] at hyP; cases hyP
 | cons x rest =>
  have hPd : Sd lt (x :: rest) := by rw [← hd]; exact List.Pairwise.sublist (List.drop_sublist k P) hP
  have hx : x = y := by
   rw [hd] at hyP
   rcases List.mem_cons.1 hyP with e | e
   ·exact e.symm
   ·have h1 := (List.pairwise_cons.1 hPd).1 y e
    rcases hle x (hp.symm.subset (by rw [hd]; exact List.mem_cons_self)) with h | h
    ·exact h
    ·have := H.tr _ _ _ h1 h; rw [H.irr] at this; cases this
  subst hx
  have hk : P[k]? = some x := by
   have : (P.drop k)[0]? = some x := by rw [hd]; rfl
   rwa [List.getElem?_drop, Nat.add_zero] at this
  have hd1 : P.drop (k + 1) = rest := by
   have : P.drop (k + 1) = (P.drop k).drop 1 := by rw [List.drop_drop]
   rw [this, hd]; rfl
  refine ⟨hk, ?_, fun r hrm => ?_⟩
  ·rw [hd1]
   rw [hd] at hp
   exact List.Perm.cons_inv (hfs.symm.trans hp)
  ·rcases List.mem_or_eq_of_mem_set hrm with h | h
   ·exact hr r h
   ·rw [h]; exact (List.pairwise_cons.1 hsi).2
theorem Zig {P : List α} {rows : List (List α)} {k : Nat} (hp : rows.flatten.Perm (P.drop k)) (hk : k ≤ P.length) (h0 : ∀ r ∈ rows, r = []) : k = P.length := by
 have : rows.flatten = [] := List.flatten_eq_nil_iff.2 h0
 rw [this] at hp
 have := hp.length_eq
 simp at this
 omega
theorem Zb7 (H : Str lt) : ∀ {a b : List α}, a.Perm b → Sd lt a → Sd lt b → a = b
 | [], b, h, _, _ => by rw [List.nil_perm.1 h]
 | x :: a, [], h, _, _ => by cases List.perm_nil.1 h
 | x :: a, y :: b, h, ha, hb => by
  have ha' := List.pairwise_cons.1 ha
  have hb' := List.pairwise_cons.1 hb
  have e : x = y := by
   rcases List.mem_cons.1 (h.subset (List.mem_cons_self)) with e | hx
   ·exact e
   ·rcases List.mem_cons.1 (h.symm.subset (List.mem_cons_self)) with e | hy
    ·exact e.symm
    ·have := H.tr _ _ _ (ha'.1 y hy) (hb'.1 x hx)
     rw [H.irr] at this; cases this
  subst e
  rw [Zb7 H (List.Perm.cons_inv h) ha'.2 hb'.2]
theorem Zih (H : Str lt) (l : List α) (hn : l.Nodup) : Sd lt (l.mergeSort fun x y => !lt y x) := by
 have h1 : (l.mergeSort fun x y => !lt y x).Pairwise fun a b => (!lt b a) = true := by
  refine List.pairwise_mergeSort ?_ ?_ _
  ·intro a b c h1 h2
   simp only [Bool.not_eq_true'] at *
   cases e : lt c a with
   | false => rfl
   | true =>
    exfalso
    cases e2 : lt b c with
    | true => have := H.tr _ _ _ e2 e; rw [h1] at this; cases this
    | false => have e3 := H.tot _ _ e2 h2; rw [← e3, h1] at e; cases e
  ·intro a b
   simp only [Bool.or_eq_true, Bool.not_eq_true']
   cases e : lt b a with
   | false => exact .inl rfl
   | true =>
    refine .inr ?_
    cases e2 : lt a b with
    | false => rfl
    | true => have := H.tr _ _ _ e e2; rw [H.irr] at this; cases this
 have h2 := List.Pairwise.and h1 ((List.mergeSort_perm l _).nodup_iff.2 hn)
 refine List.Pairwise.imp ?_ h2
 rintro a b ⟨h3, h4⟩
 cases e : lt a b with
 | true => rfl
 | false => exact absurd (H.tot _ _ e (by simpa using h3)) h4
end
end Go.Proofs.YtcnbiofjmioaiaaGreat.Hp
namespace Go.Proofs.YtcnbiofjmioaiaaGreat.Pv
open Go Hp
def j5 (x : Inst) (a b : Int) : Int := arc x (a + 1) 0 + arc x 0 (b + 1) - arc x (a + 1) (b + 1)
theorem Zb8 (x : Inst) : ∀ (l : List Int) (k u v : Int) (m : List Int), yV x k (l ++ u :: v :: m) = yV x k (l ++ [u]) + yV x 0 (v :: m) - j5 x u v
 | [], k, u, v, m => by
  have e : yV x 0 (v :: m) = arc x 0 (v + 1) + yV x (v + 1) m := rfl
  rw [e]
  simp only [List.nil_append, yV, j5]
  omega
 | y :: l, k, u, v, m => by
  simp only [List.cons_append, yV]
  rw [Zb8 x l (y + 1) u v m]
  have e : yV x 0 (v :: m) = arc x 0 (v + 1) + yV x (v + 1) m := rfl
  omega
theorem Zii (x : Inst) (all : List Int) (k : Nat) (u v : Int) (hu : all[k]? = some u) (hv : all[k + 1]? = some v) : zX x all = zX x (all.take (k + 1)) + zX x (all.drop (k + 1)) - j5 x u v := by
 have e1 : all.take (k + 1) = all.take k ++ [u] := by
  rw [List.take_add_one, hu]; rfl
 have e2 : all.drop (k + 1) = v :: all.drop (k + 2) := by
  obtain ⟨h, rfl⟩ := List.getElem?_eq_some_iff.1 hv
  exact List.drop_eq_getElem_cons h
 have e3 : all = all.take k ++ u :: v :: all.drop (k + 2) := by
  conv => lhs; rw [← List.take_append_drop (k + 1) all, e1, e2]
  simp
 have hw : ∀ l : List Int, l ≠ [] → zX x l = yV x 0 l := fun l h => by unfold zX; rw [if_neg h]
 rw [hw all (by rw [e3]; simp), hw (all.take (k + 1)) (by rw [e1]; simp), hw (all.drop (k + 1)) (by rw [e2]; simp)]
 conv => lhs; rw [e3, Zb8]
 rw [e1, e2]
structure Pr where
 a : Int
 b : Int
 s : Int
deriving DecidableEq
def xI (p q : Pr) : Bool := if p.s = q.s then (if p.a = q.a then decide (p.b < q.b) else decide (p.a < q.a)) else decide (q.s < p.s)
theorem WU : Str xI := by
 refine ⟨fun a => by simp [xI], fun a b c h1 h2 => ?_, fun a b h1 h2 => ?_⟩
 ·unfold xI at *
  split at h1 <;> split at h2 <;> split <;> (try split at h1) <;> (try split at h2) <;> (try split) <;> simp only [decide_eq_true_eq] at * <;> omega
 ·obtain ⟨a1, a2, a3⟩ := a
  obtain ⟨b1, b2, b3⟩ := b
  unfold xI at *
  simp only at *
  split at h1 <;> split at h2 <;> (try split at h1) <;> (try split at h2) <;> simp only [decide_eq_false_iff_not] at * <;> simp only [Pr.mk.injEq] <;> omega
def jd (x : Inst) (c : List Int) (a : Int) : List Pr := (c.filter fun b => decide (b ≠ a)).map fun b => ⟨a, b, j5 x a b⟩
def vi (x : Inst) (c : List Int) : List Pr := c.flatMap (jd x c)
def qA (x : Inst) (c : List Int) : List Pr := (vi x c).mergeSort fun p q => !xI q p
theorem QO {x : Inst} {c : List Int} {p : Pr} : p ∈ vi x c ↔ p.a ∈ c ∧ p.b ∈ c ∧ p.b ≠ p.a ∧ p.s = j5 x p.a p.b := by
 unfold vi jd
 simp only [List.mem_flatMap, List.mem_map, List.mem_filter, decide_eq_true_eq]
 constructor
 ·rintro ⟨a, ha, b, ⟨hb, hne⟩, rfl⟩; exact ⟨ha, hb, hne, rfl⟩
 ·rintro ⟨ha, hb, hne, hs⟩; exact ⟨p.a, ha, p.b, ⟨hb, hne⟩, by rw [← hs]⟩
theorem WV {x : Inst} {c : List Int} (h : c.Nodup) : (vi x c).Nodup := by
 unfold vi
 unfold List.Nodup
 rw [List.pairwise_flatMap]
 refine ⟨fun a ha => ?_, ?_⟩
 ·unfold jd
  refine List.Pairwise.map _ ?_ (List.Pairwise.filter _ h)
  intro u v huv e
  exact huv (congrArg Pr.b e)
 ·refine List.Pairwise.imp ?_ h
  intro a b hab
  intro p hp q hq e
  subst e
  unfold jd at hp hq
  obtain ⟨u, _, rfl⟩ := List.mem_map.1 hp
  obtain ⟨v, _, e⟩ := List.mem_map.1 hq
  exact hab (congrArg Pr.a e).symm
theorem WX {x : Inst} {c : List Int} (h : c.Nodup) : Sd xI (qA x c) := Zih WU _ (WV h)
theorem ZS (x : Inst) (c : List Int) : (qA x c).Perm (vi x c) := List.mergeSort_perm _ _
theorem Zij {x : Inst} {c : List Int} (h : c.Nodup) : (qA x c).length = c.length * (c.length - 1) := by
 rw [(ZS x c).length_eq]
 unfold vi
 rw [List.length_flatMap]
 have : c.map (fun a => (jd x c a).length) = c.map fun _ => c.length - 1 := by
  refine List.map_congr_left fun a ha => ?_
  unfold jd
  rw [List.length_map]
  have := List.Nodup.erase_eq_filter h a
  have h2 := List.length_erase_of_mem ha
  rw [this] at h2
  rw [← h2]
  congr 1
  refine List.filter_congr fun b _ => ?_
  by_cases e : b = a <;> simp [e]
 rw [this, List.map_const', List.sum_replicate_nat]
theorem Zik {x : Inst} {c : List Int} (h : c.Nodup) {l : List Pr} (hp : l.Perm (vi x c)) (hs : Sd xI l) : l = qA x c :=
 Zb7 WU (hp.trans (ZS x c).symm) hs (WX h)
theorem Zil {x : Inst} {c d : List Int} (hc : c.Nodup) (hd : d.Nodup) (h : c.Perm d) : (vi x c).Perm (vi x d) := by
 refine (List.perm_ext_iff_of_nodup (WV hc) (WV hd)).2 fun p => ?_
 rw [QO, QO, h.mem_iff, h.mem_iff]
theorem Zim {x : Inst} {c d : List Int} (hc : c.Nodup) (hd : d.Nodup) (h : c.Perm d) : qA x c = qA x d :=
 Zik hd ((ZS x c).trans (Zil hc hd h)) (WX hc)
open Go Hp
def yL : Nat → List (List Pr) → zB Int
 | _, [] => []
 | i, [] :: rows => yL (i + 1) rows
 | i, (p :: _) :: rows => ((i : Int), -p.s) :: yL (i + 1) rows
theorem YN : ∀ (rows : List (List Pr)) (i : Nat) (x : Int × Int), x ∈ yL i rows ↔ ∃ (k : Nat) (p : Pr) (tl : List Pr), rows[k]? = some (p :: tl) ∧ x = (((i + k : Nat) : Int), -p.s)
 | [], i, x => by simp [yL]
 | [] :: rows, i, x => by
  rw [yL, YN rows (i + 1) x]
  constructor
  ·rintro ⟨k, p, tl, h, rfl⟩
   exact ⟨k + 1, p, tl, by simpa using h, by rw [show i + 1 + k = i + (k + 1) by omega]⟩
  ·rintro ⟨k, p, tl, h, rfl⟩
   match k with
   | 0 => simp at h
   | k + 1 => exact ⟨k, p, tl, by simpa using h, by rw [show i + 1 + k = i + (k + 1) by omega]⟩
 | (q :: ql) :: rows, i, x => by
  rw [yL, List.mem_cons, YN rows (i + 1) x]
  constructor
  ·rintro (rfl | ⟨k, p, tl, h, rfl⟩)
   ·exact ⟨0, q, ql, rfl, rfl⟩
   ·exact ⟨k + 1, p, tl, by simpa using h, by rw [show i + 1 + k = i + (k + 1) by omega]⟩
  ·rintro ⟨k, p, tl, h, rfl⟩
   match k with
   | 0 => simp at h; obtain ⟨rfl, rfl⟩ := h; exact .inl rfl
   | k + 1 => exact .inr ⟨k, p, tl, by simpa using h, by rw [show i + 1 + k = i + (k + 1) by omega]⟩
theorem Xc : ∀ (rows : List (List Pr)) (i k : Nat) (p : Pr) (tl : List Pr), k < rows.length → (yL i (rows.set k (p :: tl))).Perm ((((i + k : Nat) : Int), -p.s) :: yL i (rows.set k []))
 | [], _, _, _, _, h => by simp at h
 | r :: rows, i, 0, p, tl, _ => by simp [yL]
 | [] :: rows, i, k + 1, p, tl, h => by
  have := Xc rows (i + 1) k p tl (by simpa using h)
  simp only [List.set_cons_succ, yL]
  rwa [show i + 1 + k = i + (k + 1) by omega] at this
 | (q :: ql) :: rows, i, k + 1, p, tl, h => by
  have := Xc rows (i + 1) k p tl (by simpa using h)
  simp only [List.set_cons_succ, yL]
  rw [show i + 1 + k = i + (k + 1) by omega] at this
  exact (this.cons _).trans (.swap _ _ _)
theorem Zin {rows : List (List Pr)} {k : Nat} {p : Pr} {tl : List Pr} (h : rows[k]? = some (p :: tl)) : (yL 0 rows).Perm ((((k : Nat) : Int), -p.s) :: yL 0 (rows.set k [])) := by
 obtain ⟨hk, e⟩ := List.getElem?_eq_some_iff.1 h
 have := Xc rows 0 k p tl hk
 rwa [Nat.zero_add, ← e, List.set_getElem_self] at this
theorem Xd : ∀ (rows : List (List Pr)) (i : Nat), (yL i rows).length ≤ rows.length
 | [], _ => by simp [yL]
 | [] :: rows, i => by have := Xd rows (i + 1); simp only [yL, List.length_cons]; omega
 | (q :: ql) :: rows, i => by have := Xd rows (i + 1); simp only [yL, List.length_cons]; omega
structure Rows' (c : List Int) (rows : List (List Pr)) : Prop where
 len : rows.length = c.length
 a : ∀ (i : Nat) r, rows[i]? = some r → ∀ p ∈ r, c[i]? = some p.a
theorem Zio {c : List Int} (hc : c.Pairwise (· < ·)) {rows : List (List Pr)} (hr : Rows' c rows) {x : Int × Int} {r : zB Int} (hs : wx (x :: r)) (hp : (yL 0 rows).Perm (x :: r)) :
  ∃ (i : Nat) (y : Pr) (tl : List Pr), x = ((i : Int), -y.s) ∧ rows[i]? = some (y :: tl) ∧ r.Perm (yL 0 (rows.set i [])) ∧ ∀ (j : Nat) z tz, rows[j]? = some (z :: tz) → j ≠ i → xI y z = true := by
 obtain ⟨i, y, tl, hi, ex⟩ := (YN rows 0 x).1 (hp.symm.subset List.mem_cons_self)
 rw [Nat.zero_add] at ex
 subst ex
 refine ⟨i, y, tl, rfl, hi, (List.Perm.cons_inv ((Zin hi).symm.trans hp)).symm, fun j z tz hj hne => ?_⟩
 have hz : (((j : Nat) : Int), -z.s) ∈ yL 0 rows := (YN rows 0 _).2 ⟨j, z, tz, hj, by rw [Nat.zero_add]⟩
 rcases List.mem_cons.1 (hp.subset hz) with e | e
 ·have : (j : Int) = i := congrArg Prod.fst e
  exact absurd (by omega) hne
 ·have h1 := (List.pairwise_cons.1 hs).1 _ e
  have ay := hr.a i _ hi y (by simp)
  have az := hr.a j _ hj z (by simp)
  unfold xk il yN at h1
  simp only at h1
  unfold xI
  by_cases e2 : -y.s = -z.s
  ·rw [if_pos e2] at h1
   rw [if_pos (by omega)]
   have hij : i < j := by simp at h1; omega
   obtain ⟨k1, e3⟩ := List.getElem?_eq_some_iff.1 ay
   obtain ⟨k2, e4⟩ := List.getElem?_eq_some_iff.1 az
   have := List.pairwise_iff_getElem.1 hc i j k1 k2 hij
   rw [e3, e4] at this
   rw [if_neg (by omega)]
   simpa using this
  ·rw [if_neg e2] at h1
   rw [if_neg (by omega)]
   simp at h1
   simp; omega
open Go Hp
def qq (l : List Pr) : List Int := l.map fun p => -p.s
def wz (l : List Pr) (i : Int) : Pr := l.getD i.toNat ⟨0, 0, 0⟩
def xl (x : Inst) (c : List Int) (a : Int) : List Pr := (wy (qq (jd x c a))).map (wz (jd x c a))
theorem Zip (l : List Int) : (wy l).Perm ((List.range l.length).map fun i : Nat => (i : Int)) := by
 have h := (Zia l).map (·.1)
 rw [List.map_map, List.map_map] at h
 exact h
theorem Ziq (l : List Pr) : ((wy (qq l)).map (wz l)).Perm l := by
 refine ((Zip _).map _).trans ?_
 have : ((List.range (qq l).length).map fun i : Nat => (i : Int)).map (wz l) = l := by
  rw [List.map_map]
  apply List.ext_getElem
  ·simp [qq]
  ·intro i h1 h2
   simp [wz, List.getD_eq_getElem?_getD, h2]
 rw [this]
theorem Zir {l : List Pr} (h : ∀ (i j : Nat) p q, i < j → l[i]? = some p → l[j]? = some q → p.a = q.a ∧ p.b < q.b) : Sd xI ((wy (qq l)).map (wz l)) := by
 have hs := Zic (qq l)
 unfold wy
 rw [List.map_map]
 unfold wx at hs
 rw [List.pairwise_map] at hs
 unfold Sd
 rw [List.pairwise_map]
 refine List.Pairwise.imp ?_ hs
 intro i j hij
 have hn : (qq l).length = l.length := by simp [qq]
 have hi : i.val < l.length := by have := i.isLt; omega
 have hj : j.val < l.length := by have := j.isLt; omega
 have gi : l[i.val]? = some l[i.val] := List.getElem?_eq_getElem hi
 have gj : l[j.val]? = some l[j.val] := List.getElem?_eq_getElem hj
 have wi : (qq l).getD i.val 0 = -(l[i.val]).s := by simp [qq, List.getD_eq_getElem?_getD, hi]
 have wj : (qq l).getD j.val 0 = -(l[j.val]).s := by simp [qq, List.getD_eq_getElem?_getD, hj]
 have pi : wz l (i.val : Int) = l[i.val] := by simp [wz, List.getD_eq_getElem?_getD, hi]
 have pj : wz l (j.val : Int) = l[j.val] := by simp [wz, List.getD_eq_getElem?_getD, hj]
 simp only [Function.comp, pi, pj]
 unfold xk il xW yN at hij
 rw [wi, wj] at hij
 simp only at hij
 generalize l[i.val] = p at *
 generalize l[j.val] = q at *
 unfold xI
 by_cases e : -p.s = -q.s
 ·rw [if_pos e] at hij
  have hlt : i.val < j.val := by simp at hij; omega
  obtain ⟨h1, h2⟩ := h i.val j.val p q hlt gi gj
  rw [if_pos (by omega), if_pos h1]
  simpa using h2
 ·rw [if_neg e] at hij
  rw [if_neg (by omega)]
  simp at hij
  simp; omega
theorem Zis {x : Inst} {c : List Int} (hc : c.Pairwise (· < ·)) (a : Int) : ∀ (i j : Nat) p q, i < j → (jd x c a)[i]? = some p → (jd x c a)[j]? = some q → p.a = q.a ∧ p.b < q.b := by
 have h : (jd x c a).Pairwise fun p q => p.a = q.a ∧ p.b < q.b := by
  unfold jd
  rw [List.pairwise_map]
  exact List.Pairwise.imp (fun h => ⟨rfl, h⟩) (List.Pairwise.filter _ hc)
 intro i j p q hij hp hq
 obtain ⟨h1, rfl⟩ := List.getElem?_eq_some_iff.1 hp
 obtain ⟨h2, rfl⟩ := List.getElem?_eq_some_iff.1 hq
 exact List.pairwise_iff_getElem.1 h i j h1 h2 hij
theorem WY (x : Inst) (c : List Int) (a : Int) : (xl x c a).Perm (jd x c a) := Ziq _
theorem Zit {x : Inst} {c : List Int} (hc : c.Pairwise (· < ·)) (a : Int) : Sd xI (xl x c a) := Zir (Zis hc a)
theorem Ziu {x : Inst} {c : List Int} (hc : c.Pairwise (· < ·)) : Rows' c (c.map (xl x c)) ∧ (∀ r ∈ c.map (xl x c), Sd xI r) ∧ (c.map (xl x c)).flatten.Perm (qA x c) := by
 refine ⟨⟨by simp, fun i r hr p hp => ?_⟩, fun r hr => ?_, ?_⟩
 ·rw [List.getElem?_map] at hr
  obtain ⟨a, ha, rfl⟩ := Option.map_eq_some_iff.1 hr
  have := (WY x c a).subset hp
  unfold jd at this
  obtain ⟨b, _, rfl⟩ := List.mem_map.1 this
  exact ha
 ·obtain ⟨a, _, rfl⟩ := List.mem_map.1 hr
  exact Zit hc a
 ·refine List.Perm.trans ?_ (ZS x c).symm
  unfold vi
  rw [← List.flatMap_def]
  have main : ∀ l : List Int, (l.flatMap (xl x c)).Perm (l.flatMap (jd x c)) := by
   intro l
   induction l with
   | nil => exact .refl _
   | cons a l ih => simp only [List.flatMap_cons]; exact (WY x c a).append ih
  exact main c
theorem Ziv {x : Inst} {c : List Int} (hc : c.Pairwise (· < ·)) {rows : List (List Pr)} {k : Nat} (h1 : Rows' c rows) (h2 : ∀ r ∈ rows, Sd xI r) (h3 : rows.flatten.Perm ((qA x c).drop k)) {it : Int × Int} {r : zB Int} (hs : wx (it :: r)) (hp : (yL 0 rows).Perm (it :: r)) :
  ∃ (i : Nat) (y : Pr) (tl : List Pr), it = ((i : Int), -y.s) ∧ rows[i]? = some (y :: tl) ∧ r.Perm (yL 0 (rows.set i [])) ∧ (qA x c)[k]? = some y ∧ Rows' c (rows.set i tl) ∧ (∀ r ∈ rows.set i tl, Sd xI r) ∧ (rows.set i tl).flatten.Perm ((qA x c).drop (k + 1)) := by
 have hn : c.Nodup := List.Pairwise.imp (fun h e => by omega) hc
 obtain ⟨i, y, tl, e1, e2, e3, e4⟩ := Zio hc h1 hs hp
 obtain ⟨m1, m2, m3⟩ := Zif WU (WX hn) h2 h3 e2 e4
 refine ⟨i, y, tl, e1, e2, e3, m1, ⟨by rw [List.length_set]; exact h1.len, fun j r hr p hpr => ?_⟩, m3, m2⟩
 rw [List.getElem?_set] at hr
 split at hr
 ·rename_i e
  subst e
  split at hr
  ·cases hr
   exact h1.a i _ e2 p (List.mem_cons_of_mem _ hpr)
  ·cases hr
 ·exact h1.a j r hr p hpr
open Go Hp
instance : Inhabited Pr := ⟨⟨0, 0, 0⟩⟩
instance : Enc Pr := ⟨fun p => [I p.a, I p.b, I p.s], 3, fun _ => rfl, fun _ => rfl⟩
@[simp] theorem ZrA (p : Pr) : Enc.enc p = [I p.a, I p.b, I p.s] := rfl
@[simp high] theorem ZrB (l : List Pr) : (l.flatMap Enc.enc).length = l.length * 3 := jQ l
@[simp high] theorem ZrC (l : List Pr) : (l.flatMap Enc.enc).take (l.length * 3) = l.flatMap Enc.enc := uO l
def qH (x : Inst) : Prop := ∀ a b, 0 ≤ arc x a b ∧ arc x a b ≤ 2147483648
theorem WZ {x : Inst} (h : qH x) (a b : Int) : -2147483648 ≤ j5 x a b ∧ j5 x a b ≤ 4294967296 := by
 have h1 := h (a + 1) 0
 have h2 := h 0 (b + 1)
 have h3 := h (a + 1) (b + 1)
 unfold j5
 omega
theorem Ziw (x : Inst) (a b : Int) (hx : qH x) (ha : small a) (hb : small b) : Pure Tryz.prog 272 [.agg (zA x), I a, I b] (I (j5 x a b)) := by
 have w1 := vI ha
 have w2 := vI hb
 have h1 := hx (a + 1) 0
 have h2 := hx 0 (b + 1)
 have h3 := hx (a + 1) (b + 1)
 have w3 : IntKind.i64.wrap (arc x (a + 1) 0 + arc x 0 (b + 1)) = arc x (a + 1) 0 + arc x 0 (b + 1) := wr _ (by omega) (by omega)
 have w4 : IntKind.i64.wrap (arc x (a + 1) 0 + arc x 0 (b + 1) - arc x (a + 1) (b + 1)) = j5 x a b := wr _ (by omega) (by omega)
 refine zx Tryz.func272 Tryz.ntmps272 Tryz.results272 fun S nx hd => ?_
 refine za (zb ?_)
 intro v0
 refine za (zC none (Row.pures [0, 1, 2, 3, 4, 5, 6, 7, 8, 9, 10, 11, 12, 13, 14, 15, 16] .done) mixed (yi w1 w2 w3 w4) ?_)
 refine zI (wO _ _ _) (yi w1 w2 w3 w4) ?_
 refine zI (wO _ _ _) (yi w1 w2 w3 w4) ?_
 refine zI (wO _ _ _) (yi w1 w2 w3 w4) ?_
 exact zg (zk hd rfl rfl)
open Go
theorem Zb9 {vs : Array Value} (h : 2 = vs.size) : ∃ u v, vs = #[u, v] := by
 match vs, h with
 | ⟨[u, v]⟩, _ => exact ⟨u, v, rfl⟩
theorem Zix {C : Ctx} {S : Store} {w : World} {v : Value} (h : Rel C S w (.sc (.slice none 0 0)) v) : v = .slice none 0 0 := by cases h; rfl
theorem Ziy (n : Nat) (h0 : 0 < n) (hn : n ≤ 1048576) (S : Store) (nx : Nat) (hd : zW nx S) :
  Spec Tryz.prog 277 [.sc (.slice none 0 0), I n] S (fun p S' => ∃ v, p = .sl nx v 2 0 0 ∧ S' = S.set nx (.cells v 35 [])) := by
 refine ⟨qE Tryz.func277 (by rfl) rfl, ?_⟩
 intro C w vs hS hl hr
 obtain ⟨u, v, rfl⟩ := Zb9 hl
 obtain rfl := Zix (hr 0 _ u rfl rfl)
 obtain rfl := ZO (hr 1 _ v rfl rfl)
 obtain ⟨i0, hi0⟩ := Option.isSome_iff_exists.1 Wz
 have hz := z35
 have hc := Wy
 have hb := b35
 simp only [Program.zeroOf, Program.cellsOf, Program.bytesOf', hi0, Option.bind_some, Option.map_some, Option.getD_some, Option.some.injEq] at hz hc hb
 refine (Tryz.slices_Grow_stop i0 _ hi0 hz (by omega) n w h0 (by rw [hb]; omega) (by omega)).mono ?_
 rintro e w' ⟨rfl, rfl⟩
 have hfr : Fresh C S nx C.clock := .clock C (hd nx (Nat.le_refl _))
 obtain ⟨d1, d2⟩ := hS.drew
 obtain ⟨t1, t2⟩ := d1.object' hfr 35 ((#[] : Array Value) ++ Builtin.zeroCells (Value.agg #[.int .i64 0, .int .i64 0]).cells (0 + n - 0) ++ Builtin.zeroCells (Value.agg #[.int .i64 0, .int .i64 0]).cells (grownCap w (0 + n) 0 35 - (0 + n))) [] (by simp) (fun i v hi => by simp at hi) (fun i p v hp => by simp at hp)
 have hge := grownCap_ge w (0 + n) 0 35
 simp only [Nat.zero_add] at hge
 refine ⟨_, _, _, _, rfl, ⟨C.clock, rfl, rfl⟩, Qt C S w _ _ _ _ _ _ _ _ rfl (Nat.zero_le _) (Nat.zero_le _) (grownCap_le_maxLen w _ _ _ (by unfold maxLen; omega)) ?_, t1, d2.trans t2⟩
 simp only [Array.size_append, size_zeroCells]
 simp [Value.cells]
 omega
theorem Ziz (ls : List (List Stop)) (hls : ls.length ≤ 1048576) (h0 : 0 < ls.flatten.length) (hn : ls.flatten.length ≤ 1048576) : Pure Tryz.prog 265 [L ls] (L ls.flatten) := by
 refine zx Tryz.func265 Tryz.ntmps265 Tryz.results265 fun S nx hd => ?_
 refine za (zb ?_)
 refine za (zb ?_)
 repeat apply za
 refine zb ?_
 refine zj (zG (fun s : Nat × Nat => s.1 ≤ ls.length ∧ s.2 = (ls.take s.1).flatten.length) (fun (k, n) => [(0, L ls), (3, I (n : Int)), (9, L ls), (10, I ls.length), (11, I k)]) (fun _ => []) (fun s => ls.length - s.1) (0, 0) [] ⟨by simp, by simp⟩ (by simp) (by simp) ?_)
 rintro ⟨k, n⟩ ⟨hk, ho⟩
 simp only at hk ho ⊢
 refine za (zb ?_)
 refine za (zr rfl (fun hc => ?_) (fun hc => ?_))
 ·simp at hc
  obtain ⟨t, tl, a1, a2, a3, e0⟩ := zE rfl ls k hc
  have hs1 : (ls.take (k + 1)).flatten.length = n + t.length := by rw [a3, ho]; simp
  have hs2 : (ls.take (k + 1)).flatten.length ≤ ls.flatten.length := by
   conv => rhs; rw [← List.take_append_drop (k + 1) ls, List.flatten_append, List.length_append]
   omega
  have w1 : IntKind.i64.wrap ((n : Int) + (t.length : Nat)) = (n : Int) + (t.length : Nat) := wr _ (by omega) (by omega)
  have w2 : ¬ ((n : Int) + (t.length : Nat) < 0) := by omega
  refine zh (za (zj (za (ze [] (zm e0 hc) ?_))))
  refine za (ze [] w1 ?_)
  refine za (ze [] w2 ?_)
  refine zn rfl (zh (zb ?_))
  exact zp (k + 1, n + t.length) [] ⟨hc, hs1.symm⟩ (by simp; omega) (by simp [zt k (by omega)]) rfl (by simp)
 ·simp at hc
  obtain rfl : k = ls.length := by omega
  rw [List.take_length] at ho
  rw [← ho] at h0
  have hn' : n ≤ 1048576 := by omega
  clear ho
  refine zy (za (zV [] (by rfl) (by rfl) fun K Gc Gh hK hGc hGh X hX0 hX => ?_))
  simp -implicitDefEqProofs [hX0, hX]
  try clear hX0 hX X
  refine hGc _ _ _ _ _ _ _ fun hsuf => ((Ziy n h0 hn' _ _ jO).mono ?_).v
  rintro _ _ ⟨v1, rfl, rfl⟩
  refine ⟨_, _, jk _, ?_⟩
  clear hGc hGh
  clear Gc Gh
  refine zR hsuf (D := []) (by rfl) fun Gc Gh hGc hGh X hX0 hX => ?_
  simp -implicitDefEqProofs [hX0, hX]
  clear hX0 hX X
  refine hK _ _ _ ?_
  clear hK hGc hGh
  clear K Gc Gh
  repeat apply za
  refine zb ?_
  refine zj (zG (fun s : Nat × List Stop × Nat => s.1 ≤ ls.length ∧ s.2.1 = (ls.take s.1).flatten) (fun (k, out, v) => [(6, .sl nx v 2 0 out.length), (25, L ls), (26, I ls.length), (27, I k)]) (fun (k, out, v) => [.cells v 35 (out.flatMap Enc.enc)]) (fun s => ls.length - s.1) (0, [], v1) [] ⟨by simp, by simp⟩ (by simp) (by simp) ?_)
  rintro ⟨k, out, v⟩ ⟨hk, ho⟩
  simp only at hk ho ⊢
  refine za (zb ?_)
  refine za (zr rfl (fun hc => ?_) (fun hc => ?_))
  ·simp at hc
   obtain ⟨t, tl, a1, a2, a3, e0⟩ := zE rfl ls k hc
   have hs1 : (ls.take (k + 1)).flatten = out ++ t := by rw [a3, ho]; simp
   have hs2 : (ls.take (k + 1)).flatten.length ≤ ls.flatten.length := by
    conv => rhs; rw [← List.take_append_drop (k + 1) ls, List.flatten_append, List.length_append]
    omega
   rw [hs1] at hs2
   simp only [List.length_append] at hs2
   refine zh (za (zj (za (ze [] (zm e0 hc) ?_))))
   refine zb ?_
   refine ⟨by omega, ?_⟩
   refine zb ?_
   exact zp (k + 1, out ++ t, v + 1) [] ⟨hc, hs1.symm⟩ (by simp; omega) (by simp [zt k (by omega)]) rfl (by simp)
  ·simp at hc
   obtain rfl : k = ls.length := by omega
   rw [List.take_length] at ho
   refine zy (yc 0 rfl ?_)
   refine za (zb ?_)
   exact zg (zk hd (by simp; rfl) (by simp [zq, ho]))
open Go Hp
def vj (T : zi) (c : Int) : Nat := T.findIdx fun t => t.any fun s => decide (s.c = c)
def uR (a : zD) : Option Int := a[a.length - 1]?.map (·.c)
def Zi (b : zD) : Option Int := b[0]?.map (·.c)
def y8 (x : Inst) (num : Int) (p : Pr) (i k : Nat) (a b : zD) : Bool :=
 decide (i ≠ k) && decide (uR a = some p.a) && decide (Zi b = some p.b) && !(decide (p.s ≤ 0) && decide (num ≤ x.veh)) && decide (zJ x (a ++ b) = 0)
def YO (x : Inst) (st : zi × Int) (p : Pr) (i k : Nat) : zi × Int :=
 bif y8 x st.2 p i k (st.1.getD i []) (st.1.getD k []) then ((st.1.set i (st.1.getD i [] ++ st.1.getD k [])).set k [], st.2 - 1) else st
def qw (x : Inst) (st : zi × Int) (p : Pr) : zi × Int := YO x st p (vj st.1 p.a) (vj st.1 p.b)
def W0 (x : Inst) (ss : List Stop) : zi × Int := (qA x (ss.map (·.c))).foldl (qw x) (ss.map fun s => [s], (ss.length : Int))
def xJ (x : Inst) (ss : List Stop) : zi := (W0 x ss).1.filter fun t => !t.isEmpty
structure JI (ss : List Stop) (T : zi) (g : Int → Option Int) : Prop where
 len : T.length = ss.length
 perm : T.flatten.Perm ss
 g : ∀ (i : Nat) t s, T[i]? = some t → s ∈ t → g s.c = some (i : Int)
theorem JI.place {ss : List Stop} {T : zi} {g : Int → Option Int} (h : JI ss T g) {i : Nat} {t : zD} {s : Stop} (hi : T[i]? = some t) (hs : s ∈ t) : vj T s.c = i := by
 have hex : ∃ t ∈ T, (t.any fun s' => decide (s'.c = s.c)) = true := ⟨t, List.mem_of_getElem? hi, List.any_eq_true.2 ⟨s, hs, by simp⟩⟩
 have hlt : vj T s.c < T.length := List.findIdx_lt_length_of_exists hex
 have hq := List.findIdx_getElem (w := hlt)
 obtain ⟨s', h1, h2⟩ := List.any_eq_true.1 hq
 have h2' : s'.c = s.c := by simpa using h2
 have e1 := h.g (vj T s.c) _ s' (List.getElem?_eq_getElem hlt) h1
 have e2 := h.g i t s hi hs
 rw [h2', e2] at e1
 have := Option.some.inj e1
 omega
theorem JI.there {ss : List Stop} {T : zi} {g : Int → Option Int} (h : JI ss T g) {c : Int} (hc : c ∈ ss.map (·.c)) : ∃ (i : Nat) (t : zD) (s : Stop), T[i]? = some t ∧ s ∈ t ∧ s.c = c ∧ g c = some (i : Int) ∧ vj T c = i := by
 obtain ⟨s, hs, rfl⟩ := List.mem_map.1 hc
 obtain ⟨t, ht, hst⟩ := List.mem_flatten.1 (h.perm.symm.subset hs)
 obtain ⟨i, hi⟩ := List.mem_iff_getElem?.1 ht
 exact ⟨i, t, s, hi, hst, rfl, h.g i t s hi hst, h.place hi hst⟩
theorem QP {T : zi} : ∀ {i : Nat} {a : zD}, T[i]? = some a → T.flatten.Perm (a ++ (T.set i []).flatten) := by
 induction T with
 | nil => intro i a h; simp at h
 | cons t T ih =>
  intro i a h
  cases i with
  | zero => simp at h; subst h; simp
  | succ i =>
   simp only [List.getElem?_cons_succ] at h
   simp only [List.flatten_cons, List.set_cons_succ]
   refine ((ih h).append_left t).trans ?_
   rw [← List.append_assoc, ← List.append_assoc]
   exact List.perm_append_comm.append_right _
theorem ZiA {T : zi} {i : Nat} (b : zD) (h : i < T.length) : (T.set i b).flatten.Perm (b ++ (T.set i []).flatten) := by
 have := QP (T := T.set i b) (i := i) (a := b) (by simp [h])
 rwa [List.set_set] at this
theorem ZiB {T : zi} {i k : Nat} {a b : zD} (hi : T[i]? = some a) (hk : T[k]? = some b) (hne : i ≠ k) : ((T.set i (a ++ b)).set k []).flatten.Perm T.flatten := by
 have hil := (List.getElem?_eq_some_iff.1 hi).1
 rw [List.set_comm _ _ hne]
 have h1 := ZiA (T := T.set k []) (i := i) (a ++ b) (by simpa using hil)
 have h2 := QP hk
 have h3 := QP (T := T.set k []) (i := i) (a := a) (by rw [List.getElem?_set_ne (fun e => hne e.symm)]; exact hi)
 refine h1.trans (List.Perm.symm ?_)
 refine h2.trans ((h3.append_left b).trans ?_)
 rw [← List.append_assoc]
 exact List.perm_append_comm.append_right _
def Zj (g : Int → Option Int) (b : zD) (i : Nat) (j : Nat) : Int → Option Int := fun c => if c ∈ (b.take j).map (·.c) then some (i : Int) else g c
theorem ZiC (g : Int → Option Int) (b : zD) (i : Nat) : Zj g b i 0 = g := by funext c; simp [Zj]
theorem ZiD {g : Int → Option Int} {b : zD} {i j : Nat} {s : Stop} (h : b.take (j + 1) = b.take j ++ [s]) : qv (Zj g b i j) s.c (some (i : Int)) = Zj g b i (j + 1) := by
 funext c
 simp only [qv, Zj, h, List.map_append, List.mem_append, List.map_cons, List.map_nil, List.mem_singleton]
 by_cases e : c = s.c
 ·simp [e]
 ·simp [e]
theorem JI.join {ss : List Stop} {T : zi} {g : Int → Option Int} (h : JI ss T g) {i k : Nat} {a b : zD} (hi : T[i]? = some a) (hk : T[k]? = some b) (hne : i ≠ k) : JI ss ((T.set i (a ++ b)).set k []) (Zj g b i b.length) := by
 have hil := (List.getElem?_eq_some_iff.1 hi).1
 have hkl := (List.getElem?_eq_some_iff.1 hk).1
 refine ⟨by simp [h.len], (ZiB hi hk hne).trans h.perm, fun i' t s ht hs => ?_⟩
 unfold Zj
 rw [List.take_length]
 by_cases e1 : k = i'
 ·subst e1
  rw [List.getElem?_set_self (by simpa using hkl)] at ht
  cases ht; cases hs
 ·rw [List.getElem?_set_ne e1] at ht
  by_cases e2 : i = i'
  ·subst e2
   rw [List.getElem?_set_self hil] at ht
   cases ht
   by_cases e3 : s.c ∈ b.map (·.c)
   ·rw [if_pos e3]
   ·rw [if_neg e3]
    rcases List.mem_append.1 hs with hs | hs
    ·exact h.g i a s hi hs
    ·exact absurd (List.mem_map.2 ⟨s, hs, rfl⟩) e3
  ·rw [List.getElem?_set_ne e2] at ht
   have h1 := h.g i' t s ht hs
   rw [if_neg]
   ·exact h1
   ·intro e3
    obtain ⟨s', hs', e4⟩ := List.mem_map.1 e3
    have h2 := h.g k b s' hk hs'
    rw [e4, h1] at h2
    have := Option.some.inj h2
    exact e1 (by omega)
theorem JI.nil : JI [] [] (fun _ => none) := ⟨rfl, .refl _, fun i t s h => by simp at h⟩
theorem JI.snoc {ss : List Stop} {T : zi} {g : Int → Option Int} (h : JI ss T g) (s : Stop) (hs : s.c ∉ ss.map (·.c)) : JI (ss ++ [s]) (T ++ [[s]]) (qv g s.c (some (ss.length : Int))) := by
 refine ⟨by simp [h.len], by simpa using h.perm.append_right [s], fun i t s' ht hst => ?_⟩
 unfold qv
 rcases Nat.lt_or_ge i T.length with hl | hl
 ·rw [List.getElem?_append_left hl] at ht
  have h1 : s' ∈ ss := h.perm.subset (List.mem_flatten.2 ⟨t, List.mem_of_getElem? ht, hst⟩)
  rw [if_neg]
  ·exact h.g i t s' ht hst
  ·intro e; exact hs (e ▸ List.mem_map.2 ⟨s', h1, rfl⟩)
 ·rw [List.getElem?_append_right hl] at ht
  have hi : i - T.length = 0 := by
   have := (List.getElem?_eq_some_iff.1 ht).1
   simp at this; omega
  rw [hi] at ht
  simp at ht
  subst ht
  simp at hst
  subst hst
  rw [if_pos rfl, ← h.len]
  congr 1
  have : i = T.length := by omega
  rw [this]
open Go Hp
theorem Xe {P : Program} {r : Rd} {n N : Nat} {Q : Exit → (Nat → PV) → Store → Prop} {F : Nat → PV} {c : Code} {T : Store} {o ver e0 : Nat} {cs : List PV} (i : Nat) (hs : T o = .cells ver e0 cs) (hi : cs[i]? = some (.sc (.slice none 0 0)))
  (h : PW P r n N c Q F (T.set o (.cells ver e0 (cs.set i (.lst 0 []))))) : PW P r n N c Q F T := by
 refine uL (F' := F) (S' := T.set o (.cells ver e0 (cs.set i (.lst 0 [])))) (fun C w a st => ?_) h
 have := st.sim.relabel (cs' := cs.set i (.lst 0 [])) hs (by simp) (by
  intro k p' hp'
  rw [List.getElem?_set] at hp'
  split at hp'
  ·rename_i hij
   subst hij
   split at hp'
   ·cases hp'
    refine .inr ⟨_, hi, fun v hv => ?_⟩
    cases hv
    exact .lst0
   ·cases hp'
  ·exact .inl hp')
 exact ⟨C, ⟨this.1, st.size, fun k => (st.fr k).mono this.2, r.keep this.2 st.v⟩, this.2⟩
abbrev YP (x : Inst) (tid tv n : Nat) (num : Int) (mid mv : Nat) : List PV := [I x.days, I x.veh, I x.cap, I x.len, L x.cust, L x.dist, .sl tid tv 1 0 n, I num, .mp mid mv]
theorem W3 (cs : List PV) (k : Nat) (x : PV) (h : k < cs.length) : ye cs k [x] = cs.set k x := by
 rw [ye, List.set_eq_take_append_cons_drop, if_pos h]; simp
theorem Zca (T : zi) : T.flatMap Enc.enc = T.map fun t => L t := by induction T <;> simp_all
theorem yA {S : Store} {nx id : Nat} {o : Ob} (hd : zW nx S) (h : S id = o) (hne : o ≠ .dead) : id < nx := by
 rcases Nat.lt_or_ge id nx with q | q
 ·exact q
 ·rw [hd id q] at h; exact absurd h.symm hne
theorem ZiE (x : Inst) (ss : List Stop) (T : zi) (g : Int → Option Int) (num : Int) (es : List (Value × PV)) {S : Store} {jid jv tid tv mid mv : Nat} (hx : x.cust.length ≤ 1048576) (hss : ss.length ≤ 1000) (hnum : -1048576 ≤ num ∧ num ≤ 1048576) (hI : JI ss T g) (hm : MapIs qp I es g)
  (hj : S jid = .cells jv 288 (YP x tid tv ss.length num mid mv)) (ht : S tid = .cells tv 31 (T.flatMap Enc.enc)) (hmid : S mid = .map mv es) (d1 : jid ≠ tid) (d2 : jid ≠ mid) (d3 : tid ≠ mid)
  (p : Pr) (hpa : p.a ∈ ss.map (·.c)) (hpb : p.b ∈ ss.map (·.c)) :
  Spec Tryz.prog 242 [.ptr jid jv 0, .agg [I p.a, I p.b, I p.s]] S (fun _ S' => ∃ es' g', MapIs qp I es' g' ∧ JI ss (qw x (T, num) p).1 g' ∧
   S' = ((S.set jid (.cells jv 288 (YP x tid tv ss.length (qw x (T, num) p).2 mid mv))).set tid (.cells tv 31 ((qw x (T, num) p).1.flatMap Enc.enc))).set mid (.map mv es')) := by
 obtain ⟨i, a, sa, hia, hsa, hsac, hga, hpi⟩ := hI.there hpa
 obtain ⟨k, b, sb, hkb, hsb, hsbc, hgb, hpk⟩ := hI.there hpb
 have hkey : KeyOk (.int .i64) qp := ZP .i64
 obtain ⟨ra, fa1, fa2, fa3, fa4, fa5⟩ := hm.find hkey p.a
 obtain ⟨rb, fb1, fb2, fb3, fb4, fb5⟩ := hm.find hkey p.b
 obtain ⟨ja, rfl⟩ := fa3 _ hga
 obtain ⟨jb, rfl⟩ := fb3 _ hgb
 refine yU Tryz.func242 Tryz.ntmps242 Tryz.results242 fun nx hd => ?_
 have hlj : jid < nx := yA hd hj (by simp)
 have hlt : tid < nx := yA hd ht (by simp)
 have hlm : mid < nx := yA hd hmid (by simp)
 have xj := fun obs => zH (S := S) (obs := obs) hlj
 have xt := fun obs => zH (S := S) (obs := obs) hlt
 have xm := fun obs => zH (S := S) (obs := obs) hlm
 refine za (zb ?_)
 intro v0
 have hil := (List.getElem?_eq_some_iff.1 hia).1
 have hkl := (List.getElem?_eq_some_iff.1 hkb).1
 have hgi : T.getD i [] = a := by rw [List.getD_eq_getElem?_getD, hia]; rfl
 have hgk : T.getD k [] = b := by rw [List.getD_eq_getElem?_getD, hkb]; rfl
 have hdef : qw x (T, num) p = bif y8 x num p i k a b then ((T.set i (a ++ b)).set k [], num - 1) else (T, num) := by
  unfold qw YO
  simp only [hpi, hpk, hgi, hgk]
 have hstay : y8 x num p i k a b = false → ∃ es' g', MapIs qp I es' g' ∧ JI ss (qw x (T, num) p).1 g' ∧
   S = ((S.set jid (.cells jv 288 (YP x tid tv ss.length (qw x (T, num) p).2 mid mv))).set tid (.cells tv 31 ((qw x (T, num) p).1.flatMap Enc.enc))).set mid (.map mv es') := by
  intro hc
  rw [hdef, hc]
  refine ⟨es, g, hm, hI, ?_⟩
  simp only [cond_false]
  rw [YJ S jid _ hj, YJ S tid _ ht, YJ S mid _ hmid]
 have hal2 : a.length ≤ 1000 := by
  have h1 := (QP hia).length_eq
  have h2 := hI.perm.length_eq
  rw [List.length_append] at h1
  omega
 have hbl2 : b.length ≤ 1000 := by
  have h1 := (QP hkb).length_eq
  have h2 := hI.perm.length_eq
  rw [List.length_append] at h1
  omega
 obtain ⟨m, hal⟩ : ∃ m, a.length = m + 1 := ⟨a.length - 1, by cases a with | nil => cases hsa | cons _ _ => simp⟩
 have hb0 : 0 < b.length := by cases b with | nil => cases hsb | cons _ _ => simp
 obtain ⟨la, tla, la1, la2, la3, la4, la5⟩ := el 2 rfl a m (by omega)
 obtain ⟨fb, b', hbc⟩ : ∃ fb b', b = fb :: b' := by cases b with | nil => cases hsb | cons x y => exact ⟨x, y, rfl⟩
 have hend : uR a = some la.c := by unfold uR; rw [hal, Nat.add_sub_cancel, la1]; rfl
 have hhead : Zi b = some fb.c := by rw [hbc]; rfl
 obtain ⟨ai, tai, i1, i2, i3, i0⟩ := zE rfl T i hil
 rw [hia] at i1; cases i1
 obtain ⟨bk, tbk, k1, k2, k3, k0⟩ := zE rfl T k hkl
 rw [hkb] at k1; cases k1
 have hTl := hI.len
 have hil2 : i < ss.length := by omega
 have hkl2 : k < ss.length := by omega
 refine za (qh (nx := nx) (σ := Unit) (fun _ => True) (fun _ => [(0, .ptr jid jv 0), (3, .ptr nx v0 0), (4, I i), (5, I k)]) (fun _ => S) (fun _ => [.cells v0 175 [I p.a, I p.b, I p.s]]) ?_ ?_)
 ·repeat apply za
  refine vE none (Row.pures [0, 1, 2, 3, 4, 5, 7, 8, 9, 10, 11, 12] (.alt 6 (Row.pures [14] (.alt 13 (Row.pures [15] .done) .stop)) (.alt 13 (.alt 6 (Row.pures [14, 15] .done) .stop) .stop))) mixed (by rfl) (by rfl) (by rfl) fun K Gp Gc Gh hK hGp hGc hGh X hX0 hX1 hX2 hX => ?_
  simp -implicitDefEqProofs [hX0, hX1, hX2, hX, xj, xt, xm, hj, ht, hmid]
  try clear hX0 hX1 hX2 hX X
  refine ⟨?_, ?_⟩
  ·refine hGh _ _ _ _ _ (by rfl) (Yw rfl Tryz.underlying286 Tryz.underlying3 rfl rfl rfl ((xm _).trans hmid) fa1 z3 ?_)
   refine ⟨by simp [yF], ?_⟩
   clear hGp hGc hGh
   clear Gp Gc Gh
   refine j3 fun Gp Gc Gh hGp hGc hGh X hX0 hX1 hX2 hX => ?_
   simp -implicitDefEqProofs [hX0, hX1, hX2, hX]
   try clear hX0 hX1 hX2 hX X
   refine hGh _ _ _ _ _ (by rfl) (Yw rfl Tryz.underlying286 Tryz.underlying3 rfl rfl rfl ((xm _).trans hmid) fb1 z3 ?_)
   refine ⟨by simp [yF], ?_⟩
   clear hGp hGc hGh
   clear Gp Gc Gh
   refine j3 fun Gp Gc Gh hGp hGc hGh X hX0 hX1 hX2 hX => ?_
   simp -implicitDefEqProofs [hX0, hX1, hX2, hX]
   try clear hX0 hX1 hX2 hX X
   refine hK _ _ _ ?_
   clear hK hGp hGc hGh
   clear K Gp Gc Gh
   exact zP () [] trivial (by simp [Qv]) rfl (by simp)
  ·refine hGh _ _ _ _ _ (by rfl) (Yw rfl Tryz.underlying286 Tryz.underlying3 rfl rfl rfl ((xm _).trans hmid) fb1 z3 ?_)
   refine ⟨by simp [yF], ?_⟩
   clear hGp hGc hGh
   clear Gp Gc Gh
   refine j3 fun Gp Gc Gh hGp hGc hGh X hX0 hX1 hX2 hX => ?_
   simp -implicitDefEqProofs [hX0, hX1, hX2, hX]
   try clear hX0 hX1 hX2 hX X
   refine hGh _ _ _ _ _ (by rfl) (Yw rfl Tryz.underlying286 Tryz.underlying3 rfl rfl rfl ((xm _).trans hmid) fa1 z3 ?_)
   refine ⟨by simp [yF], ?_⟩
   clear hGp hGc hGh
   clear Gp Gc Gh
   refine j3 fun Gp Gc Gh hGp hGc hGh X hX0 hX1 hX2 hX => ?_
   simp -implicitDefEqProofs [hX0, hX1, hX2, hX]
   try clear hX0 hX1 hX2 hX X
   refine hK _ _ _ ?_
   clear hK hGp hGc hGh
   clear K Gp Gc Gh
   exact zP () [] trivial (by simp [Qv]) rfl (by simp)
 intro _ _
 refine za (zC none (Row.pures [0, 1, 2, 3, 4, 5, 6, 7, 8, 9, 10, 11, 12, 13, 14, 15] .done) mixed (yh xj xt hj ht i0 (yi k0 hil2 hkl2 hTl)) ?_)
 have wm : IntKind.i64.wrap (m : Int) = m := wr _ (by omega) (by omega)
 have hm1 : m < a.length := by omega
 refine za (qh (nx := nx) (σ := Unit) (fun _ => ¬ i = k ∧ la.c = p.a ∧ fb.c = p.b) (fun _ => [(0, .ptr jid jv 0), (3, .ptr nx v0 0), (4, I i), (5, I k), (6, L a), (7, L b)]) (fun _ => S) (fun _ => [.cells v0 175 [I p.a, I p.b, I p.s]]) ?_ ?_)
 ·by_cases h1 : i = k
  ·have hc : y8 x num p i k a b = false := by simp [y8, h1]
   refine za (zC none (Row.pures [0, 1, 2, 3, 4, 5, 6, 7, 8, 9, 10, 11, 12, 13, 14, 15, 16, 17, 18, 19, 20, 21, 22, 23] .done) mixed (zm h1 zL) ?_)
   exact zo rfl (zg ⟨_, S, rfl, hstay hc, yb hd⟩)
  have h1' : ¬ (i : Int) = (k : Int) := by omega
  have hm2 : (m : Int) < (m : Int) + 1 := by omega
  by_cases h2 : la.c = p.a
  case neg =>
   have hc : y8 x num p i k a b = false := by simp [y8, hend, h2]
   refine za (zC none (Row.pures [0, 1, 2, 3, 4, 5, 6, 7, 8, 9, 10, 11, 12, 13, 14, 15, 16, 17, 18, 19, 20, 21, 22, 23] .done) mixed (yh h1' h2 hal wm hm2 (zF la4 la5 zL)) ?_)
   exact zo rfl (zg ⟨_, S, rfl, hstay hc, yb hd⟩)
  by_cases h3 : fb.c = p.b
  case neg =>
   have hc : y8 x num p i k a b = false := by simp [y8, hhead, h3]
   refine za (zC none (Row.pures [0, 1, 2, 3, 4, 5, 6, 7, 8, 9, 10, 11, 12, 13, 14, 15, 16, 17, 18, 19, 20, 21, 22, 23] .done) mixed (yh h1' h2 h3 hal wm (qm hm2 la4 la5 hbc zL)) ?_)
   exact zo rfl (zg ⟨_, S, rfl, hstay hc, yb hd⟩)
  refine za (zC none (Row.pures [0, 1, 2, 3, 4, 5, 6, 7, 8, 9, 10, 11, 12, 13, 14, 15, 16, 17, 18, 19, 20, 21, 22, 23] .done) mixed (yh h1' h2 h3 hal wm (qm hm2 la4 la5 hbc zL)) ?_)
  exact zn rfl (zh (zP () [] ⟨h1, h2, h3⟩ (by simp [hal, hbc]) rfl (by simp)))
 rintro _ ⟨h1, h2, h3⟩
 have hN0 : -9223372036854775808 ≤ num := by omega
 refine za (qh (nx := nx) (σ := Unit) (fun _ => ¬ (p.s ≤ 0 ∧ num ≤ x.veh)) (fun _ => [(0, .ptr jid jv 0), (3, .ptr nx v0 0), (4, I i), (5, I k), (6, L a), (7, L b)]) (fun _ => S) (fun _ => [.cells v0 175 [I p.a, I p.b, I p.s]]) ?_ ?_)
 ·by_cases h4 : p.s ≤ 0
  ·by_cases h5 : num ≤ x.veh
   ·have hc : y8 x num p i k a b = false := by simp [y8, h4, h5]
    refine za (zC none (Row.pures [0, 1, 2, 3, 4, 5, 6, 7, 8, 9, 10, 11, 12, 13, 14] .done) mixed (qm xj hj h4 h5 zL) ?_)
    exact zo rfl (zg ⟨_, S, rfl, hstay hc, yb hd⟩)
   ·refine za (zC none (Row.pures [0, 1, 2, 3, 4, 5, 6, 7, 8, 9, 10, 11, 12, 13, 14] .done) mixed (qm xj hj h4 h5 zL) ?_)
    exact zn rfl (zh (zP () [] (by simp [h5]) (by simp) rfl (by simp)))
  ·refine za (zC none (Row.pures [0, 1, 2, 3, 4, 5, 6, 7, 8, 9, 10, 11, 12, 13, 14] .done) mixed (zm h4 zL) ?_)
   exact zn rfl (zh (zP () [] (by simp [h4]) (by simp) rfl (by simp)))
 intro _ h4
 have hcon := Ziz [a, b] (by simp) (by simp; omega) (by simp; omega)
 rw [show [a, b].flatten = a ++ b from by simp] at hcon
 refine za (zb ?_)
 refine zz hcon ?_
 refine za (qh (nx := nx) (σ := Unit) (fun _ => zJ x (a ++ b) = 0) (fun _ => [(0, .ptr jid jv 0), (3, .ptr nx v0 0), (4, I i), (5, I k), (6, L a), (7, L b), (8, L (a ++ b))]) (fun _ => S) (fun _ => [.cells v0 175 [I p.a, I p.b, I p.s]]) ?_ ?_)
 ·refine za (ze [] (zm xj hj) ?_)
  refine zz (QK x (a ++ b) hx (by simp; omega)) ?_
  by_cases h5 : zJ x (a ++ b) = 0
  ·repeat apply za
   refine zn (by simp [h5]) ?_
   exact zh (zP () [] h5 (by simp) rfl (by simp))
  ·have hc : y8 x num p i k a b = false := by simp [y8, h5]
   refine zo (by simp [h5]) ?_
   exact zg ⟨_, S, rfl, hstay hc, yb hd⟩
 intro _ h5
 have h4' : (decide (p.s ≤ 0) && decide (num ≤ x.veh)) = false := Bool.eq_false_iff.2 fun q => h4 (by simpa using q)
 have hjoin : y8 x num p i k a b = true := by unfold y8; rw [h4', hend, hhead, h2, h3, h5]; simp [h1]
 rw [hdef, hjoin]
 simp only [cond_true]
 have yj := fun (o : Ob) obs => (zH (S := S.set mid o) (obs := obs) hlj).trans ((Store.set_other _ _ _ _ d2).trans hj)
 have ym := fun (o : Ob) obs => (zH (S := S.set mid o) (obs := obs) hlm).trans (Store.set_same _ _ _)
 repeat apply za
 refine zb ?_
 refine zj (jo (σ := Nat × List (Value × PV)) (fun s => s.1 ≤ b.length ∧ MapIs qp I s.2 (Zj g b i s.1)) (fun s => [(0, .ptr jid jv 0), (4, I i), (5, I k), (8, L (a ++ b)), (90, L b), (91, I b.length), (92, I s.1)]) (fun s => S.set mid (.map mv s.2)) (fun _ => [.cells v0 175 [I p.a, I p.b, I p.s]]) (fun s => b.length - s.1) (zP (0, es) [] ⟨by simp, by rw [ZiC]; exact hm⟩ (by simp) (YJ S mid _ hmid) (by simp)) ?_)
 rintro ⟨j, es2⟩ ⟨hjl, hm2'⟩
 simp only at hjl hm2' ⊢
 refine za (zb ?_)
 refine za (zr rfl (fun hq => ?_) (fun hq => ?_))
 ·simp at hq
  obtain ⟨s, tl, a1, a2, a3, e1, e0⟩ := el 2 rfl b j hq
  obtain ⟨rs, f1, _, _, f4, _⟩ := hm2'.find hkey s.c
  have hnew := f4 (i : Int)
  rw [ZiD a3] at hnew
  refine zh (za (zj (za (ze [] (zF e1 e0 hq) ?_))))
  intro v1
  refine vE (some [jid, nx + 1]) (Row.pures [0, 1, 2, 3, 4, 5, 6] (.alt 7 (.done) .stop)) mixed (by rfl) (by rfl) (by rfl) fun K Gp Gc Gh hK hGp hGc hGh X hX0 hX1 hX2 hX => ?_
  simp -implicitDefEqProofs [hX0, hX1, hX2, hX, yj]
  try clear hX0 hX1 hX2 hX X
  refine hGh _ _ _ _ _ (by rfl) (Qw (.inl rfl) Tryz.underlying286 Tryz.underlying3 rfl rfl rfl (ym _ _) f1 ?_)
  rw [jZ _ hlm, Store.set_set]
  refine ⟨by simp [yF, yj], ?_⟩
  clear hGp hGc hGh
  clear Gp Gc Gh
  refine j3 fun Gp Gc Gh hGp hGc hGh X hX0 hX1 hX2 hX => ?_
  simp -implicitDefEqProofs [hX0, hX1, hX2, hX]
  try clear hX0 hX1 hX2 hX X
  refine hK _ _ _ ?_
  clear hK hGp hGc hGh
  clear K Gp Gc Gh
  refine zb ?_
  exact zp (j + 1, qY (qp s.c) (I i) es2 rs) [_] ⟨hq, hnew⟩ (by simp; omega) (by simp [zt j (by omega)]) rfl (by simp; rfl)
 ·simp at hq
  obtain rfl : j = b.length := by omega
  refine zy ?_
  have yt1 := fun (o : Ob) obs => (zH (S := S.set mid o) (obs := obs) hlt).trans ((Store.set_other _ _ _ _ d3).trans ht)
  have yt2 := fun (o o' : Ob) obs => (zH (S := (S.set mid o).set tid o') (obs := obs) hlt).trans (Store.set_same _ _ _)
  have yj2 := fun (o o' : Ob) obs => (zH (S := (S.set mid o).set tid o') (obs := obs) hlj).trans ((Store.set_other _ _ _ _ d1).trans ((Store.set_other _ _ _ _ d2).trans hj))
  have hlen1 : (T.flatMap Enc.enc).length = ss.length := by rw [jp, hTl]
  have hs1 := W3 (T.flatMap Enc.enc) i (L (a ++ b)) (by omega)
  have hs2 := W3 ((T.flatMap Enc.enc).set i (L (a ++ b))) k (.sc (.slice none 0 0)) (by simp; omega)
  have hlt1 : ¬ nx ≤ tid := by omega
  have hlj1 : ¬ nx ≤ jid := by omega
  have wn : IntKind.i64.wrap (num - 1) = num - 1 := wr _ (by omega) (by omega)
  refine za (zC (some [jid]) (Row.pures [0, 1, 2, 3, 4, 5, 6, 7, 8, 9, 10, 11] (.alt 12 (Row.pures [13] (.alt 14 (.done) .stop)) .stop)) mixed (yh yj yt1 yt2 yj2 hs1 (yh hs2 hil2 hkl2 hlen1 hlt1 hTl)) ?_)
  refine ⟨by omega, by omega, ?_⟩
  have hcs : ((((T.flatMap Enc.enc).set i (L (a ++ b))).set k (.sc (.slice none 0 0))).set k (.lst 0 [])) = ((T.set i (a ++ b)).set k []).flatMap Enc.enc := by
   rw [List.set_set, Zca, Zca, List.map_set, List.map_set]
   rfl
  refine Xe (o := tid) k (yt2 _ _ _) (by rw [List.getElem?_set_self (by simp; omega)]) ?_
  rw [jZ _ hlt, Store.set_set, hcs]
  generalize ((T.set i (a ++ b)).set k []).flatMap Enc.enc = cs' at *
  refine ze [] (zF yj2 hlj1 wn) ?_
  have e1 : ∀ (o o' o'' : Ob), ((S.set mid o).set tid o').set jid o'' = ((S.set jid o'').set tid o').set mid o := by
   intro o o' o''
   rw [Store.set_comm _ jid tid _ _ (fun e => d1 e.symm), Store.set_comm _ jid mid _ _ (fun e => d2 e.symm), Store.set_comm _ tid mid _ _ (fun e => d3 e.symm)]
  rw [e1]
  have hdd : ∀ (o o' o'' : Ob), zW nx (((S.set jid o'').set tid o').set mid o) := by
   intro o o' o'' q hq
   rw [Store.set_other _ _ _ _ (by omega), Store.set_other _ _ _ _ (by omega), Store.set_other _ _ _ _ (by omega)]
   exact hd q hq
  exact ⟨_, _, rfl, ⟨es2, _, hm2', hI.join hia hkb h1, rfl⟩, yb (hdd _ _ _)⟩
open Go Go.Shelf Go.RowKit Go.Lib Go.Sort
def Se : Store := fun _ => .dead
def Ce : Ctx := ⟨fun _ => none, 0, 0⟩
theorem ZiF (w : World) : Sim Ce Se w :=
 ⟨fun _ h => absurd rfl h, (fun _ _ h => by cases h), fun _ _ _ _ _ h => absurd rfl h, (fun _ _ _ _ h => by cases h), (fun _ _ _ h => by cases h)⟩
theorem W4 (b : Nat) : ¬ Ce.M Se b := by rintro ⟨o, k, h, _⟩; exact h rfl
inductive Fz : PV → Prop where
 | junk : Fz .junk
 | sc (v : Value) : Fz (.sc v)
 | agg {cs : List PV} (h : ∀ p ∈ cs, Fz p) : Fz (.agg cs)
 | lst {n : Nat} {cs : List PV} (h : ∀ p ∈ cs, Fz p) : Fz (.lst n cs)
 | ip {cs : List PV} (h : ∀ p ∈ cs, Fz p) : Fz (.ip cs)
theorem ZiG {C : Ctx} {S : Store} {w : World} {p : PV} {v : Value} (h : Rel C S w p v) : Fz p → Rel Ce Se w p v := by
 induction h with
 | junk v => intro _; exact .junk v
 | sc v => intro _; exact .sc v
 | agg hl h1 _ ih => intro hz; cases hz with | agg hz => exact .agg hl h1 fun i c v hc hv => ih i c v hc hv (hz c (List.mem_of_getElem? hc))
 | tup hl _ ih => intro hz; cases hz
 | lst0 => intro _; exact .lst0
 | lst1 hn hm hb hM hs h1 _ ih => intro hz; cases hz with | lst hz => exact .lst1 hn hm hb (W4 _) hs h1 fun i c v hc hv => ih i c v hc hv (hz c (List.mem_of_getElem? hc))
 | ip hb hM hs h1 _ ih => intro hz; cases hz with | ip hz => exact .ip hb (W4 _) hs h1 fun i c v hc hv => ih i c v hc hv (hz c (List.mem_of_getElem? hc))
 | nl0 => intro hz; cases hz
 | nl _ _ _ _ _ _ _ => intro hz; cases hz
 | ptr _ _ _ => intro hz; cases hz
 | sl _ _ _ => intro hz; cases hz
 | fn _ _ _ _ _ _ => intro hz; cases hz
 | ifc _ _ => intro hz; cases hz
 | mp _ _ _ => intro hz; cases hz
theorem ZiH {W w' : World} {C' : Ctx} {S' : Store} (h : Step Ce Se W C' S' w') : ∃ q os', w' = grow (W.drewN q) os' := by
 obtain ⟨p, hp⟩ := regrown_of_below (w := W) (w' := w') ⟨h.os, h.tape.1, h.output, h.size, fun b hb => (h.blocks b hb (W4 b)).1⟩
 have hd := h.tape.2
 rw [hp] at hd
 refine ⟨p.d - W.drawn, p.os, ?_⟩
 rw [hp]
 have hd' : W.drawn ≤ p.d := hd
 have e : W.drawn + (p.d - W.drawn) = p.d := by omega
 unfold grow redrawn World.drewN
 rw [e]
section
variable {P : Program} {α : Type} [Inhabited α] {val : α → Int}
theorem ZiI {C : Ctx} {S : Store} {w : World} {x : Int} {v : Value} (h : Rel C S w (I x) v) : v = .int .i64 x := by cases h; rfl
abbrev xK (val : α → Int) (x : α) : Value := .int .i64 (val x)
theorem ZiJ {g : Nat} {caps : List PV} {cf : α → α → Int} (hg : ∀ x y : α, Pure P g (I (val x) :: I (val y) :: caps) (I (cf x y))) (cb : Array Value) (hl : caps.length = cb.size) {w : World} {blk size : Nat}
  (hr : ∀ (m : Nat) (os : Array Obj) (dk : Array α), dk.size = size → ∀ (i : Nat) (c : PV) (v : Value), caps[i]? = some c → cb[i]? = some v → Rel Ce Se (sortWorld (xK val) w blk 0 m dk os) c v) : CmpLays1 P g cb (xK val) cf blk 0 size w := by
 intro m os dk hs x y
 refine ((hg x y Se).2 Ce (sortWorld (xK val) w blk 0 m dk os) (#[xK val x, xK val y] ++ cb) (ZiF _) (by simp; omega) ?_).mono ?_
 ·intro i c v hc hv
  match i with
  | 0 => rw [Array.getElem?_append_left (by simp)] at hv; cases hc; cases hv; exact .sc _
  | 1 => rw [Array.getElem?_append_left (by simp)] at hv; cases hc; cases hv; exact .sc _
  | i + 2 =>
   simp only [List.getElem?_cons_succ] at hc
   rw [Array.getElem?_append_right (by simp)] at hv
   exact hr m os dk hs i c v hc (by simpa using hv)
 ·rintro e w' ⟨p, v, S', C', rfl, ⟨rfl, rfl⟩, hrel, _, hst⟩
  cases hrel
  exact ⟨rfl, ZiH hst⟩
theorem Zcb {C : Ctx} {S : Store} {w : World} (hS : Sim C S w) {id ver e b k : Nat} {cs0 : List PV} {c : Array Value} (hid : S id = .cells ver e cs0) (g1 : C.loc id = some (b, k)) (g2 : w.heap[b]? = some (.cells c e (0, 0))) (g3 : c.size = k) (dk : Array α) (hdk : dk.size ≤ k) (q : Nat) (os : Array Obj) :
  Sim (C.at id ver (C.loc id)) (S.set id (.cells ver e (dk.toList.map fun x => I (val x)))) (sortWorld (xK val) w b 0 q dk os) ∧
  Step C S w (C.at id ver (C.loc id)) (S.set id (.cells ver e (dk.toList.map fun x => I (val x)))) (sortWorld (xK val) w b 0 q dk os) := by
 have hb : b < w.heap.size := qj g2
 have hh : (sortWorld (xK val) w b 0 q dk os).heap[b]? = some (.cells (putCells (xK val) 0 dk c) e (0, 0)) := by
  unfold sortWorld
  rw [heap_grow_old _ _ (by simpa using hb)]
  simp [putRow, mapBlock, Sort.ahead, Array.getElem?_modify, g2, onCells]
 have hgr : w.grownBy (sortWorld (xK val) w b 0 q dk os) (some b) := by
  refine ⟨rfl, rfl, rfl, by simp [sortWorld], fun j hj hne => ?_⟩
  unfold sortWorld
  rw [heap_grow_old _ _ (by simpa using hj)]
  have : b ≠ j := fun e => hne (by rw [e])
  simp [putRow, mapBlock, Sort.ahead, Array.getElem?_modify, this]
 have hcell : ∀ i, i < dk.size → ∀ v, (putCells (xK val) 0 dk c)[i]? = some v → v = xK val dk[i]! := by
  intro i hi v hv
  have hic : i < c.size := by omega
  simp [putCells, hi, hic] at hv
  rw [← hv, getElem!_pos dk i hi]
 refine hS.turn (l := C.loc id) (ver' := ver) (cs' := dk.toList.map fun x => I (val x)) hid (Nat.le_refl _) (fun _ => rfl) ⟨by rw [g1]; exact hgr, Nat.le_add_right _ _⟩
  (.inr ⟨b, k, _, g1, .inr (by rw [g1]; rfl), hh, by simp [putCells, g3], by simpa using hdk, fun i v hi hv => ?_, fun i p v hp hv => ?_⟩)
 ·rw [hcell i (by simpa using hi) v hv]; rfl
 ·have hi : i < dk.size := by have := (List.getElem?_eq_some_iff.1 hp).1; simpa using this
  rw [hcell i hi v hv]
  rw [List.getElem?_map, Array.getElem?_toList, Array.getElem?_eq_getElem hi] at hp
  simp only [Option.map_some, Option.some.injEq] at hp
  rw [← hp, getElem!_pos dk i hi]
  exact .sc _
theorem ZiK {ρ : Ren} (L : SlLaysF.n6 P ρ) (hE : qy P (ρ.f 6)) {S : Store} {id ver : Nat} {f : PV} : Spec P (ρ.f 6) [.sl id ver 1 0 0, f] S (fun p S' => S' = S) := by
 refine ⟨hE, ?_⟩
 intro C w vs hS hl hr
 obtain ⟨v0, v1, rfl⟩ : ∃ v0 v1, vs = #[v0, v1] := by
  match vs, hl with
  | ⟨[a, b]⟩, _ => exact ⟨a, b, rfl⟩
 have hv0 := hr 0 _ v0 rfl rfl
 cases hv0 with
 | sl h1 h2 h3 =>
  obtain ⟨a, cap, rfl, q1, q2, q3, q4⟩ := h1
  refine (AnyF.slices_SortFunc_none { L with } a cap _ w).mono ?_
  rintro e w' ⟨rfl, rfl⟩
  exact ⟨.junk, _, S, C, rfl, rfl, .junk _, hS, .refl _ _ _⟩
theorem ZiL {ρ : Ren} (L : SlLaysF.n6 P ρ) (hE : qy P (ρ.f 6)) {S : Store} {id ver e : Nat} (zs : List α) (hid : S id = .cells ver e (zs.map fun x => I (val x))) (hn : zs.length ≤ 1048576)
  {g : Nat} (hG : qy P g) {caps : List PV} (hz : ∀ p ∈ caps, Fz p) (cf : α → α → Int) (hO : SWO (ltOf cf)) (hT : ∀ x y, (ltOf cf) x y = false → (ltOf cf) y x = false → x = y)
  (hg : ∀ x y : α, Pure P g (I (val x) :: I (val y) :: caps) (I (cf x y))) :
  Spec P (ρ.f 6) [.sl id ver 1 0 zs.length, .fn (.func g) [] caps] S (fun p S' => S' = S.set id (.cells ver e ((zs.mergeSort fun x y => !(ltOf cf) y x).map fun x => I (val x)))) := by
 refine ⟨hE, ?_⟩
 intro C w vs hS hl hr
 obtain ⟨v0, v1, rfl⟩ : ∃ v0 v1, vs = #[v0, v1] := by
  match vs, hl with
  | ⟨[a, b]⟩, _ => exact ⟨a, b, rfl⟩
 have hv0 := hr 0 _ v0 rfl rfl
 have hv1 := hr 1 _ v1 rfl rfl
 cases hv1 with
 | @fn _ _ _ fv cv hf hc hh' hcap =>
 obtain rfl : fv = #[] := by
  have : fv.size = 0 := by simpa using hf.symm
  exact Array.eq_empty_of_size_eq_zero this
 cases hv0 with
 | sl h1 h2 h3 =>
  obtain ⟨a, cap, rfl, q1, q2, q3, q4⟩ := h1
  by_cases h0 : zs = []
  ·subst h0
   refine (AnyF.slices_SortFunc_none { L with } a cap _ w).mono ?_
   rintro e w' ⟨rfl, rfl⟩
   refine ⟨.junk, _, S, C, rfl, ?_, .junk _, hS, .refl _ _ _⟩
   funext i
   simp only [Store.set, List.mergeSort_nil]
   split
   ·rename_i e; rw [e, hid]
   ·rfl
  ·have hpos : 0 < zs.length := List.length_pos_iff.2 h0
   rcases hS.cells id ver _ _ hid with ⟨hn', hnil⟩ | ⟨b, k, c, g1, g2, g3, g4, g5, g6⟩
   ·simp at hnil; exact absurd hnil h0
   ·have ha : a = some ⟨b, 0, none⟩ := by
     rcases (h3 ver (by rw [hid]; rfl)).2 rfl with ⟨z1, _⟩ | ⟨b', k', a', cap', z1, z2, z3, z4⟩
     ·rw [g1] at z1; cases z1
     ·rw [g1] at z1; cases z1; cases z2; exact (z3 rfl).1
    subst ha
    rw [List.length_map] at g4 g5
    have hcells : ∀ i (hi : i < zs.length), c[i]? = some (xK val zs[i]) := by
     intro i hi
     have hi' : i < c.size := by omega
     have e1 : (zs.map fun x => I (val x))[i]? = some (I (val zs[i])) := by simp [hi]
     have e2 : c[i]? = some c[i] := by simp
     rw [e2, ZiI (g6 i _ _ e1 e2)]
    have hH : Holds (xK val) w b 0 zs.toArray := by
     intro j hj
     have hj' : j < zs.length := by simpa using hj
     refine ⟨?_, by simp [World.frozen?, g2]⟩
     simp only [World.cell?, g2, Nat.zero_add, Option.isSome_none, Bool.false_eq_true, if_false]
     rw [hcells j hj', getElem!_pos zs.toArray j hj]
     simp
    have hlays : CmpLays1 P g cv (xK val) cf b 0 zs.toArray.size w := by
     refine ZiJ hg cv (by simpa using hc) fun m os dk hs i p v hp hv => ?_
     obtain ⟨_, st⟩ := Zcb (val := val) hS hid g1 g2 g3 dk (by rw [hs]; simpa using g4) m os
     exact ZiG ((hcap i p v hp hv).mono st) (hz p (List.mem_of_getElem? hp))
    have hk := Any.slices_SortFunc_total L (xK val) (fun _ => rfl) cf hO g cv b 0 cap zs.toArray w hG hlays hH (qj g2) (by simp; omega) hT
    simp only [List.size_toArray] at hk
    refine hk.mono ?_
    rintro e w' ⟨rfl, m, os, rfl⟩
    obtain ⟨t1, t2⟩ := Zcb (val := val) hS hid g1 g2 g3 (zs.mergeSort fun x y => !(ltOf cf) y x).toArray (by simpa using g4) m os
    exact ⟨.junk, _, _, _, rfl, rfl, .junk _, t1, t2⟩
end
open Go
theorem Zcc (x : Int) : Pure Tryz.prog 224 [I x] (B false) := by
 refine zx Tryz.func224 Tryz.ntmps224 Tryz.results224 fun S nx hd => ?_
 refine za (zb ?_)
 refine za (zb ?_)
 exact zg (zk hd (by simp; rfl) rfl)
theorem Zcd (x y : Int) : Pure Tryz.prog 282 [I x, I y] (I (wP x y)) := by
 refine zx Tryz.func282 Tryz.ntmps282 Tryz.results282 fun S nx hd => ?_
 refine za (zb ?_)
 refine za (zb ?_)
 refine zz (Zcc x) ?_
 refine za (zb ?_)
 refine zz (Zcc y) ?_
 repeat apply za
 refine zb ?_
 refine zn (by simp) ?_
 refine zh ?_
 repeat apply za
 refine zb ?_
 refine zn (by simp) ?_
 refine zh ?_
 by_cases h1 : x < y
 ·repeat apply za
  refine ze [] h1 ?_
  refine zo (by simp [h1]) ?_
  refine za (zb ?_)
  exact zg (zk hd (by simp; rfl) (by simp [wP, h1, zq]))
 repeat apply za
 refine ze [] h1 ?_
 refine zn (by simp [h1]) ?_
 refine zh ?_
 by_cases h2 : y < x
 ·repeat apply za
  refine ze [] h2 ?_
  refine zo (by simp [h2]) ?_
  refine za (zb ?_)
  exact zg (zk hd (by simp; rfl) (by simp [wP, h1, h2, zq]))
 repeat apply za
 refine ze [] h2 ?_
 refine zn (by simp [h2]) ?_
 refine zh (za (zb ?_))
 exact zg (zk hd (by simp; rfl) (by simp [wP, h1, h2, zq]))
theorem ZiM (x y : Int) : Pure Tryz.prog 281 [.lst 2 [I x, I y]] (I (if x = 0 then y else x)) := by
 refine zx Tryz.func281 Tryz.ntmps281 Tryz.results281 fun S nx hd => ?_
 refine za (zb ?_)
 refine za (zb ?_)
 repeat apply za
 refine zb ?_
 refine zj (zG (fun s : Nat => s ≤ 2 ∧ (0 < s → x = 0) ∧ (1 < s → y = 0)) (fun k => [(3, I 0), (6, .lst 2 [I x, I y]), (7, I 2), (8, I k)]) (fun _ => []) (fun s => 2 - s) 0 [] (by simp) (by simp) (by simp) ?_)
 rintro k ⟨hk, hk1, hk2⟩
 match k, hk, hk1, hk2 with
 | 0, _, _, _ =>
  refine za (zb ?_)
  refine za (zo (by simp) ?_)
  refine zh (za (zj (za (zb ?_))))
  by_cases hx : x = 0
  ·refine za (ze [] hx ?_)
   refine zn (by simp [hx]) ?_
   refine zh (zb ?_)
   exact zp 1 [] ⟨by omega, fun _ => hx, by omega⟩ (by omega) (by simp [hx]; rfl) rfl (by simp)
  ·refine za (ze [] hx ?_)
   refine zo (by simp [hx]) ?_
   refine za (zb ?_)
   exact zg (zk hd (by simp; rfl) (by simp [hx, zq]))
 | 1, _, hk1, _ =>
  have hx := hk1 (by omega)
  refine za (zb ?_)
  refine za (zo (by simp) ?_)
  refine zh (za (zj (za (zb ?_))))
  by_cases hy : y = 0
  ·refine za (ze [] hy ?_)
   refine zn (by simp [hy]) ?_
   refine zh (zb ?_)
   exact zp 2 [] ⟨by omega, fun _ => hx, fun _ => hy⟩ (by omega) (by simp [hy]; rfl) rfl (by simp)
  ·refine za (ze [] hy ?_)
   refine zo (by simp [hy]) ?_
   refine za (zb ?_)
   exact zg (zk hd (by simp; rfl) (by simp [hx, zq]))
 | 2, _, hk1, hk2 =>
  refine za (zb ?_)
  refine za (zn (by simp) ?_)
  refine zy (za (zb ?_))
  exact zg (zk hd (by simp; rfl) (by simp [hk1 (by omega), hk2 (by omega), zq]))
theorem ZiN (l : List Int) (i j : Fin l.length) (hn : l.length ≤ 1048576) : Pure Tryz.prog 280 [I i.val, I j.val, .ip [L l]] (I (xH l i j)) := by
 obtain ⟨a, tl, a1, a2, a3, e0⟩ := zE rfl l i.val i.isLt
 obtain ⟨b, tl2, b1, b2, b3, e1⟩ := zE rfl l j.val j.isLt
 have hi := i.isLt
 have hj := j.isLt
 have ha : l.getD i.val 0 = a := by rw [List.getD_eq_getElem?_getD, a1]; rfl
 have hb : l.getD j.val 0 = b := by rw [List.getD_eq_getElem?_getD, b1]; rfl
 have hor := ZiM (wP a b) (wP i.val j.val)
 have hres : xH l i j = if wP a b = 0 then wP (i.val : Int) j.val else wP a b := by unfold xH; rw [ha, hb]
 rw [hres]
 refine zx Tryz.func280 Tryz.ntmps280 Tryz.results280 fun S nx hd => ?_
 refine za (zb ?_)
 refine za (zC none (Row.pures [0, 1, 2, 3, 4, 5, 6, 7, 8, 9, 10, 11, 12, 13, 14] .done) mixed (yi hi hj e0 e1) ?_)
 refine zI (Zcd a b) (yi hi hj e0 e1) ?_
 refine zI (Zcd i.val j.val) trivial ?_
 refine zI (hor) trivial ?_
 exact zg (zk hd (by simp; rfl) rfl)
theorem W5 (l : List Int) : l.flatMap Enc.enc = l.map I := by induction l <;> simp_all
theorem ZiO (l : List Int) : ∀ p ∈ [PV.ip [L l]], Fz p := by
 intro p hp
 simp only [List.mem_singleton] at hp
 subst hp
 refine .ip fun q hq => ?_
 simp only [List.mem_singleton] at hq
 subst hq
 refine .lst fun r hr => ?_
 rw [W5] at hr
 obtain ⟨x, _, rfl⟩ := List.mem_map.1 hr
 exact .sc _
def xX (n k : Nat) : List Int := (List.range n).map fun i => if i < k then (i : Int) else 0
theorem ZiP (n k : Nat) : (xX n k).length = n := by simp [xX]
theorem ZiQ (n : Nat) : xX n 0 = List.replicate n 0 := by
 apply List.ext_getElem
 ·simp [xX]
 ·intro i h1 h2; simp [xX]
theorem ZiR (n k : Nat) (h : k < n) : (xX n k).set k (k : Int) = xX n (k + 1) := by
 apply List.ext_getElem
 ·simp [xX]
 ·intro i h1 h2
  rw [List.getElem_set]
  simp only [xX, List.getElem_map, List.getElem_range]
  by_cases e : k = i
  ·subst e; rw [if_pos rfl, if_pos (by omega)]
  ·rw [if_neg e]
   by_cases h3 : i < k
   ·rw [if_pos h3, if_pos (by omega)]
   ·rw [if_neg h3, if_neg (by omega)]
theorem ZiS (n : Nat) : xX n n = (List.finRange n).map fun x => (x.val : Int) := by
 apply List.ext_getElem
 ·simp [xX]
 ·intro i h1 h2
  have : i < n := by simpa [xX] using h1
  simp [xX, this]
theorem Zce {α : Type} (l : List α) (f : α → Int) : (l.map f).flatMap Enc.enc = l.map fun x => I (f x) := by induction l <;> simp_all
theorem ZiT (n : Nat) : ji n (.int .i64 0) = (List.replicate n (0 : Int)).flatMap Enc.enc := by
 induction n with
 | zero => simp
 | succ n ih => rw [Za, ih, List.replicate_succ]; simp [qD, Value.cells]
theorem ZiU (l : List Int) (k : Nat) (v : Int) (h : k < l.length) : ye (l.flatMap Enc.enc) k [I v] = (l.set k v).flatMap Enc.enc := by
 rw [W5, W5, ye, List.map_set, List.set_eq_take_append_cons_drop, if_pos (by simpa using h)]
 simp
theorem ZiV (l : List Int) (hn : l.length ≤ 1048576) : Pure Tryz.prog 273 [L l] (L (wy l)) := by
 have hE : qy Tryz.prog 279 := qE Tryz.func279 (by rfl) rfl
 have hG : qy Tryz.prog 280 := qE Tryz.func280 (by rfl) rfl
 refine zx Tryz.func273 Tryz.ntmps273 Tryz.results273 fun S nx hd => ?_
 refine za (zb ?_)
 intro v0
 refine za (zb ?_)
 refine ⟨by omega, fun v1 => ?_⟩
 repeat apply za
 refine zb ?_
 refine zj (zG (fun s : Nat => s ≤ l.length) (fun k => [(1, .ptr nx v0 0), (3, .sl (nx + 1) v1 1 0 l.length), (9, I l.length), (10, I k)]) (fun k => [.cells v0 45 [L l], .cells v1 3 ((xX l.length k).flatMap Enc.enc)]) (fun s => l.length - s) 0 [] (by simp) (by simp) (by simp [ZiQ, ZiT]) ?_)
 rintro k hk
 refine za (zb ?_)
 refine za (zr rfl (fun hc => ?_) (fun hc => ?_))
 ·simp at hc
  have hl1 := ZiP l.length k
  have hsp := ZiU (xX l.length k) k k (by omega)
  rw [ZiR _ _ hc] at hsp
  refine zh (za (zj (za (zb ?_))))
  refine ze [] (zF hc hl1 hsp) ?_
  refine ⟨by omega, ?_⟩
  refine zb ?_
  exact zp (k + 1) [] hc (by omega) (by simp [zt k (by omega)]) rfl (by simp)
 ·simp at hc
  obtain rfl : k = l.length := by omega
  refine zy ?_
  rw [ZiS, Zce]
  refine j4 0 rfl ?_
  refine za (zV [] (by rfl) (by rfl) fun K Gc Gh hK hGc hGh X hX0 hX => ?_)
  simp -implicitDefEqProofs [hX0, hX]
  try clear hX0 hX X
  by_cases h0 : l.length = 0
  ·obtain rfl : l = [] := List.eq_nil_of_length_eq_zero h0
   refine hGc _ _ _ _ _ _ _ fun hsuf => ((ZiK Tryz.laysSlF6_f279 hE).mono ?_).v
   rintro _ _ rfl
   refine ⟨_, _, rfl, ?_⟩
   clear hGc hGh
   clear Gc Gh
   refine zR hsuf (D := []) (by rfl) fun Gc Gh hGc hGh X hX0 hX => ?_
   simp -implicitDefEqProofs [hX0, hX]
   clear hX0 hX X
   refine hK _ _ _ ?_
   clear hK hGc hGh
   clear K Gc Gh
   refine yc 1 rfl ?_
   refine za (zb ?_)
   have hs0 : wy [] = [] := List.eq_nil_of_length_eq_zero (WT [])
   exact zg (zk hd (by simp; rfl) (by rw [hs0]; rfl))
  ·haveI : Inhabited (Fin l.length) := ⟨⟨0, by omega⟩⟩
   have hs := fun S id ver hid => ZiL (S := S) (id := id) (ver := ver) (e := 3) (val := fun i : Fin l.length => (i.val : Int)) Tryz.laysSlF6_f279 hE (List.finRange l.length) hid (by simp; omega) hG (ZiO l) (xH l) (Xb l) (Zb6 l) (fun x y => ZiN l x y hn)
   rw [List.length_finRange] at hs
   have hfl := Zce (ZR l) (fun i => (i.val : Int))
   have hsl := WT l
   refine hGc _ _ _ _ _ _ _ fun hsuf => ((hs _ (nx + 1) v1 (by rw [yQ]; rfl)).mono ?_).v
   rintro _ _ rfl
   refine ⟨_, _, y9 _ (by omega) (by simp), ?_⟩
   rw [show (((List.finRange l.length).mergeSort fun x y => !(ltOf (xH l)) y x).map fun x => I (x.val : Int)) = (wy l).flatMap Enc.enc from hfl.symm]
   clear hGc hGh
   clear Gc Gh
   refine zR hsuf (D := []) (by rfl) fun Gc Gh hGc hGh X hX0 hX => ?_
   simp -implicitDefEqProofs [hX0, hX, (show nx + 1 - nx = 1 from by omega)]
   clear hX0 hX X
   refine hK _ _ _ ?_
   clear hK hGc hGh
   clear K Gc Gh
   refine yc 1 rfl ?_
   refine za (ze [] hsl ?_)
   exact zg (zk hd (by simp; rfl) (by simp [zq, hsl]))
end Go.Proofs.YtcnbiofjmioaiaaGreat.Pv
