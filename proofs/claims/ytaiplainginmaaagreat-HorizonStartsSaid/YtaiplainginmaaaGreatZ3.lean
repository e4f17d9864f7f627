/- Part of a proof, packed. -/
import Derived.Test.YtaiplainginmaaaGreatZ2
namespace Go.Proofs.YtaiplainginmaaaGreat.Pv
open Go
def yb (n i : Nat) : Nat := n / 2 ^ i % 2
def qr (n : Nat) : List Int := (List.range 64).map fun i => ((yb n i : Nat) : Int)
def qU : List Int → Int
 | [] => 0
 | b :: l => 2 * qU l + b
theorem uv (n : Nat) : (qr n).length = 64 := by simp [qr]
theorem ZeW (n i : Nat) : yb n i ≤ 1 := by unfold yb; omega
theorem JL (n : Nat) : ∀ b ∈ qr n, b = 0 ∨ b = 1 := by
 intro b hb
 simp only [qr, List.mem_map] at hb
 obtain ⟨i, _, rfl⟩ := hb
 have := ZeW n i
 omega
theorem JM (l : List Int) (h : ∀ b ∈ l, b = 0 ∨ b = 1) : 0 ≤ qU l ∧ qU l < 2 ^ l.length := by
 induction l with
 | nil => simp [qU]
 | cons b l ih =>
  obtain ⟨h1, h2⟩ := ih (fun c hc => h c (by simp [hc]))
  have := h b (by simp)
  simp only [qU, List.length_cons, Int.pow_succ]
  omega
theorem Qj (l : List Int) (k : Nat) (v : Int) (h : k < l.length) : zP (l.flatMap Enc.enc) k [I v] = (l.set k v).flatMap Enc.enc := by
 have e : ∀ l : List Int, l.flatMap Enc.enc = l.map I := fun l => by induction l <;> simp_all
 rw [e, e, zP, List.map_set, List.set_eq_take_append_cons_drop, if_pos (by simpa using h)]
 simp
theorem JN (n : Nat) : qx n (.int .i64 0) = (List.replicate n (0 : Int)).flatMap Enc.enc := by
 induction n with
 | zero => simp
 | succ n ih => rw [vA, ih, List.replicate_succ]; simp [yX, Value.cells]
def jQ (n k : Nat) : List Int := (List.range 64).map fun i => if i < k then ((yb n i : Nat) : Int) else 0
theorem ZeX (n : Nat) : jQ n 0 = List.replicate 64 0 := by
 apply List.ext_getElem
 ·simp [jQ]
 ·intro i h1 h2; simp only [List.getElem_replicate]; simp [jQ]
theorem ZeY (n k : Nat) (h : 64 ≤ k) : jQ n k = qr n := by
 apply List.ext_getElem
 ·simp [jQ, qr]
 ·intro i h1 h2
  simp [jQ] at h1
  simp [jQ, qr, show i < k by omega]
theorem ZeZ (n k : Nat) (h : k < 64) : (jQ n k).set k ((yb n k : Nat) : Int) = jQ n (k + 1) := by
 apply List.ext_getElem
 ·simp [jQ]
 ·intro i h1 h2
  rw [List.getElem_set]
  simp only [jQ, List.getElem_map, List.getElem_range]
  split
  ·rename_i e; subst e; simp
  ·rename_i e
   by_cases q : i < k
   ·rw [if_pos q, if_pos (by omega)]
   ·rw [if_neg q, if_neg (by omega)]
theorem Ze0 (n k : Nat) : (jQ n k).length = 64 := by simp [jQ]
set_option maxRecDepth 20000 in
theorem Vv (n : Nat) (hn : n < 2 ^ 64) (S : Store) (nx : Nat) (hd : zO nx S) : Spec Tryz.prog 124 [U n] S (fun p S' => ∃ v, p = .sl nx v 1 0 64 ∧ S' = S.set nx (.cells v 3 ((qr n).flatMap Enc.enc))) := by
 refine ut hd Tryz.func124 Tryz.ntmps124 Tryz.results124 ?_
 (repeat apply za); refine pwn ?_; intros
 repeat apply za
 refine pwn ?_
 intro v0
 (repeat apply za); refine pwn ?_; intros
 repeat apply za
 refine zh (zr (fun s : Nat × Nat => s.1 ≤ 64) (fun (k, v) => [(0, U (n / 2 ^ k)), (3, .sl nx v 1 0 64), (4, I k)]) (fun (k, v) => [.cells v 3 ((jQ n k).flatMap Enc.enc)]) (fun s => 64 - s.1) (0, v0) [] (by simp) (by simp) (by simp [ZeX, JN]) ?_)
 rintro ⟨k, v⟩ hk
 simp only at hk ⊢
 (repeat apply za); refine pwn ?_; intros
 repeat apply za
 refine zn rfl (fun hc => ?_) (fun hc => ?_)
 ·simp at hc
  have hc' : k < 64 := by omega
  have hl := Ze0 n k
  have hm : n / 2 ^ k < 18446744073709551616 := Nat.lt_of_le_of_lt (Nat.div_le_self _ _) hn
  generalize hm' : n / 2 ^ k = m at *
  have t1 : (m : Int).tmod 2 = (m : Int) % 2 := Int.tmod_eq_emod_of_nonneg (by omega)
  have t2 : IntKind.i64.wrap ((m : Int) % 2) = (m : Int) % 2 := wr _ (by omega) (by omega)
  have t3 : IntKind.u64.wrap ((m : Int) / 2) = (m : Int) / 2 := IntWalk.u64_in _ (by omega)
  have t7 : (m : Int).tdiv 2 = (m : Int) / 2 := Int.tdiv_eq_ediv_of_nonneg (by omega)
  have t4 : m % 2 = yb n k := by unfold yb; rw [hm']
  have t5 : m / 2 = n / 2 ^ (k + 1) := by rw [← hm', Nat.div_div_eq_div_mul, Nat.pow_succ]
  have t6 : (m : Int) / 2 = (n : Int) / 2 ^ (k + 1) := by exact_mod_cast t5
  have t8 : (m : Int) % 2 = (yb n k : Nat) := by exact_mod_cast t4
  have hs := Qj (jQ n k) k ((m : Int) % 2) (by omega)
  refine ze (za (zh ?_))
  repeat apply za
  refine pwN [] (jn5 hc t1 t2 hs hl) ?_
  refine ⟨by omega, ?_⟩
  intros
  repeat apply za
  refine pwN [] (jn2 t3 t7) ?_
  intros
  (repeat apply za); refine pwn ?_; intros
  exact zm (k + 1, v) [] hc' (by simp; omega) (by simp [wrN k (by omega), t6, t7, t3]) rfl (by simp [← ZeZ n k hc', ← t8, t1, t2, hs])
 ·simp at hc
  have hk' : k = 64 := by omega
  subst hk'
  refine zo ?_
  (repeat apply za); refine pwn ?_; intros
  refine zb ⟨_, _, rfl, ⟨v, rfl, rfl⟩, JB (j := 0) hd (by simp [ZeY n 64])⟩
theorem Vw (n : Nat) (hn : n < 2 ^ 64) : Pure Tryz.prog 124 [U n] (L (qr n)) := by
 have := JD 0 (fun S nx hd => Vv n hn S nx hd) (by simp [uv])
 rw [← uv n] at this
 exact this
set_option maxRecDepth 20000 in
theorem Ze1 (l : List Int) (hl : l.length = 64) (h01 : ∀ b ∈ l, b = 0 ∨ b = 1) : Pure Tryz.prog 125 [L l] (.sc (.int .u64 (qU l))) := by
 refine pwe Tryz.func125 Tryz.ntmps125 Tryz.results125 fun S nx hd => ?_
 (repeat apply za); refine pwn ?_; intros
 (repeat apply za); refine pwn ?_; intros
 (repeat apply za); refine pwn ?_; intros
 repeat apply za
 refine zh (zr (fun m : Nat => m ≤ 64) (fun m => [(0, L l), (3, .sc (.int .u64 (qU (l.drop m)))), (4, I ((m : Int) - 1))]) (fun _ => []) (fun m => m) 64 [] (by simp) (by simp [List.drop_of_length_le (Nat.le_of_eq hl), qU]) (by simp) ?_)
 rintro m hm
 (repeat apply za); refine pwn ?_; intros
 repeat apply za
 refine zn rfl (fun hc => ?_) (fun hc => ?_)
 ·simp at hc
  obtain ⟨j, rfl⟩ : ∃ j, m = j + 1 := ⟨m - 1, by omega⟩
  obtain ⟨b, tl, a1, a2, a3, e0⟩ := el1 rfl l j (by omega)
  have hb := h01 b (List.mem_of_getElem? a1)
  have q := JM (l.drop (j + 1)) (fun c hc => h01 c (List.mem_of_mem_drop hc))
  have q2 : (2 : Int) ^ (l.drop (j + 1)).length ≤ 9223372036854775808 := by
   have : (l.drop (j + 1)).length ≤ 63 := by simp; omega
   calc (2 : Int) ^ (l.drop (j + 1)).length ≤ 2 ^ 63 := by exact_mod_cast Nat.pow_le_pow_right (by decide) this
    _ = 9223372036854775808 := by decide
  have g1 : (j : Int) < l.length := by omega
  have u1 : IntKind.u64.wrap (2 * qU (l.drop (j + 1))) = 2 * qU (l.drop (j + 1)) := IntWalk.u64_in _ (by omega)
  have u2 : IntKind.u64.wrap b = b := IntWalk.u64_in _ (by omega)
  have u3 : IntKind.u64.wrap (2 * qU (l.drop (j + 1)) + b) = qU (l.drop j) := by rw [IntWalk.u64_in _ (by omega), a2]; rfl
  have s1 : ((j : Int) + 1 - 1) = j := by omega
  refine ze (za (zh ?_))
  repeat apply za
  refine pwN [] (jn6 e0 g1 u1 u2 u3 s1) ?_
  intros
  (repeat apply za); refine pwn ?_; intros
  have w1 : IntKind.i64.wrap ((j : Int) - 1) = (j : Int) - 1 := wr _ (by omega) (by omega)
  exact zm j [] (by omega) (by omega) (by simp [s1, w1]) rfl (by simp)
 ·simp at hc
  have hk' : m = 0 := by omega
  subst hk'
  refine zo ?_
  (repeat apply za); refine pwn ?_; intros
  repeat apply za
  exact zb (zg hd rfl rfl)
theorem JO (n d : Nat) (h : d < 64) : (qr n)[d]? = some ((yb n d : Nat) : Int) := by simp [qr, h]
set_option maxRecDepth 20000 in
theorem Vx (n : Nat) (d : Int) (hn : n < 2 ^ 64) (h0 : 0 ≤ d) (h1 : d ≤ 63) : Pure Tryz.prog 85 [U n, I d] (B (decide (yb n d.toNat = 1))) := by
 obtain ⟨k, rfl⟩ := Int.eq_ofNat_of_zero_le h0
 have hk : k < 64 := by omega
 have hl := uv n
 obtain ⟨b, tl, a1, a2, a3, e0⟩ := el1 rfl (qr n) k (by omega)
 rw [JO n k hk] at a1; cases a1
 have g1 : (k : Int) < 64 := by omega
 have g3 : ¬ (63 : Int) < k := by omega
 refine pwe Tryz.func85 Tryz.ntmps85 Tryz.results85 fun S nx hd => ?_
 (repeat apply za); refine pwn ?_; intros
 repeat apply za
 refine pwN [(2, 8)] g3 ?_
 intros
 repeat apply za
 refine zk rfl ?_
 refine ze ?_
 repeat apply za
 refine pwn ?_
 refine pwc (Vw n hn) ?_
 intros
 repeat apply za
 refine pwN [] (jn3 e0 g1 hl) ?_
 intros
 repeat apply za
 exact zb (zg hd rfl (by simp; omega))
def Z6 (n d : Nat) : Int := qU ((qr n).set d 1)
theorem JP {l : List Int} {d : Nat} {v b : Int} (h : b ∈ l.set d v) : b ∈ l ∨ b = v := by
 rcases List.mem_or_eq_of_mem_set h with h | h
 ·exact .inl h
 ·exact .inr h
set_option maxRecDepth 20000 in
theorem Vy (n : Nat) (d : Int) (hn : n < 2 ^ 64) (h0 : 0 ≤ d) (h1 : d ≤ 63) : Pure Tryz.prog 86 [U n, I d, I 1] (.sc (.int .u64 (Z6 n d.toNat))) := by
 obtain ⟨k, rfl⟩ := Int.eq_ofNat_of_zero_le h0
 have hk : k < 64 := by omega
 have hl := uv n
 have g1 : (k : Int) < 64 := by omega
 have g3 : ¬ (63 : Int) < k := by omega
 have hs := Qj (qr n) k 1 (by omega)
 refine pwe Tryz.func86 Tryz.ntmps86 Tryz.results86 fun S nx hd => ?_
 (repeat apply za); refine pwn ?_; intros
 repeat apply za
 refine pwN [(2, 10)] g3 ?_
 intros
 repeat apply za
 refine zk rfl ?_
 refine ze ?_
 repeat apply za
 refine zQ [] (by rfl) (by rfl) fun K Gc Gh hK hGc hGh X hX0 hX => ?_
 simp -implicitDefEqProofs [hX0, hX]
 try clear hX0 hX X
 refine hGc _ _ _ _ _ _ _ fun hsuf => ((Vv n hn _ _ jD).mono ?_).v
 rintro _ _ ⟨v, rfl, rfl⟩
 refine ⟨_, _, qE _, ?_⟩
 clear hGc hGh
 clear Gc Gh
 refine zH hsuf (D := []) (by rfl) fun Gc Gh hGc hGh X hX0 hX => ?_
 simp -implicitDefEqProofs [hX0, hX]
 clear hX0 hX X
 intros
 refine hK _ _ _ ?_
 clear hK hGc hGh
 clear K Gc Gh
 repeat apply za
 refine pwN [] (jn3 g1 hs hl) ?_
 refine ⟨by omega, ?_⟩
 intros
 refine zL 0 rfl ?_
 have hl2 : ((qr n).set k 1).length = 64 := by simp [hl]
 have this0 := Ze1 ((qr n).set k 1) hl2 (fun b hb => by
  rcases JP hb with h | h
  ·exact JL n b h
  ·exact .inr h)
 have this : Pure Tryz.prog 125 [.lst 64 (((qr n).set k 1).flatMap Enc.enc)] (.sc (.int .u64 (qU ((qr n).set k 1)))) := by rw [show (64 : Nat) = ((qr n).set k 1).length from hl2.symm]; exact this0
 repeat apply za
 refine pwN [] hl ?_
 refine pwc this ?_
 intros
 repeat apply za
 exact zb (zg hd rfl rfl)
open Go
def rnd (n lo hi : Int) : Int := lo + (if n < 0 then -(n + 1) else n) % (hi - lo + 1)
theorem yB (n lo hi : Int) (h : lo ≤ hi) : lo ≤ rnd n lo hi ∧ rnd n lo hi ≤ hi := by
 unfold rnd
 have a1 := Int.emod_nonneg (if n < 0 then -(n + 1) else n) (show hi - lo + 1 ≠ 0 by omega)
 have a2 := Int.emod_lt_of_pos (if n < 0 then -(n + 1) else n) (show 0 < hi - lo + 1 by omega)
 omega
set_option maxRecDepth 20000 in
theorem xU (n lo hi : Int) (hn : I64 n) (h0 : 0 ≤ lo) (h1 : lo ≤ hi) (h2 : hi ≤ 4294967296) : Pure Tryz.prog 44 [I n, I lo, I hi] (I (rnd n lo hi)) := by
 have hr := yB n lo hi h1
 have w1 : IntKind.i64.wrap (hi - lo) = hi - lo := wr _ (by omega) (by omega)
 have w2 : IntKind.i64.wrap (hi - lo + 1) = hi - lo + 1 := wr _ (by omega) (by omega)
 have w0 : ¬ hi - lo + 1 = 0 := by omega
 have w3 : IntKind.i64.wrap (rnd n lo hi) = rnd n lo hi := wr _ (by omega) (by omega)
 unfold I64 at hn
 refine pwe Tryz.func44 Tryz.ntmps44 Tryz.results44 fun S nx hd => ?_
 (repeat apply za); refine pwn ?_; intros
 (repeat apply za); refine pwn ?_; intros
 by_cases h : n < 0
 ·have w4 : IntKind.i64.wrap (n + 1) = n + 1 := wr _ (by omega) (by omega)
  have w5 : IntKind.i64.wrap (-(n + 1)) = -(n + 1) := wr _ (by omega) (by omega)
  have w6 : (-(n + 1)).tmod (hi - lo + 1) = (-(n + 1)) % (hi - lo + 1) := Int.tmod_eq_emod_of_nonneg (by omega)
  have w7 : lo + (-(n + 1)) % (hi - lo + 1) = rnd n lo hi := by unfold rnd; rw [if_pos h]
  refine zi (by simp [h]) ?_
  have e : -(n + 1) = -1 + -n := by omega
  repeat apply za
  refine pwN [] (jn2 w4 w5) ?_
  intros
  repeat apply za
  refine pwN [] (jn6 w1 w2 w0 w6 w7 w3) ?_
  intros
  repeat apply za
  exact zb (zg hd rfl rfl)
 ·have w6 : n.tmod (hi - lo + 1) = n % (hi - lo + 1) := Int.tmod_eq_emod_of_nonneg (by omega)
  have w7 : lo + n % (hi - lo + 1) = rnd n lo hi := by unfold rnd; rw [if_neg h]
  refine zk (by simp [h]) ?_
  refine ze ?_
  repeat apply za
  refine pwN [] (jn6 w1 w2 w0 w6 w7 w3) ?_
  intros
  repeat apply za
  exact zb (zg hd rfl rfl)
open Go
def Zg (n d : Nat) : Nat := (Z6 n d).toNat
theorem JQ (n d : Nat) : Z6 n d = ((Zg n d : Nat) : Int) ∧ Zg n d < 2 ^ 64 := by
 have h := JM ((qr n).set d 1) (fun b hb => by
  rcases JP hb with h | h
  ·exact JL n b h
  ·exact .inr h)
 rw [List.length_set, uv] at h
 unfold Zg Z6
 omega
def qG (p : Nat) : Nat → Nat
 | 0 => 0
 | k + 1 => if yb p k = 1 then Zg (qG p k) k else qG p k
theorem Z7 (p : Nat) : ∀ k, qG p k < 2 ^ 64
 | 0 => by simp [qG]
 | k + 1 => by
  unfold qG
  split
  ·exact (JQ _ _).2
  ·exact Z7 p k
def xk (pats : List Nat) (days : Int) : List Nat :=
 if pats = [] then [1] else (pats.take 4).map fun p => qG p days.toNat
def yM (c : Cust) (days : Int) : Cust :=
 if c.kind.tmod 2 = 0 then ⟨2, 0, [], rnd c.rate 0 9, rnd c.size 1 30, rnd c.start 0 (rnd c.size 1 30), rnd c.rule 1 2, rnd c.hold 0 4⟩
 else ⟨1, rnd c.demand 1 15, xk c.pats days, 0, 0, 0, 0, 0⟩
structure CustOk (c : Cust) : Prop where
 kind : I64 c.kind
 demand : I64 c.demand
 pats : ∀ p ∈ c.pats, p < 2 ^ 64
 npats : c.pats.length ≤ 9223372036854775807
 rate : I64 c.rate
 size : I64 c.size
 start : I64 c.start
 rule : I64 c.rule
 hold : I64 c.hold
theorem Vz {α β : Type} (f : α → β) {l : List α} {k : Nat} {a : α} (ht : l.take (k + 1) = l.take k ++ [a]) : (l.take (k + 1)).map f = (l.take k).map f ++ [f a] := by rw [ht]; simp
set_option maxRecDepth 10000 in
theorem Ze2 (c : Cust) (days : Int) (hc : CustOk c) (h0 : 0 ≤ days) (h1 : days ≤ 63) : Pure Tryz.prog 45 [.agg (zv c), I days] (.agg (zv (yM c days))) := by
 obtain ⟨n, rfl⟩ := Int.eq_ofNat_of_zero_le h0
 have hs := yB c.size 1 30 (by omega)
 refine pwe Tryz.func45 Tryz.ntmps45 Tryz.results45 fun S nx hd => ?_
 repeat apply za
 refine pwn ?_
 intro v0 v1
 (repeat apply za); refine pwn ?_; intros
 by_cases hk : c.kind.tmod 2 = 0
 ·refine zi (by simp [hk]) ?_
  repeat apply za
  refine pwY (some [nx]) (Row.pures [0, 1, 2, 3, 4, 5, 6, 7, 8, 9, 10, 11, 12] (.alt 13 (.alt 14 (.done) .stop) .stop)) mixed trivial ?_
  refine pwP (xU _ _ _ hc.rate (by omega) (by omega) (by omega)) trivial ?_
  refine pwP (xU _ _ _ hc.size (by omega) (by omega) (by omega)) trivial ?_
  refine pwP (xU _ _ _ hc.rule (by omega) (by omega) (by omega)) trivial ?_
  refine pwP (xU _ _ _ hc.hold (by omega) (by omega) (by omega)) trivial ?_
  intro v2
  intros
  repeat apply za
  refine pwn ?_
  refine pwc (xU _ _ _ hc.start (by omega) (by omega) (by omega)) ?_
  intros
  (repeat apply za); refine pwn ?_; intros
  refine Ze 1 2 rfl rfl ?_
  repeat apply za
  exact zb (zg hd (by simp; rfl) (by simp [yM, hk]))
 ·refine zk (by simp [hk]) ?_
  refine ze ?_
  repeat apply za
  refine pwn ?_
  refine pwc (xU _ _ _ hc.demand (by omega) (by omega) (by omega)) ?_
  intro v2
  intros
  refine za (qT 2 2 99 1 rfl rfl fun v3 => ?_)
  (repeat apply za); refine pwn ?_; intros
  have hnp := hc.npats
  refine zX (nx := nx) (σ := Nat × Nat × Nat × Nat) (fun _ => True) (fun (v, v1, v2, v3) => [(4, .ptr (nx + 1) v1 0), (6, .ptr (nx + 2) v2 0)]) (fun _ => S)
   (fun (v, v1, v2, v3) => [.cells v 41 (zv c), .cells v1 41 [I 0, I 0, .sc (.slice none 0 0), I 0, I 0, I 0, I 0, I 0], .cells v2 41 [I 1, I (rnd c.demand 1 15), .sl (nx + 3) v3 1 0 (c.pats.take 4).length, I 0, I 0, I 0, I 0, I 0], .cells v3 99 (((c.pats.take 4).map fun p => qG p n).flatMap Enc.enc)]) ?_ ?_
  ·repeat apply za
   refine zh (zr (fun s : Nat × List Nat × Nat × Nat × Nat × Nat => s.1 ≤ c.pats.length ∧ s.1 ≤ 4 ∧ s.2.1 = (c.pats.take s.1).map fun p => qG p n) (fun (k, out, v, v1, v2, v3) => [(1, I n), (2, .ptr nx v 0), (4, .ptr (nx + 1) v1 0), (6, .ptr (nx + 2) v2 0), (7, I k)])
    (fun (k, out, v, v1, v2, v3) => [.cells v 41 (zv c), .cells v1 41 [I 0, I 0, .sc (.slice none 0 0), I 0, I 0, I 0, I 0, I 0], .cells v2 41 [I 1, I (rnd c.demand 1 15), .sl (nx + 3) v3 1 0 out.length, I 0, I 0, I 0, I 0, I 0], .cells v3 99 (out.flatMap Enc.enc)])
    (fun s => 4 - s.1) (0, [], v0, v1, v2, v3) [] (by simp) (by simp) (by simp) ?_)
   rintro ⟨k, out, v0, v1, v2, v3⟩ ⟨hk1, hk4, ho⟩
   simp only at hk1 hk4 ho ⊢
   have hol : out.length = k := by rw [ho]; simp; omega
   have fin : (k = c.pats.length ∨ k = 4) → out = (c.pats.take 4).map fun p => qG p n := by
    rintro (q | q)
    ·rw [ho, List.take_of_length_le (by omega), List.take_of_length_le (by omega)]
    ·rw [ho, q]
   have fin2 : (k = c.pats.length ∨ k = 4) → out.length = (c.pats.take 4).length := fun q => by rw [fin q]; simp
   by_cases hq1 : k < c.pats.length
   ·by_cases hq2 : (k : Int) < 4
    ·repeat apply za
     refine pwN [(5, 43)] (jn2 hq1 hq2) ?_
     intros
     repeat apply za
     refine zi rfl ?_
     obtain ⟨p, tl, a1, a2, a3, e0⟩ := el1 rfl c.pats k hq1
     have hp := hc.pats p (List.mem_of_getElem? a1)
     refine ze (za (zh ?_))
     (repeat apply za); refine pwn ?_; intros
     (repeat apply za); refine pwn ?_; intros
     repeat apply za
     refine zh (zr (fun s : Nat × Nat × Nat × Nat × Nat => s.1 ≤ n) (fun (d, v, v1, v2, v3) => [(1, I n), (2, .ptr nx v 0), (4, .ptr (nx + 1) v1 0), (6, .ptr (nx + 2) v2 0), (7, I k), (8, U (qG p d)), (9, I d)])
      (fun (d, v, v1, v2, v3) => [.cells v 41 (zv c), .cells v1 41 [I 0, I 0, .sc (.slice none 0 0), I 0, I 0, I 0, I 0, I 0], .cells v2 41 [I 1, I (rnd c.demand 1 15), .sl (nx + 3) v3 1 0 out.length, I 0, I 0, I 0, I 0, I 0], .cells v3 99 (out.flatMap Enc.enc)])
      (fun s => n - s.1) (0, v0, v1, v2, v3) [] (by simp) (by simp [qG]) (by simp) ?_)
     rintro ⟨d, v0, v1, v2, v3⟩ hdn
     simp only at hdn ⊢
     (repeat apply za); refine pwn ?_; intros
     repeat apply za
     refine zn rfl (fun hd1 => ?_) (fun hd1 => ?_)
     ·simp at hd1
      refine ze (za (zh ?_))
      repeat apply za
      refine pwN [] (jn2 hq1 e0) ?_
      refine pwc (Vx p d hp (by omega) (by omega)) ?_
      intros
      repeat apply za
      refine zn rfl (fun hb => ?_) (fun hb => ?_)
      ·simp at hb
       repeat apply za
       refine pwn ?_
       refine pwc (Vy _ d (Z7 p d) (by omega) (by omega)) ?_
       intros
       (repeat apply za); refine pwn ?_; intros
       exact zm (d + 1, v0, v1, v2, v3) [] (by simp; omega) (by simp; omega) (by simp [wrN d (by omega), qG, hb, (JQ _ _).1]) rfl (by simp)
      ·simp at hb
       refine ze ?_
       (repeat apply za); refine pwn ?_; intros
       exact zm (d + 1, v0, v1, v2, v3) [] (by simp; omega) (by simp; omega) (by simp [wrN d (by omega), qG, hb]) rfl (by simp)
     ·simp at hd1
      have hd' : d = n := by omega
      subst hd'
      refine zo ?_
      repeat apply za
      refine pwn ?_
      refine ⟨by omega, ?_⟩
      intros
      (repeat apply za); refine pwn ?_; intros
      exact zm (k + 1, out ++ [qG p d], v0, v1, v2, v3 + 1) [] (by simp [Vz _ a3, ho]; omega) (by simp; omega) (by simp [wrN k (by omega)]) rfl (by simp)
    ·repeat apply za
     refine pwN [(5, 43)] (jn2 hq1 hq2) ?_
     intros
     repeat apply za
     refine zk rfl ?_
     have hk := fin (.inr (by omega))
     have hk2 := fin2 (.inr (by omega))
     exact zo (zy (v0, v1, v2, v3) [] trivial (by simp) rfl (by simp only [hk2]; rw [← hk]; simp))
   ·repeat apply za
    refine pwN [(5, 43)] (jn2 hq1 zp) ?_
    intros
    repeat apply za
    refine zk rfl ?_
    have hk := fin (.inl (by omega))
    have hk2 := fin2 (.inl (by omega))
    exact zo (zy (v0, v1, v2, v3) [] trivial (by simp) rfl (by simp only [hk2]; rw [← hk]; simp))
  ·rintro ⟨v0, v1, v2, v3⟩ -
   simp only
   by_cases he : c.pats = []
   ·have hg : yM c n = ⟨1, rnd c.demand 1 15, [1], 0, 0, 0, 0, 0⟩ := by simp [yM, hk, xk, he]
    rw [hg, he]
    (repeat apply za); refine pwn ?_; intros
    repeat apply za
    refine zi rfl ?_
    (repeat apply za); refine pwn ?_; intros
    (repeat apply za); refine pwn ?_; intros
    refine zL 3 rfl ?_
    repeat apply za
    exact zb (zg hd (by simp; rfl) rfl)
   ·have hg : yM c n = ⟨1, rnd c.demand 1 15, (c.pats.take 4).map fun p => qG p n, 0, 0, 0, 0, 0⟩ := by simp [yM, hk, xk, he]
    have hlen : ((c.pats.take 4).map fun p => qG p n).length = (c.pats.take 4).length := by simp
    have hne : ¬ (c.pats.take 4).length = 0 := by simp [he]
    rw [hg, ← hlen]
    rw [← hlen] at hne
    generalize (c.pats.take 4).map (fun p => qG p n) = out at *
    have hne' : out ≠ [] := by simpa using hne
    repeat apply za
    refine pwN [] (jn2 hne hne') ?_
    intros
    repeat apply za
    refine zk rfl ?_
    refine ze ?_
    (repeat apply za); refine pwn ?_; intros
    refine zL 3 rfl ?_
    repeat apply za
    exact zb (zg hd (by simp; rfl) rfl)
open Go
def arc (x : Inst) (a b : Int) : Int := if a < 0 ∨ b < 0 then 0 else ((x.dist.getD a.toNat []).getD b.toNat 0)
theorem Qk (x : Inst) (a b : Int) (h : a < 0 ∨ b < 0) : arc x a b = 0 := if_pos h
theorem VA (x : Inst) (a b : Int) (h : (x.dist.length : Int) ≤ a) : arc x a b = 0 := by
 unfold arc; split
 ·rfl
 ·have : x.dist.getD a.toNat [] = [] := by rw [List.getD_eq_getElem?_getD, List.getElem?_eq_none (by omega)]; rfl
  rw [this]; rfl
theorem VB {x : Inst} {a : Int} {row : List Int} (hr : x.dist[a.toNat]? = some row) : x.dist.getD a.toNat [] = row := by rw [List.getD_eq_getElem?_getD, hr]; rfl
theorem VC (x : Inst) (a b : Int) {row : List Int} (hr : x.dist[a.toNat]? = some row) (h : (row.length : Int) ≤ b) : arc x a b = 0 := by
 unfold arc; split
 ·rfl
 ·rw [VB hr, List.getD_eq_getElem?_getD, List.getElem?_eq_none (by omega)]; rfl
theorem VD (x : Inst) (a b : Int) {row : List Int} {d : Int} (ha : 0 ≤ a) (hb : 0 ≤ b) (hr : x.dist[a.toNat]? = some row) (h : row[b.toNat]? = some d) : arc x a b = d := by
 unfold arc
 rw [if_neg (by omega), VB hr, List.getD_eq_getElem?_getD, h]; rfl
set_option maxRecDepth 10000 in
theorem Ql (x : Inst) (a b : Int) : Pure Tryz.prog 46 [.agg (zt x), I a, I b] (I (arc x a b)) := by
 refine pwe Tryz.func46 Tryz.ntmps46 Tryz.results46 fun S nx hd => ?_
 (repeat apply za); refine pwn ?_; intros
 by_cases ha : a < 0
 ·repeat apply za
  refine pwN [(2, 10), (6, 14)] (jn2 ha zp) ?_
  intros
  repeat apply za
  refine zi rfl ?_
  (repeat apply za); refine pwn ?_; intros
  repeat apply za
  exact zb (zg hd rfl (by rw [Qk _ _ _ (.inl ha)]; rfl))
 by_cases hb : b < 0
 ·repeat apply za
  refine pwN [(2, 10), (6, 14)] (jn3 ha hb zp) ?_
  intros
  repeat apply za
  refine zi rfl ?_
  (repeat apply za); refine pwn ?_; intros
  repeat apply za
  exact zb (zg hd rfl (by rw [Qk _ _ _ (.inr hb)]; rfl))
 by_cases hl : (x.dist.length : Int) ≤ a
 ·repeat apply za
  refine pwN [(2, 10), (6, 14)] (jn3 ha hb hl) ?_
  intros
  repeat apply za
  refine zi rfl ?_
  (repeat apply za); refine pwn ?_; intros
  repeat apply za
  exact zb (zg hd rfl (by rw [VA _ _ _ hl]; rfl))
 have hl' : a < x.dist.length := by omega
 have ha' : 0 ≤ a := by omega
 obtain ⟨row, tl, a1, _, _, e0⟩ := el1 rfl x.dist a.toNat (by omega)
 repeat apply za
 refine pwN [(2, 10), (6, 14)] (jn3 ha hb hl) ?_
 intros
 repeat apply za
 refine zk rfl ?_
 refine ze ?_
 repeat apply za
 refine pwN [(2, 10), (6, 14)] (jn3 ha' hl' e0) ?_
 intros
 by_cases hw : (row.length : Int) ≤ b
 ·repeat apply za
  refine pwN [] hw ?_
  intros
  repeat apply za
  refine zi rfl ?_
  (repeat apply za); refine pwn ?_; intros
  repeat apply za
  exact zb (zg hd rfl (by rw [VC _ _ _ a1 hw]; rfl))
 have hw' : b < row.length := by omega
 have hb' : 0 ≤ b := by omega
 obtain ⟨d, tl2, b1, _, _, e1⟩ := el1 rfl row b.toNat (by omega)
 repeat apply za
 refine pwN [] hw ?_
 intros
 repeat apply za
 refine zk rfl ?_
 refine ze ?_
 repeat apply za
 refine pwN [] (jn3 hb' hw' e1) ?_
 intros
 repeat apply za
 exact zb (zg hd rfl (by rw [VD x a b ha' hb' a1 b1]; rfl))
set_option maxRecDepth 10000 in
theorem xl (x : Inst) (a b : Int) : Pure Tryz.prog 126 [.agg (zt x), I a, I b] (I (arc x a b)) := by
 refine pwe Tryz.func126 Tryz.ntmps126 Tryz.results126 fun S nx hd => ?_
 (repeat apply za); refine pwn ?_; intros
 by_cases ha : a < 0
 ·repeat apply za
  refine pwN [(2, 9), (9, 16), (13, 20)] (jn2 ha zp) ?_
  intros
  repeat apply za
  refine zi rfl ?_
  (repeat apply za); refine pwn ?_; intros
  repeat apply za
  exact zb (zg hd rfl (by rw [Qk _ _ _ (.inl ha)]; rfl))
 by_cases hl : (x.dist.length : Int) ≤ a
 ·repeat apply za
  refine pwN [(2, 9), (9, 16), (13, 20)] (jn3 ha hl zp) ?_
  intros
  repeat apply za
  refine zi rfl ?_
  (repeat apply za); refine pwn ?_; intros
  repeat apply za
  exact zb (zg hd rfl (by rw [VA _ _ _ hl]; rfl))
 by_cases hb : b < 0
 ·repeat apply za
  refine pwN [(2, 9), (9, 16), (13, 20)] (jn4 ha hb hl zp) ?_
  intros
  repeat apply za
  refine zi rfl ?_
  (repeat apply za); refine pwn ?_; intros
  repeat apply za
  exact zb (zg hd rfl (by rw [Qk _ _ _ (.inr hb)]; rfl))
 have hl' : a < x.dist.length := by omega
 have ha' : 0 ≤ a := by omega
 obtain ⟨row, tl, a1, _, _, e0⟩ := el1 rfl x.dist a.toNat (by omega)
 by_cases hw : (row.length : Int) ≤ b
 ·repeat apply za
  refine pwN [(2, 9), (9, 16), (13, 20)] (jn6 ha hb hl ha' hl' (jn2 e0 hw)) ?_
  intros
  repeat apply za
  refine zi rfl ?_
  (repeat apply za); refine pwn ?_; intros
  repeat apply za
  exact zb (zg hd rfl (by rw [VC _ _ _ a1 hw]; rfl))
 have hw' : b < row.length := by omega
 have hb' : 0 ≤ b := by omega
 obtain ⟨d, tl2, b1, _, _, e1⟩ := el1 rfl row b.toNat (by omega)
 repeat apply za
 refine pwN [(2, 9), (9, 16), (13, 20)] (jn6 ha hb hl ha' hl' (jn2 e0 hw)) ?_
 intros
 repeat apply za
 refine zk rfl ?_
 refine ze ?_
 repeat apply za
 refine pwN [(2, 9), (9, 16), (13, 20)] (jn6 ha' hl' e0 hb' hw' e1) ?_
 intros
 repeat apply za
 exact zb (zg hd rfl (by rw [VD x a b ha' hb' a1 b1]; rfl))
open Go
def yl (x : Inst) : Int → List Int → Int
 | a, [] => arc x a 0
 | a, c :: l => arc x a (c + 1) + yl x (c + 1) l
def zF (x : Inst) (l : List Int) : Int := if l = [] then 0 else yl x 0 l
def small (c : Int) : Prop := -4611686018427387904 ≤ c ∧ c ≤ 4611686018427387904
theorem xV {c : Int} (h : small c) : IntKind.i64.wrap (c + 1) = c + 1 := wr _ (by unfold small at h; omega) (by unfold small at h; omega)
set_option maxRecDepth 10000 in
theorem VE (x : Inst) (l : List Int) (hl : l.length ≤ 1048576) (hs : ∀ c ∈ l, small c) : Pure Tryz.prog 87 [.agg (zt x), L l] (I (W (zF x l))) := by
 refine pwe Tryz.func87 Tryz.ntmps87 Tryz.results87 fun S nx hd => ?_
 repeat apply za
 refine pwn ?_
 intro v0
 (repeat apply za); refine pwn ?_; intros
 repeat apply za
 refine zn rfl (fun hc => ?_) (fun hc => ?_)
 ·simp at hc
  subst hc
  (repeat apply za); refine pwn ?_; intros
  repeat apply za
  exact zb (zg hd rfl rfl)
 refine ze ?_
 simp at hc
 (repeat apply za); refine pwn ?_; intros
 (repeat apply za); refine pwn ?_; intros
 repeat apply za
 refine zh (zr (fun s : Nat × Int × Int × Nat => s.1 ≤ l.length ∧ s.2.1 + yl x s.2.2.1 (l.drop s.1) = yl x 0 l) (fun (k, s, at', v) => [(2, .ptr nx v 0), (5, I (W s)), (6, I at'), (12, L l), (13, I l.length), (14, I k)])
  (fun (k, s, at', v) => [.cells v 25 (zt x)]) (fun s => l.length - s.1) (0, 0, 0, v0) [] (by simp) (by simp) (by simp) ?_)
 rintro ⟨k, s, at', v⟩ ⟨hk, ho⟩
 simp only at hk ho ⊢
 (repeat apply za); refine pwn ?_; intros
 repeat apply za
 refine zn rfl (fun hq => ?_) (fun hq => ?_)
 ·simp at hq
  obtain ⟨c, tl, a1, a2, a3, e0⟩ := el1 rfl l k hq
  have hw := xV (hs c (List.mem_of_getElem? a1))
  rw [a2] at ho
  refine ze (za (zh ?_))
  repeat apply za
  refine pwN [] (jn2 hq e0) ?_
  intros
  repeat apply za
  refine pwN [] hw ?_
  refine pwC [] (xl _ _ _) hw ?_
  intros
  repeat apply za
  refine pwN [] hw ?_
  intros
  (repeat apply za); refine pwn ?_; intros
  exact zm (k + 1, s + arc x at' (c + 1), c + 1, v) [] (by simp only [yl] at ho; exact ⟨by omega, by rw [← ho]; simp; omega⟩) (by simp; omega) (by simp [wrN k (by omega), xS, hw]) rfl (by simp)
 ·simp at hq
  refine zo ?_
  repeat apply za
  refine pwn ?_
  refine pwc (xl _ _ _) ?_
  intros
  rw [List.drop_of_length_le hq] at ho
  repeat apply za
  exact zb (zg hd rfl (by simp only [zF, if_neg hc, ← ho, yl, zj]; simp [xS]))
set_option maxRecDepth 10000 in
theorem VF (x : Inst) (l : List Int) (hl : l.length ≤ 1048576) (hs : ∀ c ∈ l, small c) : Pure Tryz.prog 56 [.agg (zt x), L l] (I (W (zF x l))) := by
 refine pwe Tryz.func56 Tryz.ntmps56 Tryz.results56 fun S nx hd => ?_
 repeat apply za
 refine pwn ?_
 intro v0
 (repeat apply za); refine pwn ?_; intros
 repeat apply za
 refine zn rfl (fun hc => ?_) (fun hc => ?_)
 ·simp at hc
  subst hc
  (repeat apply za); refine pwn ?_; intros
  repeat apply za
  exact zb (zg hd rfl rfl)
 refine ze ?_
 simp at hc
 cases l with
 | nil => exact absurd rfl hc
 | cons c0 l0 =>
 have hw0 := xV (hs c0 (by simp))
 obtain ⟨cl, tl, a1, a2, a3, e0⟩ := el1 rfl (c0 :: l0) l0.length (by simp)
 simp only [List.flatMap_cons, Zek, List.singleton_append, List.cons_append, List.nil_append] at e0
 have lt1 : (l0.length : Int) < l0.length + 1 := by omega
 have hwl := xV (hs cl (List.mem_of_getElem? a1))
 have wl : IntKind.i64.wrap (l0.length : Int) = (l0.length : Int) := wr _ (by omega) (by simp at hl; omega)
 repeat apply za
 refine pwY none (Row.pures [0, 1, 2, 3, 4, 5, 6, 7, 8, 9, 10, 11, 12, 13, 14, 15, 16] .done) mixed (jn5 hw0 wl e0 hwl lt1) ?_
 refine pwP (Ql _ _ _) (jn5 hw0 wl e0 hwl lt1) ?_
 refine pwP (Ql _ _ _) (jn5 hw0 wl e0 hwl lt1) ?_
 intros
 (repeat apply za); refine pwn ?_; intros
 generalize hll : c0 :: l0 = l at *
 have hlen : l.length = l0.length + 1 := by rw [← hll]; rfl
 have hL : (PV.lst (l0.length + 1) (I c0 :: l0.flatMap Enc.enc)) = L l := by rw [← hll]; rfl
 repeat apply za
 refine zh (zr (fun s : Nat × Int × Int × Nat => s.1 + 1 ≤ l.length ∧ l[s.1]? = some s.2.2.1 ∧ s.2.1 + yl x (s.2.2.1 + 1) (l.drop (s.1 + 1)) = yl x 0 l + arc x (cl + 1) 0) (fun (j, s, p, v) => [(1, L l), (2, .ptr nx v 0), (5, I (W s)), (6, I ((j + 1 : Nat) : Int))])
  (fun (j, s, p, v) => [.cells v 25 (zt x)]) (fun s => l.length - s.1) (0, arc x 0 (c0 + 1) + arc x (cl + 1) 0, c0, v0) [] (by rw [← hll]; simp [yl]; omega) (by simp [hL]) (by simp) ?_)
 rintro ⟨j, s, p, v⟩ ⟨hk, hp, ho⟩
 simp only at hk ho hp ⊢
 (repeat apply za); refine pwn ?_; intros
 repeat apply za
 refine zn rfl (fun hq => ?_) (fun hq => ?_)
 ·simp at hq
  have hq' : j + 1 < l.length := by omega
  obtain ⟨c, tl1, b1, b2, b3, e1⟩ := el1 rfl l (j + 1) hq'
  obtain ⟨p', tl2, d1, d2, d3, e2⟩ := el1 rfl l j (by omega)
  rw [hp] at d1; cases d1
  have hwc := xV (hs c (List.mem_of_getElem? b1))
  have hwp := xV (hs p (List.mem_of_getElem? hp))
  have wj : IntKind.i64.wrap (j : Int) = j := wr _ (by omega) (by omega)
  have g1 : (j : Int) < l.length := by omega
  have g2 : (j : Int) + 1 < l.length := by omega
  have g3 : 0 ≤ (j : Int) + 1 := by omega
  rw [b2] at ho
  refine ze (za (zh ?_))
  repeat apply za
  refine pwY none (Row.pures [0, 1, 2, 3, 4, 5, 6, 7, 8, 9, 10, 11, 12, 13, 14, 15] .done) mixed (jn6 hwc hwp wj e1 e2 (jn3 g1 g2 g3)) ?_
  refine pwP (Ql _ _ _) (jn2 hwc hwp) ?_
  intros
  have w2 : IntKind.i64.wrap ((j : Int) + 1 + 1) = ((j + 1 + 1 : Nat) : Int) := by rw [wr _ (by omega) (by omega)]; omega
  (repeat apply za); refine pwn ?_; intros
  exact zm (j + 1, s + arc x (p + 1) (c + 1), c, v) [] (by simp only [yl] at ho; exact ⟨by omega, b1, by rw [← ho]; simp; omega⟩) (by simp; omega) (by simp [w2, xS]) rfl (by simp)
 ·simp at hq
  refine zo ?_
  (repeat apply za); refine pwn ?_; intros
  rw [List.drop_of_length_le (by omega)] at ho
  have hpc : p = cl := by
   have : j = l0.length := by omega
   subst this; rw [hp] at a1; cases a1; rfl
  subst hpc
  have hs' : s = yl x 0 l := by simp only [yl] at ho; omega
  repeat apply za
  exact zb (zg hd rfl (by simp [zF, hc, hs']))
open Go
def q8 (x : Inst) (n a : Nat) : List Int := (List.range (n + 1)).map fun b => if a ≠ b then rnd (arc x a b) 0 60 else 0
def zz (x : Inst) : Inst :=
 ⟨rnd x.days 1 7, rnd x.veh 0 5, rnd x.cap 0 40, rnd x.len 0 300, (x.cust.take 6).map fun c => yM c (rnd x.days 1 7), (List.range ((x.cust.take 6).length + 1)).map fun a => q8 x (x.cust.take 6).length a⟩
structure InstOk (x : Inst) : Prop where
 days : I64 x.days
 veh : I64 x.veh
 cap : I64 x.cap
 len : I64 x.len
 ncust : x.cust.length ≤ 9223372036854775807
 cust : ∀ c ∈ x.cust, CustOk c
 ndist : x.dist.length ≤ 9223372036854775807
 dist : ∀ r ∈ x.dist, r.length ≤ 9223372036854775807 ∧ ∀ d ∈ r, I64 d
theorem Ze3 {x : Inst} (hx : InstOk x) (a b : Int) : I64 (arc x a b) := by
 unfold arc
 split
 ·unfold I64; omega
 ·rw [List.getD_eq_getElem?_getD, List.getD_eq_getElem?_getD]
  cases hr : x.dist[a.toNat]? with
  | none => simp [I64]
  | some r =>
   cases hd : r[b.toNat]? with
   | none => simp [hd, I64]
   | some d =>
    simp only [Option.getD_some, hd]
    exact (hx.dist r (List.mem_of_getElem? hr)).2 d (List.mem_of_getElem? hd)
def q9 (x : Inst) (n a k : Nat) : List Int := (List.range (n + 1)).map fun b => if b < k then (if a ≠ b then rnd (arc x a b) 0 60 else 0) else 0
theorem VG (x : Inst) (n a k : Nat) : (q9 x n a k).length = n + 1 := by simp [q9]
theorem Ze4 (x : Inst) (n a : Nat) : q9 x n a 0 = List.replicate (n + 1) 0 := by
 apply List.ext_getElem
 ·simp [q9]
 ·intro i h1 h2; simp only [List.getElem_replicate]; simp [q9]
theorem VH (x : Inst) (n a : Nat) : q9 x n a (n + 1) = q8 x n a := by
 apply List.ext_getElem
 ·simp [q9, q8]
 ·intro i h1 h2
  simp [q9] at h1
  simp [q9, q8, h1]
theorem Ze5 (x : Inst) (n a k : Nat) (h : k ≤ n) (hne : a ≠ k) : (q9 x n a k).set k (rnd (arc x a k) 0 60) = q9 x n a (k + 1) := by
 apply List.ext_getElem
 ·simp [q9]
 ·intro i h1 h2
  rw [List.getElem_set]
  simp only [q9, List.getElem_map, List.getElem_range]
  split
  ·rename_i e; subst e; simp [hne]
  ·rename_i e
   by_cases q : i < k
   ·simp [q, show i < k + 1 by omega]
   ·simp [q, show ¬ i < k + 1 by omega]
theorem Ze6 (x : Inst) (n k : Nat) : q9 x n k k = q9 x n k (k + 1) := by
 apply List.ext_getElem
 ·simp [q9]
 ·intro i h1 h2
  simp only [q9, List.getElem_map, List.getElem_range]
  by_cases q : i < k
  ·simp [q, show i < k + 1 by omega]
  ·by_cases e : i = k
   ·subst e; simp
   ·simp [q, show ¬ i < k + 1 by omega]
abbrev Qm (x : Inst) (v0 v1 v2 : Nat) (cs ds : PV) : List Ob :=
 [.cells v0 25 (zt x), .cells v1 25 [I 0, I 0, I 0, I 0, .sc (.slice none 0 0), .sc (.slice none 0 0)], .cells v2 25 [I (rnd x.days 1 7), I (rnd x.veh 0 5), I (rnd x.cap 0 40), I (rnd x.len 0 300), cs, ds]]
set_option maxRecDepth 10000 in
theorem Ze7 (x : Inst) (hx : InstOk x) : Pure Tryz.prog 12 [.agg (zt x)] (.agg (zt (zz x))) := by
 have hd7 := yB x.days 1 7 (by omega)
 have hnc := hx.ncust
 refine pwe Tryz.func12 Tryz.ntmps12 Tryz.results12 fun S nx hd => ?_
 repeat apply za
 refine pwn ?_
 intro v0 v1
 repeat apply za
 refine pwY (some [nx]) (Row.pures [0, 1, 2, 3, 4, 5, 6, 7, 8, 9, 10, 11, 12] (.alt 13 (.alt 14 (.done) .stop) .stop)) mixed trivial ?_
 refine pwP (xU _ _ _ hx.days (by omega) (by omega) (by omega)) trivial ?_
 refine pwP (xU _ _ _ hx.veh (by omega) (by omega) (by omega)) trivial ?_
 refine pwP (xU _ _ _ hx.cap (by omega) (by omega) (by omega)) trivial ?_
 refine pwP (xU _ _ _ hx.len (by omega) (by omega) (by omega)) trivial ?_
 intro v2
 intros
 refine za (qT 2 4 41 8 rfl rfl fun v3 => ?_)
 (repeat apply za); refine pwn ?_; intros
 have hdz : rnd x.days 1 7 ≤ 63 := by omega
 generalize hdy : rnd x.days 1 7 = dz at *
 refine zX (nx := nx) (σ := Nat × Nat × Nat × Nat) (fun _ => True) (fun (v0, v1, v2, v3) => [(1, .ptr nx v0 0), (2, .ptr (nx + 1) v1 0), (3, .ptr (nx + 2) v2 0)]) (fun _ => S)
  (fun (v0, v1, v2, v3) => Qm x v0 v1 v2 (.sl (nx + 3) v3 8 0 ((x.cust.take 6).map fun c => yM c dz).length) (.sc (.slice none 0 0)) ++ [.cells v3 41 (((x.cust.take 6).map fun c => yM c dz).flatMap Enc.enc)]) ?_ ?_
 ·repeat apply za
  refine zh (zr (fun s : Nat × List Cust × Nat × Nat × Nat × Nat => s.1 ≤ x.cust.length ∧ s.1 ≤ 6 ∧ s.2.1 = (x.cust.take s.1).map fun c => yM c dz) (fun (k, out, v0, v1, v2, v3) => [(1, .ptr nx v0 0), (2, .ptr (nx + 1) v1 0), (3, .ptr (nx + 2) v2 0), (4, I k)])
   (fun (k, out, v0, v1, v2, v3) => Qm x v0 v1 v2 (.sl (nx + 3) v3 8 0 out.length) (.sc (.slice none 0 0)) ++ [.cells v3 41 (out.flatMap Enc.enc)]) (fun s => 6 - s.1) (0, [], v0, v1, v2, v3) [] (by simp) (by simp) (by simp [hdy]) ?_)
  rintro ⟨k, out, v0, v1, v2, v3⟩ ⟨hk1, hk6, ho⟩
  simp only at hk1 hk6 ho ⊢
  have hol : out.length = k := by rw [ho]; simp; omega
  have fin : (k = x.cust.length ∨ k = 6) → out = (x.cust.take 6).map fun c => yM c dz := by
   rintro (q | q)
   ·rw [ho, List.take_of_length_le (by omega), List.take_of_length_le (by omega)]
   ·rw [ho, q]
  by_cases hq1 : k < x.cust.length
  ·by_cases hq2 : (k : Int) < 6
   ·repeat apply za
    refine pwN [(5, 27)] (jn2 hq1 hq2) ?_
    intros
    repeat apply za
    refine zi rfl ?_
    obtain ⟨c, tl, a1, a2, a3, e1, e0⟩ := el 8 rfl x.cust k hq1
    have hc := hx.cust c (List.mem_of_getElem? a1)
    refine ze (za (zh ?_))
    repeat apply za
    refine pwY (some [nx]) (Row.pures [0, 2, 3, 4, 5, 6, 7] (.alt 1 (.alt 8 (Row.pures [9, 10] (.alt 11 (Row.pures [12] (.alt 13 (.done) .stop)) .stop)) .stop) (.alt 8 (Row.pures [9, 10] (.alt 1 (.alt 11 (Row.pures [12] (.alt 13 (.done) .stop)) .stop) .stop)) .stop))) mixed (jn3 hq1 e0 hdy) ?_
    have w1 := wrN k (by omega)
    refine ⟨?_, ?_⟩
    all_goals
     refine pwP (Ze2 c dz hc (by omega) hdz) trivial ?_
     refine ⟨by omega, ?_⟩
     intros
     (repeat apply za); refine pwn ?_; intros
     exact zm (k + 1, out ++ [yM c dz], v0, v1, v2, v3 + 1) [] (by simp [Vz _ a3, ho]; omega) (by simp; omega) (by simp [w1]) rfl (by simp [hdy])
   ·repeat apply za
    refine pwN [(5, 27)] (jn2 hq1 hq2) ?_
    intros
    repeat apply za
    refine zk rfl ?_
    have hk := fin (.inr (by omega))
    exact zo (zy (v0, v1, v2, v3) [] trivial (by simp) rfl (by simp only [← hk]; simp))
  ·repeat apply za
   refine pwN [(5, 27)] (jn2 hq1 zp) ?_
   intros
   repeat apply za
   refine zk rfl ?_
   have hk := fin (.inl (by omega))
   exact zo (zy (v0, v1, v2, v3) [] trivial (by simp) rfl (by simp only [← hk]; simp))
 ·rintro ⟨v0, v1, v2, v3⟩ -
  simp only
  have hg : zz x = ⟨dz, rnd x.veh 0 5, rnd x.cap 0 40, rnd x.len 0 300, (x.cust.take 6).map fun c => yM c dz, (List.range ((x.cust.take 6).length + 1)).map fun a => q8 x (x.cust.take 6).length a⟩ := by unfold zz; rw [hdy]
  have hcl : ((x.cust.take 6).map fun c => yM c dz).length = (x.cust.take 6).length := by simp
  have hn6 : (x.cust.take 6).length ≤ 6 := by simp; omega
  rw [hg]
  rw [← hcl] at hn6 ⊢
  generalize (x.cust.take 6).map (fun c => yM c dz) = cs at *
  (repeat apply za); refine pwn ?_; intros
  refine za (qT 2 5 54 1 rfl rfl fun v4 => ?_)
  (repeat apply za); refine pwn ?_; intros
  have w0 : IntKind.i64.wrap ((cs.length : Int) + 1) = ((cs.length + 1 : Nat) : Int) := wrN _ (by omega)
  repeat apply za
  refine zh (zr (fun s : Nat × List (List Int) × Nat × Nat × Nat × Nat × Nat => s.1 ≤ cs.length + 1 ∧ s.2.1 = (List.range s.1).map fun a => q8 x cs.length a) (fun (a, out, v0, v1, v2, v3, v4) => [(1, .ptr nx v0 0), (2, .ptr (nx + 1) v1 0), (3, .ptr (nx + 2) v2 0), (5, I cs.length), (6, I a)])
   (fun (a, out, v0, v1, v2, v3, v4) => Qm x v0 v1 v2 (.sl (nx + 3) v3 8 0 cs.length) (.sl (nx + 4) v4 1 0 out.length) ++ [.cells v3 41 (cs.flatMap Enc.enc), .cells v4 54 (out.flatMap Enc.enc)]) (fun s => cs.length + 1 - s.1) (0, [], v0, v1, v2, v3, v4) [] (by simp) (by simp) (by simp [hdy]) ?_)
  rintro ⟨a, out, v0, v1, v2, v3, v4⟩ ⟨ha, ho⟩
  simp only at ha ho ⊢
  have hol : out.length = a := by rw [ho]; simp
  (repeat apply za); refine pwn ?_; intros
  repeat apply za
  refine zn rfl (fun hc => ?_) (fun hc => ?_)
  ·simp at hc
   refine ze (za (zh ?_))
   repeat apply za
   refine pwN [] w0 ?_
   refine ⟨by omega, fun v5 => ?_⟩
   intros
   (repeat apply za); refine pwn ?_; intros
   repeat apply za
   refine zh (zr (fun s : Nat × Nat × Nat × Nat × Nat × Nat × Nat => s.1 ≤ cs.length + 1) (fun (b, v0, v1, v2, v3, v4, v5) => [(1, .ptr nx v0 0), (2, .ptr (nx + 1) v1 0), (3, .ptr (nx + 2) v2 0), (5, I cs.length), (6, I a), (7, .sl (nx + 5) v5 1 0 (cs.length + 1)), (8, I b)])
    (fun (b, v0, v1, v2, v3, v4, v5) => Qm x v0 v1 v2 (.sl (nx + 3) v3 8 0 cs.length) (.sl (nx + 4) v4 1 0 out.length) ++ [.cells v3 41 (cs.flatMap Enc.enc), .cells v4 54 (out.flatMap Enc.enc), .cells v5 3 ((q9 x cs.length a b).flatMap Enc.enc)]) (fun s => cs.length + 1 - s.1) (0, v0, v1, v2, v3, v4, v5) [] (by simp) (by simp) (by simp [hdy, Ze4, JN]) ?_)
   rintro ⟨b, v0, v1, v2, v3, v4, v5⟩ hb
   simp only at hb ⊢
   (repeat apply za); refine pwn ?_; intros
   repeat apply za
   refine zn rfl (fun hc2 => ?_) (fun hc2 => ?_)
   ·simp at hc2
    have hrl := VG x cs.length a b
    have hsp := Qj (q9 x cs.length a b) b (rnd (arc x a b) 0 60) (by omega)
    have g1 : (b : Int) < cs.length + 1 := by omega
    refine ze (za (zh ?_))
    (repeat apply za); refine pwn ?_; intros
    by_cases hab : a = b
    ·subst hab
     refine zk (by simp) ?_
     refine ze ?_
     (repeat apply za); refine pwn ?_; intros
     exact zm (a + 1, v0, v1, v2, v3, v4, v5) [] (by simp; omega) (by simp; omega) (by simp [wrN a (by omega)]) rfl (by simp [hdy, Ze6])
    ·have hab' : ((a : Int) != b) = true := by simp; omega
     refine zi (by simp; omega) ?_
     repeat apply za
     refine pwn ?_
     refine pwc (Ql x a b) ?_
     refine pwC [] (xU _ _ _ (Ze3 hx _ _) (by omega) (by omega) (by omega)) (jn3 g1 hsp hrl) ?_
     refine ⟨by omega, ?_⟩
     intros
     (repeat apply za); refine pwn ?_; intros
     exact zm (b + 1, v0, v1, v2, v3, v4, v5) [] (by simp; omega) (by simp; omega) (by simp [wrN b (by omega)]) rfl (by simp [hdy, Ze5 x _ _ _ (show b ≤ cs.length by omega) hab])
   ·simp at hc2
    have hb' : b = cs.length + 1 := by omega
    subst hb'
    refine zo ?_
    have hrl := VG x cs.length a (cs.length + 1)
    refine zL 5 rfl ?_
    repeat apply za
    refine pwN [] hrl ?_
    refine ⟨by omega, ?_⟩
    intros
    (repeat apply za); refine pwn ?_; intros
    have hgl : (q8 x cs.length a).length = cs.length + 1 := by rw [← VH, hrl]
    exact zm (a + 1, out ++ [q8 x cs.length a], v0, v1, v2, v3, v4 + 1) [.dead] (by simp [List.range_succ, ho]; omega) (by simp; omega) (by simp [wrN a (by omega)]) rfl (by simp [hdy, VH, hgl])
  ·simp at hc
   have ha' : a = cs.length + 1 := by omega
   subst ha'
   refine zo ?_
   (repeat apply za); refine pwn ?_; intros
   refine zL 3 rfl ?_
   refine zL 4 rfl ?_
   repeat apply za
   exact zb (zg hd (by simp; rfl) (by simp [ho, hdy]))
open Go
set_option maxRecDepth 100000
theorem Ze8 (w : World) : w9 Tryz.prog w 41 Cust CustOk := by
 intro H enc fuel cs x h
 obtain ⟨hl, n, hf⟩ := Vr Tryz.underlying41 h
 simp only [c41] at hl
 match cs, hl with
 | [v0, v1, v2, v3, v4, v5, v6, v7], _ =>
  obtain ⟨y0, h0⟩ := hf 0 _ rfl
  obtain ⟨y1, h1⟩ := hf 1 _ rfl
  obtain ⟨y2, h2⟩ := hf 2 _ rfl
  obtain ⟨y3, h3⟩ := hf 3 _ rfl
  obtain ⟨y4, h4⟩ := hf 4 _ rfl
  obtain ⟨y5, h5⟩ := hf 5 _ rfl
  obtain ⟨y6, h6⟩ := hf 6 _ rfl
  obtain ⟨y7, h7⟩ := hf 7 _ rfl
  simp at h0 h1 h2 h3 h4 h5 h6 h7
  obtain ⟨z0, k0, r0⟩ := xi Tryz.underlying3 H enc n _ _ h0
  obtain ⟨z1, k1, r1⟩ := xi Tryz.underlying3 H enc n _ _ h1
  obtain ⟨z2, k2, r2⟩ := Qi (α := Nat) Tryz.underlying39 (by simp; rfl) (by decide) (Zex Tryz.underlying99) H enc n _ _ h2
  obtain ⟨z3, k3, r3⟩ := xi Tryz.underlying3 H enc n _ _ h3
  obtain ⟨z4, k4, r4⟩ := xi Tryz.underlying3 H enc n _ _ h4
  obtain ⟨z5, k5, r5⟩ := xi Tryz.underlying3 H enc n _ _ h5
  obtain ⟨z6, k6, r6⟩ := xi Tryz.underlying3 H enc n _ _ h6
  obtain ⟨z7, k7, r7⟩ := xi Tryz.underlying3 H enc n _ _ h7
  exact ⟨⟨z0, z1, z2, z3, z4, z5, z6, z7⟩, ⟨k0, k1, k2.2, k2.1, k3, k4, k5, k6, k7⟩,
   xF (vs := [v0]) r0 (xF (vs := [v1]) r1 (xF (vs := [v2]) r2 (xF (vs := [v3]) r3 (xF (vs := [v4]) r4 (xF (vs := [v5]) r5 (xF (vs := [v6]) (us := [v7]) r6 r7))))))⟩
instance : Enc Inst := ⟨zt, 6, fun _ => rfl, fun _ => rfl⟩
theorem Ze9 (w : World) : w9 Tryz.prog w 25 Inst InstOk := by
 intro H enc fuel cs x h
 obtain ⟨hl, n, hf⟩ := Vr Tryz.underlying25 h
 simp only [c25] at hl
 match cs, hl with
 | [v0, v1, v2, v3, v4, v5], _ =>
  obtain ⟨y0, h0⟩ := hf 0 _ rfl
  obtain ⟨y1, h1⟩ := hf 1 _ rfl
  obtain ⟨y2, h2⟩ := hf 2 _ rfl
  obtain ⟨y3, h3⟩ := hf 3 _ rfl
  obtain ⟨y4, h4⟩ := hf 4 _ rfl
  obtain ⟨y5, h5⟩ := hf 5 _ rfl
  simp at h0 h1 h2 h3 h4 h5
  obtain ⟨z0, k0, r0⟩ := xi Tryz.underlying3 H enc n _ _ h0
  obtain ⟨z1, k1, r1⟩ := xi Tryz.underlying3 H enc n _ _ h1
  obtain ⟨z2, k2, r2⟩ := xi Tryz.underlying3 H enc n _ _ h2
  obtain ⟨z3, k3, r3⟩ := xi Tryz.underlying3 H enc n _ _ h3
  obtain ⟨z4, k4, r4⟩ := Qi (α := Cust) Tryz.underlying22 (by simp; rfl) (by decide) (Ze8 w) H enc n _ _ h4
  obtain ⟨z5, k5, r5⟩ := Qi (α := List Int) Tryz.underlying23 (by simp; rfl) (by decide) (Qi (α := Int) Tryz.underlying54 (by simp; rfl) (by decide) (xi Tryz.underlying3)) H enc n _ _ h5
  exact ⟨⟨z0, z1, z2, z3, z4, z5⟩, ⟨k0, k1, k2, k3, k4.1, k4.2, k5.1, k5.2⟩,
   xF (vs := [v0]) r0 (xF (vs := [v1]) r1 (xF (vs := [v2]) r2 (xF (vs := [v3]) r3 (xF (vs := [v4]) (us := [v5]) r4 r5))))⟩
open Go
abbrev yf (l : List Int) : List Int := l.mergeSort fun x y => decide (x ≤ y)
theorem vH (l : List Int) : (yf l).length = l.length := List.length_mergeSort l
theorem Qn (l : List Int) : l.flatMap Enc.enc = l.map I := by induction l <;> simp_all
theorem Zh (S : Store) (o : Nat) (x : Ob) (h : S o = x) : S.set o x = S := by
 funext i; simp only [Store.set]; split
 ·rename_i e; rw [e, h]
 ·rfl
theorem ux {C : Ctx} {S : Store} {w : World} {x : Int} {v : Value} (h : Rel C S w (I x) v) : v = .int .i64 x := by cases h; rfl
theorem JR {vs : Array Value} (h : 1 = vs.size) : ∃ v, vs = #[v] := by
 match vs, h with
 | ⟨[v]⟩, _ => exact ⟨v, rfl⟩
theorem Qo {S : Store} {id ver : Nat} (zs : List Int) (hid : S id = .cells ver 3 (zs.flatMap Enc.enc)) (hn : zs.length ≤ 1048576) :
  Spec Tryz.prog 191 [.sl id ver 1 0 zs.length] S (fun p S' => S' = S.set id (.cells ver 3 ((yf zs).flatMap Enc.enc))) := by
 refine ⟨yY Tryz.func191 (by rfl) rfl, ?_⟩
 intro C w vs hS hl hr
 obtain ⟨v, rfl⟩ := JR hl
 have hv := hr 0 _ v rfl rfl
 cases hv with
 | sl h1 h2 h3 =>
  obtain ⟨a, cap, rfl, q1, q2, q3, q4⟩ := h1
  by_cases h0 : zs = []
  ·subst h0
   refine (Tryz.slices_Sort_int_none a cap w).mono ?_
   rintro e w' ⟨rfl, rfl⟩
   exact ⟨.junk, _, S, C, rfl, by rw [show yf [] = [] from by simp [yf]]; exact (Zh S id _ hid).symm, .junk _, hS, .refl _ _ _⟩
  ·have hpos : 0 < zs.length := List.length_pos_iff.2 h0
   rcases hS.cells id ver _ _ hid with ⟨hn', hnil⟩ | ⟨b, k, c, g1, g2, g3, g4, g5, g6⟩
   ·rw [Qn] at hnil; simp at hnil; exact absurd hnil h0
   ·have ha : a = some ⟨b, 0, none⟩ := by
     rcases (h3 ver (by rw [hid]; rfl)).2 rfl with ⟨z1, _⟩ | ⟨b', k', a', cap', z1, z2, z3, z4⟩
     ·rw [g1] at z1; cases z1
     ·rw [g1] at z1; cases z1; cases z2; exact (z3 rfl).1
    subst ha
    rw [qy] at g4
    have hcells : ∀ i, i < zs.length → c[i]? = some (.int .i64 (zs.getD i 0)) := by
     intro i hi
     have hi' : i < c.size := by omega
     have e1 : (zs.flatMap Enc.enc)[i]? = some (I (zs.getD i 0)) := by rw [Qn]; simp [hi]
     have e2 : c[i]? = some c[i] := by simp
     have := ux (g6 i _ _ e1 e2)
     rw [e2, this]
    have htake : c.toList.take zs.length = zs.map (Value.int .i64) := by
     apply List.ext_getElem?
     intro i
     by_cases hi : i < zs.length
     ·rw [List.getElem?_take_of_lt hi, Array.getElem?_toList, hcells i hi]; simp [hi]
     ·rw [List.getElem?_eq_none (by simp; omega), List.getElem?_eq_none (by simp; omega)]
    refine (Tryz.slices_Sort_int b 0 cap zs w (holds_of_blockI g2 htake) (yI g2) (by omega)).mono ?_
    rintro e w' ⟨rfl, n, os, rfl⟩
    have hb' := heap_sortedI (n := n) (os := os) (yf zs).toArray g2
    have hlz := vH zs
    have hcs : ∀ i, (Sort.putCells (Value.int .i64) 0 (yf zs).toArray c)[i]? = if i < zs.length then some (.int .i64 ((yf zs).getD i 0)) else c[i]? := by
     intro i
     by_cases hi : i < zs.length
     ·rw [if_pos hi]
      have : i < c.size := by omega
      have hi2 : i < (yf zs).length := by omega
      simp [Sort.putCells, hi2, this]
      intro h; omega
     ·rw [if_neg hi]
      by_cases hc : i < c.size
      ·have hi2 : ¬ i < (yf zs).length := by omega
       simp [Sort.putCells, hi2, hc]
       intro h; omega
      ·rw [Array.getElem?_eq_none (by simp [Sort.putCells]; omega), Array.getElem?_eq_none (by omega)]
    obtain ⟨t1, t2⟩ := hS.turn (l := C.loc id) (ver' := ver) (cs' := (yf zs).flatMap Enc.enc) hid (Nat.le_refl _) (fun _ => rfl) (by rw [g1]; exact ⟨grownBy_sortedI (n := n) (os := os) (yf zs).toArray, Nat.le_add_right _ _⟩)
     (.inr ⟨b, k, _, g1, .inr (by rw [g1]; rfl), hb', by simp [Sort.putCells, g3], by rw [qy, hlz]; exact g4, fun i z hi hz => by
       rw [hcs] at hz
       rw [qy, hlz] at hi
       rw [if_pos hi] at hz; cases hz; rfl,
      fun i p z hp hz => by
       rw [hcs] at hz
       have hi : i < zs.length := by
        have := (List.getElem?_eq_some_iff.1 hp).1
        rw [qy, hlz] at this; exact this
       rw [if_pos hi] at hz; cases hz
       rw [Qn, List.getElem?_map] at hp
       have hi2 : i < (yf zs).length := by omega
       rw [List.getElem?_eq_getElem hi2] at hp
       cases hp
       rw [List.getD_eq_getElem?_getD, List.getElem?_eq_getElem hi2]
       exact .sc _⟩)
    exact ⟨.junk, _, _, _, rfl, rfl, .junk _, t1, t2⟩
open Go
def zM (l : List Stop) : List Value := l.flatMap fun s => [.int .i64 s.c, .int .i64 s.q]
theorem VI (l : List Stop) : l.flatMap Enc.enc = (zM l).map PV.sc := by
 unfold zM
 induction l <;> simp_all
theorem Zi (l : List Stop) : (zM l).length = l.length * 2 := by
 unfold zM
 induction l with
 | nil => rfl
 | cons s l ih => simp at ih ⊢; omega
theorem Qp (l m : List Stop) : zM (l ++ m) = zM l ++ zM m := by simp [zM]
theorem VJ (l : List Stop) (i : Nat) (h : i ≤ l.length) : (zM l).take (i * 2) = zM (l.take i) := by
 conv => lhs; rw [← List.take_append_drop i l, Qp]
 have : (zM (l.take i)).length = i * 2 := by rw [Zi]; simp; omega
 rw [← this, List.take_left]
theorem VK (l : List Stop) (i : Nat) (h : i ≤ l.length) : (zM l).drop (i * 2) = zM (l.drop i) := by
 conv => lhs; rw [← List.take_append_drop i l, Qp]
 have : (zM (l.take i)).length = i * 2 := by rw [Zi]; simp; omega
 rw [← this, List.drop_left]
theorem Zj (l : List Stop) : ∀ v ∈ zM l, v.oneCell' = true := by
 intro v hv
 obtain ⟨s, _, hs⟩ := List.mem_flatMap.1 hv
 simp at hs
 rcases hs with rfl | rfl <;> rfl
theorem Zfa {V vs cur : List Value} {i n : Nat} (hi : i < n) (hV : V.length = n * 2) (hv : vs.length = 2) (hc : cur.take (n * 2) = V) (hl : n * 2 + 2 ≤ cur.length) :
  ((cur.take ((i + 1) * 2) ++ V.drop (i * 2) ++ cur.drop ((i + 1) * 2 + (V.drop (i * 2)).length)).take (i * 2) ++ vs ++ (cur.take ((i + 1) * 2) ++ V.drop (i * 2) ++ cur.drop ((i + 1) * 2 + (V.drop (i * 2)).length)).drop (i * 2 + 2)) =
   V.take (i * 2) ++ vs ++ V.drop (i * 2) ++ cur.drop ((i + 1) * 2 + (V.drop (i * 2)).length) := by
 have h1 : (cur.take ((i + 1) * 2)).length = i * 2 + 2 := by simp; omega
 have h2 : (cur.take ((i + 1) * 2) ++ V.drop (i * 2) ++ cur.drop ((i + 1) * 2 + (V.drop (i * 2)).length)).take (i * 2) = V.take (i * 2) := by
  rw [List.append_assoc, List.take_append_of_le_length (by omega), List.take_take, Nat.min_eq_left (by omega), ← hc, List.take_take, Nat.min_eq_left (by omega)]
 rw [h2, ← h1, List.append_assoc (cur.take _), List.drop_left]
 simp
theorem Zfb {V vs ROW : List Value} {i n : Nat} (hi : i < n) (hV : V.length = n * 2) (hv : vs.length = 2) (hc : ROW.take (i * 2) = V.take (i * 2)) :
  ((ROW.take (i * 2) ++ vs ++ ROW.drop (i * 2 + 2)).take ((i + 1) * 2) ++ V.drop (i * 2) ++ (ROW.take (i * 2) ++ vs ++ ROW.drop (i * 2 + 2)).drop ((i + 1) * 2 + (V.drop (i * 2)).length)) =
   V.take (i * 2) ++ vs ++ V.drop (i * 2) ++ (ROW.take (i * 2) ++ vs ++ ROW.drop (i * 2 + 2)).drop ((i + 1) * 2 + (V.drop (i * 2)).length) := by
 have h1 : (ROW.take (i * 2) ++ vs).length = (i + 1) * 2 := by rw [hc]; simp; omega
 have h2 : (ROW.take (i * 2) ++ vs ++ ROW.drop (i * 2 + 2)).take ((i + 1) * 2) = V.take (i * 2) ++ vs := by
  rw [← h1, List.take_left, hc]
 rw [h2]
theorem VL {vs : Array Value} (h : 3 = vs.size) : ∃ u v x, vs = #[u, v, x] := by
 match vs, h with
 | ⟨[u, v, x]⟩, _ => exact ⟨u, v, x, rfl⟩
theorem JS {C : Ctx} {S : Store} {w : World} {R : Array Value} {V rest : List Value} (h : R.toList = V ++ rest) (h1 : ∀ v ∈ V, v.oneCell' = true) :
  (∀ (i : Nat) (v : Value), i < (V.map PV.sc).length → R[i]? = some v → v.oneCell' = true) ∧ ∀ (i : Nat) (p : PV) (v : Value), (V.map PV.sc)[i]? = some p → R[i]? = some v → Rel C S w p v := by
 have hat : ∀ (i : Nat) (v : Value), i < V.length → R[i]? = some v → V[i]? = some v := by
  intro i v hi hv
  rw [← Array.getElem?_toList, h, List.getElem?_append_left hi] at hv
  exact hv
 refine ⟨fun i v hi hv => h1 v (List.mem_of_getElem? (hat i v (by simpa using hi) hv)), fun i p v hp hv => ?_⟩
 rw [List.getElem?_map] at hp
 obtain ⟨u, hu, rfl⟩ := Option.map_eq_some_iff.1 hp
 have := hat i v (List.getElem?_eq_some_iff.1 hu).1 hv
 rw [hu] at this
 cases this
 exact .sc _
theorem Zfc {S : Store} {id ver : Nat} (cs : List Stop) (i : Nat) (s : Stop) (hi : i < cs.length) (hn : cs.length ≤ 1000000) (hid : S id = .cells ver 50 (cs.flatMap Enc.enc)) :
  Spec Tryz.prog 111 [.sl id ver 2 0 cs.length, I i, L [s]] S (fun p S' => p = .sl id (ver + 1) 2 0 (cs.length + 1) ∧ S' = S.set id (.cells (ver + 1) 50 ((cs.take i ++ s :: cs.drop i).flatMap Enc.enc))) := by
 refine ⟨yY Tryz.func111 (by rfl) rfl, ?_⟩
 intro C w vs hS hl hr
 obtain ⟨u, v, x, rfl⟩ := VL hl
 obtain rfl := ux (hr 1 _ v rfl rfl)
 have hu := hr 0 _ u rfl rfl
 have hx : Rel C S w (.lst 1 [I s.c, I s.q]) x := hr 2 _ x rfl rfl
 have hvl : (zM cs).length = cs.length * 2 := Zi cs
 rw [VI] at hid ⊢
 obtain ⟨i0, hi0⟩ := Option.isSome_iff_exists.1 i50
 have hz := z50
 have hc := c50
 have hb := b50
 simp only [Program.zeroOf, Program.cellsOf, Program.bytesOf', hi0, Option.bind_some, Option.map_some, Option.getD_some, Option.some.injEq] at hz hc hb
 cases hu with
 | sl h1 h2 h3 =>
  obtain ⟨ad, cap, rfl, q1, q2, q3, q4⟩ := h1
  have hloc := (h3 ver (by rw [hid]; rfl)).2 rfl
  rcases hS.cells id ver _ _ hid with ⟨hno, hnil⟩ | ⟨b, k, c, g1, g2, g3, g4, g5, g6⟩
  ·have := congrArg List.length hnil
   simp [hvl] at this
   exfalso; omega
  rcases hloc with ⟨z1, _⟩ | ⟨b', k', ad', cap', z1, z2, z3, z4⟩
  ·rw [g1] at z1; cases z1
  rw [g1] at z1; cases z1; cases z2
  obtain ⟨rfl, hcap⟩ := z3 rfl
  rw [List.length_map, hvl] at g4
  -- what stands in the block
  have hcells : ∀ (j : Nat) v, (zM cs)[j]? = some v → c[j]? = some v := by
   intro j v hj
   have hjl := (List.getElem?_eq_some_iff.1 hj).1
   have e2 : c[j]? = some c[j] := Array.getElem?_eq_getElem (by omega)
   have := g6 j (.sc v) _ (by rw [List.getElem?_map, hj]; rfl) e2
   rw [e2]
   generalize c[j] = y at this
   cases this; rfl
  have hcur : c.toList.take (cs.length * 2) = zM cs := by
   apply List.ext_getElem?
   intro j
   by_cases hj : j < cs.length * 2
   ·rw [List.getElem?_take_of_lt hj, Array.getElem?_toList]
    have e : (zM cs)[j]? = some (zM cs)[j] := List.getElem?_eq_getElem (by omega)
    rw [e, hcells j _ e]
   ·rw [List.getElem?_eq_none (by simp; omega), List.getElem?_eq_none (by omega)]
  have hccell : ∀ (j : Nat) v, (zM cs)[j]? = some v → w.cell? ⟨b, j, none⟩ = some v := fun j v hj => by
   simp only [World.cell?, g2]
   exact hcells j v hj
  have hnew : zM (cs.take i ++ s :: cs.drop i) = (zM cs).take (i * 2) ++ [.int .i64 s.c, .int .i64 s.q] ++ (zM cs).drop (i * 2) := by
   rw [VJ cs i (by omega), VK cs i (by omega), Qp]
   simp [zM]
  have hnl : (zM (cs.take i ++ s :: cs.drop i)).length = (cs.length + 1) * 2 := by rw [Zi]; simp; omega
  cases hx with
  | lst1 y1 y2 y3 y4 y5 y6 y7 =>
   rename_i vc vb vo cv ev fz
   have y5' := y5 (by simp)
   simp only [List.length_cons, List.length_nil] at y5'
   have hvcell : ∀ (j : Nat) v, ([.int .i64 s.c, .int .i64 s.q] : List Value)[j]? = some v → w.cell? ⟨vb, vo + j, none⟩ = some v := by
    intro j v hj
    have hjl := (List.getElem?_eq_some_iff.1 hj).1
    simp at hjl
    simp only [World.cell?, y3]
    have e2 : cv[vo + j]? = some (cv[vo + j]'(by omega)) := Array.getElem?_eq_getElem (by omega)
    have := y7 j (.sc v) _ (by
     match j, hj with
     | 0, hj => cases hj; rfl
     | 1, hj => cases hj; rfl) e2
    rw [if_neg (by simp), e2]
    generalize cv[vo + j]'(by omega) = y at this
    cases this; rfl
   have hvb : vb ≠ b := by
    rintro rfl
    exact y4 ⟨id, k, by rw [hid]; simp, g1⟩
   have newsl : ∀ (w' : World) (b' cap' : Nat), cs.length + 1 ≤ cap' → cap' ≤ maxLen →
     Rel (C.at id (ver + 1) (some (b', cap' * 2))) (S.set id (.cells (ver + 1) 50 ((zM (cs.take i ++ s :: cs.drop i)).map .sc))) w' (.sl id (ver + 1) 2 0 (cs.length + 1)) (.slice (some ⟨b', 0, none⟩) (cs.length + 1) cap') := by
    intro w' b' cap' hkm hcl
    refine .sl ⟨_, _, rfl, hkm, by unfold qQ; omega, hcl, fun _ => ⟨_, _, rfl⟩⟩ ⟨h2.1, by simp only [Ctx.at]; omega⟩ fun v0 hv0 => ?_
    rw [Store.set_same] at hv0; cases hv0
    exact ⟨Nat.le_refl _, fun _ => .inr ⟨b', _, _, _, by simp [Ctx.at], rfl, fun _ => ⟨rfl, rfl⟩, fun _ => rfl⟩⟩
   have hsv : ∀ v ∈ ([.int .i64 s.c, .int .i64 s.q] : List Value), v.oneCell' = true := by
    intro v hv
    simp at hv
    rcases hv with rfl | rfl <;> rfl
   by_cases hroom : cs.length + 1 ≤ cap
   ·obtain ⟨R1, hR1⟩ : ∃ R1 : Array Value, R1 = (c.toList.take ((i + 1) * 2) ++ (zM cs).drop (i * 2) ++ c.toList.drop ((i + 1) * 2 + ((zM cs).drop (i * 2)).length)).toArray := ⟨_, rfl⟩
    obtain ⟨R2, hR2⟩ : ∃ R2 : Array Value, R2 = (R1.toList.take (i * 2) ++ ([.int .i64 s.c, .int .i64 s.q] : List Value) ++ R1.toList.drop (i * 2 + 2)).toArray := ⟨_, rfl⟩
    have hcsz : c.size = cap * 2 := g3.trans hcap.symm
    have hctl : c.toList.length = cap * 2 := by simpa using hcsz
    have hR2l : R2.toList = zM (cs.take i ++ s :: cs.drop i) ++ c.toList.drop ((i + 1) * 2 + ((zM cs).drop (i * 2)).length) := by
     rw [hR2, hR1, hnew]
     simp only []
     exact Zfa hi hvl rfl hcur (by omega)
    have hR2s : R2.size = cap * 2 := by
     rw [← Array.length_toList, hR2l]
     simp [hnl, hvl]
     omega
    refine (Zdp b cs.length cap i vb vo vc (zM cs) [.int .i64 s.c, .int .i64 s.q] w (by rw [hi0]; simp [hc]) c g2 hcsz hi hroom (by unfold maxLen at q3; omega) (by omega) hvl rfl hvb hccell hvcell (Zj cs) hsv ev (cv.size - 1) (by unfold World.shape?; rw [y3]; simp; omega) R1 R2 hR1 hR2).mono ?_
    rintro e w' ⟨rfl, rfl⟩
    obtain ⟨r1, r2⟩ := JS (C := C) (S := S) (w := w) hR2l (Zj _)
    have hb1 := setRow_heap w.drew b c R1 _ _ g2
    obtain ⟨t1, t2⟩ := hS.turn (l := some (b, cap * 2)) (ver' := ver + 1) (cs' := (zM (cs.take i ++ s :: cs.drop i)).map .sc) hid (by omega) (fun h => absurd h (by omega)) (w' := (w.drew.setRow b R1).setRow b R2)
     (by
      rw [g1]
      refine ⟨⟨rfl, rfl, rfl, by simp [World.setRow], fun j hj hne => ?_⟩, Nat.le_succ _⟩
      have hjb : j ≠ b := fun e => hne (by rw [e]; rfl)
      rw [setRow_other _ _ _ _ hjb, setRow_other _ _ _ _ hjb]; rfl)
     (.inr ⟨b, cap * 2, R2, rfl, .inr (by rw [g1]; rfl), setRow_heap _ _ _ _ _ _ hb1, hR2s, by rw [List.length_map, hnl]; omega, r1, r2⟩)
    exact ⟨_, _, _, _, rfl, ⟨rfl, rfl⟩, newsl _ b cap hroom q3, t1, t2⟩
   ·obtain ⟨G, hG⟩ : ∃ G, G = grownCap w (cs.length + 1) cap 50 := ⟨_, rfl⟩
    have hGn : cs.length + 1 ≤ G := by rw [hG]; exact grownCap_ge w _ _ _
    have hGm : G ≤ maxLen := by rw [hG]; exact grownCap_le_maxLen w _ _ _ (by unfold maxLen; omega)
    obtain ⟨ROW, hROW⟩ : ∃ ROW : Array Value, ROW = ((zM cs).take (i * 2)).toArray ++ Builtin.zeroCells (Value.agg #[.int .i64 0, .int .i64 0]).cells (cs.length + 1 - i) ++ Builtin.zeroCells (Value.agg #[.int .i64 0, .int .i64 0]).cells (G - (cs.length + 1)) := ⟨_, rfl⟩
    obtain ⟨R1, hR1⟩ : ∃ R1 : Array Value, R1 = (ROW.toList.take (i * 2) ++ ([.int .i64 s.c, .int .i64 s.q] : List Value) ++ ROW.toList.drop (i * 2 + 2)).toArray := ⟨_, rfl⟩
    obtain ⟨R2, hR2⟩ : ∃ R2 : Array Value, R2 = (R1.toList.take ((i + 1) * 2) ++ (zM cs).drop (i * 2) ++ R1.toList.drop ((i + 1) * 2 + ((zM cs).drop (i * 2)).length)).toArray := ⟨_, rfl⟩
    have htl : ((zM cs).take (i * 2)).length = i * 2 := by simp; omega
    have hROWs : ROW.size = G * 2 := by
     rw [hROW]
     simp only [Array.size_append, size_zeroCells, List.size_toArray, htl]
     simp [Value.cells]
     omega
    have hROWt : ROW.toList.take (i * 2) = (zM cs).take (i * 2) := by
     rw [hROW]
     simp only [Array.toList_append]
     rw [List.append_assoc]
     exact List.take_left' htl
    have hR1s : R1.size = G * 2 := by rw [hR1]; simp; omega
    have hR2l : R2.toList = zM (cs.take i ++ s :: cs.drop i) ++ R1.toList.drop ((i + 1) * 2 + ((zM cs).drop (i * 2)).length) := by
     rw [hR2, hR1, hnew]
     simp only []
     exact Zfb hi hvl rfl hROWt
    have hR2s : R2.size = G * 2 := by
     rw [← Array.length_toList, hR2l]
     simp [hnl, hvl, hR1s]
     omega
    refine (Zdo b cs.length cap i vb vo vc (zM cs) [.int .i64 s.c, .int .i64 s.q] w i0 _ hi0 hz (by omega) hb rfl hi q1 (by omega) (by omega) hvl rfl hccell hvcell (Zj cs) hsv G hG ROW hROW R1 R2 hR1 hR2).mono ?_
    rintro e w' ⟨rfl, rfl⟩
    obtain ⟨r1, r2⟩ := JS (C := C) (S := S) (w := w) hR2l (Zj _)
    have hb0 := vx w.drew (.cells ROW 50)
    have hb1 := setRow_heap (w.drew.alloc (.cells ROW 50)) w.heap.size ROW R1 _ _ hb0
    obtain ⟨t1, t2⟩ := hS.turn (l := some (w.heap.size, G * 2)) (ver' := ver + 1) (cs' := (zM (cs.take i ++ s :: cs.drop i)).map .sc) hid (by omega) (fun h => absurd h (by omega)) (w' := ((w.drew.alloc (.cells ROW 50)).setRow w.heap.size R1).drew.setRow w.heap.size R2)
     ⟨⟨rfl, rfl, rfl, by simp [World.setRow], fun j hj _ => by
      rw [setRow_other _ _ _ _ (by omega)]
      show ((w.drew.alloc (.cells ROW 50)).setRow w.heap.size R1).heap[j]? = _
      rw [setRow_other _ _ _ _ (by omega)]
      exact xN w.drew _ j hj⟩, Nat.le_succ_of_le (Nat.le_succ _)⟩
     (.inr ⟨w.heap.size, G * 2, R2, rfl, .inl (Nat.le_refl _), setRow_heap _ _ _ _ _ _ hb1, hR2s, by rw [List.length_map, hnl]; omega, r1, r2⟩)
    exact ⟨_, _, _, _, rfl, ⟨rfl, rfl⟩, newsl _ w.heap.size G hGn hGm, t1, t2⟩
open Go
def zx (t : List Stop) : Int := (t.map (·.q)).sum
theorem Z8 (t : List Stop) (s : Stop) : zx (t ++ [s]) = zx t + s.q := by simp [zx]
set_option maxRecDepth 20000 in
theorem VM (t : List Stop) (ht : t.length ≤ 1048576) : Pure Tryz.prog 97 [.agg [L t]] (L (t.map (·.c))) := by
 refine pwe Tryz.func97 Tryz.ntmps97 Tryz.results97 fun S nx hd => ?_
 repeat apply za
 refine pwn ?_
 intro v0
 (repeat apply za); refine pwn ?_; intros
 refine za (yK 3 3 1 rfl fun v1 => ?_)
 (repeat apply za); refine pwn ?_; intros
 repeat apply za
 refine zh (zr (fun s : Nat × List Int × Nat × Nat => s.1 ≤ t.length ∧ s.2.1 = (t.take s.1).map (·.c)) (fun (k, out, v, v2) => [(1, .ptr nx v 0), (3, .sl (nx + 1) v2 1 0 out.length), (4, I k)]) (fun (k, out, v, v2) => [.cells v 72 [L t], .cells v2 3 (out.flatMap Enc.enc)]) (fun s => t.length - s.1) (0, [], v0, v1) [] (by simp) (by simp) (by simp) ?_)
 rintro ⟨k, out, v1, v2⟩ ⟨hk, ho⟩
 simp only at hk ho ⊢
 (repeat apply za); refine pwn ?_; intros
 repeat apply za
 refine zn rfl (fun hc => ?_) (fun hc => ?_)
 ·simp at hc
  obtain ⟨s, tl, a1, a2, a3, e1, e0⟩ := el 2 rfl t k hc
  refine ze (za (zh ?_))
  repeat apply za
  refine pwN [] (jn2 hc e0) ?_
  have hl : out.length = k := by rw [ho]; simp; omega
  refine ⟨by omega, ?_⟩
  intros
  (repeat apply za); refine pwn ?_; intros
  exact zm (k + 1, out ++ [s.c], v1, v2 + 1) [] (by simp [a3, ho]; omega) (by simp; omega) (by simp [wrN k (by omega)]) rfl (by simp)
 ·simp at hc
  have hk' : k = t.length := by omega
  subst hk'
  refine zo ?_
  (repeat apply za); refine pwn ?_; intros
  refine zL 1 rfl ?_
  repeat apply za
  exact zb (zg hd rfl (by simp [ho]))
set_option maxRecDepth 20000 in
theorem Zfd (t : List Stop) (ht : t.length ≤ 1048576) : Pure Tryz.prog 134 [.agg [L t]] (I (W (zx t))) := by
 refine pwe Tryz.func134 Tryz.ntmps134 Tryz.results134 fun S nx hd => ?_
 repeat apply za
 refine pwn ?_
 intro v0
 (repeat apply za); refine pwn ?_; intros
 (repeat apply za); refine pwn ?_; intros
 repeat apply za
 refine zh (zr (fun s : Nat × Nat => s.1 ≤ t.length) (fun (k, v) => [(1, .ptr nx v 0), (3, I (W (zx (t.take k)))), (4, I k)]) (fun (k, v) => [.cells v 72 [L t]]) (fun s => t.length - s.1) (0, v0) [] (by simp) (by simp [zx]) (by simp) ?_)
 rintro ⟨k, v1⟩ hk
 simp only at hk ⊢
 (repeat apply za); refine pwn ?_; intros
 repeat apply za
 refine zn rfl (fun hc => ?_) (fun hc => ?_)
 ·simp at hc
  obtain ⟨s, tl, a1, a2, a3, e1, e0⟩ := el 2 rfl t k hc
  refine ze (za (zh ?_))
  repeat apply za
  refine pwN [] (jn2 hc e1) ?_
  intros
  (repeat apply za); refine pwn ?_; intros
  exact zm (k + 1, v1) [] hc (by simp; omega) (by simp [wrN k (by omega), a3, Z8, xS]) rfl (by simp)
 ·simp at hc
  have hk' : k = t.length := by omega
  subst hk'
  refine zo ?_
  (repeat apply za); refine pwn ?_; intros
  repeat apply za
  exact zb (zg hd rfl (by simp))
theorem Z9 (l : List Int) (c : Int) (h : l.Nodup) (hc : c ∉ l) : (l ++ [c]).Nodup := by
 rw [List.nodup_append]; exact ⟨h, by simp, fun a ha b hb e => by simp at hb; subst hb; subst e; exact hc ha⟩
theorem JT {l : List Int} {i k : Nat} {c : Int} (hi : l[i]? = some c) (hk : l[k]? = some c) (h : k < i) : ¬ l.Nodup := by
 intro hn
 have := (List.getElem?_inj (List.getElem?_eq_some_iff.1 hi).1 hn).1 (hi.trans hk.symm)
 omega
set_option maxRecDepth 20000 in
theorem VN (l : List Int) (hl : l.length ≤ 1048576) : Pure Tryz.prog 98 [L l] (B (decide (¬ l.Nodup))) := by
 refine pwe Tryz.func98 Tryz.ntmps98 Tryz.results98 fun S nx hd => ?_
 (repeat apply za); refine pwn ?_; intros
 (repeat apply za); refine pwn ?_; intros
 repeat apply za
 refine zh (zr (fun i : Nat => i ≤ l.length ∧ (l.take i).Nodup) (fun i => [(0, L l), (3, I i)]) (fun _ => []) (fun i => l.length - i) 0 [] (by simp) (by simp) (by simp) ?_)
 rintro i ⟨hi, hn⟩
 (repeat apply za); refine pwn ?_; intros
 repeat apply za
 refine zn rfl (fun hc => ?_) (fun hc => ?_)
 ·simp at hc
  obtain ⟨c, tl, a1, a2, a3, e0⟩ := el1 rfl l i hc
  refine ze (za (zh ?_))
  (repeat apply za); refine pwn ?_; intros
  refine zh (zr (fun k : Nat => k ≤ i ∧ c ∉ l.take k) (fun k => [(0, L l), (3, I i), (4, I k)]) (fun _ => []) (fun k => i - k) 0 [] (by simp) (by simp) (by simp) ?_)
  rintro k ⟨hk, hkn⟩
  (repeat apply za); refine pwn ?_; intros
  repeat apply za
  refine zn rfl (fun hc2 => ?_) (fun hc2 => ?_)
  ·simp at hc2
   obtain ⟨c', tl', b1, b2, b3, e1⟩ := el1 rfl l k (by omega)
   have hkl : k < l.length := by omega
   refine ze (za (zh ?_))
   repeat apply za
   refine pwY none (Row.pures [0, 1, 2, 3, 4, 5, 6, 7, 8] .done) mixed (jn4 e0 e1 hc hkl) ?_
   intros
   repeat apply za
   refine zn rfl (fun hq => ?_) (fun hq => ?_)
   ·simp at hq
    subst hq
    (repeat apply za); refine pwn ?_; intros
    repeat apply za
    exact zb (zg hd rfl (by simp [JT a1 b1 hc2]))
   ·simp at hq
    refine ze ?_
    (repeat apply za); refine pwn ?_; intros
    exact zm (k + 1) [] ⟨hc2, by rw [b3]; simp [hkn, hq]⟩ (by omega) (by simp [wrN k (by omega)]) rfl (by simp)
  ·simp at hc2
   have : k = i := by omega
   subst this
   refine zo ?_
   (repeat apply za); refine pwn ?_; intros
   exact zm (k + 1) [] ⟨hc, by rw [a3]; exact Z9 _ _ hn hkn⟩ (by omega) (by simp [wrN k (by omega)]) rfl (by simp)
 ·simp at hc
  refine zo ?_
  (repeat apply za); refine pwn ?_; intros
  rw [List.take_of_length_le hc] at hn
  repeat apply za
  exact zb (zg hd rfl (by simp [hn]))
open Go
set_option maxRecDepth 20000 in
theorem Ya (t : List Stop) (ht : t.length ≤ 1048576) (S : Store) (nx : Nat) (hd : zO nx S) : Spec Tryz.prog 152 [.agg [L t]] S (fun p S' => ∃ v, p = .sl (nx + 1) v 1 0 t.length ∧ S' = S.set (nx + 1) (.cells v 3 ((t.map (·.c)).flatMap Enc.enc))) := by
 refine ut hd Tryz.func152 Tryz.ntmps152 Tryz.results152 ?_
 repeat apply za
 refine pwn ?_
 intro v0
 (repeat apply za); refine pwn ?_; intros
 refine za (yK 3 3 1 rfl fun v1 => ?_)
 (repeat apply za); refine pwn ?_; intros
 repeat apply za
 refine zh (zr (fun s : Nat × List Int × Nat × Nat => s.1 ≤ t.length ∧ s.2.1 = (t.take s.1).map (·.c)) (fun (k, out, v, v2) => [(3, .sl (nx + 1) v2 1 0 out.length), (7, L t), (8, I t.length), (9, I k)]) (fun (k, out, v, v2) => [.cells v 72 [L t], .cells v2 3 (out.flatMap Enc.enc)]) (fun s => t.length - s.1) (0, [], v0, v1) [] (by simp) (by simp) (by simp) ?_)
 rintro ⟨k, out, v1, v2⟩ ⟨hk, ho⟩
 simp only at hk ho ⊢
 (repeat apply za); refine pwn ?_; intros
 repeat apply za
 refine zn rfl (fun hc => ?_) (fun hc => ?_)
 ·simp at hc
  obtain ⟨s, tl, a1, a2, a3, e1, e0⟩ := el 2 rfl t k hc
  refine ze (za (zh ?_))
  repeat apply za
  refine pwN [] (jn2 hc e0) ?_
  intros
  have hl : out.length = k := by rw [ho]; simp; omega
  repeat apply za
  refine pwn ?_
  refine ⟨by omega, ?_⟩
  intros
  (repeat apply za); refine pwn ?_; intros
  exact zm (k + 1, out ++ [s.c], v1, v2 + 1) [_] (by simp [a3, ho]; omega) (by simp; omega) (by simp [wrN k (by omega)]) rfl (by simp; rfl)
 ·simp at hc
  have hk' : k = t.length := by omega
  subst hk'
  refine zo ?_
  (repeat apply za); refine pwn ?_; intros
  refine zb ⟨_, _, rfl, ⟨v2, by simp [ho], rfl⟩, JB hd (by simp [ho])⟩
theorem Zfe (t : List Stop) (ht : t.length ≤ 1048576) : Pure Tryz.prog 152 [.agg [L t]] (L (t.map (·.c))) := by
 have := JD 1 (fun S nx hd => Ya t ht S nx hd) (by simp)
 rw [← List.length_map (f := (·.c))] at this
 exact this
set_option maxRecDepth 20000 in
theorem VO (t : List Stop) (ht : t.length ≤ 1048576) : Pure Tryz.prog 146 [.agg [L t]] (I (W (zx t))) := by
 refine pwe Tryz.func146 Tryz.ntmps146 Tryz.results146 fun S nx hd => ?_
 repeat apply za
 refine pwn ?_
 intro v0
 (repeat apply za); refine pwn ?_; intros
 (repeat apply za); refine pwn ?_; intros
 repeat apply za
 refine zh (zr (fun s : Nat × Nat => s.1 ≤ t.length) (fun (k, v) => [(3, I (W (zx (t.take k)))), (7, L t), (8, I t.length), (9, I k)]) (fun (k, v) => [.cells v 72 [L t]]) (fun s => t.length - s.1) (0, v0) [] (by simp) (by simp [zx]) (by simp) ?_)
 rintro ⟨k, v1⟩ hk
 simp only at hk ⊢
 (repeat apply za); refine pwn ?_; intros
 repeat apply za
 refine zn rfl (fun hc => ?_) (fun hc => ?_)
 ·simp at hc
  obtain ⟨s, tl, a1, a2, a3, e1, e0⟩ := el 2 rfl t k hc
  refine ze (za (zh ?_))
  repeat apply za
  refine pwN [] (jn2 hc e0) ?_
  intros
  (repeat apply za); refine pwn ?_; intros
  (repeat apply za); refine pwn ?_; intros
  exact zm (k + 1, v1) [_] hc (by simp; omega) (by simp [wrN k (by omega), a3, Z8, xS]) rfl (by simp; rfl)
 ·simp at hc
  have hk' : k = t.length := by omega
  subst hk'
  refine zo ?_
  (repeat apply za); refine pwn ?_; intros
  repeat apply za
  exact zb (zg hd rfl (by simp))
set_option maxRecDepth 20000 in
theorem Yb (x : Inst) (t : List Stop) (ht : t.length ≤ 1048576) (hs : ∀ s ∈ t, small s.c) : Pure Tryz.prog 112 [.agg (zt x), .agg [L t]] (I (W (zF x (t.map (·.c))))) := by
 refine pwe Tryz.func112 Tryz.ntmps112 Tryz.results112 fun S nx hd => ?_
 (repeat apply za); refine pwn ?_; intros
 repeat apply za
 refine pwY none (Row.pures [0, 1, 2, 3, 4] .done) mixed trivial ?_
 refine pwP (Zfe _ ht) trivial ?_
 refine pwP (VE _ _ (by simpa using ht) (by simpa using hs)) trivial ?_
 intros
 repeat apply za
 exact zb (zg hd rfl rfl)
def yn (x : Inst) (d : Day) : Int := (d.map fun t => zF x (t.map (·.c))).sum
theorem Zff (x : Inst) (d : Day) (t : zq) : yn x (d ++ [t]) = yn x d + zF x (t.map (·.c)) := by simp [yn]
structure DayOk (d : Day) : Prop where
 n : d.length ≤ 1048576
 t : ∀ t ∈ d, t.length ≤ 1048576
 s : ∀ t ∈ d, ∀ s ∈ t, small s.c
set_option maxRecDepth 20000 in
theorem Zfg (x : Inst) (d : Day) (hd' : DayOk d) : Pure Tryz.prog 72 [.agg (zt x), .agg [L d]] (I (W (yn x d))) := by
 have hn := hd'.n
 refine pwe Tryz.func72 Tryz.ntmps72 Tryz.results72 fun S nx hd => ?_
 repeat apply za
 refine pwn ?_
 intro v0 v1
 (repeat apply za); refine pwn ?_; intros
 (repeat apply za); refine pwn ?_; intros
 repeat apply za
 refine zh (zr (fun s : Nat × Nat × Nat => s.1 ≤ d.length) (fun (k, v, v') => [(2, .ptr nx v 0), (5, I (W (yn x (d.take k)))), (9, L d), (10, I d.length), (11, I k)]) (fun (k, v, v') => [.cells v 25 (zt x), .cells v' 66 [L d]]) (fun s => d.length - s.1) (0, v0, v1) [] (by simp) (by simp [yn]) (by simp) ?_)
 rintro ⟨k, v1, v2⟩ hk
 simp only at hk ⊢
 (repeat apply za); refine pwn ?_; intros
 repeat apply za
 refine zn rfl (fun hc => ?_) (fun hc => ?_)
 ·simp at hc
  obtain ⟨t, tl, a1, a2, a3, e0⟩ := el1 rfl d k hc
  have htd := List.mem_of_getElem? a1
  refine ze (za (zh ?_))
  repeat apply za
  refine pwN [] (jn2 hc e0) ?_
  intros
  repeat apply za
  refine pwn ?_
  refine pwc (Yb _ _ (hd'.t t htd) (hd'.s t htd)) ?_
  intros
  (repeat apply za); refine pwn ?_; intros
  exact zm (k + 1, v1, v2) [_] hc (by simp; omega) (by simp [wrN k (by omega), a3, Zff, xS, Vi]) rfl (by simp; rfl)
 ·simp at hc
  have hk' : k = d.length := by omega
  subst hk'
  refine zo ?_
  (repeat apply za); refine pwn ?_; intros
  repeat apply za
  exact zb (zg hd rfl (by simp))
set_option maxRecDepth 20000 in
theorem VP (d : Day) (hn : d.length ≤ 1048576) (hf : d.flatten.length ≤ 1048576) : Pure Tryz.prog 143 [.agg [L d]] (L d.flatten) := by
 refine pwe Tryz.func143 Tryz.ntmps143 Tryz.results143 fun S nx hd => ?_
 repeat apply za
 refine pwn ?_
 intro v0
 (repeat apply za); refine pwn ?_; intros
 refine za (yK 3 50 2 rfl fun v1 => ?_)
 (repeat apply za); refine pwn ?_; intros
 repeat apply za
 refine zh (zr (fun s : Nat × List Stop × Nat × Nat => s.1 ≤ d.length ∧ s.2.1 = (d.take s.1).flatten) (fun (k, out, v, v2) => [(3, .sl (nx + 1) v2 2 0 out.length), (7, L d), (8, I d.length), (9, I k)]) (fun (k, out, v, v2) => [.cells v 66 [L d], .cells v2 50 (out.flatMap Enc.enc)]) (fun s => d.length - s.1) (0, [], v0, v1) [] (by simp) (by simp) (by simp) ?_)
 rintro ⟨k, out, v1, v2⟩ ⟨hk, ho⟩
 simp only at hk ho ⊢
 (repeat apply za); refine pwn ?_; intros
 repeat apply za
 refine zn rfl (fun hc => ?_) (fun hc => ?_)
 ·simp at hc
  obtain ⟨t, tl, a1, a2, a3, e0⟩ := el1 rfl d k hc
  refine ze (za (zh ?_))
  repeat apply za
  refine pwN [] (jn2 hc e0) ?_
  intros
  have hl : out.length + t.length ≤ 1048576 := by
   have : (out ++ t).length ≤ d.flatten.length := by
    have e : d.flatten = (d.take (k + 1)).flatten ++ (d.drop (k + 1)).flatten := by rw [← List.flatten_append, List.take_append_drop]
    rw [e, a3]; simp [ho]
   simp only [List.length_append] at this; omega
  repeat apply za
  refine pwn ?_
  refine ⟨by omega, ?_⟩
  intros
  (repeat apply za); refine pwn ?_; intros
  exact zm (k + 1, out ++ t, v1, v2 + 1) [_] (by simp [a3, ho]; omega) (by simp; omega) (by simp [wrN k (by omega)]) rfl (by simp; rfl)
 ·simp at hc
  have hk' : k = d.length := by omega
  subst hk'
  refine zo ?_
  (repeat apply za); refine pwn ?_; intros
  refine zL 1 rfl ?_
  repeat apply za
  exact zb (zg hd rfl (by simp [ho]))
open Go
def qf (x : Inst) (s : Stop) : Bool := decide (0 ≤ s.c ∧ s.c < x.cust.length ∧ 1 ≤ s.q ∧ s.q ≤ 2147483648)
def yt (x : Inst) (t : zq) : Bool := t.all (qf x) && !t.isEmpty
def zu (x : Inst) (t : zq) : Int :=
 if yt x t = false then 1 else if ¬ (t.map (·.c)).Nodup then 11 else if x.cap < W (zx t) then 12 else if x.len < W (zF x (t.map (·.c))) then 13 else 0
theorem Qq {x : Inst} {t : zq} {s : Stop} {k : Nat} (h : t[k]? = some s) (hb : ¬ (0 ≤ s.c ∧ s.c < x.cust.length ∧ 1 ≤ s.q ∧ s.q ≤ 2147483648)) : zu x t = 1 := by
 unfold zu
 rw [if_pos]
 unfold yt
 have : t.all (qf x) = false := by
  rw [List.all_eq_false]; exact ⟨s, List.mem_of_getElem? h, by simp [qf]; omega⟩
 rw [this]; rfl
theorem VQ {x : Inst} {t : zq} {k : Nat} {s : Stop} (h : (t.take k).all (qf x) = true) (ht : t.take (k + 1) = t.take k ++ [s]) (hs : 0 ≤ s.c ∧ s.c < x.cust.length ∧ 1 ≤ s.q ∧ s.q ≤ 2147483648) : (t.take (k + 1)).all (qf x) = true := by
 rw [ht, List.all_append, h]; simp [qf]; omega
theorem VR {x : Inst} {t : zq} (hx : x.cust.length ≤ 1048576) (h : t.all (qf x) = true) : ∀ s ∈ t, small s.c := by
 intro s hs
 have := List.all_eq_true.1 h s hs
 simp [qf] at this
 unfold small; omega
set_option maxRecDepth 10000 in
theorem Zfh (x : Inst) (t : zq) (hx : x.cust.length ≤ 1048576) (ht : t.length ≤ 1048576) : Pure Tryz.prog 96 [.agg (zt x), .agg [L t]] (I (zu x t)) := by
 refine pwe Tryz.func96 Tryz.ntmps96 Tryz.results96 fun S nx hd => ?_
 repeat apply za
 refine pwn ?_
 intro v0 v1
 by_cases he : t = []
 ·subst he
  (repeat apply za); refine pwn ?_; intros
  repeat apply za
  refine zi rfl ?_
  (repeat apply za); refine pwn ?_; intros
  repeat apply za
  exact zb (zg hd rfl rfl)
 have he' : ¬ t.length = 0 := by simpa using he
 repeat apply za
 refine pwN [] (jn2 he he') ?_
 intros
 repeat apply za
 refine zk rfl ?_
 refine ze ?_
 (repeat apply za); refine pwn ?_; intros
 repeat apply za
 refine zh (zr (fun s : Nat × Nat × Nat => s.1 ≤ t.length ∧ (t.take s.1).all (qf x) = true) (fun (k, v, v') => [(2, .ptr nx v 0), (3, .ptr (nx + 1) v' 0), (5, I k)]) (fun (k, v, v') => [.cells v 25 (zt x), .cells v' 72 [L t]]) (fun s => t.length - s.1) (0, v0, v1) [] (by simp) (by simp) (by simp) ?_)
 rintro ⟨k, v0, v1⟩ ⟨hk, ha⟩
 simp only at hk ha ⊢
 (repeat apply za); refine pwn ?_; intros
 repeat apply za
 refine zn rfl (fun hc => ?_) (fun hc => ?_)
 ·simp at hc
  obtain ⟨s, tl, a1, a2, a3, e1, e0⟩ := el 2 rfl t k hc
  refine ze (za (zh ?_))
  repeat apply za
  refine pwN [] (jn2 hc e0) ?_
  intros
  by_cases h1 : s.c < 0
  ·repeat apply za
   refine pwN [(3, 27), (11, 35), (16, 40)] (jn2 h1 zp) ?_
   intros
   repeat apply za
   refine zi rfl ?_
   (repeat apply za); refine pwn ?_; intros
   repeat apply za
   exact zb (zg hd rfl (by rw [Qq a1 (by omega)]; rfl))
  by_cases h2 : (x.cust.length : Int) ≤ s.c
  ·repeat apply za
   refine pwN [(3, 27), (11, 35), (16, 40)] (jn3 h2 h1 zp) ?_
   intros
   repeat apply za
   refine zi rfl ?_
   (repeat apply za); refine pwn ?_; intros
   repeat apply za
   exact zb (zg hd rfl (by rw [Qq a1 (by omega)]; rfl))
  by_cases h3 : s.q < 1
  ·repeat apply za
   refine pwN [(3, 27), (11, 35), (16, 40)] (jn4 h3 h1 h2 zp) ?_
   intros
   repeat apply za
   refine zi rfl ?_
   (repeat apply za); refine pwn ?_; intros
   repeat apply za
   exact zb (zg hd rfl (by rw [Qq a1 (by omega)]; rfl))
  by_cases h4 : 2147483648 < s.q
  ·repeat apply za
   refine pwN [(3, 27), (11, 35), (16, 40)] (jn5 h4 h1 h2 h3 zp) ?_
   intros
   repeat apply za
   refine zi rfl ?_
   (repeat apply za); refine pwn ?_; intros
   repeat apply za
   exact zb (zg hd rfl (by rw [Qq a1 (by omega)]; rfl))
  repeat apply za
  refine pwN [(3, 27), (11, 35), (16, 40)] (jn4 h1 h2 h3 h4) ?_
  intros
  repeat apply za
  refine zk rfl ?_
  refine ze ?_
  (repeat apply za); refine pwn ?_; intros
  exact zm (k + 1, v0, v1) [_] ⟨hc, VQ ha a3 (by omega)⟩ (by simp; omega) (by simp [wrN k (by omega)]) rfl (by simp; rfl)
 ·simp at hc
  have hk' : k = t.length := by omega
  subst hk'
  rw [List.take_length] at ha
  have hst : yt x t = true := by unfold yt; rw [ha]; simp [he]
  refine zo ?_
  repeat apply za
  refine pwn ?_
  refine pwc (VM _ ht) ?_
  intros
  repeat apply za
  refine pwn ?_
  refine pwc (VN _ (by simpa using ht)) ?_
  intros
  by_cases hn : (t.map (·.c)).Nodup
  ·refine zk (by simp [hn]) ?_
   refine ze ?_
   repeat apply za
   refine pwY none (Row.pures [0, 1, 2, 3, 4] .done) mixed trivial ?_
   refine pwP (Zfd _ ht) trivial ?_
   intros
   repeat apply za
   refine zn rfl (fun h5 => ?_) (fun h5 => ?_)
   ·simp at h5
    (repeat apply za); refine pwn ?_; intros
    repeat apply za
    exact zb (zg hd rfl (by simp [zu, hst, hn, h5]))
   ·simp at h5
    refine ze ?_
    repeat apply za
    refine pwY none (Row.pures [0, 1, 2, 3, 4, 5] .done) mixed trivial ?_
    refine pwP (VF _ _ (by simpa using ht) (by simpa using VR hx ha)) trivial ?_
    intros
    repeat apply za
    refine zn rfl (fun h6 => ?_) (fun h6 => ?_)
    ·simp at h6
     (repeat apply za); refine pwn ?_; intros
     repeat apply za
     exact zb (zg hd rfl (by simp [zu, hst, hn, h6, Int.not_lt.2 h5]))
    ·simp at h6
     refine ze ?_
     (repeat apply za); refine pwn ?_; intros
     repeat apply za
     exact zb (zg hd rfl (by simp [zu, hst, hn, Int.not_lt.2 h6, Int.not_lt.2 h5]))
  ·refine zi (by simp [hn]) ?_
   (repeat apply za); refine pwn ?_; intros
   repeat apply za
   exact zb (zg hd rfl (by simp [zu, hst, hn]))
open Go
theorem Yc (l : List Int) : (yf l).Pairwise (· ≤ ·) := by
 have := List.pairwise_mergeSort (le := fun x y : Int => decide (x ≤ y)) (fun a b c h1 h2 => by simp at *; omega) (fun a b => by simp; omega) l
 simpa using this
theorem VS (l : List Int) : (yf l).Perm l := List.mergeSort_perm l _
theorem JU (l : List Int) : (yf l).Nodup ↔ l.Nodup := (VS l).nodup_iff
theorem VT {z : List Int} {j : Nat} {p c : Int} (hz : z.Pairwise (· ≤ ·)) (hn : (z.take (j + 1)).Nodup) (h1 : z.take (j + 1) = z.take j ++ [p]) (h2 : z.take (j + 1 + 1) = z.take (j + 1) ++ [c]) (hpc : p ≠ c) : (z.take (j + 1 + 1)).Nodup := by
 rw [h2]
 refine Z9 _ _ hn fun hc => ?_
 have hs : (z.take (j + 1 + 1)).Pairwise (· ≤ ·) := hz.sublist (List.take_sublist _ _)
 rw [h2, h1, List.append_assoc, List.pairwise_append] at hs
 rw [h1, List.mem_append] at hc
 rcases hc with hc | hc
 ·have a1 := hs.2.2 c hc p (by simp)
  have a2 := (List.pairwise_cons.1 hs.2.1).1 c (by simp)
  omega
 ·simp at hc; exact hpc hc.symm
set_option maxRecDepth 10000 in
theorem VU {S : Store} {id ver : Nat} (zs : List Int) (hid : S id = .cells ver 3 (zs.flatMap Enc.enc)) (hn : zs.length ≤ 1048576) :
  Spec Tryz.prog 202 [.sl id ver 1 0 zs.length] S (fun p S' => p = B (decide zs.Nodup) ∧ S' = S.set id .dead) := by
 refine qp Tryz.func202 Tryz.ntmps202 Tryz.results202 fun nx hd => ?_
 have hlt : id < nx := by
  rcases Nat.lt_or_ge id nx with h | h
  ·exact h
  ·rw [hd id h] at hid; cases hid
 (repeat apply za); refine pwn ?_; intros
 repeat apply za
 refine zQ [] (by rfl) (by rfl) fun K Gc Gh hK hGc hGh X hX0 hX => ?_
 simp -implicitDefEqProofs [hX0, hX]
 try clear hX0 hX X
 refine hGc _ _ _ _ _ _ _ fun hsuf => ((Qo zs (by rw [zB hlt]; exact hid) hn).mono ?_).v
 rintro p _ rfl
 refine ⟨S.set id (.cells ver 3 ((yf zs).flatMap Enc.enc)), [], xQ _ hlt, ?_⟩
 clear hGc hGh
 clear Gc Gh
 refine zH hsuf (D := []) (by rfl) fun Gc Gh hGc hGh X hX0 hX => ?_
 simp -implicitDefEqProofs [hX0, hX]
 clear hX0 hX X
 intros
 refine hK _ _ _ ?_
 clear hK hGc hGh
 clear K Gc Gh
 generalize hz : yf zs = z
 have hzl : zs.length = z.length := by rw [← hz, vH]
 have hzs : z.Pairwise (· ≤ ·) := by rw [← hz]; exact Yc zs
 have hfin : ∀ o, S.set id .dead o = ext (S.set id (.cells ver 3 (z.flatMap Enc.enc))) nx [] o ∨ S.set id .dead o = .dead := by
  intro o
  by_cases ho : o = id
  ·subst ho; exact .inr (Store.set_same _ _ _)
  ·rw [Store.set_other _ _ _ _ ho]
   by_cases h2 : o < nx
   ·rw [zB h2, Store.set_other _ _ _ _ ho]; exact .inl rfl
   ·exact .inr (hd o (by omega))
 have hS1 : (S.set id (.cells ver 3 (z.flatMap Enc.enc))) id = .cells ver 3 (z.flatMap Enc.enc) := Store.set_same _ _ _
 have hres : decide zs.Nodup = decide z.Nodup := by rw [← hz, decide_eq_decide, JU]
 rw [hres]
 have hzn : z.length ≤ 1048576 := by omega
 rw [hzl]
 generalize S.set id (.cells ver 3 (z.flatMap Enc.enc)) = S1 at *
 have hx1 := zB (S := S1) (obs := []) hlt
 (repeat apply za); refine pwn ?_; intros
 repeat apply za
 refine zh (zr (fun j : Nat => (j = 0 ∨ j + 1 ≤ z.length) ∧ (z.take (j + 1)).Nodup) (fun j => [(0, .sl id ver 1 0 z.length), (3, I ((j + 1 : Nat) : Int))]) (fun _ => []) (fun j => z.length - j) 0 [] (by cases z <;> simp) (by simp) (by simp) ?_)
 rintro j ⟨hj, hjn⟩
 (repeat apply za); refine pwn ?_; intros
 repeat apply za
 refine zn rfl (fun hc => ?_) (fun hc => ?_)
 ·simp at hc
  have hc' : j + 1 < z.length := by omega
  obtain ⟨c, tl1, b1, b2, b3, e1⟩ := el1 rfl z (j + 1) hc'
  obtain ⟨p, tl2, d1, d2, d3, e2⟩ := el1 rfl z j (by omega)
  have wj : IntKind.i64.wrap (j : Int) = j := wr _ (by omega) (by omega)
  have g1 : (j : Int) < z.length := by omega
  have g2 : (j : Int) + 1 < z.length := by omega
  have g3 : 0 ≤ (j : Int) + 1 := by omega
  refine ze (za (zh ?_))
  repeat apply za
  refine pwY none (Row.pures [0, 1, 2, 3, 4, 5, 6, 7, 8, 9] .done) mixed (jn6 hx1 hS1 wj e1 e2 (jn3 g1 g2 g3)) ?_
  intros
  repeat apply za
  refine zn rfl (fun hq => ?_) (fun hq => ?_)
  ·simp at hq
   (repeat apply za); refine pwn ?_; intros
   exact zb ⟨_, _, rfl, ⟨by simp; exact JT b1 (by rw [d1, hq]) (by omega), rfl⟩, hfin⟩
  ·simp at hq
   refine ze ?_
   (repeat apply za); refine pwn ?_; intros
   have w2 : IntKind.i64.wrap ((j : Int) + 1 + 1) = ((j + 1 + 1 : Nat) : Int) := by rw [wr _ (by omega) (by omega)]; omega
   exact zm (j + 1) [] ⟨by omega, VT hzs hjn d3 b3 (fun e => hq e.symm)⟩ (by omega) (by simp [w2]) rfl (by simp)
 ·simp at hc
  refine zo ?_
  (repeat apply za); refine pwn ?_; intros
  rw [List.take_of_length_le (by omega)] at hjn
  exact zb ⟨_, _, rfl, ⟨by simp [hjn], rfl⟩, hfin⟩
open Go
abbrev Yd (x : Inst) (t : zq) : List PV := [I x.days, I x.veh, I x.cap, I x.len, L x.cust, L x.dist, L t]
set_option maxRecDepth 10000 in
theorem Zfi (x : Inst) (t : zq) (ht : t.length ≤ 1048576) : Pure Tryz.prog 226 [.agg (Yd x t)] (B (yt x t)) := by
 have bad : ∀ {k : Nat} {s : Stop}, t[k]? = some s → ¬ (0 ≤ s.c ∧ s.c < x.cust.length ∧ 1 ≤ s.q ∧ s.q ≤ 2147483648) → yt x t = false := by
  intro k s h hb
  unfold yt
  have : t.all (qf x) = false := by
   rw [List.all_eq_false]; exact ⟨s, List.mem_of_getElem? h, by simp [qf]; omega⟩
  rw [this]; rfl
 refine pwe Tryz.func226 Tryz.ntmps226 Tryz.results226 fun S nx hd => ?_
 repeat apply za
 refine pwn ?_
 intro v0
 (repeat apply za); refine pwn ?_; intros
 repeat apply za
 refine zh (zr (fun s : Nat × Nat => s.1 ≤ t.length ∧ (t.take s.1).all (qf x) = true) (fun (k, v) => [(1, .ptr nx v 0), (7, L t), (8, I t.length), (9, I k)]) (fun (k, v) => [.cells v 247 (Yd x t)]) (fun s => t.length - s.1) (0, v0) [] (by simp) (by simp) (by simp) ?_)
 rintro ⟨k, v0⟩ ⟨hk, ha⟩
 simp only at hk ha ⊢
 (repeat apply za); refine pwn ?_; intros
 repeat apply za
 refine zn rfl (fun hc => ?_) (fun hc => ?_)
 ·simp at hc
  obtain ⟨s, tl, a1, a2, a3, e1, e0⟩ := el 2 rfl t k hc
  refine ze (za (zh ?_))
  repeat apply za
  refine pwN [] (jn2 hc e0) ?_
  intros
  by_cases h1 : s.c < 0
  ·repeat apply za
   refine pwN [(3, 16)] (jn2 h1 zp) ?_
   intros
   repeat apply za
   refine zi rfl ?_
   (repeat apply za); refine pwn ?_; intros
   repeat apply za
   exact zb (zg hd rfl (by rw [bad a1 (by omega)]; rfl))
  by_cases h2 : (x.cust.length : Int) ≤ s.c
  ·repeat apply za
   refine pwN [(3, 16)] (jn3 h2 h1 zp) ?_
   intros
   repeat apply za
   refine zi rfl ?_
   (repeat apply za); refine pwn ?_; intros
   repeat apply za
   exact zb (zg hd rfl (by rw [bad a1 (by omega)]; rfl))
  repeat apply za
  refine pwN [(3, 16)] (jn2 h1 h2) ?_
  intros
  repeat apply za
  refine zk rfl ?_
  refine ze ?_
  by_cases h3 : s.q < 1
  ·repeat apply za
   refine pwN [(3, 28)] (jn2 h3 zp) ?_
   intros
   repeat apply za
   refine zi rfl ?_
   (repeat apply za); refine pwn ?_; intros
   repeat apply za
   exact zb (zg hd rfl (by rw [bad a1 (by omega)]; rfl))
  by_cases h4 : 2147483648 < s.q
  ·repeat apply za
   refine pwN [(3, 28)] (jn3 h4 h3 zp) ?_
   intros
   repeat apply za
   refine zi rfl ?_
   (repeat apply za); refine pwn ?_; intros
   repeat apply za
   exact zb (zg hd rfl (by rw [bad a1 (by omega)]; rfl))
  repeat apply za
  refine pwN [(3, 28)] (jn2 h3 h4) ?_
  intros
  repeat apply za
  refine zk rfl ?_
  refine ze ?_
  (repeat apply za); refine pwn ?_; intros
  exact zm (k + 1, v0) [_] ⟨hc, VQ ha a3 (by omega)⟩ (by simp; omega) (by simp [wrN k (by omega)]) rfl (by simp; rfl)
 ·simp at hc
  have hk' : k = t.length := by omega
  subst hk'
  rw [List.take_length] at ha
  refine zo ?_
  (repeat apply za); refine pwn ?_; intros
  repeat apply za
  exact zb (zg hd rfl (by cases t with | nil => rfl | cons a t => simp [yt, ha]))
set_option maxRecDepth 20000 in
theorem Zfj (x : Inst) (t : zq) (ht : t.length ≤ 1048576) : Pure Tryz.prog 227 [.agg (Yd x t)] (B (decide (t.map (·.c)).Nodup)) := by
 refine pwe Tryz.func227 Tryz.ntmps227 Tryz.results227 fun S nx hd => ?_
 repeat apply za
 refine pwn ?_
 intro v0
 repeat apply za
 refine zQ [] (by rfl) (by rfl) fun K Gc Gh hK hGc hGh X hX0 hX => ?_
 simp -implicitDefEqProofs [hX0, hX]
 try clear hX0 hX X
 refine hGc _ _ _ _ _ _ _ fun hsuf => ((Ya t ht _ _ jD).mono ?_).v
 rintro _ _ ⟨v1, rfl, rfl⟩
 refine ⟨_, _, Zd _, ?_⟩
 clear hGc hGh
 clear Gc Gh
 refine zH hsuf (D := []) (by rfl) fun Gc Gh hGc hGh X hX0 hX => ?_
 simp -implicitDefEqProofs [hX0, hX, Nat.add_assoc]
 clear hX0 hX X
 rw [← List.length_map (f := fun s : Stop => s.c)]
 refine hGc _ _ _ _ _ _ _ fun hsuf => ((VU _ (by simp) (by simpa using ht)).mono ?_).v
 rintro _ _ ⟨rfl, rfl⟩
 refine ⟨_, _, qn _ (by simp) (by simp), ?_⟩
 clear hGc hGh
 clear Gc Gh
 refine zH hsuf (D := []) (by rfl) fun Gc Gh hGc hGh X hX0 hX => ?_
 simp -implicitDefEqProofs [hX0, hX]
 clear hX0 hX X
 intros
 refine hK _ _ _ ?_
 clear hK hGc hGh
 clear K Gc Gh
 repeat apply za
 exact zb (zg hd rfl rfl)
set_option maxRecDepth 20000 in
theorem Zfk (x : Inst) (t : zq) (ht : t.length ≤ 1048576) : Pure Tryz.prog 228 [.agg (Yd x t)] (B (decide (W (zx t) ≤ x.cap))) := by
 refine pwe Tryz.func228 Tryz.ntmps228 Tryz.results228 fun S nx hd => ?_
 repeat apply za
 refine pwn ?_
 intro v0
 repeat apply za
 refine pwY none (Row.pures [0, 1, 2, 3, 4, 5, 6, 7] .done) mixed trivial ?_
 refine pwP (VO _ ht) trivial ?_
 intros
 repeat apply za
 exact zb (zg hd rfl rfl)
set_option maxRecDepth 20000 in
theorem Zfl (x : Inst) (t : zq) (ht : t.length ≤ 1048576) (hs : ∀ s ∈ t, small s.c) : Pure Tryz.prog 229 [.agg (Yd x t)] (B (decide (W (zF x (t.map (·.c))) ≤ x.len))) := by
 refine pwe Tryz.func229 Tryz.ntmps229 Tryz.results229 fun S nx hd => ?_
 repeat apply za
 refine pwn ?_
 intro v0
 repeat apply za
 refine pwY none (Row.pures [0, 1, 2, 3, 4, 5, 6, 7, 8, 9] .done) mixed trivial ?_
 refine pwP (Yb _ _ ht hs) trivial ?_
 intros
 repeat apply za
 exact zb (zg hd rfl rfl)
abbrev VV : List PV := [.fn (.func 226) [] [], I 1, .fn (.func 227) [] [], I 11, .fn (.func 228) [] [], I 12, .fn (.func 229) [] [], I 13]
set_option maxRecDepth 20000 in
theorem Zfm : Pure Tryz.prog 192 [] (.lst 4 VV) := by
 refine pwe Tryz.func192 Tryz.ntmps192 Tryz.results192 fun S nx hd => ?_
 (repeat apply za); refine pwn ?_; intros
 (repeat apply za); refine pwn ?_; intros
 repeat apply za
 exact zb (zg hd rfl rfl)
set_option maxRecDepth 10000 in
theorem Ye (x : Inst) (t : zq) (hx : x.cust.length ≤ 1048576) (ht : t.length ≤ 1048576) : Pure Tryz.prog 145 [.agg (zt x), .agg [L t]] (I (zu x t)) := by
 refine pwe Tryz.func145 Tryz.ntmps145 Tryz.results145 fun S nx hd => ?_
 repeat apply za
 refine pwn ?_
 intro v0 v1
 repeat apply za
 refine pwn ?_
 refine pwc Zfm ?_
 intros
 repeat apply za
 refine zh (zr (fun s : Nat × Nat × Nat => s.1 ≤ 4 ∧ (1 ≤ s.1 → yt x t = true) ∧ (2 ≤ s.1 → (t.map (·.c)).Nodup) ∧ (3 ≤ s.1 → W (zx t) ≤ x.cap) ∧ (4 ≤ s.1 → W (zF x (t.map (·.c))) ≤ x.len)) (fun (k, v, v') => [(2, .ptr nx v 0), (3, .ptr (nx + 1) v' 0), (7, .lst 4 VV), (8, I 4), (9, I k)]) (fun (k, v, v') => [.cells v 25 (zt x), .cells v' 72 [L t]]) (fun s => 4 - s.1) (0, v0, v1) [] (by simp) (by simp) (by simp) ?_)
 rintro ⟨k, v0, v1⟩ ⟨hk, i1, i2, i3, i4⟩
 simp only at hk i1 i2 i3 i4 ⊢
 have hsm : 1 ≤ k → ∀ s ∈ t, small s.c := fun h => VR hx (by have := i1 h; unfold yt at this; simp only [Bool.and_eq_true] at this; exact this.1)
 match k, hk with
 | 0, _ =>
  (repeat apply za); refine pwn ?_; intros
  repeat apply za
  refine zi rfl ?_
  refine ze (za (zh ?_))
  (repeat apply za); refine pwn ?_; intros
  repeat apply za
  refine pwn ?_
  refine pwc (Zfi x t ht) ?_
  intros
  repeat apply za
  refine zn rfl (fun h1 => ?_) (fun h1 => ?_)
  ·simp at h1
   (repeat apply za); refine pwn ?_; intros
   repeat apply za
   exact zb (zg hd rfl (by simp [zu, h1]))
  ·simp at h1
   refine ze ?_
   (repeat apply za); refine pwn ?_; intros
   exact zm (1, v0, v1) [_] (by simp [h1]) (by simp) (by simp; rfl) rfl (by simp; rfl)
 | 1, _ =>
  (repeat apply za); refine pwn ?_; intros
  repeat apply za
  refine zi rfl ?_
  refine ze (za (zh ?_))
  (repeat apply za); refine pwn ?_; intros
  repeat apply za
  refine pwn ?_
  refine pwc (Zfj x t ht) ?_
  intros
  repeat apply za
  refine zn rfl (fun h1 => ?_) (fun h1 => ?_)
  ·simp at h1
   (repeat apply za); refine pwn ?_; intros
   repeat apply za
   exact zb (zg hd rfl (by simp [zu, h1, i1 (by omega)]))
  ·simp at h1
   refine ze ?_
   (repeat apply za); refine pwn ?_; intros
   exact zm (2, v0, v1) [_] (by simp [h1, i1 (by omega)]) (by simp) (by simp; rfl) rfl (by simp; rfl)
 | 2, _ =>
  (repeat apply za); refine pwn ?_; intros
  repeat apply za
  refine zi rfl ?_
  refine ze (za (zh ?_))
  (repeat apply za); refine pwn ?_; intros
  repeat apply za
  refine pwn ?_
  refine pwc (Zfk x t ht) ?_
  intros
  repeat apply za
  refine zn rfl (fun h1 => ?_) (fun h1 => ?_)
  ·simp at h1
   (repeat apply za); refine pwn ?_; intros
   repeat apply za
   exact zb (zg hd rfl (by simp [zu, h1, i1 (by omega), i2 (by omega)]))
  ·simp at h1
   refine ze ?_
   (repeat apply za); refine pwn ?_; intros
   exact zm (3, v0, v1) [_] (by simp [h1, i1 (by omega), i2 (by omega)]) (by simp) (by simp; rfl) rfl (by simp; rfl)
 | 3, _ =>
  (repeat apply za); refine pwn ?_; intros
  repeat apply za
  refine zi rfl ?_
  refine ze (za (zh ?_))
  (repeat apply za); refine pwn ?_; intros
  repeat apply za
  refine pwn ?_
  refine pwc (Zfl x t ht (hsm (by omega))) ?_
  intros
  have h3 := Int.not_lt.2 (i3 (by omega))
  repeat apply za
  refine zn rfl (fun h1 => ?_) (fun h1 => ?_)
  ·simp at h1
   (repeat apply za); refine pwn ?_; intros
   repeat apply za
   exact zb (zg hd rfl (by simp [zu, h1, i1 (by omega), i2 (by omega), h3]))
  ·simp at h1
   refine ze ?_
   (repeat apply za); refine pwn ?_; intros
   exact zm (4, v0, v1) [_] (by simp [h1, i1 (by omega), i2 (by omega), i3 (by omega)]) (by simp) (by simp; rfl) rfl (by simp; rfl)
 | 4, _ =>
  (repeat apply za); refine pwn ?_; intros
  repeat apply za
  refine zk rfl ?_
  refine zo ?_
  (repeat apply za); refine pwn ?_; intros
  repeat apply za
  exact zb (zg hd rfl (by simp [zu, i1 (by omega), i2 (by omega), Int.not_lt.2 (i3 (by omega)), Int.not_lt.2 (i4 (by omega))]))
open Go
def zT (x : Inst) (d : Day) : Int :=
 match d.find? (fun t => zu x t != 0) with
 | some t => zu x t
 | none => if ¬ (d.flatten.map (·.c)).Nodup then 11 else if x.veh < d.length then 14 else 0
theorem VW {α : Type} {p : α → Bool} {l : List α} {k : Nat} {a : α} (h : (l.take k).find? p = none) (ht : l.take (k + 1) = l.take k ++ [a]) (ha : p a = false) : (l.take (k + 1)).find? p = none := by
 rw [ht, List.find?_append, h]; simp [ha]
theorem JV {α : Type} {p : α → Bool} {l : List α} {k : Nat} {a : α} (h : (l.take k).find? p = none) (hd : l.drop k = a :: l.drop (k + 1)) (ha : p a = true) : l.find? p = some a := by
 have e : l = l.take k ++ a :: l.drop (k + 1) := by rw [← hd, List.take_append_drop]
 rw [e, List.find?_append, h]; simp [ha]
set_option maxRecDepth 10000 in
theorem Zfn (x : Inst) (d : Day) (hx : x.cust.length ≤ 1048576) (hn : d.length ≤ 1048576) (ht : ∀ t ∈ d, t.length ≤ 1048576) (hf : d.flatten.length ≤ 1048576) : Pure Tryz.prog 159 [.agg (zt x), .agg [L d]] (I (zT x d)) := by
 refine pwe Tryz.func159 Tryz.ntmps159 Tryz.results159 fun S nx hd => ?_
 repeat apply za
 refine pwn ?_
 intro v0 v1
 (repeat apply za); refine pwn ?_; intros
 repeat apply za
 refine zh (zr (fun s : Nat × Nat × Nat => s.1 ≤ d.length ∧ (d.take s.1).find? (fun t => zu x t != 0) = none) (fun (k, v, v') => [(2, .ptr nx v 0), (3, .ptr (nx + 1) v' 0), (9, L d), (10, I d.length), (11, I k)]) (fun (k, v, v') => [.cells v 25 (zt x), .cells v' 66 [L d]]) (fun s => d.length - s.1) (0, v0, v1) [] (by simp) (by simp) (by simp) ?_)
 rintro ⟨k, v0, v1⟩ ⟨hk, ha⟩
 simp only at hk ha ⊢
 (repeat apply za); refine pwn ?_; intros
 repeat apply za
 refine zn rfl (fun hc => ?_) (fun hc => ?_)
 ·simp at hc
  obtain ⟨t, tl, a1, a2, a3, e0⟩ := el1 rfl d k hc
  refine ze (za (zh ?_))
  repeat apply za
  refine pwN [] (jn2 hc e0) ?_
  intros
  repeat apply za
  refine pwn ?_
  refine pwc (Ye x t hx (ht t (List.mem_of_getElem? a1))) ?_
  intros
  (repeat apply za); refine pwn ?_; intros
  repeat apply za
  refine zn rfl (fun h1 => ?_) (fun h1 => ?_)
  ·simp at h1
   (repeat apply za); refine pwn ?_; intros
   repeat apply za
   exact zb (zg hd rfl (by simp only [zT, JV ha a2 (by simpa using h1)]; simp))
  ·simp at h1
   refine ze ?_
   (repeat apply za); refine pwn ?_; intros
   exact zm (k + 1, v0, v1) [_] ⟨hc, VW ha a3 (by simpa using h1)⟩ (by simp; omega) (by simp [wrN k (by omega)]) rfl (by simp; rfl)
 ·simp at hc
  have hk' : k = d.length := by omega
  subst hk'
  rw [List.take_length] at ha
  have hst := VP d hn hf
  have hres : zT x d = if ¬ (d.flatten.map (·.c)).Nodup then 11 else if x.veh < d.length then 14 else 0 := by unfold zT; rw [ha]
  generalize d.flatten = fl at *
  refine zo ?_
  repeat apply za
  refine zQ [] (by rfl) (by rfl) fun K Gc Gh hK hGc hGh X hX0 hX => ?_
  simp -implicitDefEqProofs [hX0, hX]
  try clear hX0 hX X
  refine hGc _ _ _ _ _ _ _ fun hsuf => ((hst _).mono ?_).v
  rintro _ _ ⟨rfl, rfl⟩
  refine ⟨_, _, rfl, ?_⟩
  clear hGc hGh
  clear Gc Gh
  refine zH hsuf (D := []) (by rfl) fun Gc Gh hGc hGh X hX0 hX => ?_
  simp -implicitDefEqProofs [hX0, hX]
  try clear hX0 hX X
  refine hGc _ _ _ _ _ _ _ fun hsuf => ((Ya fl hf _ _ jD).mono ?_).v
  rintro _ _ ⟨v2, rfl, rfl⟩
  refine ⟨_, _, Zd _, ?_⟩
  clear hGc hGh
  clear Gc Gh
  refine zH hsuf (D := []) (by rfl) fun Gc Gh hGc hGh X hX0 hX => ?_
  simp -implicitDefEqProofs [hX0, hX, Nat.add_assoc]
  clear hX0 hX X
  rw [← List.length_map (f := fun s : Stop => s.c)]
  refine hGc _ _ _ _ _ _ _ fun hsuf => ((VU _ (by simp) (by simpa using hf)).mono ?_).v
  rintro _ _ ⟨rfl, rfl⟩
  refine ⟨_, _, qn _ (by simp) (by simp), ?_⟩
  clear hGc hGh
  clear Gc Gh
  refine zH hsuf (D := []) (by rfl) fun Gc Gh hGc hGh X hX0 hX => ?_
  simp -implicitDefEqProofs [hX0, hX]
  clear hX0 hX X
  intros
  refine hK _ _ _ ?_
  clear hK hGc hGh
  clear K Gc Gh
  repeat apply za
  refine zn rfl (fun h2 => ?_) (fun h2 => ?_)
  ·simp at h2
   (repeat apply za); refine pwn ?_; intros
   repeat apply za
   exact zb (zg hd rfl (by simp [hres, h2]))
  ·simp at h2
   refine ze ?_
   (repeat apply za); refine pwn ?_; intros
   repeat apply za
   refine zn rfl (fun h3 => ?_) (fun h3 => ?_)
   ·simp at h3
    (repeat apply za); refine pwn ?_; intros
    repeat apply za
    exact zb (zg hd rfl (by simp [hres, h2, h3]))
   ·simp at h3
    refine ze ?_
    (repeat apply za); refine pwn ?_; intros
    repeat apply za
    exact zb (zg hd rfl (by simp [hres, h2, Int.not_lt.2 h3]))
def yC (l : List Stop) : Day := l.map fun s => [s]
set_option maxRecDepth 20000 in
theorem Zfo (l : List Stop) (hl : l.length ≤ 1048576) : Pure Tryz.prog 216 [L l] (.agg [L (yC l)]) := by
 refine pwe Tryz.func216 Tryz.ntmps216 Tryz.results216 fun S nx hd => ?_
 repeat apply za
 refine pwn ?_
 intro v0
 repeat apply za
 refine pwn ?_
 intro v1
 refine za (qT 1 0 72 1 rfl rfl fun v2 => ?_)
 (repeat apply za); refine pwn ?_; intros
 repeat apply za
 refine zh (zr (fun s : Nat × Day × Nat × Nat × Nat => s.1 ≤ l.length ∧ s.2.1 = yC (l.take s.1)) (fun (k, out, v, v', v2) => [(2, .ptr nx v 0), (3, .ptr (nx + 1) v' 0), (6, L l), (7, I l.length), (8, I k)]) (fun (k, out, v, v', v2) => [.cells v 66 [.sc (.slice none 0 0)], .cells v' 66 [.sl (nx + 2) v2 1 0 out.length], .cells v2 72 (out.flatMap Enc.enc)]) (fun s => l.length - s.1) (0, [], v0, v1, v2) [] (by simp [yC]) (by simp) (by simp) ?_)
 rintro ⟨k, out, v0, v1, v2⟩ ⟨hk, ho⟩
 simp only at hk ho ⊢
 (repeat apply za); refine pwn ?_; intros
 repeat apply za
 refine zn rfl (fun hc => ?_) (fun hc => ?_)
 ·simp at hc
  obtain ⟨s, tl, a1, a2, a3, e1, e0⟩ := el 2 rfl l k hc
  refine ze (za (zh ?_))
  repeat apply za
  refine pwN [] (jn2 hc e0) ?_
  intros
  have hol : out.length = k := by rw [ho]; simp [yC]; omega
  repeat apply za
  refine pwn ?_
  refine ⟨by omega, ?_⟩
  intros
  (repeat apply za); refine pwn ?_; intros
  exact zm (k + 1, out ++ [[s]], v0, v1, v2 + 1) [_] (by simp [a3, ho, yC]; omega) (by simp; omega) (by simp [wrN k (by omega)]) rfl (by simp; rfl)
 ·simp at hc
  have hk' : k = l.length := by omega
  subst hk'
  refine zo ?_
  (repeat apply za); refine pwn ?_; intros
  refine zL 2 rfl ?_
  repeat apply za
  exact zb (zg hd (by simp; rfl) (by simp [ho]))
open Go
set_option maxRecDepth 20000 in
theorem JW (s : Stop) : Pure Tryz.prog 110 [.agg [I s.c, I s.q]] (.agg [L [s]]) := by
 refine pwe Tryz.func110 Tryz.ntmps110 Tryz.results110 fun S nx hd => ?_
 repeat apply za
 refine pwn ?_
 intro v0 v1
 (repeat apply za); refine pwn ?_; intros
 repeat apply za
 exact zb (zg hd (by simp; rfl) rfl)
set_option maxRecDepth 20000 in
theorem VX (l : List Int) (hl : l.length ≤ 1048576) (hs : l.Pairwise (· ≤ ·)) : Pure Tryz.prog 144 [L l] (B (decide (¬ l.Nodup))) := by
 refine pwe Tryz.func144 Tryz.ntmps144 Tryz.results144 fun S nx hd => ?_
 (repeat apply za); refine pwn ?_; intros
 (repeat apply za); refine pwn ?_; intros
 repeat apply za
 refine zh (zr (fun j : Nat => (j = 0 ∨ j + 1 ≤ l.length) ∧ (l.take (j + 1)).Nodup) (fun j => [(0, L l), (3, I ((j + 1 : Nat) : Int))]) (fun _ => []) (fun j => l.length - j) 0 [] (by cases l <;> simp) (by simp) (by simp) ?_)
 rintro j ⟨hj, hjn⟩
 (repeat apply za); refine pwn ?_; intros
 repeat apply za
 refine zn rfl (fun hc => ?_) (fun hc => ?_)
 ·simp at hc
  have hc' : j + 1 < l.length := by omega
  obtain ⟨c, tl1, b1, b2, b3, e1⟩ := el1 rfl l (j + 1) hc'
  obtain ⟨p, tl2, d1, d2, d3, e2⟩ := el1 rfl l j (by omega)
  have wj : IntKind.i64.wrap (j : Int) = j := wr _ (by omega) (by omega)
  have g1 : (j : Int) < l.length := by omega
  have g2 : (j : Int) + 1 < l.length := by omega
  have g3 : 0 ≤ (j : Int) + 1 := by omega
  refine ze (za (zh ?_))
  repeat apply za
  refine pwY none (Row.pures [0, 1, 2, 3, 4, 5, 6, 7, 8, 9] .done) mixed (jn6 wj e1 e2 g1 g2 g3) ?_
  intros
  repeat apply za
  refine zn rfl (fun hq => ?_) (fun hq => ?_)
  ·simp at hq
   (repeat apply za); refine pwn ?_; intros
   repeat apply za
   exact zb (zg hd rfl (by simp; exact JT b1 (by rw [d1, hq]) (by omega)))
  ·simp at hq
   refine ze ?_
   (repeat apply za); refine pwn ?_; intros
   have w2 : IntKind.i64.wrap ((j : Int) + 1 + 1) = ((j + 1 + 1 : Nat) : Int) := by rw [wr _ (by omega) (by omega)]; omega
   exact zm (j + 1) [] ⟨by omega, VT hs hjn d3 b3 (fun e => hq e.symm)⟩ (by omega) (by simp [w2]) rfl (by simp)
 ·simp at hc
  refine zo ?_
  (repeat apply za); refine pwn ?_; intros
  rw [List.take_of_length_le (by omega)] at hjn
  repeat apply za
  exact zb (zg hd rfl (by simp [hjn]))
set_option maxRecDepth 20000 in
theorem VY (ss : List Stop) (hss : ss.length ≤ 1048576) : Pure Tryz.prog 142 [L ss] (L (yf (ss.map (·.c)))) := by
 have hcust := fun S nx hd => Ya ss hss S nx hd
 obtain ⟨zs, hzs⟩ : ∃ zs, zs = ss.map (·.c) := ⟨_, rfl⟩
 have hzl : ss.length = zs.length := by rw [hzs]; simp
 rw [← hzs, hzl] at hcust
 rw [← hzs]
 have hz4 := vH zs
 refine pwe Tryz.func142 Tryz.ntmps142 Tryz.results142 fun S nx hd => ?_
 (repeat apply za); refine pwn ?_; intros
 repeat apply za
 refine zQ [] (by rfl) (by rfl) fun K Gc Gh hK hGc hGh X hX0 hX => ?_
 simp -implicitDefEqProofs [hX0, hX]
 try clear hX0 hX X
 refine hGc _ _ _ _ _ _ _ fun hsuf => ((hcust _ _ jD).mono ?_).v
 rintro _ _ ⟨v1, rfl, rfl⟩
 refine ⟨_, _, Zd _, ?_⟩
 clear hGc hGh
 clear Gc Gh
 refine zH hsuf (D := []) (by rfl) fun Gc Gh hGc hGh X hX0 hX => ?_
 simp -implicitDefEqProofs [hX0, hX, Nat.add_assoc]
 clear hX0 hX X
 intros
 refine hK _ _ _ ?_
 clear hK hGc hGh
 clear K Gc Gh
 repeat apply za
 refine zQ [] (by rfl) (by rfl) fun K Gc Gh hK hGc hGh X hX0 hX => ?_
 simp -implicitDefEqProofs [hX0, hX]
 try clear hX0 hX X
 refine hGc _ _ _ _ _ _ _ fun hsuf => ((Qo zs (by simp) (by omega)).mono ?_).v
 rintro _ _ rfl
 refine ⟨_, _, qn _ (by simp) (by simp), ?_⟩
 clear hGc hGh
 clear Gc Gh
 refine zH hsuf (D := []) (by rfl) fun Gc Gh hGc hGh X hX0 hX => ?_
 simp -implicitDefEqProofs [hX0, hX]
 clear hX0 hX X
 intros
 refine hK _ _ _ ?_
 clear hK hGc hGh
 clear K Gc Gh
 generalize yf zs = c at *
 rw [← hz4]
 refine zL 1 rfl ?_
 (repeat apply za); refine pwn ?_; intros
 repeat apply za
 exact zb (zg hd (by simp; rfl) rfl)
def qH (x : Inst) (l : List Stop) : Int :=
 match l.find? (fun s => zu x [s] != 0) with
 | some s => zu x [s]
 | none => if ¬ (l.map (·.c)).Nodup then 11 else 0
set_option maxRecDepth 20000 in
theorem Zfp (x : Inst) (l : List Stop) (hx : x.cust.length ≤ 1048576) (hl : l.length ≤ 1048576) : Pure Tryz.prog 179 [.agg (zt x), L l] (I (qH x l)) := by
 have hcu := VY l hl
 have hdo := VX (yf (l.map (·.c))) (by rw [vH]; simpa using hl) (Yc _)
 have hdd : decide (¬ (yf (l.map (·.c))).Nodup) = decide (¬ (l.map (·.c)).Nodup) := by rw [decide_eq_decide, JU]
 rw [hdd] at hdo
 refine pwe Tryz.func179 Tryz.ntmps179 Tryz.results179 fun S nx hd => ?_
 repeat apply za
 refine pwn ?_
 intro v0
 (repeat apply za); refine pwn ?_; intros
 repeat apply za
 refine zh (zr (fun k : Nat => k ≤ l.length ∧ (l.take k).find? (fun s => zu x [s] != 0) = none) (fun k => [(1, L l), (2, .ptr nx v0 0), (8, L l), (9, I l.length), (10, I k)]) (fun _ => [.cells v0 25 (zt x)]) (fun k => l.length - k) 0 [] (by simp) (by simp) (by simp) ?_)
 rintro k ⟨hk, ha⟩
 (repeat apply za); refine pwn ?_; intros
 repeat apply za
 refine zn rfl (fun hc => ?_) (fun hc => ?_)
 ·simp at hc
  obtain ⟨s, tl, a1, a2, a3, e1, e0⟩ := el 2 rfl l k hc
  refine ze (za (zh ?_))
  repeat apply za
  refine pwN [] (jn3 hc e1 e0) ?_
  intro v1
  repeat apply za
  refine pwY none (Row.pures [0, 1, 2, 3, 4] .done) mixed trivial ?_
  refine pwP (JW s) trivial ?_
  refine pwP (Ye x [s] hx (by simp)) trivial ?_
  intros
  (repeat apply za); refine pwn ?_; intros
  repeat apply za
  refine zn rfl (fun h1 => ?_) (fun h1 => ?_)
  ·simp at h1
   (repeat apply za); refine pwn ?_; intros
   repeat apply za
   exact zb (zg hd rfl (by simp only [qH, JV ha a2 (by simpa using h1)]; simp))
  ·simp at h1
   refine ze ?_
   (repeat apply za); refine pwn ?_; intros
   exact zm (k + 1) [_] ⟨hc, VW ha a3 (by simpa using h1)⟩ (by omega) (by simp [wrN k (by omega)]) rfl (by simp; rfl)
 ·simp at hc
  obtain rfl : k = l.length := by omega
  rw [List.take_length] at ha
  have hres : qH x l = if ¬ (l.map (·.c)).Nodup then 11 else 0 := by unfold qH; rw [ha]
  refine zo ?_
  repeat apply za
  refine pwn ?_
  refine pwc hcu ?_
  refine pwc hdo ?_
  intros
  by_cases h2 : (l.map (·.c)).Nodup
  ·repeat apply za
   refine zk (by simp [h2]) ?_
   refine ze ?_
   (repeat apply za); refine pwn ?_; intros
   repeat apply za
   exact zb (zg hd (by simp; rfl) (by simp [hres, h2, zj]))
  ·repeat apply za
   refine zi (by simp [h2]) ?_
   (repeat apply za); refine pwn ?_; intros
   repeat apply za
   exact zb (zg hd (by simp; rfl) (by simp [hres, h2, zj]))
set_option maxRecDepth 20000 in
theorem Zfq (x : Inst) (d : Day) (hx : x.cust.length ≤ 1048576) (hn : d.length ≤ 1048576) (ht : ∀ t ∈ d, t.length ≤ 1048576) (hf : d.flatten.length ≤ 1048576) : Pure Tryz.prog 58 [.agg (zt x), .agg [L d]] (I (zT x d)) := by
 refine pwe Tryz.func58 Tryz.ntmps58 Tryz.results58 fun S nx hd => ?_
 repeat apply za
 refine pwn ?_
 intro v0 v1
 (repeat apply za); refine pwn ?_; intros
 refine za (yK 5 3 1 rfl fun v2 => ?_)
 (repeat apply za); refine pwn ?_; intros
 repeat apply za
 refine zh (zr (fun s : Nat × List Int × Nat => s.1 ≤ d.length ∧ s.2.1 = (d.take s.1).flatten.map (·.c) ∧ (d.take s.1).find? (fun t => zu x t != 0) = none) (fun (k, out, v2) => [(2, .ptr nx v0 0), (3, .ptr (nx + 1) v1 0), (5, .sl (nx + 2) v2 1 0 out.length), (6, I k)]) (fun (k, out, v2) => [.cells v0 25 (zt x), .cells v1 66 [L d], .cells v2 3 (out.flatMap Enc.enc)]) (fun s => d.length - s.1) (0, [], v2) [] (by simp) (by simp) (by simp) ?_)
 rintro ⟨k, out, v2⟩ ⟨hk, ho, ha⟩
 simp only at hk ho ha ⊢
 have hol : out.length = (d.take k).flatten.length := by rw [ho, List.length_map]
 (repeat apply za); refine pwn ?_; intros
 repeat apply za
 refine zn rfl (fun hc => ?_) (fun hc => ?_)
 ·simp at hc
  obtain ⟨t, tl, a1, a2, a3, e0⟩ := el1 rfl d k hc
  have htl := ht t (List.mem_of_getElem? a1)
  have hlen : (d.take (k + 1)).flatten.length ≤ 1048576 := by
   have : (d.take (k + 1)).flatten.length + (d.drop (k + 1)).flatten.length = d.flatten.length := by rw [← List.length_append, ← List.flatten_append, List.take_append_drop]
   omega
  rw [a3, List.flatten_append, List.length_append, List.flatten_cons, List.flatten_nil, List.append_nil] at hlen
  have hol2 : out.length + t.length ≤ 1048576 := by rw [hol]; exact hlen
  refine ze (za (zh ?_))
  repeat apply za
  refine pwY (some [nx, nx + 1]) (Row.pures [0, 1, 2, 3, 4, 5, 6, 7] .done) mixed (jn2 hc e0) ?_
  refine pwP (Zfh x t hx htl) trivial ?_
  intros
  by_cases hm : zu x t = 0
  ·repeat apply za
   refine pwN [] hm ?_
   intros
   repeat apply za
   refine zk (by simp) ?_
   refine ze ?_
   repeat apply za
   refine pwN [] (jn2 hc e0) ?_
   refine pwc (VM t htl) ?_
   refine ⟨by omega, ?_⟩
   intros
   (repeat apply za); refine pwn ?_; intros
   exact zm (k + 1, out ++ t.map (·.c), v2 + 1) [] ⟨hc, by rw [a3, ho]; simp, by rw [a3, List.find?_append, ha]; simp [hm]⟩ (by simp; omega) (by simp [wrN k (by omega)]) rfl (by simp)
  ·have hfi := JV ha a2 (by simpa using hm)
   repeat apply za
   refine pwN [] hm ?_
   intros
   repeat apply za
   refine zi (by simp [hm]) ?_
   (repeat apply za); refine pwn ?_; intros
   repeat apply za
   exact zb (zg hd (by simp; rfl) (by simp only [zT, hfi, zj]))
 ·simp at hc
  obtain rfl : k = d.length := by omega
  rw [List.take_length] at ho ha hol
  have hres : zT x d = if ¬ (d.flatten.map (·.c)).Nodup then 11 else if x.veh < d.length then 14 else 0 := by unfold zT; rw [ha]
  have htw := VN out (by omega)
  rw [← ho] at hres
  clear ho
  refine zo ?_
  refine zL 2 rfl ?_
  repeat apply za
  refine pwn ?_
  refine pwc htw ?_
  intros
  by_cases h2 : out.Nodup
  ·repeat apply za
   refine zk (by simp [h2]) ?_
   refine ze ?_
   (repeat apply za); refine pwn ?_; intros
   by_cases h3 : x.veh < d.length
   ·repeat apply za
    refine zi (by simp [h3]) ?_
    (repeat apply za); refine pwn ?_; intros
    repeat apply za
    exact zb (zg hd (by simp; rfl) (by rw [hres]; simp [h2, h3, zj]))
   ·repeat apply za
    refine zk (by simp; omega) ?_
    refine ze ?_
    (repeat apply za); refine pwn ?_; intros
    repeat apply za
    exact zb (zg hd (by simp; rfl) (by rw [hres]; simp [h2, h3, zj]))
  ·repeat apply za
   refine zi (by simp [h2]) ?_
   (repeat apply za); refine pwn ?_; intros
   repeat apply za
   exact zb (zg hd (by simp; rfl) (by rw [hres]; simp [h2, zj]))
open Go
structure KeyOk {α : Type} [DecidableEq α] (d : TypeDesc) (key : α → Value) : Prop where
 same : ∀ a b, Instr.sameNow d (key a) (key b) = some (decide (a = b))
theorem uy (k : IntKind) : KeyOk (.int k) (fun i : Int => Value.int k i) := ⟨fun a b => by
 simp only [Instr.sameNow]
 by_cases e : a = b <;> simp [e]⟩
def MapIs {α β : Type} (key : α → Value) (enc : β → PV) (es : List (Value × PV)) (g : α → Option β) : Prop :=
 ∃ l : List (α × β), es = l.map (fun x => (key x.1, enc x.2)) ∧ (l.map (·.1)).Nodup ∧ (∀ a b, (a, b) ∈ l ↔ g a = some b)
def yN {α β : Type} [DecidableEq α] (g : α → Option β) (a : α) (v : Option β) : α → Option β := fun x => if x = a then v else g x
theorem VZ {α β : Type} (key : α → Value) (enc : β → PV) : MapIs key enc [] (fun _ => none) := ⟨[], rfl, by simp, by simp⟩
theorem V1 {α β : Type} [DecidableEq α] {d : TypeDesc} {key : α → Value} {enc : β → PV} (hk : KeyOk d key) (a : α) : ∀ (l : List (α × β)) (i : Nat), a ∉ l.map (·.1) → jm d (key a) (l.map fun x => (key x.1, enc x.2)) i = some none
 | [], _, _ => rfl
 | x :: l, i, h => by
  simp only [List.map_cons, List.mem_cons, not_or] at h
  simp only [List.map_cons, jm, hk.same, decide_eq_false h.1]
  exact V1 hk a l (i + 1) h.2
theorem V2 {α β : Type} [DecidableEq α] {d : TypeDesc} {key : α → Value} {enc : β → PV} (hk : KeyOk d key) (a : α) (b : β) : ∀ (l : List (α × β)) (i : Nat), (l.map (·.1)).Nodup → (a, b) ∈ l →
  ∃ j, l[j]? = some (a, b) ∧ jm d (key a) (l.map fun x => (key x.1, enc x.2)) i = some (some (i + j, enc b))
 | [], _, _, h => by cases h
 | x :: l, i, hn, h => by
  simp only [List.map_cons, List.nodup_cons] at hn
  by_cases e : a = x.1
  ·have hx : x = (a, b) := by
    rcases List.mem_cons.1 h with h | h
    ·exact h.symm
    ·exact absurd (List.mem_map.2 ⟨_, h, e⟩) hn.1
   subst hx
   exact ⟨0, rfl, by simp [jm, hk.same]⟩
  ·have hm : (a, b) ∈ l := by
    rcases List.mem_cons.1 h with h | h
    ·exact absurd (by rw [← h]) e
    ·exact h
   obtain ⟨j, h1, h2⟩ := V2 hk a b l (i + 1) hn.2 hm
   refine ⟨j + 1, by simpa using h1, ?_⟩
   simp only [List.map_cons, jm, hk.same, decide_eq_false e]
   rw [h2, show i + 1 + j = i + (j + 1) by omega]
theorem MapIs.find {α β : Type} [DecidableEq α] {d : TypeDesc} {key : α → Value} {enc : β → PV} {es : List (Value × PV)} {g : α → Option β} (hk : KeyOk d key) (h : MapIs key enc es g) (a : α) :
  ∃ res, jm d (key a) es 0 = some res ∧ (g a = none → res = none) ∧ (∀ b, g a = some b → ∃ j, res = some (j, enc b)) ∧ (∀ b, MapIs key enc (qq (key a) (enc b) es res) (yN g a (some b))) ∧ MapIs key enc (Z0 es res) (yN g a none) := by
 obtain ⟨l, rfl, hn, hg⟩ := h
 cases hga : g a with
 | none =>
  have hna : a ∉ l.map (·.1) := by
   intro hm
   obtain ⟨x, hx, rfl⟩ := List.mem_map.1 hm
   have := (hg x.1 x.2).1 hx
   rw [hga] at this; cases this
  have q1 : ∀ b, MapIs key enc (qq (key a) (enc b) (l.map fun x => (key x.1, enc x.2)) none) (yN g a (some b)) := fun b => by
   refine ⟨l ++ [(a, b)], by simp [qq], ?_, fun a' b' => ?_⟩
   rotate_left
   focus
    unfold yN
    by_cases e : a' = a
    ·subst e
     simp only [if_pos, List.mem_append, List.mem_singleton, hg, hga]
     simp [eq_comm]
    ·simp [List.mem_append, hg, e]
   rw [List.map_append, List.nodup_append]
   refine ⟨hn, by simp, fun x hx y hy => ?_⟩
   simp at hy; subst hy
   exact fun e => hna (e ▸ hx)
  refine ⟨none, V1 hk a l 0 hna, (by intro _; rfl), (by intro b hb; cases hb), q1, l, by simp [Z0], hn, fun a' b' => ?_⟩
  ·unfold yN
   by_cases e : a' = a
   ·subst e; simp [hg, hga]
   ·simp [if_neg e, hg]
 | some b0 =>
  obtain ⟨j, h1, h2⟩ := V2 (enc := enc) hk a b0 l 0 hn ((hg a b0).2 hga)
  have hj : j < l.length := (List.getElem?_eq_some_iff.1 h1).1
  have hja : l[j] = (a, b0) := (List.getElem?_eq_some_iff.1 h1).2
  have huniq : ∀ (i : Nat) (hi : i < l.length), l[i].1 = a → i = j := by
   intro i hi he
   have hp := List.pairwise_iff_getElem.1 hn
   rcases Nat.lt_trichotomy i j with h | h | h
   ·exact absurd (show (l.map (·.1))[i]'(by simpa using hi) = (l.map (·.1))[j]'(by simpa using hj) by rw [List.getElem_map, List.getElem_map, he, hja]) (hp i j (by simpa using hi) (by simpa using hj) h)
   ·exact h
   ·exact absurd (show (l.map (·.1))[j]'(by simpa using hj) = (l.map (·.1))[i]'(by simpa using hi) by rw [List.getElem_map, List.getElem_map, he, hja]) (hp j i (by simpa using hj) (by simpa using hi) h)
  suffices hh : (∀ b, MapIs key enc (qq (key a) (enc b) (l.map fun x => (key x.1, enc x.2)) (some (0 + j, enc b0))) (yN g a (some b))) ∧ MapIs key enc (Z0 (l.map fun x => (key x.1, enc x.2)) (some (0 + j, enc b0))) (yN g a none) from
   ⟨some (0 + j, enc b0), h2, (by intro h; cases h), (by intro b hb; cases hb; exact ⟨_, rfl⟩), hh.1, hh.2⟩
  refine ⟨fun b => ⟨l.set j (a, b), ?_, ?_, fun a' b' => ?_⟩, l.eraseIdx j, ?_, ?_, fun a' b' => ?_⟩
  ·simp [qq, List.map_set]
  ·rw [List.map_set]
   have : (l.map (·.1)).set j a = l.map (·.1) := by
    apply List.ext_getElem?
    intro i
    rw [List.getElem?_set]
    split
    ·rename_i e; subst e; simp [hj, hja]
    ·rfl
   rw [this]; exact hn
  ·unfold yN
   rw [List.mem_iff_getElem?]
   constructor
   ·rintro ⟨i, hi⟩
    rw [List.getElem?_set] at hi
    by_cases hij : j = i
    ·subst hij
     simp [hj] at hi
     rw [if_pos hi.1.symm, hi.2]
    ·have hne := hij
     rw [if_neg hij] at hi
     have hil := (List.getElem?_eq_some_iff.1 hi).1
     have hie := (List.getElem?_eq_some_iff.1 hi).2
     by_cases e : a' = a
     ·exact absurd (huniq i hil (by rw [hie]; exact e)).symm hne
     ·rw [if_neg e]; exact (hg a' b').1 (List.mem_of_getElem? hi)
   ·intro h
    by_cases e : a' = a
    ·rw [if_pos e] at h; cases h
     exact ⟨j, by rw [List.getElem?_set]; simp [hj, e]⟩
    ·rw [if_neg e] at h
     obtain ⟨i, hi⟩ := List.mem_iff_getElem?.1 ((hg a' b').2 h)
     refine ⟨i, ?_⟩
     rw [List.getElem?_set]
     rw [if_neg]
     ·exact hi
     ·rintro rfl; rw [h1] at hi; cases hi; exact e rfl
  ·simp only [Z0, Nat.zero_add]
   apply List.ext_getElem?
   intro i
   simp only [List.getElem?_eraseIdx, List.getElem?_map]
   split <;> rfl
  ·refine hn.sublist ?_
   exact (List.eraseIdx_sublist l j).map _
  ·unfold yN
   by_cases e : a' = a
   ·rw [if_pos e]
    refine ⟨fun h => ?_, fun h => by cases h⟩
    obtain ⟨i, hi⟩ := List.mem_iff_getElem?.1 h
    rw [List.getElem?_eraseIdx] at hi
    split at hi
    ·have hil := (List.getElem?_eq_some_iff.1 hi).1
     have := huniq i hil (by rw [(List.getElem?_eq_some_iff.1 hi).2]; exact e)
     omega
    ·have hil := (List.getElem?_eq_some_iff.1 hi).1
     have := huniq (i + 1) hil (by rw [(List.getElem?_eq_some_iff.1 hi).2]; exact e)
     omega
   ·rw [if_neg e, ← hg]
    refine ⟨fun h => (List.eraseIdx_sublist l j).subset h, fun h => ?_⟩
    obtain ⟨i, hi⟩ := List.mem_iff_getElem?.1 h
    have hij : i ≠ j := by rintro rfl; rw [h1] at hi; cases hi; exact e rfl
    rw [List.mem_iff_getElem?]
    by_cases hlt : i < j
    ·exact ⟨i, by rw [List.getElem?_eraseIdx, if_pos hlt]; exact hi⟩
    ·refine ⟨i - 1, ?_⟩
     rw [List.getElem?_eraseIdx, if_neg (by omega)]
     rw [show i - 1 + 1 = i by omega]; exact hi
open Go Hp
abbrev ltI : Int → Int → Bool := fun a b => decide (a < b)
theorem xW : Str ltI := ⟨fun a => by simp, fun a b c h1 h2 => by simp at *; omega, fun a b h1 h2 => by simp at *; omega⟩
def zI (x : Int × Int) : List PV := [.sc (.int .i64 x.1), .sc (.int .i64 x.2)]
theorem vI (x : Int × Int) : (zI x).length = 2 := rfl
abbrev yF (x : Int) : Value := .int .i64 x
structure PosOk (g : Int → Option Nat) (l : Its Int) : Prop where
 here : ∀ i, i < l.length → g (ata l i).1 = some i
 gone : ∀ id, (∀ i, i < l.length → (ata l i).1 ≠ id) → g id = none
abbrev JX (i : Nat) : PV := .sc (.int .i64 (i : Int))
def RowIs (cs : List PV) (l : Its Int) : Prop := ∃ rest, cs = l.flatMap zI ++ rest
theorem RowIs.at {cs : List PV} {l : Its Int} (h : RowIs cs l) (i : Nat) (hi : i < l.length) : ∃ tl, cs.drop (i * 2) = .sc (.int .i64 (ata l i).1) :: .sc (.int .i64 (ata l i).2) :: tl := by
 obtain ⟨rest, rfl⟩ := h
 refine ⟨(l.drop (i + 1)).flatMap zI ++ rest, ?_⟩
 rw [List.drop_append_of_le_length (by rw [u7 zI 2 vI]; omega), W5 zI 2 vI l i hi]
 have : ata l i = l[i] := by unfold ata; simp [hi]
 rw [this]; rfl
theorem RowIs.big {cs : List PV} {l : Its Int} (h : RowIs cs l) : l.length * 2 ≤ cs.length := by
 obtain ⟨rest, rfl⟩ := h
 rw [List.length_append, u7 zI 2 vI]; omega
theorem RowIs.put {cs : List PV} {l : Its Int} (h : RowIs cs l) (i : Nat) (hi : i < l.length) (x : Int × Int) : RowIs (zP cs (i * 2) [.sc (.int .i64 x.1), .sc (.int .i64 x.2)]) (l.set i x) := by
 obtain ⟨rest, rfl⟩ := h
 refine ⟨rest, ?_⟩
 have hl : (l.flatMap zI).length = l.length * 2 := u7 zI 2 vI l
 show List.take (i * 2) (l.flatMap zI ++ rest) ++ zI x ++ List.drop (i * 2 + 2) (l.flatMap zI ++ rest) = _
 rw [List.take_append_of_le_length (by omega), vB zI 2 vI, show i * 2 + 2 = (i + 1) * 2 by omega, List.drop_append_of_le_length (by omega), u6 zI 2 vI]
 rw [List.set_eq_take_append_cons_drop, if_pos hi]
 simp
theorem RowIs.take {cs : List PV} {l : Its Int} (h : RowIs cs l) : cs.take (l.length * 2) = l.flatMap zI := by
 obtain ⟨rest, rfl⟩ := h
 rw [List.take_append_of_le_length (by rw [u7 zI 2 vI]; omega), vB zI 2 vI, List.take_length]
structure HS (S : Store) (hid hv rid mid mv : Nat) (l : Its Int) (g : Int → Option Nat) : Prop where
 h : ∃ ver, S hid = .cells hv 327 [.sl rid ver 2 0 l.length, .mp mid mv] ∧ ∃ cs, S rid = .cells ver 332 cs ∧ RowIs cs l
 m : ∃ es, S mid = .map mv es ∧ MapIs yF JX es g
 ne : hid ≠ rid ∧ hid ≠ mid ∧ rid ≠ mid
 len : l.length ≤ 2147483648
def Offd (S : Store) (ids : List Nat) (S' : Store) : Prop := ∀ o, o ∉ ids → S' o = S o ∨ S o = .dead
def Off (S : Store) (ids : List Nat) (S' : Store) : Prop := ∀ o, o ∉ ids → S' o = S o
theorem Offd.refl (S : Store) (ids : List Nat) : Offd S ids S := fun _ _ => .inl rfl
theorem Offd.set {S T : Store} {ids : List Nat} (h : Offd S ids T) {o : Nat} (ho : o ∈ ids ∨ S o = .dead) (x : Ob) : Offd S ids (T.set o x) := by
 intro i hi
 by_cases e : i = o
 ·subst e; exact .inr (ho.resolve_left hi)
 ·rw [qc _ _ _ _ e]; exact h i hi
theorem Off.offd {S T : Store} {ids : List Nat} (h : Off S ids T) : Offd S ids T := fun o ho => .inl (h o ho)
theorem Off.trans {S T U : Store} {ids : List Nat} (h : Off S ids T) (k : Off T ids U) : Off S ids U := fun o ho => (k o ho).trans (h o ho)
def cut (S : Store) (ids : List Nat) (S' : Store) : Store := fun o => if o ∈ ids then S' o else S o
theorem wy (S : Store) (ids : List Nat) (S' : Store) : Off S ids (cut S ids S') := fun o ho => by simp [cut, ho]
theorem Zfr (S : Store) (ids : List Nat) (S' : Store) {o : Nat} (h : o ∈ ids) : cut S ids S' o = S' o := by simp [cut, h]
theorem wz {S S' : Store} {ids : List Nat} (h : Offd S ids S') : ∀ o, cut S ids S' o = S' o ∨ cut S ids S' o = .dead := by
 intro o
 unfold cut
 split
 ·exact .inl rfl
 ·rename_i ho
  rcases h o ho with h | h
  ·exact .inl h.symm
  ·exact .inr h
theorem HS.congr {S T : Store} {hid hv rid mid mv : Nat} {l : Its Int} {g : Int → Option Nat} (h : HS S hid hv rid mid mv l g) (e : ∀ o ∈ [hid, rid, mid], T o = S o) : HS T hid hv rid mid mv l g := by
 obtain ⟨ver, h1, cs, h2, hR⟩ := h.h
 obtain ⟨es, h3⟩ := h.m
 exact ⟨⟨ver, by rw [e _ (by simp)]; exact h1, cs, by rw [e _ (by simp)]; exact h2, hR⟩, ⟨es, by rw [e _ (by simp)]; exact h3⟩, h.ne, h.len⟩
theorem HS.cut {S T : Store} {hid hv rid mid mv : Nat} {l : Its Int} {g : Int → Option Nat} (h : HS T hid hv rid mid mv l g) : HS (cut S [hid, rid, mid] T) hid hv rid mid mv l g := h.congr fun _ ho => Zfr _ _ _ ho
theorem jF (S : Store) (o : Nat) (x : Ob) (i : Nat) : S.set o x i = if i = o then x else S i := by
 split
 ·rename_i h; subst h; exact Store.set_same ..
 ·rename_i h; exact qc _ _ _ _ h
theorem V3 {S : Store} {o i : Nat} {x : Ob} (h : S.set o x i = .dead) (hx : x ≠ .dead) : i ≠ o ∧ S i = .dead := by
 rw [jF] at h
 split at h
 ·exact absurd h hx
 ·rename_i e; exact ⟨e, h⟩
theorem jZ {S : Store} {o i : Nat} {x : Ob} (h : S o = x) (hx : x ≠ .dead) (d : S i = .dead) : o ≠ i := by
 rintro rfl; rw [h] at d; exact hx d
theorem Zfs {S : Store} {hid hv rid mid mv : Nat} {l : Its Int} {g : Int → Option Nat} (hs : HS S hid hv rid mid mv l g) :
  PCalls Tryz.prog 319 [.ptr hid hv 0] S (fun p S' => p = zA l.length ∧ S' = S) := by
 obtain ⟨ver, h1, cs, h2, hR⟩ := hs.h
 refine jO Tryz.func319 rfl Tryz.ntmps319 (congrArg Array.toList Tryz.results319) (by simp) ?_
 refine za (yy (by rfl) (by simp; rfl) (za (z8 [] (by rfl) fun K hK => ?_)))
 simp [h1]
 refine hK _ _ (zb ?_)
 simp [xh, zA]
theorem Zft {S : Store} {hid hv rid mid mv : Nat} {l : Its Int} {g : Int → Option Nat} (hs : HS S hid hv rid mid mv l g) (i j : Nat) (hi : i < l.length) (hj : j < l.length) :
  PCalls Tryz.prog 320 [.ptr hid hv 0, zA i, zA j] S (fun p S' => p = jC (il ltI (ata l i) (ata l j)) ∧ S' = S) := by
 obtain ⟨ver, h1, cs, h2, hR⟩ := hs.h
 obtain ⟨tl1, e1⟩ := hR.at i hi
 obtain ⟨tl2, e2⟩ := hR.at j hj
 refine jO Tryz.func320 rfl Tryz.ntmps320 (congrArg Array.toList Tryz.results320) (by simp) ?_
 refine za (yy (by rfl) (by simp; rfl) (za ?_))
 refine uo (some [hid, rid]) (Row.pures [0, 1, 2, 3, 4, 5, 6, 7, 8, 9, 10, 11, 12, 13] (.alt 14 (.alt 15 (.alt 16 (.alt 17 (.done) .stop) .stop) .stop) (.alt 15 (.alt 14 (.alt 16 (.alt 17 (.done) .stop) .stop) .stop) .stop))) mixed (by rfl) (by rfl) (by rfl) fun K hK => ?_
 have z1 : hid ≠ rid := hs.ne.1
 have tail : ∀ (F : Nat → PV) (T : Store) (a b : Nat), F 7 = .ptr a 0 0 → F 8 = .ptr b 0 0 → T a = .cells 0 332 (zI (ata l i)) → T b = .cells 0 332 (zI (ata l j)) → Offd S [] T → K F T := by
  intro F T a b f7 f8 ta tb hoff
  have fin : ∀ o, S o = T o ∨ S o = .dead := fun o => (hoff o (by simp)).imp Eq.symm id
  refine hK _ _ ?_
  refine za (za (z8 [] (by rfl) fun K' hK' => ?_))
  simp [f7, f8, ta, tb, zI]
  refine hK' _ _ (zn rfl (fun hc => ?_) (fun hc => ?_))
  ·refine za (z8 [] (by rfl) fun K2 hK2 => ?_)
   simp [f7, f8, ta, tb, zI]
   refine hK2 _ _ (zb ⟨_, S, rfl, ⟨?_, rfl⟩, fin⟩)
   simp at hc
   simp [il, hc, jC]
  ·refine ze (za (z8 [] (by rfl) fun K2 hK2 => ?_))
   simp [f7, f8, ta, tb, zI]
   refine hK2 _ _ (zb ⟨_, S, rfl, ⟨?_, rfl⟩, fin⟩)
   simp at hc
   simp [il, hc, jC]
 simp [h1, h2, hi, hj, e1, e2, zA]
 constructor
 ·refine up rfl (by simp; rfl) (by simp) fun a ha => ?_
  have n1 := jZ h1 (by simp) ha
  have n2 := jZ h2 (by simp) ha
  simp [h1, h2, jF, n1, n2]
  refine up rfl (by simp; rfl) (by simp) fun b hb => ?_
  have n3 := V3 hb (by simp)
  have n4 := jZ h1 (by simp) n3.2
  have n5 := jZ h2 (by simp) n3.2
  simp [h1, h2, jF, n1, n2, n3, n4, n5, n3.1.symm]
  exact tail _ _ a b rfl rfl (by simp [jF, n3.1, n3.1.symm, zI]) (by simp [jF, n3.1, n3.1.symm, zI]) (by repeat (first | exact Offd.refl _ _ | refine Offd.set ?_ (by first | exact .inr ha | exact .inr n3.2) _))
 ·refine up rfl (by simp; rfl) (by simp) fun a ha => ?_
  have n1 := jZ h1 (by simp) ha
  have n2 := jZ h2 (by simp) ha
  simp [h1, h2, jF, n1, n2]
  refine up rfl (by simp; rfl) (by simp) fun b hb => ?_
  have n3 := V3 hb (by simp)
  have n4 := jZ h1 (by simp) n3.2
  have n5 := jZ h2 (by simp) n3.2
  simp [h1, h2, jF, n1, n2, n3, n4, n5, n3.1.symm]
  exact tail _ _ b a rfl rfl (by simp [jF, n3.1, n3.1.symm, zI]) (by simp [jF, n3.1, n3.1.symm, zI]) (by repeat (first | exact Offd.refl _ _ | refine Offd.set ?_ (by first | exact .inr ha | exact .inr n3.2) _))
theorem Zfu {S : Store} {hid hv rid mid mv : Nat} {l : Its Int} {g : Int → Option Nat} (hs : HS S hid hv rid mid mv l g) (i j : Nat) (hi : i < l.length) (hj : j < l.length) :
  PCalls Tryz.prog 323 [.ptr hid hv 0, zA i, zA j] S (fun _ S' => Off S [hid, rid, mid] S' ∧ HS S' hid hv rid mid mv (swp l i j) (yN (yN g (ata (swp l i j) i).1 (some i)) (ata (swp l i j) j).1 (some j))) := by
 obtain ⟨ver, h1, cs, h2, hR⟩ := hs.h
 obtain ⟨es, h3, h4⟩ := hs.m
 obtain ⟨z1, z2, z3⟩ := hs.ne
 obtain ⟨tl1, e1⟩ := hR.at i hi
 obtain ⟨tl2, e2⟩ := hR.at j hj
 have b0 := hR.big
 have b1 : i * 2 + 2 ≤ cs.length := by omega
 have b2 : j * 2 + 2 ≤ cs.length := by omega
 refine jO Tryz.func323 rfl Tryz.ntmps323 (congrArg Array.toList Tryz.results323) (by simp) ?_
 refine za (uo (some [hid]) (Row.pures [0, 1, 2, 3, 4, 5, 6, 7, 8, 9, 10, 11, 12, 13, 14, 15, 17, 18, 19, 20, 21, 22] (.alt 16 (.alt 23 (Row.pures [24] (.alt 25 (Row.pures [26] (.alt 27 (.done) .stop)) .stop)) .stop) (.alt 23 (.alt 16 (Row.pures [24] (.alt 25 (Row.pures [26] (.alt 27 (.done) .stop)) .stop)) .stop) .stop))) mixed (by rfl) (by rfl) (by rfl) fun K hK => ?_)
 have r1 := (hR.put i hi (ata l j)).put j (by simpa using hj) (ata l i)
 have hsw : (l.set i (ata l j)).set j (ata l i) = swp l i j := rfl
 rw [hsw] at r1
 have hsl : (swp l i j).length = l.length := xC l i j
 have tail : ∀ (F : Nat → PV), F 0 = .ptr hid hv 0 → F 1 = zA i → F 2 = zA j → K F (S.set rid (.cells ver 332 (zP (zP cs (i * 2) [.sc (.int .i64 (ata l j).1), .sc (.int .i64 (ata l j).2)]) (j * 2) [.sc (.int .i64 (ata l i).1), .sc (.int .i64 (ata l i).2)]))) := by
  intro F f0 f1 f2
  refine hK _ _ ?_
  generalize hcs' : zP (zP cs (i * 2) [.sc (.int .i64 (ata l j).1), .sc (.int .i64 (ata l j).2)]) (j * 2) [.sc (.int .i64 (ata l i).1), .sc (.int .i64 (ata l i).2)] = cs' at r1
  obtain ⟨tl1, e1⟩ := r1.at i (by omega)
  obtain ⟨tl2, e2⟩ := r1.at j (by omega)
  have b0 := r1.big
  have b1 : i * 2 + 2 ≤ cs'.length := by omega
  have b2 : j * 2 + 2 ≤ cs'.length := by omega
  have hT : Offd S [hid, rid, mid] (S.set rid (.cells ver 332 cs')) := (Offd.refl _ _).set (.inl (by simp)) _
  have t1 : S.set rid (.cells ver 332 cs') hid = _ := (qc _ _ _ _ z1).trans h1
  have t2 : S.set rid (.cells ver 332 cs') rid = _ := Store.set_same _ _ _
  have t3 : S.set rid (.cells ver 332 cs') mid = _ := (qc _ _ _ _ (Ne.symm z3)).trans h3
  generalize S.set rid (.cells ver 332 cs') = T at hT t1 t2 t3
  obtain ⟨res, m1, _, _, m2, _⟩ := h4.find (uy .i64) (ata (swp l i j) i).1
  refine za (uo (some [hid, rid]) (Row.pures [0, 1, 2, 3, 4, 5, 6, 7, 8, 9, 10, 11, 12] (.alt 13 (.done) .stop)) mixed (by rfl) (by rfl) (by rfl) fun K hK => ?_)
  simp -implicitDefEqProofs [f0, f1, f2, t1, t2, hi, hj, e1, e2, zA, b1, b2]
  refine ZZ (.inl rfl) Tryz.underlying288 Tryz.underlying3 rfl rfl rfl t3 m1 ?_
  simp -implicitDefEqProofs [qc, z2, z3, t1, t2]
  refine hK _ _ ?_
  clear hK
  have u1 : T.set mid (.map mv (qq (yF (ata (swp l i j) i).1) (zA i) es res)) hid = _ := (qc _ _ _ _ z2).trans t1
  have u2 : T.set mid (.map mv (qq (yF (ata (swp l i j) i).1) (zA i) es res)) rid = _ := (qc _ _ _ _ z3).trans t2
  have u3 : T.set mid (.map mv (qq (yF (ata (swp l i j) i).1) (zA i) es res)) mid = _ := Store.set_same _ _ _
  have hU : Offd S [hid, rid, mid] (T.set mid (.map mv (qq (yF (ata (swp l i j) i).1) (zA i) es res))) := hT.set (.inl (by simp)) _
  have m3 := m2 i
  obtain ⟨res2, m4, _, _, m5, _⟩ := m3.find (uy .i64) (ata (swp l i j) j).1
  show PW _ _ _ _ _ _ _ (T.set mid (.map mv (qq (yF (ata (swp l i j) i).1) (zA i) es res)))
  change MapIs yF JX (qq (yF (ata (swp l i j) i).1) (zA i) es res) _ at m3
  generalize T.set mid (.map mv (qq (yF (ata (swp l i j) i).1) (zA i) es res)) = U at u1 u2 u3 hU
  refine uo (some [hid, rid]) (Row.pures [0, 1, 2, 3, 4, 5, 6, 7, 8, 9, 10, 11, 12] (.alt 13 (.done) .stop)) mixed (by rfl) (by rfl) (by rfl) fun K hK => ?_
  simp -implicitDefEqProofs [f0, f1, f2, u1, u2, hi, hj, e1, e2, zA, b1, b2]
  refine ZZ (.inl rfl) Tryz.underlying288 Tryz.underlying3 rfl rfl rfl u3 m4 ?_
  simp -implicitDefEqProofs [qc, z2, z3, u1, u2]
  refine hK _ _ ⟨_, _, rfl, ⟨wy _ _ _, HS.cut ⟨⟨ver, ?_, cs', ?_, r1⟩, ⟨_, ?_, m5 j⟩, ⟨z1, z2, z3⟩, ?_⟩⟩, wz (hU.set (.inl (by simp)) _)⟩
  ·rw [qc _ _ _ _ z2, u1, hsl]
  ·rw [qc _ _ _ _ z3, u2]
  ·exact Store.set_same _ _ _
  ·rw [hsl]; exact hs.len
 simp -implicitDefEqProofs [h1, h2, hi, hj, e1, e2, zA, b1, b2, jF, z1]
 exact ⟨tail _ rfl rfl rfl, tail _ rfl rfl rfl⟩
theorem Zfv : ElemOk Tryz.prog 323 332 (.agg #[.int .i64 0, .int .i64 0]) 16 :=
 ⟨Tryz.underlying323, by simp, by simp, by simp, by simp, by omega⟩
theorem Zfw {S : Store} {hid hv rid mid mv : Nat} {l : Its Int} {g : Int → Option Nat} (hs : HS S hid hv rid mid mv l g) (x : Int × Int) (hn : l.length + 1 ≤ 2147483648) :
  PCalls Tryz.prog 322 [.ptr hid hv 0, .ifc 332 (.agg (zI x))] S (fun _ S' => Off S [hid, rid, mid] S' ∧ HS S' hid hv rid mid mv (l ++ [x]) (yN g x.1 (some l.length))) := by
 obtain ⟨ver, h1, cs, h2, hR⟩ := hs.h
 obtain ⟨es, h3, h4⟩ := hs.m
 obtain ⟨z1, z2, z3⟩ := hs.ne
 have b0 := hR.big
 refine jO Tryz.func322 rfl Tryz.ntmps322 (congrArg Array.toList Tryz.results322) (by simp) ?_
 refine za (z8 [] (by rfl) fun K hK => ?_)
 simp -implicitDefEqProofs [zI]
 refine Zd9 rfl Tryz.underlying332 (by intro ms; simp) (by simp; rfl) (p := .tup [.agg (zI x), .sc (.bool true)]) (by simp [Ju, zI]) ?_
 simp -implicitDefEqProofs [zI]
 refine up rfl (by simp; rfl) (by simp) fun a ha => ?_
 simp -implicitDefEqProofs [zI]
 have n1 := jZ h1 (by simp) ha
 have n2 := jZ h2 (by simp) ha
 have n3 := jZ h3 (by simp) ha
 refine hK _ _ ?_
 clear hK
 have hT : Offd S [hid, rid, mid] (S.set a (.cells 0 332 (zI x))) := (Offd.refl _ _).set (.inr ha) _
 have t1 : S.set a (.cells 0 332 (zI x)) hid = _ := (qc _ _ _ _ n1).trans h1
 have t2 : S.set a (.cells 0 332 (zI x)) rid = _ := (qc _ _ _ _ n2).trans h2
 have t3 : S.set a (.cells 0 332 (zI x)) mid = _ := (qc _ _ _ _ n3).trans h3
 have t4 : S.set a (.cells 0 332 (zI x)) a = _ := Store.set_same _ _ _
 show PW _ _ _ _ _ _ _ (S.set a (.cells 0 332 (zI x)))
 generalize S.set a (.cells 0 332 (zI x)) = T at hT t1 t2 t3 t4
 refine za (yy (by rfl) (by simp; rfl) (zn rfl (fun _ => ?_) (fun h => by simp at h)))
 obtain ⟨res, m1, _, _, m2, _⟩ := h4.find (uy .i64) x.1
 refine za (uo (some [hid, a]) (Row.pures [0, 1, 2, 3, 4, 5, 6, 7, 8, 9, 10] (.alt 11 (.done) .stop)) mixed (by rfl) (by rfl) (by rfl) fun K hK => ?_)
 simp -implicitDefEqProofs [t1, t4, zI]
 refine ZZ (.inl rfl) Tryz.underlying288 Tryz.underlying3 rfl rfl rfl t3 m1 ?_
 simp -implicitDefEqProofs [qc, z2, n3.symm, t1, t4, zI]
 refine hK _ _ ?_
 clear hK
 have m3 := m2 l.length
 have u1 : T.set mid (.map mv (qq (yF x.1) (zA l.length) es res)) hid = _ := (qc _ _ _ _ z2).trans t1
 have u2 : T.set mid (.map mv (qq (yF x.1) (zA l.length) es res)) rid = _ := (qc _ _ _ _ z3).trans t2
 have u3 : T.set mid (.map mv (qq (yF x.1) (zA l.length) es res)) mid = _ := Store.set_same _ _ _
 have u4 : T.set mid (.map mv (qq (yF x.1) (zA l.length) es res)) a = _ := (qc _ _ _ _ n3.symm).trans t4
 have hU : Offd S [hid, rid, mid] (T.set mid (.map mv (qq (yF x.1) (zA l.length) es res))) := hT.set (.inl (by simp)) _
 show PW _ _ _ _ _ _ _ (T.set mid (.map mv (qq (yF x.1) (zA l.length) es res)))
 change MapIs yF JX (qq (yF x.1) (zA l.length) es res) _ at m3
 generalize T.set mid (.map mv (qq (yF x.1) (zA l.length) es res)) = U at u1 u2 u3 u4 hU
 refine uo (some [a]) (Row.pures [0, 1, 2, 3, 5, 6] (.alt 4 (.alt 7 (Row.pures [8, 9] (.alt 10 (.done) .stop)) .stop) .stop)) mixed (by rfl) (by rfl) (by rfl) fun K hK => ?_
 simp -implicitDefEqProofs [u1, u4, zI]
 refine Js rfl Zfv (by simp; rfl) u2 (by simpa using b0) (m := 1) (ds := zI x) (by simp [zI]) (by omega) (by omega) ?_
 simp -implicitDefEqProofs [jF, z1, n1.symm, n2.symm, u1, u4, zI]
 have r1 : RowIs (cs.take (l.length * 2) ++ zI x) (l ++ [x]) := ⟨[], by rw [hR.take]; simp⟩
 refine hK _ _ ⟨_, _, rfl, ⟨wy _ _ _, HS.cut ⟨⟨ver + 1, ?_, _, ?_, r1⟩, ⟨_, ?_, m3⟩, ⟨z1, z2, z3⟩, ?_⟩⟩, wz ((hU.set (.inl (by simp)) _).set (.inl (by simp)) _)⟩
 ·rw [Jt]; simp
 ·rw [qc _ _ _ _ z1.symm, Jt]; simp [zI]
 ·rw [qc _ _ _ _ z2.symm, qc _ _ _ _ z3.symm, u3]
 ·simp; omega
theorem Zfx {S : Store} {hid hv rid mid mv : Nat} {l : Its Int} {g : Int → Option Nat} (x : Int × Int) (hs : HS S hid hv rid mid mv (l ++ [x]) g) :
  PCalls Tryz.prog 321 [.ptr hid hv 0] S (fun p S' => p = .ifc 332 (.agg (zI x)) ∧ Off S [hid, rid, mid] S' ∧ HS S' hid hv rid mid mv l (yN g x.1 none)) := by
 obtain ⟨ver, h1, cs, h2, hR⟩ := hs.h
 obtain ⟨es, h3, h4⟩ := hs.m
 obtain ⟨z1, z2, z3⟩ := hs.ne
 have b0 := hR.big
 have hlen := hs.len
 simp only [List.length_append, List.length_cons, List.length_nil, Nat.zero_add] at h1 b0 hlen
 refine jO Tryz.func321 rfl Tryz.ntmps321 (congrArg Array.toList Tryz.results321) (by simp) ?_
 have hw : IntKind.i64.wrap (l.length : Int) = l.length := wq _ (by omega) (by omega)
 obtain ⟨tl, e1⟩ := hR.at l.length (by simp)
 have ha : ata (l ++ [x]) l.length = x := by simp [ata]
 rw [ha] at e1
 refine za (yy (by rfl) (by simp; rfl) (za (z8 [] (by rfl) fun K hK => ?_)))
 simp -implicitDefEqProofs [h1, hw]
 refine hK _ _ ?_
 clear hK
 refine za (z8 [] (by rfl) fun K hK => ?_)
 have hlt : (l.length : Int) < l.length + 1 := by omega
 have b1 : l.length * 2 + 2 ≤ cs.length := by omega
 simp -implicitDefEqProofs [h1, h2, e1, hlt]
 refine up rfl (by simp; rfl) (by simp) fun a ha => ?_
 have n1 := jZ h1 (by simp) ha
 have n2 := jZ h2 (by simp) ha
 have n3 := jZ h3 (by simp) ha
 simp -implicitDefEqProofs
 refine hK _ _ ?_
 clear hK
 refine za (z8 [] (by rfl) fun K hK => ?_)
 simp -implicitDefEqProofs [jF, n1, n2, h1, h2, hlt, b1]
 refine hK _ _ ?_
 clear hK
 refine za (z8 [] (by rfl) fun K hK => ?_)
 simp -implicitDefEqProofs [jF, n1, n2, z1, h1, h2, hlt, b1]
 refine hK _ _ ?_
 clear hK
 have r1 : RowIs (zP cs (l.length * 2) [.sc (.int .i64 0), .sc (.int .i64 0)]) l := by
  obtain ⟨rest, q⟩ := hR.put l.length (by simp) (0, 0)
  exact ⟨zI (0, 0) ++ rest, by rw [q, List.set_append_right _ _ (Nat.le_refl _)]; simp⟩
 have hT : Offd S [hid, rid, mid] (((S.set a (.cells 0 332 (zI x))).set rid (.cells ver 332 (zP cs (l.length * 2) [.sc (.int .i64 0), .sc (.int .i64 0)]))).set hid (.cells hv 327 [.sl rid ver 2 0 l.length, .mp mid mv])) :=
  (((Offd.refl _ _).set (.inr ha) _).set (.inl (by simp)) _).set (.inl (by simp)) _
 have t1 : (((S.set a (.cells 0 332 (zI x))).set rid (.cells ver 332 (zP cs (l.length * 2) [.sc (.int .i64 0), .sc (.int .i64 0)]))).set hid (.cells hv 327 [.sl rid ver 2 0 l.length, .mp mid mv])) hid = .cells hv 327 [.sl rid ver 2 0 l.length, .mp mid mv] := by simp
 have t2 : (((S.set a (.cells 0 332 (zI x))).set rid (.cells ver 332 (zP cs (l.length * 2) [.sc (.int .i64 0), .sc (.int .i64 0)]))).set hid (.cells hv 327 [.sl rid ver 2 0 l.length, .mp mid mv])) rid = .cells ver 332 (zP cs (l.length * 2) [.sc (.int .i64 0), .sc (.int .i64 0)]) := by simp [jF, z1.symm]
 have t3 : (((S.set a (.cells 0 332 (zI x))).set rid (.cells ver 332 (zP cs (l.length * 2) [.sc (.int .i64 0), .sc (.int .i64 0)]))).set hid (.cells hv 327 [.sl rid ver 2 0 l.length, .mp mid mv])) mid = .map mv es := by simp [jF, z2.symm, z3.symm, n3, h3]
 have t4 : (((S.set a (.cells 0 332 (zI x))).set rid (.cells ver 332 (zP cs (l.length * 2) [.sc (.int .i64 0), .sc (.int .i64 0)]))).set hid (.cells hv 327 [.sl rid ver 2 0 l.length, .mp mid mv])) a = .cells 0 332 (zI x) := by simp [jF, n1.symm, n2.symm]
 show PW _ _ _ _ _ _ _ (((S.set a (.cells 0 332 (zI x))).set rid (.cells ver 332 (zP cs (l.length * 2) [.sc (.int .i64 0), .sc (.int .i64 0)]))).set hid (.cells hv 327 [.sl rid ver 2 0 l.length, .mp mid mv]))
 generalize (((S.set a (.cells 0 332 (zI x))).set rid (.cells ver 332 (zP cs (l.length * 2) [.sc (.int .i64 0), .sc (.int .i64 0)]))).set hid (.cells hv 327 [.sl rid ver 2 0 l.length, .mp mid mv])) = T at hT t1 t2 t3 t4
 obtain ⟨res, m1, _, _, _, m2⟩ := h4.find (uy .i64) x.1
 refine za (uo (some [hid, a]) (Row.pures [0, 1, 2, 3, 4, 5] (.alt 6 (.done) .stop)) mixed (by rfl) (by rfl) (by rfl) fun K hK => ?_)
 simp -implicitDefEqProofs [t1, t4, zI]
 refine Zd7 rfl rfl Tryz.underlying288 Tryz.underlying3 rfl rfl rfl t3 m1 ?_
 simp -implicitDefEqProofs [qc, z2, n3.symm, t1, t4, zI]
 refine hK _ _ ?_
 clear hK
 refine za (z8 [] (by rfl) fun K hK => ?_)
 simp -implicitDefEqProofs [qc, z2, n3.symm, t1, t4, zI]
 refine hK _ _ (zb ⟨_, _, rfl, ⟨rfl, wy _ _ _, HS.cut ⟨⟨ver, ?_, _, ?_, r1⟩, ⟨_, ?_, m2⟩, ⟨z1, z2, z3⟩, ?_⟩⟩, wz (hT.set (.inl (by simp)) _)⟩)
 ·rw [qc _ _ _ _ z2, t1]
 ·rw [qc _ _ _ _ z3, t2]
 ·exact Jt _ _ _
 ·omega
open Go Hp
def HP (S : Store) (hid hv rid mid mv : Nat) (l : Its Int) : Prop := ∃ g, HS S hid hv rid mid mv l g ∧ PosOk g l
theorem PosOk.inj {g : Int → Option Nat} {l : Its Int} (h : PosOk g l) {i j : Nat} (hi : i < l.length) (hj : j < l.length) (e : (ata l i).1 = (ata l j).1) : i = j := by
 have h1 := h.here i hi
 rw [e, h.here j hj] at h1
 exact (Option.some.inj h1).symm
theorem PosOk.swp {g : Int → Option Nat} {l : Its Int} (h : PosOk g l) (i j : Nat) (hi : i < l.length) (hj : j < l.length) : PosOk (yN (yN g (ata (swp l i j) i).1 (some i)) (ata (swp l i j) j).1 (some j)) (swp l i j) := by
 have at' := fun k => ZN l i j k hi hj
 have ei : (ata (Hp.swp l i j) i).1 = (ata l j).1 := by
  rw [at' i]
  by_cases e : i = j
  ·rw [if_pos e, e]
  ·rw [if_neg e, if_pos rfl]
 have ej : (ata (Hp.swp l i j) j).1 = (ata l i).1 := by rw [at' j, if_pos rfl]
 rw [ei, ej]
 refine ⟨fun k hk => ?_, fun id hid => ?_⟩
 ·rw [xC] at hk
  rw [at' k]
  unfold yN
  by_cases k1 : k = j
  ·rw [if_pos k1, if_pos rfl, k1]
  ·rw [if_neg k1]
   by_cases k2 : k = i
   ·rw [if_pos k2]
    rw [if_neg (fun e => k1 (by rw [k2]; exact (h.inj hj hi e).symm)), if_pos rfl, k2]
   ·rw [if_neg k2, if_neg (fun e => k2 (h.inj hk hi e)), if_neg (fun e => k1 (h.inj hk hj e))]
    exact h.here k hk
 ·unfold yN
  have q1 := hid i (by rw [xC]; exact hi)
  have q2 := hid j (by rw [xC]; exact hj)
  rw [ei] at q1; rw [ej] at q2
  rw [if_neg (Ne.symm q2), if_neg (Ne.symm q1)]
  refine h.gone id fun k hk e => ?_
  have q3 := hid k (by rw [xC]; exact hk)
  rw [at' k] at q3
  by_cases k1 : k = j
  ·subst k1; exact q1 e
  ·rw [if_neg k1] at q3
   by_cases k2 : k = i
   ·subst k2; exact q2 e
   ·rw [if_neg k2] at q3; exact q3 e
theorem Yf (l : Its Int) (x : Int × Int) (k : Nat) (hk : k < l.length) : ata (l ++ [x]) k = ata l k := by
 unfold ata; rw [List.getD_eq_getElem?_getD, List.getD_eq_getElem?_getD, List.getElem?_append_left hk]
theorem Qr (l : Its Int) (x : Int × Int) : ata (l ++ [x]) l.length = x := by simp [ata]
theorem PosOk.push {g : Int → Option Nat} {l : Its Int} (h : PosOk g l) (x : Int × Int) (hx : g x.1 = none) : PosOk (yN g x.1 (some l.length)) (l ++ [x]) := by
 refine ⟨fun k hk => ?_, fun id hid => ?_⟩
 ·simp only [List.length_append, List.length_cons, List.length_nil, Nat.zero_add] at hk
  unfold yN
  by_cases k1 : k = l.length
  ·subst k1; rw [Qr, if_pos rfl]
  ·have hk' : k < l.length := by omega
   rw [Yf l x k hk', if_neg]
   ·exact h.here k hk'
   ·intro e
    have := h.here k hk'
    rw [e, hx] at this; cases this
 ·have q := hid l.length (by simp)
  rw [Qr] at q
  unfold yN
  rw [if_neg (Ne.symm q)]
  refine h.gone id fun k hk => ?_
  have := hid k (by simp; omega)
  rw [Yf l x k hk] at this
  exact this
theorem PosOk.pop {g : Int → Option Nat} {l : Its Int} (x : Int × Int) (h : PosOk g (l ++ [x])) : PosOk (yN g x.1 none) l := by
 have hl : l.length < (l ++ [x]).length := by simp
 refine ⟨fun k hk => ?_, fun id hid => ?_⟩
 ·have hk' : k < (l ++ [x]).length := by simp; omega
  have := h.here k hk'
  rw [Yf l x k hk] at this
  unfold yN
  rw [if_neg]
  ·exact this
  ·intro e
   have := h.inj hk' hl (by rw [Yf l x k hk, Qr]; exact e)
   omega
 ·unfold yN
  by_cases e : id = x.1
  ·rw [if_pos e]
  ·rw [if_neg e]
   refine h.gone id fun k hk => ?_
   simp only [List.length_append, List.length_cons, List.length_nil, Nat.zero_add] at hk
   by_cases k1 : k = l.length
   ·subst k1; rw [Qr]; exact Ne.symm e
   ·have hk' : k < l.length := by omega
    rw [Yf l x k hk']; exact hid k hk'
theorem V4 : Zb Tryz.prog 330 "Len" 319 := by intro v w; kernel_rfl
theorem JY : Zb Tryz.prog 330 "Less" 320 := by intro v w; kernel_rfl
theorem JZ : Zb Tryz.prog 330 "Swap" 323 := by intro v w; kernel_rfl
theorem Zfy : Zb Tryz.prog 330 "Push" 322 := by intro v w; kernel_rfl
theorem Zfz : Zb Tryz.prog 330 "Pop" 321 := by intro v w; kernel_rfl
abbrev hI (hid hv : Nat) : PV := .ifc 330 (.ptr hid hv 0)
theorem HP.len {S : Store} {hid hv rid mid mv : Nat} {l : Its Int} (h : HP S hid hv rid mid mv l) : l.length ≤ 2147483648 := by obtain ⟨g, h, _⟩ := h; exact h.len
theorem HP.cut {S T : Store} {hid hv rid mid mv : Nat} {l : Its Int} (h : HP T hid hv rid mid mv l) : HP (cut S [hid, rid, mid] T) hid hv rid mid mv l := by obtain ⟨g, h, k⟩ := h; exact ⟨g, h.cut, k⟩
theorem V5 {S : Store} {hid hv rid mid mv : Nat} {l : Its Int} (h : HP S hid hv rid mid mv l) : PCalls Tryz.prog 319 [.ptr hid hv 0] S (fun p S' => p = zA l.length ∧ S' = S) := by
 obtain ⟨g, h, _⟩ := h; exact Zfs h
theorem J0 {S : Store} {hid hv rid mid mv : Nat} {l : Its Int} (h : HP S hid hv rid mid mv l) (i j : Nat) (hi : i < l.length) (hj : j < l.length) : PCalls Tryz.prog 320 [.ptr hid hv 0, zA i, zA j] S (fun p S' => p = jC (il ltI (ata l i) (ata l j)) ∧ S' = S) := by
 obtain ⟨g, h, _⟩ := h; exact Zft h i j hi hj
theorem J1 {S : Store} {hid hv rid mid mv : Nat} {l : Its Int} (h : HP S hid hv rid mid mv l) (i j : Nat) (hi : i < l.length) (hj : j < l.length) : PCalls Tryz.prog 323 [.ptr hid hv 0, zA i, zA j] S (fun _ S' => Off S [hid, rid, mid] S' ∧ HP S' hid hv rid mid mv (swp l i j)) := by
 obtain ⟨g, h, k⟩ := h
 exact (Zfu h i j hi hj).mono fun p S' q => ⟨q.1, _, q.2, k.swp i j hi hj⟩
theorem ZfA {S : Store} {hid hv rid mid mv : Nat} {l : Its Int} (h : HP S hid hv rid mid mv l) (x : Int × Int) (hx : ∀ i, i < l.length → (ata l i).1 ≠ x.1) (hn : l.length + 1 ≤ 2147483648) : PCalls Tryz.prog 322 [.ptr hid hv 0, .ifc 332 (.agg (zI x))] S (fun _ S' => Off S [hid, rid, mid] S' ∧ HP S' hid hv rid mid mv (l ++ [x])) := by
 obtain ⟨g, h, k⟩ := h
 exact (Zfw h x hn).mono fun p S' q => ⟨q.1, _, q.2, k.push x (k.gone _ hx)⟩
theorem ZfB {S : Store} {hid hv rid mid mv : Nat} {l : Its Int} (x : Int × Int) (h : HP S hid hv rid mid mv (l ++ [x])) : PCalls Tryz.prog 321 [.ptr hid hv 0] S (fun p S' => p = .ifc 332 (.agg (zI x)) ∧ Off S [hid, rid, mid] S' ∧ HP S' hid hv rid mid mv l) := by
 obtain ⟨g, h, k⟩ := h
 exact (Zfx x h).mono fun p S' q => ⟨q.1, q.2.1, _, q.2.2, k.pop x⟩
theorem ZfC (j : Nat) : ((j : Int) - 1).tdiv 2 = (par j : Nat) := by
 unfold par
 cases j with
 | zero => rfl
 | succ k => simp
theorem V6 {S : Store} {hid hv rid mid mv : Nat} {l : Its Int} (h : HP S hid hv rid mid mv l) (j : Nat) (hj : j < l.length) :
  PCalls Tryz.prog 283 [hI hid hv, zA j] S (fun _ S' => Off S [hid, rid, mid] S' ∧ HP S' hid hv rid mid mv (upL ltI (j + 1) l j)) := by
 refine jO Tryz.func283 rfl Tryz.ntmps283 (congrArg Array.toList Tryz.results283) (by simp) ?_
 refine zh (Ji (fun F S' m => ∃ (lc : Its Int) (jc : Nat), m = jc ∧ jc < lc.length ∧ F 0 = hI hid hv ∧ F 1 = zA jc ∧ Off S [hid, rid, mid] S' ∧ HP S' hid hv rid mid mv lc ∧ upL ltI (jc + 1) lc jc = upL ltI (j + 1) l j) j ⟨l, j, rfl, hj, rfl, rfl, fun _ _ => rfl, h, rfl⟩ ?_)
 rintro jc F T ⟨lc, _, rfl, hjc, f0, f1, hoff, hp, hup⟩
 have hlen := hp.len
 have w1 : IntKind.i64.wrap ((jc : Int) - 1) = (jc : Int) - 1 := wq _ (by omega) (by omega)
 have hpar : par jc ≤ jc := by unfold par; omega
 have w2 : IntKind.i64.wrap (par jc : Int) = par jc := wq _ (by omega) (by omega)
 refine zh (za (z8 [] (by rfl) fun K hK => ?_))
 simp -implicitDefEqProofs [f0, f1, zA, w1, ZfC, w2]
 refine hK _ _ ?_
 clear hK
 by_cases hc : par jc = jc
 ·refine za (za (z8 [] (by rfl) fun K hK => ?_))
  simp -implicitDefEqProofs [f0, f1, zA, hc]
  refine hK _ _ (zn rfl (fun _ => zo ?_) (fun q => by simp at q))
  refine ⟨_, _, rfl, ⟨wy _ _ _, ?_⟩, wz hoff.offd⟩
  rw [← hup]
  unfold upL
  rw [if_pos (.inl hc)]
  exact hp.cut
 ·refine za (za (z8 [] (by rfl) fun K hK => ?_))
  have hc' : ¬ ((par jc : Nat) : Int) = jc := by omega
  simp -implicitDefEqProofs [f0, f1, zA, hc, hc']
  refine wu rfl rfl rfl JY JJ (by exact J0 hp jc (par jc) hjc (by omega)) fun p S' hq => ?_
  obtain ⟨rfl, rfl⟩ := hq
  simp -implicitDefEqProofs [jC]
  refine hK _ _ ?_
  clear hK
  cases hl : il ltI (ata lc jc) (ata lc (par jc)) with
  | false =>
   refine zn rfl (fun _ => zo ?_) (fun q => by simp at q)
   refine ⟨_, _, rfl, ⟨wy _ _ _, ?_⟩, wz hoff.offd⟩
   rw [← hup]
   unfold upL
   rw [if_pos (.inr hl)]
   exact hp.cut
  | true =>
   refine zn rfl (fun q => by simp at q) (fun _ => ze (za (z8 [] (by rfl) fun K hK => ?_)))
   simp -implicitDefEqProofs [f0, f1, zA]
   refine wu rfl rfl rfl JZ JK (by exact J1 hp (par jc) jc (by omega) hjc) fun p S' hq => ?_
   obtain ⟨hq1, hq2⟩ := hq
   refine hK _ _ ?_
   clear hK
   refine yy (by rfl) (by simp; rfl) ?_
   refine ⟨par jc, ⟨swp lc (par jc) jc, par jc, rfl, by rw [xC]; omega, f0, by rfl, hoff.trans hq1, hq2, ?_⟩, by omega⟩
   rw [← hup]
   conv => rhs; unfold upL
   rw [if_neg (by rintro (e | e); exact hc e; rw [hl] at e; cases e)]
   exact Zdq _ _ _ _ (by omega) (by unfold par at *; omega)
theorem ZfD {S : Store} {hid hv rid mid mv : Nat} {l : Its Int} (h : HP S hid hv rid mid mv l) (i n : Nat) (hi : i < n) (hn : n ≤ l.length) :
  PCalls Tryz.prog 286 [hI hid hv, zA i, zA n] S (fun p S' => p = jC (decide (i < (yp ltI n l i n).2)) ∧ Off S [hid, rid, mid] S' ∧ HP S' hid hv rid mid mv (yp ltI n l i n).1) := by
 refine jO Tryz.func286 rfl Tryz.ntmps286 (congrArg Array.toList Tryz.results286) (by simp) ?_
 refine za (yy (by rfl) (by simp; rfl) (za (yy (by rfl) (by simp; rfl) (za ?_))))
 refine ZT (Q := fun e F T => e = .normal ∧ F 1 = zA i ∧ F 7 = zA (yp ltI n l i n).2 ∧ Off S [hid, rid, mid] T ∧ HP T hid hv rid mid mv (yp ltI n l i n).1) (zh (Ji (fun F S' m => ∃ (lc : Its Int) (ic : Nat), m = n - ic ∧ ic < n ∧ n ≤ lc.length ∧ F 0 = hI hid hv ∧ F 1 = zA i ∧ F 2 = zA n ∧ F 7 = zA ic ∧ Off S [hid, rid, mid] S' ∧ HP S' hid hv rid mid mv lc ∧ yp ltI n lc ic n = yp ltI n l i n) (n - i) ⟨l, i, rfl, hi, hn, rfl, rfl, rfl, rfl, fun _ _ => rfl, h, rfl⟩ ?_)) ?_
 rotate_left
 ·rintro e F T ⟨rfl, f1, f7, hoff, hp⟩
  refine za (z8 [] (by rfl) fun K hK => ?_)
  simp -implicitDefEqProofs [f1, f7, zA]
  refine hK _ _ (zb ⟨_, _, rfl, ⟨?_, wy _ _ _, hp.cut⟩, wz hoff.offd⟩)
  simp [jC]
 rintro _ F T ⟨lc, ic, rfl, hic, hnl, f0, f1, f2, f7, hoff, hp, hdown⟩
 have hlen := hp.len
 have w1 : IntKind.i64.wrap (2 * (ic : Int)) = 2 * (ic : Int) := wq _ (by omega) (by omega)
 have w2 : IntKind.i64.wrap (2 * (ic : Int) + 1) = ((2 * ic + 1 : Nat) : Int) := by rw [wq _ (by omega) (by omega)]; omega
 have w3 : IntKind.i64.wrap (((2 * ic + 1 : Nat) : Int) + 1) = ((2 * ic + 2 : Nat) : Int) := by rw [wq _ (by omega) (by omega)]; omega
 refine zh (za (z8 [] (by rfl) fun K hK => ?_))
 simp -implicitDefEqProofs only [f0, f1, f7, zA, w1, w2]
 generalize hk1 : 2 * ic + 1 = k1 at w2 w3
 simp -implicitDefEqProofs [f0, f1, f7, zA, w1, w2]
 refine hK _ _ ?_
 clear hK
 by_cases hc : n ≤ k1
 ·refine za (za (z8 [] (by rfl) fun K hK => ?_))
  have hc' : (n : Int) ≤ k1 := by omega
  simp -implicitDefEqProofs [f0, f1, f2, f7, zA, hc, hc']
  refine hK _ _ (zn rfl (fun _ => zo ?_) (fun q => by simp at q))
  have hd : yp ltI n lc ic n = (lc, ic) := by
   cases n with
   | zero => omega
   | succ n => unfold yp; rw [if_pos (by omega)]
  rw [hdown] at hd
  refine ⟨rfl, f1, ?_, hoff, ?_⟩
  ·rw [hd]; exact f7
  ·rw [hd]; exact hp
 ·refine za (za (z8 [] (by rfl) fun K hK => ?_))
  have hc' : ¬ (n : Int) ≤ k1 := by omega
  have hc2 : ¬ (k1 : Int) < 0 := by omega
  simp -implicitDefEqProofs [f0, f1, f2, f7, zA, hc', hc2]
  refine hK _ _ (zn rfl (fun q => by simp at q) (fun _ => ze ?_))
  clear hK
  refine za (yy (by rfl) (by simp; rfl) ?_)
  obtain ⟨c1, c2, c3, c4, c5⟩ := Wx xW lc ic n (by omega)
  have hkd : kid ltI lc ic n < lc.length := by omega
  refine za (ZT (Q := fun e F' T' => e = .normal ∧ T' = T ∧ F' 0 = hI hid hv ∧ F' 1 = zA i ∧ F' 2 = zA n ∧ F' 7 = zA ic ∧ F' 9 = zA (kid ltI lc ic n)) ?_ ?_)
  ·generalize hk2 : 2 * ic + 2 = k2 at w3
   refine za (z8 [] (by rfl) fun K hK => ?_)
   simp -implicitDefEqProofs [f0, f1, f2, f7, zA, w3]
   refine hK _ _ ?_
   clear hK
   by_cases h2 : k2 < n
   ·refine za (z8 [] (by rfl) fun K hK => ?_)
    have h2' : (k2 : Int) < n := by omega
    simp -implicitDefEqProofs [f0, f1, f2, f7, zA, h2, h2']
    refine wu rfl rfl rfl JY JJ (by exact J0 hp k2 k1 (by omega) (by omega)) fun p S' hq => ?_
    obtain ⟨rfl, rfl⟩ := hq
    simp -implicitDefEqProofs [jC]
    refine hK _ _ ?_
    clear hK
    cases hl : il ltI (ata lc k2) (ata lc k1) with
    | true =>
     refine zn rfl (fun _ => yy (by rfl) (by simp; rfl) ?_) (fun q => by simp at q)
     refine ⟨rfl, rfl, f0, f1, f2, f7, ?_⟩
     unfold kid
     rw [hk1, hk2, if_pos ⟨h2, hl⟩]; rfl
    | false =>
     refine zn rfl (fun q => by simp at q) (fun _ => ze ⟨rfl, rfl, f0, f1, f2, f7, ?_⟩)
     unfold kid
     rw [hk1, hk2, if_neg (by rw [hl]; simp)]; rfl
   ·refine za (z8 [] (by rfl) fun K hK => ?_)
    have h2' : ¬ (k2 : Int) < n := by omega
    simp -implicitDefEqProofs [f0, f1, f2, f7, zA, h2, h2']
    refine hK _ _ (zn rfl (fun q => by simp at q) (fun _ => ze ⟨rfl, rfl, f0, f1, f2, f7, ?_⟩))
    unfold kid
    rw [hk1, hk2, if_neg (fun q => h2 q.1)]; rfl
  ·clear f0 f1 f2 f7 F
   rintro e F S' ⟨rfl, rfl, f0, f1, f2, f7, f9⟩
   have hstep : yp ltI n lc ic n = if il ltI (ata lc (kid ltI lc ic n)) (ata lc ic) = false then (lc, ic) else yp ltI n (swp lc ic (kid ltI lc ic n)) (kid ltI lc ic n) n := by
    cases n with
    | zero => omega
    | succ n =>
     conv => lhs; unfold yp
     rw [if_neg (by omega)]
     split
     ·rfl
     ·exact Zds _ _ _ _ _ (by omega) (by omega)
   rw [hdown] at hstep
   generalize hkk : kid ltI lc ic n = kk at *
   refine za (za (z8 [] (by rfl) fun K hK => ?_))
   simp -implicitDefEqProofs [f0, f1, f2, f7, f9, zA]
   refine wu rfl rfl rfl JY JJ (by exact J0 hp kk ic (by omega) (by omega)) fun p S' hq => ?_
   obtain ⟨rfl, rfl⟩ := hq
   simp -implicitDefEqProofs [jC]
   refine hK _ _ ?_
   clear hK
   cases hl : il ltI (ata lc kk) (ata lc ic) with
   | false =>
    rw [if_pos hl] at hstep
    refine zn rfl (fun _ => zo ⟨rfl, f1, ?_, hoff, ?_⟩) (fun q => by simp at q)
    ·rw [hstep]; exact f7
    ·rw [hstep]; exact hp
   | true =>
    rw [if_neg (by rw [hl]; simp)] at hstep
    refine zn rfl (fun q => by simp at q) (fun _ => ze (za (z8 [] (by rfl) fun K hK => ?_)))
    simp -implicitDefEqProofs [f0, f1, f2, f7, f9, zA]
    refine wu rfl rfl rfl JZ JK (by exact J1 hp ic kk (by omega) hkd) fun p S' hq => ?_
    obtain ⟨hq1, hq2⟩ := hq
    refine hK _ _ ?_
    clear hK
    refine yy (by rfl) (by simp [f9]; rfl) ?_
    refine ⟨n - kk, ⟨swp lc ic kk, kk, rfl, c2, by rw [xC]; exact hnl, f0, f1, f2, rfl, hoff.trans hq1, hq2, hstep.symm⟩, by omega⟩
end Go.Proofs.YtaiplainginmaaaGreat.Pv
namespace Go.Proofs.YtaiplainginmaaaGreat.Hp
section
variable {α : Type} [DecidableEq α] [Inhabited α] {lt : α → α → Bool}
def wA (lt : α → α → Bool) (l : Its α) (i n : Nat) : Its α := if i < (yp lt n l i n).2 then (yp lt n l i n).1 else upL lt (i + 1) (yp lt n l i n).1 i
theorem ZfE (h : Str lt) (l : Its α) (i n : Nat) (hn : n ≤ l.length) (hi : i < n) (inv : DownInv lt l n i) : xM lt (wA lt l i n) n ∧ (wA lt l i n).Perm l ∧ (wA lt l i n).length = l.length ∧ ∀ k, n ≤ k → ata (wA lt l i n) k = ata l k := by
 obtain ⟨q1, q2, q3, q4, q5, q6, q7⟩ := Wy h n l n i hn hi (by omega) inv
 unfold wA
 split
 ·rename_i hm; exact ⟨q6 hm, q1, q2, q3⟩
 ·rename_i hm
  obtain ⟨r1, r2⟩ := q7 (by omega)
  rw [r1]
  exact Ww h (i + 1) l n i hn hi (by omega) ⟨r2, inv.kids⟩
theorem ZfF {l : Its α} (x : Int × α) (h : xM lt l l.length) : UpInv lt (l ++ [x]) (l.length + 1) l.length := by
 have ap : ∀ k, k < l.length → ata (l ++ [x]) k = ata l k := fun k hk => by
  unfold ata; rw [List.getD_eq_getElem?_getD, List.getD_eq_getElem?_getD, List.getElem?_append_left hk]
 refine ⟨fun k k0 kn kj => ?_, fun k k0 kn kp j0 => ?_⟩
 ·have := xe k0
  rw [ap k (by omega), ap (par k) (by omega)]
  exact h k k0 (by omega)
 ·have := xe k0; omega
theorem ZfG (hs : Str lt) {l : Its α} (i n : Nat) (hi : i < n) (hn : n + 1 = l.length) (h : xM lt l l.length) : DownInv lt (swp l i n) n i := by
 have at' := fun k => ZN l i n k (by omega) (by omega)
 refine ⟨fun k k0 kn kp ki => ?_, fun k k0 kn kp i0 => ?_⟩
 ·have := xe k0
  rw [at' k, at' (par k), if_neg (by omega), if_neg ki, if_neg (by omega), if_neg kp]
  exact h k k0 (by omega)
 ·have := xe k0
  have := xe i0
  rw [at' k, at' (par i), if_neg (by omega), if_neg (by omega), if_neg (by omega), if_neg (by omega)]
  have e1 := h k k0 (by omega)
  rw [kp] at e1
  exact ZO hs e1 (h i i0 (by omega))
theorem ZfH {l : Its α} (n : Nat) (h : xM lt l n) : xM lt (l.take n) n := by
 intro k k0 kn
 have := xe k0
 have e : ∀ j, j < n → ata (l.take n) j = ata l j := fun j hj => by
  unfold ata; rw [List.getD_eq_getElem?_getD, List.getD_eq_getElem?_getD, List.getElem?_take, if_pos hj]
 rw [e k kn, e (par k) (by omega)]
 exact h k k0 kn
end
theorem ZfI {α : Type} [Inhabited α] (l : Its α) (n : Nat) (hn : n + 1 = l.length) : l = l.take n ++ [ata l n] := by
 apply List.ext_getElem?
 intro k
 rw [List.getElem?_append]
 by_cases h1 : k < n
 ·rw [if_pos (by simp; omega), List.getElem?_take, if_pos h1]
 ·rw [if_neg (by simp; omega)]
  by_cases h2 : k = n
  ·subst h2
   have : k < l.length := by omega
   simp [ata, this, Nat.min_eq_left (Nat.le_of_lt this)]
  ·rw [List.getElem?_eq_none (by omega), List.getElem?_eq_none (by simp; omega)]
end Go.Proofs.YtaiplainginmaaaGreat.Hp
namespace Go.Proofs.YtaiplainginmaaaGreat.Pv
open Go Hp
def HH (S : Store) (hid hv rid mid mv : Nat) (l : Its Int) : Prop := HP S hid hv rid mid mv l ∧ xM ltI l l.length
theorem HH.cut {S T : Store} {hid hv rid mid mv : Nat} {l : Its Int} (h : HH T hid hv rid mid mv l) : HH (cut S [hid, rid, mid] T) hid hv rid mid mv l := ⟨h.1.cut, h.2⟩
theorem ZfJ {S : Store} {hid hv rid mid mv : Nat} {l : Its Int} (h : HH S hid hv rid mid mv l) (x : Int × Int) (hx : ∀ i, i < l.length → (ata l i).1 ≠ x.1) (hn : l.length + 1 ≤ 2147483648) :
  PCalls Tryz.prog 274 [hI hid hv, .ifc 332 (.agg (zI x))] S (fun _ S' => Off S [hid, rid, mid] S' ∧ ∃ l', HH S' hid hv rid mid mv l' ∧ l'.Perm (x :: l)) := by
 obtain ⟨hp, hh⟩ := h
 refine jO Tryz.func274 rfl Tryz.ntmps274 (congrArg Array.toList Tryz.results274) (by simp) ?_
 refine za (z8 [] (by rfl) fun K hK => ?_)
 simp -implicitDefEqProofs
 refine wu rfl rfl rfl Zfy ZeV (by exact ZfA hp x hx hn) fun p S1 hq => ?_
 obtain ⟨o1, p1⟩ := hq
 refine hK _ _ ?_
 clear hK
 refine z8 [] (by rfl) fun K hK => ?_
 simp -implicitDefEqProofs
 refine wu rfl rfl rfl V4 Vu (by exact V5 p1) fun p S2 hq => ?_
 obtain ⟨rfl, rfl⟩ := hq
 have w1 : IntKind.i64.wrap (l.length : Int) = l.length := wq _ (by omega) (by omega)
 simp -implicitDefEqProofs [zA, w1]
 obtain ⟨q1, q2, q3, _⟩ := Ww xW (l.length + 1) (l ++ [x]) (l.length + 1) l.length (by simp) (by omega) (by omega) (ZfF x hh)
 refine um rfl rfl rfl Vt (by exact V6 p1 l.length (by simp)) fun p S3 hq => ?_
 obtain ⟨o3, p3⟩ := hq
 refine hK _ _ ⟨_, _, rfl, ⟨wy _ _ _, _, HH.cut ⟨p3, ?_⟩, q2.trans (List.perm_append_comm (l₁ := l) (l₂ := [x]))⟩, wz (o1.trans o3).offd⟩
 rw [q3]; simpa using q1
theorem ZfK {S : Store} {hid hv rid mid mv : Nat} {l : Its Int} (h : HH S hid hv rid mid mv l) (i : Nat) (hi : i < l.length) :
  PCalls Tryz.prog 284 [hI hid hv, zA i] S (fun p S' => p = .ifc 332 (.agg (zI (ata l i))) ∧ Off S [hid, rid, mid] S' ∧ ∃ l', HH S' hid hv rid mid mv l' ∧ (ata l i :: l').Perm l) := by
 obtain ⟨hp, hh⟩ := h
 have hlen := hp.len
 obtain ⟨n, hn⟩ : ∃ n, n + 1 = l.length := ⟨l.length - 1, by omega⟩
 refine jO Tryz.func284 rfl Tryz.ntmps284 (congrArg Array.toList Tryz.results284) (by simp) ?_
 refine za (yy (by rfl) (by simp; rfl) (za (z8 [] (by rfl) fun K hK => ?_)))
 simp -implicitDefEqProofs
 refine wu rfl rfl rfl V4 Vu (by exact V5 hp) fun p S2 hq => ?_
 obtain ⟨rfl, rfl⟩ := hq
 have w1 : IntKind.i64.wrap ((l.length : Int) - 1) = n := by rw [wq _ (by omega) (by omega)]; omega
 simp -implicitDefEqProofs [zA, w1]
 refine hK _ _ ?_
 clear hK
 refine za (ZT (Q := fun e F' T' => e = .normal ∧ F' 0 = hI hid hv ∧ Off S2 [hid, rid, mid] T' ∧ ∃ l3 : Its Int, HP T' hid hv rid mid mv l3 ∧ xM ltI l3 n ∧ l3.Perm l ∧ l3.length = l.length ∧ ata l3 n = ata l i) ?_ ?_)
 ·refine za (yy (by rfl) (by simp [zA]; rfl) ?_)
  by_cases hc : n = i
  ·refine zn rfl (fun q => by simp [hc] at q) (fun _ => ze ⟨rfl, rfl, fun _ _ => rfl, l, hp, fun k k0 kn => hh k k0 (by omega), .refl _, rfl, by rw [hc]⟩)
  ·have hc' : ¬ (n : Int) = i := by omega
   refine zn rfl (fun _ => ?_) (fun q => by simp [hc'] at q)
   refine za (z8 [] (by rfl) fun K hK => ?_)
   simp -implicitDefEqProofs [zA]
   refine wu rfl rfl rfl JZ JK (by exact J1 hp i n (by omega) (by omega)) fun p S3 hq => ?_
   obtain ⟨o3, p3⟩ := hq
   refine hK _ _ ?_
   clear hK
   have inv := ZfG xW i n (by omega) hn hh
   have hsl := xC l i n
   obtain ⟨s1, s2, s3, s4⟩ := ZfE xW (swp l i n) i n (by omega) (by omega) inv
   have hlast : ata (wA ltI (swp l i n) i n) n = ata l i := by rw [s4 n (Nat.le_refl _), ZN l i n n hi (by omega), if_pos rfl]
   refine za (z8 [] (by rfl) fun K hK => ?_)
   simp -implicitDefEqProofs [zA]
   refine um rfl rfl rfl ZeT (by exact ZfD p3 i n (by omega) (by omega)) fun p S4 hq => ?_
   obtain ⟨rfl, o4, p4⟩ := hq
   simp -implicitDefEqProofs [jC]
   refine hK _ _ ?_
   clear hK
   by_cases hm : i < (yp ltI n (swp l i n) i n).2
   ·refine zn rfl (fun q => by simp at q; omega) (fun _ => ze ⟨rfl, rfl, o3.trans o4, wA ltI (swp l i n) i n, ?_, s1, s2.trans (YC l _ _ hi (by omega)), s3.trans hsl, hlast⟩)
    unfold wA; rw [if_pos hm]; exact p4
   ·refine zn rfl (fun _ => ?_) (fun q => by simp at q; omega)
    refine z8 [] (by rfl) fun K hK => ?_
    simp -implicitDefEqProofs [zA]
    have hdl : (yp ltI n (swp l i n) i n).1.length = l.length := ((Wy xW n (swp l i n) n i (by omega) (by omega) (by omega) inv).2.1).trans hsl
    refine um rfl rfl rfl Vt (by exact V6 p4 i (by omega)) fun p S5 hq => ?_
    obtain ⟨o5, p5⟩ := hq
    refine hK _ _ ⟨rfl, rfl, (o3.trans o4).trans o5, wA ltI (swp l i n) i n, ?_, s1, s2.trans (YC l _ _ hi (by omega)), s3.trans hsl, hlast⟩
    unfold wA; rw [if_neg hm]; exact p5
 ·rintro e F T ⟨rfl, f0, hoff, l3, p3, h3, pm, hl3, hx⟩
  have hsp := ZfI l3 n (by omega)
  rw [hx] at hsp
  rw [hsp] at p3 pm
  refine za (z8 [] (by rfl) fun K hK => ?_)
  simp -implicitDefEqProofs [f0]
  refine wu rfl rfl rfl Zfz ZeU (by exact ZfB _ p3) fun p S4 hq => ?_
  obtain ⟨rfl, o4, p4⟩ := hq
  have hheap : xM ltI (l3.take n) (l3.take n).length := by
   have e : (l3.take n).length = n := by simp; omega
   rw [e]; exact ZfH n h3
  refine hK _ _ (zb ⟨_, _, rfl, ⟨rfl, wy _ _ _, _, HH.cut ⟨p4, hheap⟩, ?_⟩, wz (hoff.trans o4).offd⟩)
  exact (List.perm_append_comm (l₁ := [ata l i]) (l₂ := l3.take n)).trans pm
open Go Hp
abbrev ilt (a b : Int × Int) : Bool := il ltI a b
def j3 (r : Its Int) : Prop := r.Pairwise (fun a b => ilt a b = true)
def wB (x : Int × Int) : Its Int → Its Int
 | [] => [x]
 | y :: r => if ilt x y = true then x :: y :: r else y :: wB x r
def ve (id : Int) (r : Its Int) : Its Int := r.filter fun x => decide (x.1 ≠ id)
def qI (id : Int) (r : Its Int) : Bool := r.any fun x => decide (x.1 = id)
theorem Yg (x : Int × Int) : ∀ r, (wB x r).Perm (x :: r)
 | [] => .refl _
 | y :: r => by
  unfold wB
  split
  ·exact .refl _
  ·exact ((Yg x r).cons y).trans (.swap x y r)
theorem ZfL {a b c : Int × Int} (h1 : ilt a b = true) (h2 : ilt b c = true) : ilt a c = true := (wS xW).tr _ _ _ h1 h2
theorem ZfM {a b : Int × Int} (h : ilt a b = false) (hne : a.1 ≠ b.1) : ilt b a = true := by
 cases hq : ilt b a with
 | true => rfl
 | false => exact absurd (congrArg Prod.fst ((wS xW).tot _ _ h hq)) hne
theorem V7 (x : Int × Int) : ∀ r, j3 r → (∀ y ∈ r, y.1 ≠ x.1) → j3 (wB x r)
 | [], _, _ => by simp [wB, j3]
 | y :: r, h, hx => by
  unfold wB
  have h' := List.pairwise_cons.1 h
  split
  ·rename_i hl
   refine List.pairwise_cons.2 ⟨fun z hz => ?_, h⟩
   rcases List.mem_cons.1 hz with rfl | hz
   ·exact hl
   ·exact ZfL hl (h'.1 z hz)
  ·rename_i hl
   have hl' : ilt x y = false := by simpa using hl
   refine List.pairwise_cons.2 ⟨fun z hz => ?_, V7 x r h'.2 fun z hz => hx z (List.mem_cons_of_mem _ hz)⟩
   rcases List.mem_cons.1 ((Yg x r).subset hz) with rfl | hz
   ·exact ZfM hl' (Ne.symm (hx y (by simp)))
   ·exact h'.1 z hz
theorem ZfN (id : Int) (r : Its Int) (h : j3 r) : j3 (ve id r) := List.Pairwise.filter _ h
def HM (S : Store) (hid hv rid mid mv : Nat) (r : Its Int) : Prop := ∃ l, HH S hid hv rid mid mv l ∧ l.Perm r ∧ j3 r
theorem HM.cut {S T : Store} {hid hv rid mid mv : Nat} {r : Its Int} (h : HM T hid hv rid mid mv r) : HM (cut S [hid, rid, mid] T) hid hv rid mid mv r := by obtain ⟨l, h, k⟩ := h; exact ⟨l, h.cut, k⟩
theorem HM.len {S : Store} {hid hv rid mid mv : Nat} {r : Its Int} (h : HM S hid hv rid mid mv r) : r.length ≤ 2147483648 := by obtain ⟨l, h, k, _⟩ := h; rw [← k.length_eq]; exact h.1.len
theorem J2 {l : Its Int} {i : Nat} (hi : i < l.length) : ata l i ∈ l := by
 have : ata l i = l[i] := by unfold ata; simp [hi]
 rw [this]; exact List.getElem_mem hi
theorem J3 {l : Its Int} {x : Int × Int} (h : x ∈ l) : ∃ i, i < l.length ∧ ata l i = x := by
 obtain ⟨i, hi, rfl⟩ := List.getElem_of_mem h
 exact ⟨i, hi, by unfold ata; simp [hi]⟩
theorem HS.look {S : Store} {hid hv rid mid mv : Nat} {l : Its Int} {g : Int → Option Nat} (h : HS S hid hv rid mid mv l g) (k : PosOk g l) (id : Int) : ∃ es res, S mid = .map mv es ∧ jm (.int .i64) (yF id) es 0 = some res ∧
  ((qI id l = false ∧ ZY true (.int .i64 0) res = .tup [zA 0, .sc (.bool false)]) ∨ (qI id l = true ∧ ∃ i, i < l.length ∧ (ata l i).1 = id ∧ ZY true (.int .i64 0) res = .tup [zA i, .sc (.bool true)])) := by
 obtain ⟨es, h3, h4⟩ := h.m
 obtain ⟨res, m1, m2, m3, _, _⟩ := h4.find (uy .i64) id
 refine ⟨es, res, h3, m1, ?_⟩
 by_cases hi : ∃ i, i < l.length ∧ (ata l i).1 = id
 ·obtain ⟨i, hi, e⟩ := hi
  refine .inr ⟨?_, i, hi, e, ?_⟩
  ·simp only [qI, List.any_eq_true]
   exact ⟨_, J2 hi, by simpa using e⟩
  ·obtain ⟨j, rfl⟩ := m3 i (by rw [← e]; exact k.here i hi)
   rfl
 ·refine .inl ⟨?_, ?_⟩
  ·simp only [qI, List.any_eq_false]
   intro x hx
   obtain ⟨i, hi', rfl⟩ := J3 hx
   simp; exact fun e => hi ⟨i, hi', e⟩
  ·have := m2 (k.gone id fun i hi' e => hi ⟨i, hi', e⟩)
   subst this; rfl
theorem J4 {id : Int} {l r : Its Int} (h : l.Perm r) : qI id l = qI id r := by
 unfold qI
 rw [Bool.eq_iff_iff, List.any_eq_true, List.any_eq_true]
 exact ⟨fun ⟨x, hx, e⟩ => ⟨x, h.subset hx, e⟩, fun ⟨x, hx, e⟩ => ⟨x, h.symm.subset hx, e⟩⟩
theorem ZfO {S : Store} {hid hv rid mid mv : Nat} {r : Its Int} (h : HM S hid hv rid mid mv r) (id w : Int) (hn : r.length + 1 ≤ 2147483648) :
  PCalls Tryz.prog 263 [.ptr hid hv 0, zA id, zA w] S (fun p S' => p = jC (!qI id r) ∧ Off S [hid, rid, mid] S' ∧ HM S' hid hv rid mid mv (bif qI id r then r else wB (id, w) r)) := by
 obtain ⟨l, ⟨hp, hh⟩, pm, hs⟩ := h
 have hp0 := hp
 obtain ⟨g, hS, hk⟩ := hp0
 obtain ⟨ver, h1, cs, h2, hR⟩ := hS.h
 obtain ⟨es, res, h3, h4, h5⟩ := hS.look hk id
 refine jO Tryz.func263 rfl Tryz.ntmps263 (congrArg Array.toList Tryz.results263) (by simp) ?_
 refine za (yy (by rfl) (by simp; rfl) (za (za (z8 [] (by rfl) fun K hK => ?_))))
 simp -implicitDefEqProofs [h1]
 refine Za rfl Tryz.underlying288 Tryz.underlying3 rfl rfl rfl h3 h4 (by simp; rfl) ?_
 rcases h5 with ⟨h5, h6⟩ | ⟨h5, i, hi, hid, h6⟩
 ·rw [h6]
  simp -implicitDefEqProofs
  refine hK _ _ ?_
  clear hK
  refine za (yy (by rfl) (by simp; rfl) (zn rfl (fun q => by simp at q) (fun _ => ze ?_)))
  refine za (z8 [] (by rfl) fun K hK => ?_)
  simp -implicitDefEqProofs [zA]
  have hx : ∀ i, i < l.length → (ata l i).1 ≠ id := by
   intro i hi e
   have : qI id l = true := by
    simp only [qI, List.any_eq_true]; exact ⟨_, J2 hi, by simpa using e⟩
   rw [h5] at this; cases this
  refine um rfl rfl rfl ZeP (by exact ZfJ ⟨hp, hh⟩ (id, w) hx (by rw [pm.length_eq]; exact hn)) fun p S3 hq => ?_
  obtain ⟨o3, l', hh', pm'⟩ := hq
  refine hK _ _ ?_
  clear hK
  refine za (yy (by rfl) (by simp; rfl) (zb ?_))
  rw [← J4 pm, h5]
  refine ⟨_, _, rfl, ⟨rfl, wy _ _ _, HM.cut ⟨l', hh', pm'.trans (((List.Perm.cons _ pm)).trans (Yg _ _).symm), V7 _ _ hs fun y hy e => ?_⟩⟩, wz o3.offd⟩
  obtain ⟨j, hj, rfl⟩ := J3 (pm.symm.subset hy)
  exact hx j hj e
 ·rw [h6]
  simp -implicitDefEqProofs
  refine hK _ _ ?_
  clear hK
  refine za (yy (by rfl) (by simp; rfl) (zn rfl (fun _ => ?_) (fun q => by simp at q)))
  refine za (yy (by rfl) (by simp; rfl) (zb ?_))
  rw [← J4 pm, h5]
  exact ⟨_, _, rfl, ⟨rfl, fun _ _ => rfl, ⟨l, ⟨hp, hh⟩, pm, hs⟩⟩, fun o => .inl rfl⟩
open Go Hp
def Once (r : Its Int) : Prop := (r.map (·.1)).Nodup
theorem HP.once {S : Store} {hid hv rid mid mv : Nat} {l : Its Int} (h : HP S hid hv rid mid mv l) : Once l := by
 obtain ⟨g, _, k⟩ := h
 unfold Once
 refine List.pairwise_iff_getElem.2 fun i j hi hj hij e => ?_
 simp only [List.length_map] at hi hj
 simp only [List.getElem_map] at e
 have q : ∀ i (hi : i < l.length), ata l i = l[i] := fun i hi => by unfold ata; simp [hi]
 have := k.inj hi hj (by rw [q i hi, q j hj]; exact e)
 omega
theorem Once.perm {l r : Its Int} (h : l.Perm r) (k : Once l) : Once r := (List.Perm.nodup_iff (h.map fun x : Int × Int => x.1)).1 k
theorem HM.once {S : Store} {hid hv rid mid mv : Nat} {r : Its Int} (h : HM S hid hv rid mid mv r) : Once r := by
 obtain ⟨l, ⟨hp, _⟩, pm, _⟩ := h
 exact hp.once.perm pm
theorem V8 {x : Int × Int} {l : Its Int} (h : Once (x :: l)) : ve x.1 (x :: l) = l := by
 unfold ve
 rw [List.filter_cons, if_neg (by simp), List.filter_eq_self]
 intro y hy
 simp only [decide_eq_true_eq]
 intro e
 have := (List.nodup_cons.1 (show (x.1 :: l.map (·.1)).Nodup from h)).1
 exact this (List.mem_map.2 ⟨y, hy, e⟩)
theorem ZfP {l r : Its Int} (id : Int) (h : l.Perm r) : (ve id l).Perm (ve id r) := h.filter _
theorem ZfQ {id : Int} {l : Its Int} (h : qI id l = false) : ve id l = l := by
 unfold ve
 rw [List.filter_eq_self]
 intro y hy
 simp only [qI, List.any_eq_false] at h
 simpa using h y hy
theorem ZfR {S : Store} {hid hv rid mid mv : Nat} {r : Its Int} (h : HM S hid hv rid mid mv r) (id : Int) :
  PCalls Tryz.prog 276 [.ptr hid hv 0, zA id] S (fun p S' => p = jC (qI id r) ∧ Off S [hid, rid, mid] S' ∧ HM S' hid hv rid mid mv (ve id r)) := by
 have hM := h
 obtain ⟨l, ⟨hp, hh⟩, pm, hs⟩ := h
 have hp0 := hp
 obtain ⟨g, hS, hk⟩ := hp0
 obtain ⟨ver, h1, cs, h2, hR⟩ := hS.h
 obtain ⟨es, res, h3, h4, h5⟩ := hS.look hk id
 refine jO Tryz.func276 rfl Tryz.ntmps276 (congrArg Array.toList Tryz.results276) (by simp) ?_
 refine za (yy (by rfl) (by simp; rfl) (za (z8 [] (by rfl) fun K hK => ?_)))
 simp -implicitDefEqProofs [h1]
 refine Za rfl Tryz.underlying288 Tryz.underlying3 rfl rfl rfl h3 h4 (by simp; rfl) ?_
 rw [J4 pm] at h5
 rcases h5 with ⟨h5, h6⟩ | ⟨h5, i, hi, hid, h6⟩
 ·rw [h6]
  simp -implicitDefEqProofs
  refine hK _ _ ?_
  clear hK
  refine za (za (yy (by rfl) (by simp; rfl) (zn rfl (fun _ => ?_) (fun q => by simp at q))))
  refine za (yy (by rfl) (by simp; rfl) (zb ?_))
  rw [h5, ZfQ h5]
  exact ⟨_, _, rfl, ⟨rfl, fun _ _ => rfl, hM⟩, fun o => .inl rfl⟩
 ·rw [h6]
  simp -implicitDefEqProofs [zA]
  refine hK _ _ ?_
  clear hK
  refine za (za (yy (by rfl) (by simp; rfl) (zn rfl (fun q => by simp at q) (fun _ => ze ?_))))
  refine za (z8 [] (by rfl) fun K hK => ?_)
  simp -implicitDefEqProofs
  refine um rfl rfl rfl ZeS (by exact ZfK ⟨hp, hh⟩ i hi) fun p S3 hq => ?_
  obtain ⟨_, o3, l', hh', pm'⟩ := hq
  refine hK _ _ ?_
  clear hK
  refine za (yy (by rfl) (by simp; rfl) (zb ?_))
  rw [h5]
  have e1 : ve id (ata l i :: l') = l' := by rw [← hid]; exact V8 (Once.perm pm'.symm hp.once)
  refine ⟨_, _, rfl, ⟨rfl, wy _ _ _, HM.cut ⟨l', hh', ?_, ZfN id r hs⟩⟩, wz o3.offd⟩
  have := ZfP id (pm'.trans pm)
  rw [e1] at this
  exact this
end Go.Proofs.YtaiplainginmaaaGreat.Pv
namespace Go.Proofs.YtaiplainginmaaaGreat.Hp
section
variable {α : Type} [DecidableEq α] [Inhabited α] {lt : α → α → Bool}
theorem ZfS (hs : Str lt) {l : Its α} (h : xM lt l l.length) : ∀ k, k < l.length → il lt (ata l k) (ata l 0) = false := by
 intro k
 induction k using Nat.strongRecOn with
 | _ k ih =>
  intro hk
  rcases Nat.eq_zero_or_pos k with e | e
  ·subst e; exact (wS hs).irr _
  ·have := xe e
   exact ZO hs (h k e hk) (ih (par k) this (by omega))
end
end Go.Proofs.YtaiplainginmaaaGreat.Hp
namespace Go.Proofs.YtaiplainginmaaaGreat.Pv
open Go Hp
theorem HM.root {S : Store} {hid hv rid mid mv : Nat} {x : Int × Int} {r : Its Int} {l : Its Int} (h : HH S hid hv rid mid mv l) (pm : l.Perm (x :: r)) (hs : j3 (x :: r)) : ata l 0 = x := by
 have hl : 0 < l.length := by rw [pm.length_eq]; simp
 obtain ⟨k, hk, e⟩ := J3 (pm.symm.subset (List.mem_cons_self))
 have h1 := ZfS xW h.2 k hk
 rw [e] at h1
 rcases List.mem_cons.1 (pm.subset (J2 hl)) with h2 | h2
 ·exact h2
 ·have := (List.pairwise_cons.1 hs).1 _ h2
  rw [show ilt x (ata l 0) = false from h1] at this; cases this
def uz : Its Int → PV
 | [] => .tup [zA 0, zA 0, jC false]
 | x :: _ => .tup [zA x.1, zA x.2, jC true]
theorem ZfT {S : Store} {hid hv rid mid mv : Nat} {r : Its Int} (h : HM S hid hv rid mid mv r) :
  PCalls Tryz.prog 275 [.ptr hid hv 0] S (fun p S' => p = uz r ∧ S' = S) := by
 obtain ⟨l, hh, pm, hs⟩ := h
 have hp := hh.1
 obtain ⟨g, hS, hk⟩ := hp
 obtain ⟨ver, h1, cs, h2, hR⟩ := hS.h
 refine jO Tryz.func275 rfl Tryz.ntmps275 (congrArg Array.toList Tryz.results275) (by simp) ?_
 refine za (yy (by rfl) (by simp; rfl) (za (za (z8 [] (by rfl) fun K hK => ?_))))
 simp -implicitDefEqProofs [h1]
 refine hK _ _ ?_
 clear hK
 cases r with
 | nil =>
  have hl : l.length = 0 := by rw [pm.length_eq]; rfl
  refine zn rfl (fun _ => ?_) (fun q => by simp at q; exact absurd (List.eq_nil_of_length_eq_zero hl) q)
  refine za (yy (by rfl) (by simp; rfl) (za (yy (by rfl) (by simp; rfl) (zb ?_))))
  exact ⟨_, S, rfl, ⟨rfl, rfl⟩, fun o => .inl rfl⟩
 | cons x r =>
  have hl : 0 < l.length := by rw [pm.length_eq]; simp
  have hx := HM.root hh pm hs
  obtain ⟨tl, e1⟩ := hR.at 0 hl
  rw [hx] at e1
  simp at e1
  refine zn rfl (fun q => by simp at q; subst q; simp at hl) (fun _ => ze ?_)
  refine za (z8 [] (by rfl) fun K hK => ?_)
  have hl' : 0 < l.length := hl
  simp -implicitDefEqProofs [h1, h2, hl', e1]
  refine up rfl (by simp; rfl) (by simp) fun a ha => ?_
  simp -implicitDefEqProofs
  refine hK _ _ ?_
  clear hK
  refine za (Zd0 mixed (by rfl) (by rfl) (by rfl) (by simp; rfl) (zb ?_))
  refine ⟨_, S, rfl, ⟨rfl, rfl⟩, fun o => ?_⟩
  by_cases e : o = a
  ·exact .inr (e ▸ ha)
  ·exact .inl (by rw [qc _ _ _ _ e])
theorem ZfU {S : Store} {hid hv rid mid mv : Nat} {r : Its Int} (h : HM S hid hv rid mid mv r) :
  PCalls Tryz.prog 264 [.ptr hid hv 0] S (fun p S' => p = uz r ∧ Off S [hid, rid, mid] S' ∧ HM S' hid hv rid mid mv r.tail) := by
 refine jO Tryz.func264 rfl Tryz.ntmps264 (congrArg Array.toList Tryz.results264) (by simp) ?_
 refine za (yy (by rfl) (by simp; rfl) (za (z8 [] (by rfl) fun K hK => ?_)))
 simp -implicitDefEqProofs
 refine um rfl rfl rfl ZeQ (by exact ZfT h) fun p S2 hq => ?_
 obtain ⟨rfl, rfl⟩ := hq
 cases r with
 | nil =>
  simp -implicitDefEqProofs [uz]
  refine hK _ _ ?_
  clear hK
  refine za (za (yy (by rfl) (by simp; rfl) (zn rfl (fun q => by simp at q) (fun _ => ze ?_))))
  refine za (yy (by rfl) (by simp; rfl) (zb ?_))
  exact ⟨_, S2, rfl, ⟨rfl, fun _ _ => rfl, h⟩, fun o => .inl rfl⟩
 | cons x r =>
  simp -implicitDefEqProofs [uz]
  refine hK _ _ ?_
  clear hK
  refine za (za (yy (by rfl) (by simp; rfl) (zn rfl (fun _ => ?_) (fun q => by simp at q))))
  refine z8 [] (by rfl) fun K hK => ?_
  simp -implicitDefEqProofs
  refine um rfl rfl rfl ZeR (by exact ZfR h x.1) fun p S3 hq => ?_
  obtain ⟨_, o3, h3⟩ := hq
  refine hK _ _ ?_
  clear hK
  refine za (yy (by rfl) (by simp; rfl) (zb ?_))
  rw [V8 h.once] at h3
  exact ⟨_, S3, rfl, ⟨rfl, o3, h3⟩, fun o => .inl rfl⟩
open Go Hp
theorem HM.congr {S T : Store} {hid hv rid mid mv : Nat} {r : Its Int} (h : HM S hid hv rid mid mv r) (e : ∀ o ∈ [hid, rid, mid], T o = S o) : HM T hid hv rid mid mv r := by
 obtain ⟨l, ⟨⟨g, h, k⟩, hh⟩, pm, hs⟩ := h
 exact ⟨l, ⟨⟨g, h.congr e, k⟩, hh⟩, pm, hs⟩
def HX (o : Ob × Ob × Ob) (a hv mv : Nat) (r : Its Int) : Prop := ∀ S : Store, S a = o.1 → S (a + 1) = o.2.1 → S (a + 2) = o.2.2 → HM S (a + 1) hv (a + 2) a mv r
def wC (obs : List Ob) (j : Nat) (o : Ob × Ob × Ob) : List Ob := ((obs.set j o.1).set (j + 1) o.2.1).set (j + 2) o.2.2
theorem HM.hx {S : Store} {a hv mv : Nat} {r : Its Int} (h : HM S (a + 1) hv (a + 2) a mv r) : HX (S a, S (a + 1), S (a + 2)) a hv mv r := by
 intro T h1 h2 h3
 refine h.congr fun o ho => ?_
 simp at ho
 rcases ho with rfl | rfl | rfl
 ·exact h2
 ·exact h3
 ·exact h1
theorem HX.hm {S : Store} {nx j hv mv : Nat} {obs : List Ob} {o : Ob × Ob × Ob} {r : Its Int} (h : HX o (nx + j) hv mv r) (h1 : obs[j]? = some o.1) (h2 : obs[j + 1]? = some o.2.1) (h3 : obs[j + 2]? = some o.2.2) : HM (ext S nx obs) (nx + j + 1) hv (nx + j + 2) (nx + j) mv r := by
 refine h _ ?_ ?_ ?_
 ·rw [qe, List.getD_eq_getElem?_getD, h1]; rfl
 ·rw [Nat.add_assoc, qe, List.getD_eq_getElem?_getD, h2]; rfl
 ·rw [Nat.add_assoc, qe, List.getD_eq_getElem?_getD, h3]; rfl
theorem ZfV {S T : Store} {nx j : Nat} {obs : List Ob} (h : Off (ext S nx obs) [nx + j + 1, nx + j + 2, nx + j] T) (hl : j + 2 < obs.length) : T = ext S nx (wC obs j (T (nx + j), T (nx + j + 1), T (nx + j + 2))) := by
 funext i
 by_cases h1 : i = nx + j
 ·subst h1
  rw [qe, List.getD_eq_getElem?_getD, wC, List.getElem?_set_ne (by omega), List.getElem?_set_ne (by omega), List.getElem?_set_self (by omega)]; rfl
 by_cases h2 : i = nx + j + 1
 ·subst h2
  rw [Nat.add_assoc, qe, List.getD_eq_getElem?_getD, wC, List.getElem?_set_ne (by omega), List.getElem?_set_self (by simp; omega)]; rfl
 by_cases h3 : i = nx + j + 2
 ·subst h3
  rw [Nat.add_assoc, qe, List.getD_eq_getElem?_getD, wC, List.getElem?_set_self (by simp; omega)]; rfl
 rw [h i (by simp; omega)]
 simp only [ext]
 split
 ·rfl
 ·rw [List.getD_eq_getElem?_getD, List.getD_eq_getElem?_getD, wC, List.getElem?_set_ne (by omega), List.getElem?_set_ne (by omega), List.getElem?_set_ne (by omega)]
section
variable {S : Store} {nx j hv mv : Nat} {obs : List Ob} {o : Ob × Ob × Ob} {r : Its Int}
theorem V9 {f : FuncId} {args : List PV} {q : PV} {r' : Its Int} (he : yR Tryz.prog f) (hl : j + 2 < obs.length)
  (h : PCalls Tryz.prog f args (ext S nx obs) (fun p T => p = q ∧ Off (ext S nx obs) [nx + j + 1, nx + j + 2, nx + j] T ∧ HM T (nx + j + 1) hv (nx + j + 2) (nx + j) mv r')) :
  Spec Tryz.prog f args (ext S nx obs) (fun p T => p = q ∧ ∃ o', HX o' (nx + j) hv mv r' ∧ T = ext S nx (wC obs j o')) := by
 refine ⟨he, h.mono ?_⟩
 rintro p T ⟨h1, h2, h3⟩
 exact ⟨h1, _, h3.hx, ZfV h2 hl⟩
variable (h : HX o (nx + j) hv mv r) (h1 : obs[j]? = some o.1) (h2 : obs[j + 1]? = some o.2.1) (h3 : obs[j + 2]? = some o.2.2)
include h h1 h2 h3
theorem Zaa (id w : Int) (hn : r.length + 1 ≤ 2147483648) : Spec Tryz.prog 263 [.ptr (nx + j + 1) hv 0, I id, I w] (ext S nx obs) (fun p T => p = B (!qI id r) ∧ ∃ o', HX o' (nx + j) hv mv (bif qI id r then r else wB (id, w) r) ∧ T = ext S nx (wC obs j o')) :=
 V9 ZeN (List.getElem?_eq_some_iff.1 h3).1 (ZfO (h.hm h1 h2 h3) id w hn)
theorem ZfW : Spec Tryz.prog 264 [.ptr (nx + j + 1) hv 0] (ext S nx obs) (fun p T => p = uz r ∧ ∃ o', HX o' (nx + j) hv mv r.tail ∧ T = ext S nx (wC obs j o')) :=
 V9 ZeO (List.getElem?_eq_some_iff.1 h3).1 (ZfU (h.hm h1 h2 h3))
end
set_option maxRecDepth 20000 in
theorem ZfX {S : Store} {nx : Nat} {obs : List Ob} : Spec Tryz.prog 261 [] (ext S nx obs) (fun p T => ∃ hv mv o, p = .ptr (nx + obs.length + 1) hv 0 ∧ HX o (nx + obs.length) hv mv [] ∧ T = ext S nx (obs ++ [o.1, o.2.1, o.2.2])) := by
 have hd := jD (S := S) (nx := nx) (obs := obs)
 have e : ∀ o : Ob × Ob × Ob, ext S nx (obs ++ [o.1, o.2.1, o.2.2]) = ext (ext S nx obs) (nx + obs.length) [o.1, o.2.1, o.2.2] := by
  intro o
  have p1 := qE (S := S) (nx := nx) (obs := obs) o.1
  have p2 := qE (S := S) (nx := nx) (obs := obs ++ [o.1]) o.2.1
  have p3 := qE (S := S) (nx := nx) (obs := obs ++ [o.1] ++ [o.2.1]) o.2.2
  have q0 := yE hd
  have q1 := qE (S := ext S nx obs) (nx := nx + obs.length) (obs := []) o.1
  have q2 := qE (S := ext S nx obs) (nx := nx + obs.length) (obs := [o.1]) o.2.1
  have q3 := qE (S := ext S nx obs) (nx := nx + obs.length) (obs := [o.1, o.2.1]) o.2.2
  simp only [List.length_append, List.length_cons, List.length_nil, List.append_assoc, List.cons_append, List.nil_append, Nat.add_zero, Nat.zero_add] at p1 p2 p3 q1 q2 q3
  rw [← p3, ← p2, ← p1, ← q3, ← q2, ← q1, q0]
  simp only [Nat.add_assoc]
 generalize ext S nx obs = S1 at *
 generalize nx + obs.length = m at *
 refine ut hd Tryz.func261 Tryz.ntmps261 Tryz.results261 ?_
 (repeat apply za); refine pwn ?_; intros
 repeat apply za
 refine pwn ?_
 intro mv hv
 intros
 refine qT 1 0 332 2 rfl rfl fun rv => ?_
 refine zb ⟨_, _, rfl, ⟨hv, mv, (.map mv [], .cells hv 327 [.sl (m + 2) rv 2 0 0, .mp m mv], .cells rv 332 []), rfl, ?_, (e _).symm⟩, fun o => .inl (by simp)⟩
 intro T h1 h2 h3
 refine ⟨[], ⟨⟨fun _ => none, ⟨⟨rv, h2, [], h3, [], rfl⟩, ⟨[], h1, VZ _ _⟩, ⟨by omega, by omega, by omega⟩, by simp⟩, ⟨fun i hi => by simp at hi, fun _ _ => rfl⟩⟩, fun k k0 kn => by simp at kn⟩, .refl _, by simp [j3]⟩
open Go Hp
@[simp] theorem ZnF (a b c : Ob) (l : List Ob) (o : Ob × Ob × Ob) : wC (a :: b :: c :: l) 0 o = o.1 :: o.2.1 :: o.2.2 :: l := rfl
open Go Hp
instance : Enc (Int × Int) := ⟨fun x => [I x.1, I x.2], 2, fun _ => rfl, fun _ => rfl⟩
@[simp] theorem ZnG (s : Int × Int) : Enc.enc s = [I s.1, I s.2] := rfl
@[simp high] theorem ZnH (l : Its Int) : (l.flatMap Enc.enc).length = l.length * 2 := jp l
@[simp high] theorem ZnI (l : Its Int) : (l.flatMap Enc.enc).take (l.length * 2) = l.flatMap Enc.enc := w8 l
open Go Hp
section
variable {S : Store} {nx hid hv rid mid mv : Nat} {obs : List Ob} {r : Its Int}
variable (h : HM S hid hv rid mid mv r) (hd : zO nx S)
include h hd
end
structure Deed where
 kind : Int
 id : Int
 w : Int
instance : Enc Deed := ⟨fun d => [I d.kind, I d.id, I d.w], 3, fun _ => rfl, fun _ => rfl⟩
@[simp] theorem ZnJ (d : Deed) : Enc.enc d = [I d.kind, I d.id, I d.w] := rfl
@[simp high] theorem ZnK (l : List Deed) : (l.flatMap Enc.enc).length = l.length * 3 := jp l
@[simp high] theorem ZnL (l : List Deed) : (l.flatMap Enc.enc).take (l.length * 3) = l.flatMap Enc.enc := w8 l
open Go Hp Go.Sort
def xn (a b : Int) : Int := if a < b then -1 else if b < a then 1 else 0
def itW (l : List Int) (i : Nat) : Int × Int := ((i : Int), l.getD i 0)
def cfW (l : List Int) (i j : Fin l.length) : Int := if xn (l.getD i 0) (l.getD j 0) = 0 then xn (i.val : Int) j.val else xn (l.getD i 0) (l.getD j 0)
theorem Yh (l : List Int) (i j : Fin l.length) : ltOf (cfW l) i j = ilt (itW l i) (itW l j) := by
 unfold ltOf cfW xn ilt il itW ltI
 simp only
 generalize l.getD i.val 0 = a
 generalize l.getD j.val 0 = b
 by_cases h : a = b
 ·subst h
  have e1 : (if a < a then (-1 : Int) else if a < a then 1 else 0) = 0 := by rw [if_neg (by omega), if_neg (by omega)]
  rw [e1, if_pos rfl, if_pos rfl]
  by_cases h4 : (i.val : Int) < j.val
  ·rw [if_pos h4]; simp; omega
  ·rw [if_neg h4]
   by_cases h5 : (j.val : Int) < i.val
   ·rw [if_pos h5]; simp; omega
   ·rw [if_neg h5]; simp; omega
 ·rw [if_neg h]
  by_cases h2 : a < b
  ·have e1 : (if a < b then (-1 : Int) else if b < a then 1 else 0) = -1 := by rw [if_pos h2]
   rw [e1, if_neg (by decide)]; simp [h2]
  ·have e1 : (if a < b then (-1 : Int) else if b < a then 1 else 0) = 1 := by rw [if_neg h2, if_pos (by omega)]
   rw [e1, if_neg (by decide)]; simp [h2]
theorem Qt (l : List Int) : SWO (ltOf (cfW l)) := by
 have H := wS xW
 refine ⟨fun x => ?_, fun x y z h1 h2 => ?_, fun x y z h1 h2 => ?_⟩
 ·rw [Yh]; exact H.irr _
 ·rw [Yh] at *; exact H.tr _ _ _ h1 h2
 ·rw [Yh] at *
  cases h : ilt (itW l x) (itW l z) with
  | false => rfl
  | true =>
   exfalso
   cases h3 : ilt (itW l y) (itW l x) with
   | true => have hh : ilt (itW l y) (itW l z) = true := H.tr _ _ _ h3 h; rw [h2] at hh; cases hh
   | false =>
    have e := H.tot _ _ h1 h3
    rw [e, h2] at h; cases h
theorem Zab (l : List Int) : ∀ x y, ltOf (cfW l) x y = false → ltOf (cfW l) y x = false → x = y := by
 intro x y h1 h2
 rw [Yh] at h1 h2
 have := (wS xW).tot _ _ h1 h2
 have : (x.val : Int) = y.val := congrArg Prod.fst this
 exact Fin.ext (by omega)
def uA (l : List Int) : List (Fin l.length) := (List.finRange l.length).mergeSort fun x y => !(ltOf (cfW l)) y x
theorem J5 (l : List Int) : (uA l).Perm (List.finRange l.length) := List.mergeSort_perm _ _
theorem ZfY (l : List Int) : ((uA l).map fun i : Fin l.length => itW l i.val).Perm ((List.range l.length).map (itW l)) := by
 refine ((J5 l).map _).trans ?_
 have e : (List.finRange l.length).map (fun i : Fin l.length => itW l i.val) = (List.range l.length).map (itW l) := by
  apply List.ext_getElem
  ·simp
  ·intro i h1 h2; simp
 rw [e]
theorem ZfZ (l : List Int) : (uA l).Nodup := (J5 l).nodup_iff.2 (List.nodup_finRange _)
theorem Zf0 (l : List Int) : j3 ((uA l).map fun i : Fin l.length => itW l i.val) := by
 have H := wS xW
 have h1 : (uA l).Pairwise fun a b => (!(ltOf (cfW l)) b a) = true := by
  refine List.pairwise_mergeSort ?_ ?_ _
  ·intro a b c h1 h2
   simp only [Bool.not_eq_true'] at *
   exact (Qt l).ntrans c b a h2 h1
  ·intro a b
   simp only [Bool.or_eq_true, Bool.not_eq_true']
   cases h : ltOf (cfW l) b a with
   | false => exact .inl rfl
   | true =>
    refine .inr ?_
    cases h2 : ltOf (cfW l) a b with
    | false => rfl
    | true => have := (Qt l).trans _ _ _ h h2; rw [(Qt l).irrefl] at this; cases this
 have h2 := List.Pairwise.and h1 (ZfZ l)
 unfold j3
 refine List.Pairwise.map _ ?_ h2
 rintro a b ⟨h3, h4⟩
 have h3' : ltOf (cfW l) b a = false := by simpa using h3
 rw [← Yh]
 cases h : ltOf (cfW l) a b with
 | true => rfl
 | false => exact absurd (Zab l a b h h3') h4
def j4 (l : List Int) : List Int := (uA l).map fun i => (i.val : Int)
theorem J6 (l : List Int) : (j4 l).length = l.length := by
 unfold j4; rw [List.length_map, (J5 l).length_eq]; simp
theorem Zf1 {l : List Int} {z : Int} (h : z ∈ j4 l) : 0 ≤ z ∧ z < l.length := by
 obtain ⟨i, _, rfl⟩ := List.mem_map.1 h
 have := i.isLt
 omega
end Go.Proofs.YtaiplainginmaaaGreat.Pv
namespace Go.Proofs.YtaiplainginmaaaGreat.Hp
section
variable {α : Type} {lt : α → α → Bool}
def Sd (lt : α → α → Bool) (l : List α) : Prop := l.Pairwise fun a b => lt a b = true
theorem Zf2 (rows : List (List α)) (i : Nat) (y : α) (tl : List α) (h : rows[i]? = some (y :: tl)) : rows.flatten.Perm (y :: (rows.set i tl).flatten) := by
 induction rows generalizing i with
 | nil => simp at h
 | cons r rows ih =>
  cases i with
  | zero =>
   simp at h; subst h
   simp
  | succ i =>
   simp only [List.getElem?_cons_succ] at h
   have := ih i h
   simp only [List.flatten_cons, List.set_cons_succ]
   exact (this.append_left r).trans List.perm_middle
theorem Zf3 (H : Str lt) {P : List α} (hP : Sd lt P) {rows : List (List α)} (hr : ∀ r ∈ rows, Sd lt r) {k : Nat} (hp : rows.flatten.Perm (P.drop k)) {i : Nat} {y : α} {tl : List α} (hi : rows[i]? = some (y :: tl))
  (hmin : ∀ (j : Nat) z tz, rows[j]? = some (z :: tz) → j ≠ i → lt y z = true) :
  P[k]? = some y ∧ (rows.set i tl).flatten.Perm (P.drop (k + 1)) ∧ ∀ r ∈ rows.set i tl, Sd lt r := by
 have hfs := Zf2 rows i y tl hi
 have hsi : Sd lt (y :: tl) := hr _ (List.mem_of_getElem? hi)
 -- y is the least of what is left
 have hle : ∀ z ∈ rows.flatten, z = y ∨ lt y z = true := by
  intro z hz
  obtain ⟨r, hrm, hzr⟩ := List.mem_flatten.1 hz
  obtain ⟨j, hj⟩ := List.mem_iff_getElem?.1 hrm
  by_cases e : j = i
  ·subst e
   rw [hi] at hj
   cases hj
   rcases List.mem_cons.1 hzr with e | e
   ·exact .inl e
   ·exact .inr ((List.pairwise_cons.1 hsi).1 z e)
  ·cases r with
   | nil => cases hzr
   | cons a ar =>
    have h1 := hmin j a ar hj e
    rcases List.mem_cons.1 hzr with e2 | e2
    ·exact .inr (e2 ▸ h1)
    ·exact .inr (H.tr _ _ _ h1 ((List.pairwise_cons.1 (hr _ hrm)).1 z e2))
 have hyP : y ∈ P.drop k := hp.subset (hfs.symm.subset List.mem_cons_self)
 cases hd : P.drop k with
 | nil => rw [hd] at hyP; cases hyP
 | cons x rest =>
  have hPd : Sd lt (x :: rest) := by rw [← hd]; exact List.Pairwise.sublist (List.drop_sublist k P) hP
  have hx : x = y := by
   rw [hd] at hyP
   rcases List.mem_cons.1 hyP with e | e
   ·exact e.symm
   ·have h1 := (List.pairwise_cons.1 hPd).1 y e
    rcases hle x (hp.symm.subset (by rw [hd]; exact List.mem_cons_self)) with h | h
    ·exact h
    ·have := H.tr _ _ _ h1 h; rw [H.irr] at this; cases this
  subst hx
  have hk : P[k]? = some x := by
   have : (P.drop k)[0]? = some x := by rw [hd]; rfl
   rwa [List.getElem?_drop, Nat.add_zero] at this
  have hd1 : P.drop (k + 1) = rest := by
   have : P.drop (k + 1) = (P.drop k).drop 1 := by rw [List.drop_drop]
   rw [this, hd]; rfl
  refine ⟨hk, ?_, fun r hrm => ?_⟩
  ·rw [hd1]
   rw [hd] at hp
   exact List.Perm.cons_inv (hfs.symm.trans hp)
  ·rcases List.mem_or_eq_of_mem_set hrm with h | h
   ·exact hr r h
   ·rw [h]; exact (List.pairwise_cons.1 hsi).2
theorem Zf4 {P : List α} {rows : List (List α)} {k : Nat} (hp : rows.flatten.Perm (P.drop k)) (hk : k ≤ P.length) (h0 : ∀ r ∈ rows, r = []) : k = P.length := by
 have : rows.flatten = [] := List.flatten_eq_nil_iff.2 h0
 rw [this] at hp
 have := hp.length_eq
 simp at this
 omega
theorem Zac (H : Str lt) : ∀ {a b : List α}, a.Perm b → Sd lt a → Sd lt b → a = b
 | [], b, h, _, _ => by rw [List.nil_perm.1 h]
 | x :: a, [], h, _, _ => by cases List.perm_nil.1 h
 | x :: a, y :: b, h, ha, hb => by
  have ha' := List.pairwise_cons.1 ha
  have hb' := List.pairwise_cons.1 hb
  have e : x = y := by
   rcases List.mem_cons.1 (h.subset (List.mem_cons_self)) with e | hx
   ·exact e
   ·rcases List.mem_cons.1 (h.symm.subset (List.mem_cons_self)) with e | hy
    ·exact e.symm
    ·have := H.tr _ _ _ (ha'.1 y hy) (hb'.1 x hx)
     rw [H.irr] at this; cases this
  subst e
  rw [Zac H (List.Perm.cons_inv h) ha'.2 hb'.2]
theorem Zf5 (H : Str lt) (l : List α) (hn : l.Nodup) : Sd lt (l.mergeSort fun x y => !lt y x) := by
 have h1 : (l.mergeSort fun x y => !lt y x).Pairwise fun a b => (!lt b a) = true := by
  refine List.pairwise_mergeSort ?_ ?_ _
  ·intro a b c h1 h2
   simp only [Bool.not_eq_true'] at *
   cases e : lt c a with
   | false => rfl
   | true =>
    exfalso
    cases e2 : lt b c with
    | true => have := H.tr _ _ _ e2 e; rw [h1] at this; cases this
    | false => have e3 := H.tot _ _ e2 h2; rw [← e3, h1] at e; cases e
  ·intro a b
   simp only [Bool.or_eq_true, Bool.not_eq_true']
   cases e : lt b a with
   | false => exact .inl rfl
   | true =>
    refine .inr ?_
    cases e2 : lt a b with
    | false => rfl
    | true => have := H.tr _ _ _ e e2; rw [H.irr] at this; cases this
 have h2 := List.Pairwise.and h1 ((List.mergeSort_perm l _).nodup_iff.2 hn)
 refine List.Pairwise.imp ?_ h2
 rintro a b ⟨h3, h4⟩
 cases e : lt a b with
 | true => rfl
 | false => exact absurd (H.tot _ _ e (by simpa using h3)) h4
end
end Go.Proofs.YtaiplainginmaaaGreat.Hp
namespace Go.Proofs.YtaiplainginmaaaGreat.Pv
open Go Hp
def jf (x : Inst) (a b : Int) : Int := arc x (a + 1) 0 + arc x 0 (b + 1) - arc x (a + 1) (b + 1)
theorem Zad (x : Inst) : ∀ (l : List Int) (k u v : Int) (m : List Int), yl x k (l ++ u :: v :: m) = yl x k (l ++ [u]) + yl x 0 (v :: m) - jf x u v
 | [], k, u, v, m => by
  have e : yl x 0 (v :: m) = arc x 0 (v + 1) + yl x (v + 1) m := rfl
  rw [e]
  simp only [List.nil_append, yl, jf]
  omega
 | y :: l, k, u, v, m => by
  simp only [List.cons_append, yl]
  rw [Zad x l (y + 1) u v m]
  have e : yl x 0 (v :: m) = arc x 0 (v + 1) + yl x (v + 1) m := rfl
  omega
theorem Zf6 (x : Inst) (all : List Int) (k : Nat) (u v : Int) (hu : all[k]? = some u) (hv : all[k + 1]? = some v) : zF x all = zF x (all.take (k + 1)) + zF x (all.drop (k + 1)) - jf x u v := by
 have e1 : all.take (k + 1) = all.take k ++ [u] := by
  rw [List.take_add_one, hu]; rfl
 have e2 : all.drop (k + 1) = v :: all.drop (k + 2) := by
  obtain ⟨h, rfl⟩ := List.getElem?_eq_some_iff.1 hv
  exact List.drop_eq_getElem_cons h
 have e3 : all = all.take k ++ u :: v :: all.drop (k + 2) := by
  conv => lhs; rw [← List.take_append_drop (k + 1) all, e1, e2]
  simp
 have hw : ∀ l : List Int, l ≠ [] → zF x l = yl x 0 l := fun l h => by unfold zF; rw [if_neg h]
 rw [hw all (by rw [e3]; simp), hw (all.take (k + 1)) (by rw [e1]; simp), hw (all.drop (k + 1)) (by rw [e2]; simp)]
 conv => lhs; rw [e3, Zad]
 rw [e1, e2]
structure Pr where
 a : Int
 b : Int
 s : Int
deriving DecidableEq
def plt (p q : Pr) : Bool := if p.s = q.s then (if p.a = q.a then decide (p.b < q.b) else decide (p.a < q.a)) else decide (q.s < p.s)
theorem J7 : Str plt := by
 refine ⟨fun a => by simp [plt], fun a b c h1 h2 => ?_, fun a b h1 h2 => ?_⟩
 ·unfold plt at *
  split at h1 <;> split at h2 <;> split <;> (try split at h1) <;> (try split at h2) <;> (try split) <;> simp only [decide_eq_true_eq] at * <;> omega
 ·obtain ⟨a1, a2, a3⟩ := a
  obtain ⟨b1, b2, b3⟩ := b
  unfold plt at *
  simp only at *
  split at h1 <;> split at h2 <;> (try split at h1) <;> (try split at h2) <;> simp only [decide_eq_false_iff_not] at * <;> simp only [Pr.mk.injEq] <;> omega
def qt (x : Inst) (c : List Int) (a : Int) : List Pr := (c.filter fun b => decide (b ≠ a)).map fun b => ⟨a, b, jf x a b⟩
def xG (x : Inst) (c : List Int) : List Pr := c.flatMap (qt x c)
def yS (x : Inst) (c : List Int) : List Pr := (xG x c).mergeSort fun p q => !plt q p
theorem Yi {x : Inst} {c : List Int} {p : Pr} : p ∈ xG x c ↔ p.a ∈ c ∧ p.b ∈ c ∧ p.b ≠ p.a ∧ p.s = jf x p.a p.b := by
 unfold xG qt
 simp only [List.mem_flatMap, List.mem_map, List.mem_filter, decide_eq_true_eq]
 constructor
 ·rintro ⟨a, ha, b, ⟨hb, hne⟩, rfl⟩; exact ⟨ha, hb, hne, rfl⟩
 ·rintro ⟨ha, hb, hne, hs⟩; exact ⟨p.a, ha, p.b, ⟨hb, hne⟩, by rw [← hs]⟩
theorem J8 {x : Inst} {c : List Int} (h : c.Nodup) : (xG x c).Nodup := by
 unfold xG
 unfold List.Nodup
 rw [List.pairwise_flatMap]
 refine ⟨fun a ha => ?_, ?_⟩
 ·unfold qt
  refine List.Pairwise.map _ ?_ (List.Pairwise.filter _ h)
  intro u v huv e
  exact huv (congrArg Pr.b e)
 ·refine List.Pairwise.imp ?_ h
  intro a b hab
  intro p hp q hq e
  subst e
  unfold qt at hp hq
  obtain ⟨u, _, rfl⟩ := List.mem_map.1 hp
  obtain ⟨v, _, e⟩ := List.mem_map.1 hq
  exact hab (congrArg Pr.a e).symm
theorem J9 {x : Inst} {c : List Int} (h : c.Nodup) : Sd plt (yS x c) := Zf5 J7 _ (J8 h)
theorem uB (x : Inst) (c : List Int) : (yS x c).Perm (xG x c) := List.mergeSort_perm _ _
theorem Zf7 {x : Inst} {c : List Int} (h : c.Nodup) : (yS x c).length = c.length * (c.length - 1) := by
 rw [(uB x c).length_eq]
 unfold xG
 rw [List.length_flatMap]
 have : c.map (fun a => (qt x c a).length) = c.map fun _ => c.length - 1 := by
  refine List.map_congr_left fun a ha => ?_
  unfold qt
  rw [List.length_map]
  have := List.Nodup.erase_eq_filter h a
  have h2 := List.length_erase_of_mem ha
  rw [this] at h2
  rw [← h2]
  congr 1
  refine List.filter_congr fun b _ => ?_
  by_cases e : b = a <;> simp [e]
 rw [this, List.map_const', List.sum_replicate_nat]
theorem Zf8 {x : Inst} {c : List Int} (h : c.Nodup) {l : List Pr} (hp : l.Perm (xG x c)) (hs : Sd plt l) : l = yS x c :=
 Zac J7 (hp.trans (uB x c).symm) hs (J9 h)
theorem Zf9 {x : Inst} {c d : List Int} (hc : c.Nodup) (hd : d.Nodup) (h : c.Perm d) : (xG x c).Perm (xG x d) := by
 refine (List.perm_ext_iff_of_nodup (J8 hc) (J8 hd)).2 fun p => ?_
 rw [Yi, Yi, h.mem_iff, h.mem_iff]
theorem Zga {x : Inst} {c d : List Int} (hc : c.Nodup) (hd : d.Nodup) (h : c.Perm d) : yS x c = yS x d :=
 Zf8 hd ((uB x c).trans (Zf9 hc hd h)) (J9 hc)
open Go Hp
def yc : Nat → List (List Pr) → Its Int
 | _, [] => []
 | i, [] :: rows => yc (i + 1) rows
 | i, (p :: _) :: rows => ((i : Int), -p.s) :: yc (i + 1) rows
theorem Zk : ∀ (rows : List (List Pr)) (i : Nat) (x : Int × Int), x ∈ yc i rows ↔ ∃ (k : Nat) (p : Pr) (tl : List Pr), rows[k]? = some (p :: tl) ∧ x = (((i + k : Nat) : Int), -p.s)
 | [], i, x => by simp [yc]
 | [] :: rows, i, x => by
  rw [yc, Zk rows (i + 1) x]
  constructor
  ·rintro ⟨k, p, tl, h, rfl⟩
   exact ⟨k + 1, p, tl, by simpa using h, by rw [show i + 1 + k = i + (k + 1) by omega]⟩
  ·rintro ⟨k, p, tl, h, rfl⟩
   match k with
   | 0 => simp at h
   | k + 1 => exact ⟨k, p, tl, by simpa using h, by rw [show i + 1 + k = i + (k + 1) by omega]⟩
 | (q :: ql) :: rows, i, x => by
  rw [yc, List.mem_cons, Zk rows (i + 1) x]
  constructor
  ·rintro (rfl | ⟨k, p, tl, h, rfl⟩)
   ·exact ⟨0, q, ql, rfl, rfl⟩
   ·exact ⟨k + 1, p, tl, by simpa using h, by rw [show i + 1 + k = i + (k + 1) by omega]⟩
  ·rintro ⟨k, p, tl, h, rfl⟩
   match k with
   | 0 => simp at h; obtain ⟨rfl, rfl⟩ := h; exact .inl rfl
   | k + 1 => exact .inr ⟨k, p, tl, by simpa using h, by rw [show i + 1 + k = i + (k + 1) by omega]⟩
theorem Qu : ∀ (rows : List (List Pr)) (i k : Nat) (p : Pr) (tl : List Pr), k < rows.length → (yc i (rows.set k (p :: tl))).Perm ((((i + k : Nat) : Int), -p.s) :: yc i (rows.set k []))
 | [], _, _, _, _, h => by simp at h
 | r :: rows, i, 0, p, tl, _ => by simp [yc]
 | [] :: rows, i, k + 1, p, tl, h => by
  have := Qu rows (i + 1) k p tl (by simpa using h)
  simp only [List.set_cons_succ, yc]
  rwa [show i + 1 + k = i + (k + 1) by omega] at this
 | (q :: ql) :: rows, i, k + 1, p, tl, h => by
  have := Qu rows (i + 1) k p tl (by simpa using h)
  simp only [List.set_cons_succ, yc]
  rw [show i + 1 + k = i + (k + 1) by omega] at this
  exact (this.cons _).trans (.swap _ _ _)
theorem Zgb {rows : List (List Pr)} {k : Nat} {p : Pr} {tl : List Pr} (h : rows[k]? = some (p :: tl)) : (yc 0 rows).Perm ((((k : Nat) : Int), -p.s) :: yc 0 (rows.set k [])) := by
 obtain ⟨hk, e⟩ := List.getElem?_eq_some_iff.1 h
 have := Qu rows 0 k p tl hk
 rwa [Nat.zero_add, ← e, List.set_getElem_self] at this
theorem Qv : ∀ (rows : List (List Pr)) (i : Nat), (yc i rows).length ≤ rows.length
 | [], _ => by simp [yc]
 | [] :: rows, i => by have := Qv rows (i + 1); simp only [yc, List.length_cons]; omega
 | (q :: ql) :: rows, i => by have := Qv rows (i + 1); simp only [yc, List.length_cons]; omega
structure Rows' (c : List Int) (rows : List (List Pr)) : Prop where
 len : rows.length = c.length
 a : ∀ (i : Nat) r, rows[i]? = some r → ∀ p ∈ r, c[i]? = some p.a
theorem Zgc {c : List Int} (hc : c.Pairwise (· < ·)) {rows : List (List Pr)} (hr : Rows' c rows) {x : Int × Int} {r : Its Int} (hs : j3 (x :: r)) (hp : (yc 0 rows).Perm (x :: r)) :
  ∃ (i : Nat) (y : Pr) (tl : List Pr), x = ((i : Int), -y.s) ∧ rows[i]? = some (y :: tl) ∧ r.Perm (yc 0 (rows.set i [])) ∧ ∀ (j : Nat) z tz, rows[j]? = some (z :: tz) → j ≠ i → plt y z = true := by
 obtain ⟨i, y, tl, hi, ex⟩ := (Zk rows 0 x).1 (hp.symm.subset List.mem_cons_self)
 rw [Nat.zero_add] at ex
 subst ex
 refine ⟨i, y, tl, rfl, hi, (List.Perm.cons_inv ((Zgb hi).symm.trans hp)).symm, fun j z tz hj hne => ?_⟩
 have hz : (((j : Nat) : Int), -z.s) ∈ yc 0 rows := (Zk rows 0 _).2 ⟨j, z, tz, hj, by rw [Nat.zero_add]⟩
 rcases List.mem_cons.1 (hp.subset hz) with e | e
 ·have : (j : Int) = i := congrArg Prod.fst e
  exact absurd (by omega) hne
 ·have h1 := (List.pairwise_cons.1 hs).1 _ e
  have ay := hr.a i _ hi y (by simp)
  have az := hr.a j _ hj z (by simp)
  unfold ilt il ltI at h1
  simp only at h1
  unfold plt
  by_cases e2 : -y.s = -z.s
  ·rw [if_pos e2] at h1
   rw [if_pos (by omega)]
   have hij : i < j := by simp at h1; omega
   obtain ⟨k1, e3⟩ := List.getElem?_eq_some_iff.1 ay
   obtain ⟨k2, e4⟩ := List.getElem?_eq_some_iff.1 az
   have := List.pairwise_iff_getElem.1 hc i j k1 k2 hij
   rw [e3, e4] at this
   rw [if_neg (by omega)]
   simpa using this
  ·rw [if_neg e2] at h1
   rw [if_neg (by omega)]
   simp at h1
   simp; omega
open Go Hp
def yG (l : List Pr) : List Int := l.map fun p => -p.s
def j5 (l : List Pr) (i : Int) : Pr := l.getD i.toNat ⟨0, 0, 0⟩
def jr (x : Inst) (c : List Int) (a : Int) : List Pr := (j4 (yG (qt x c a))).map (j5 (qt x c a))
theorem Zgd (l : List Int) : (j4 l).Perm ((List.range l.length).map fun i : Nat => (i : Int)) := by
 have h := (ZfY l).map (·.1)
 rw [List.map_map, List.map_map] at h
 exact h
theorem Zge (l : List Pr) : ((j4 (yG l)).map (j5 l)).Perm l := by
 refine ((Zgd _).map _).trans ?_
 have : ((List.range (yG l).length).map fun i : Nat => (i : Int)).map (j5 l) = l := by
  rw [List.map_map]
  apply List.ext_getElem
  ·simp [yG]
  ·intro i h1 h2
   simp [j5, List.getD_eq_getElem?_getD, h2]
 rw [this]
theorem Zgf {l : List Pr} (h : ∀ (i j : Nat) p q, i < j → l[i]? = some p → l[j]? = some q → p.a = q.a ∧ p.b < q.b) : Sd plt ((j4 (yG l)).map (j5 l)) := by
 have hs := Zf0 (yG l)
 unfold j4
 rw [List.map_map]
 unfold j3 at hs
 rw [List.pairwise_map] at hs
 unfold Sd
 rw [List.pairwise_map]
 refine List.Pairwise.imp ?_ hs
 intro i j hij
 have hn : (yG l).length = l.length := by simp [yG]
 have hi : i.val < l.length := by have := i.isLt; omega
 have hj : j.val < l.length := by have := j.isLt; omega
 have gi : l[i.val]? = some l[i.val] := List.getElem?_eq_getElem hi
 have gj : l[j.val]? = some l[j.val] := List.getElem?_eq_getElem hj
 have wi : (yG l).getD i.val 0 = -(l[i.val]).s := by simp [yG, List.getD_eq_getElem?_getD, hi]
 have wj : (yG l).getD j.val 0 = -(l[j.val]).s := by simp [yG, List.getD_eq_getElem?_getD, hj]
 have pi : j5 l (i.val : Int) = l[i.val] := by simp [j5, List.getD_eq_getElem?_getD, hi]
 have pj : j5 l (j.val : Int) = l[j.val] := by simp [j5, List.getD_eq_getElem?_getD, hj]
 simp only [Function.comp, pi, pj]
 unfold ilt il itW ltI at hij
 rw [wi, wj] at hij
 simp only at hij
 generalize l[i.val] = p at *
 generalize l[j.val] = q at *
 unfold plt
 by_cases e : -p.s = -q.s
 ·rw [if_pos e] at hij
  have hlt : i.val < j.val := by simp at hij; omega
  obtain ⟨h1, h2⟩ := h i.val j.val p q hlt gi gj
  rw [if_pos (by omega), if_pos h1]
  simpa using h2
 ·rw [if_neg e] at hij
  rw [if_neg (by omega)]
  simp at hij
  simp; omega
theorem Zgg {x : Inst} {c : List Int} (hc : c.Pairwise (· < ·)) (a : Int) : ∀ (i j : Nat) p q, i < j → (qt x c a)[i]? = some p → (qt x c a)[j]? = some q → p.a = q.a ∧ p.b < q.b := by
 have h : (qt x c a).Pairwise fun p q => p.a = q.a ∧ p.b < q.b := by
  unfold qt
  rw [List.pairwise_map]
  exact List.Pairwise.imp (fun h => ⟨rfl, h⟩) (List.Pairwise.filter _ hc)
 intro i j p q hij hp hq
 obtain ⟨h1, rfl⟩ := List.getElem?_eq_some_iff.1 hp
 obtain ⟨h2, rfl⟩ := List.getElem?_eq_some_iff.1 hq
 exact List.pairwise_iff_getElem.1 h i j h1 h2 hij
theorem Xa (x : Inst) (c : List Int) (a : Int) : (jr x c a).Perm (qt x c a) := Zge _
theorem Zgh {x : Inst} {c : List Int} (hc : c.Pairwise (· < ·)) (a : Int) : Sd plt (jr x c a) := Zgf (Zgg hc a)
theorem Zgi {x : Inst} {c : List Int} (hc : c.Pairwise (· < ·)) : Rows' c (c.map (jr x c)) ∧ (∀ r ∈ c.map (jr x c), Sd plt r) ∧ (c.map (jr x c)).flatten.Perm (yS x c) := by
 refine ⟨⟨by simp, fun i r hr p hp => ?_⟩, fun r hr => ?_, ?_⟩
 ·rw [List.getElem?_map] at hr
  obtain ⟨a, ha, rfl⟩ := Option.map_eq_some_iff.1 hr
  have := (Xa x c a).subset hp
  unfold qt at this
  obtain ⟨b, _, rfl⟩ := List.mem_map.1 this
  exact ha
 ·obtain ⟨a, _, rfl⟩ := List.mem_map.1 hr
  exact Zgh hc a
 ·refine List.Perm.trans ?_ (uB x c).symm
  unfold xG
  rw [← List.flatMap_def]
  have main : ∀ l : List Int, (l.flatMap (jr x c)).Perm (l.flatMap (qt x c)) := by
   intro l
   induction l with
   | nil => exact .refl _
   | cons a l ih => simp only [List.flatMap_cons]; exact (Xa x c a).append ih
  exact main c
theorem Zgj {x : Inst} {c : List Int} (hc : c.Pairwise (· < ·)) {rows : List (List Pr)} {k : Nat} (h1 : Rows' c rows) (h2 : ∀ r ∈ rows, Sd plt r) (h3 : rows.flatten.Perm ((yS x c).drop k)) {it : Int × Int} {r : Its Int} (hs : j3 (it :: r)) (hp : (yc 0 rows).Perm (it :: r)) :
  ∃ (i : Nat) (y : Pr) (tl : List Pr), it = ((i : Int), -y.s) ∧ rows[i]? = some (y :: tl) ∧ r.Perm (yc 0 (rows.set i [])) ∧ (yS x c)[k]? = some y ∧ Rows' c (rows.set i tl) ∧ (∀ r ∈ rows.set i tl, Sd plt r) ∧ (rows.set i tl).flatten.Perm ((yS x c).drop (k + 1)) := by
 have hn : c.Nodup := List.Pairwise.imp (fun h e => by omega) hc
 obtain ⟨i, y, tl, e1, e2, e3, e4⟩ := Zgc hc h1 hs hp
 obtain ⟨m1, m2, m3⟩ := Zf3 J7 (J9 hn) h2 h3 e2 e4
 refine ⟨i, y, tl, e1, e2, e3, m1, ⟨by rw [List.length_set]; exact h1.len, fun j r hr p hpr => ?_⟩, m3, m2⟩
 rw [List.getElem?_set] at hr
 split at hr
 ·rename_i e
  subst e
  split at hr
  ·cases hr
   exact h1.a i _ e2 p (List.mem_cons_of_mem _ hpr)
  ·cases hr
 ·exact h1.a j r hr p hpr
open Go Hp
instance : Inhabited Pr := ⟨⟨0, 0, 0⟩⟩
instance : Enc Pr := ⟨fun p => [I p.a, I p.b, I p.s], 3, fun _ => rfl, fun _ => rfl⟩
@[simp] theorem ZnM (p : Pr) : Enc.enc p = [I p.a, I p.b, I p.s] := rfl
@[simp high] theorem ZnN (l : List Pr) : (l.flatMap Enc.enc).length = l.length * 3 := jp l
@[simp high] theorem ZnO (l : List Pr) : (l.flatMap Enc.enc).take (l.length * 3) = l.flatMap Enc.enc := w8 l
def qJ (x : Inst) : Prop := ∀ a b, 0 ≤ arc x a b ∧ arc x a b ≤ 2147483648
theorem Xb {x : Inst} (h : qJ x) (a b : Int) : -2147483648 ≤ jf x a b ∧ jf x a b ≤ 4294967296 := by
 have h1 := h (a + 1) 0
 have h2 := h 0 (b + 1)
 have h3 := h (a + 1) (b + 1)
 unfold jf
 omega
set_option maxRecDepth 20000 in
theorem Zgk (x : Inst) (a b : Int) (hx : qJ x) (ha : small a) (hb : small b) : Pure Tryz.prog 272 [.agg (zt x), I a, I b] (I (jf x a b)) := by
 have w1 := xV ha
 have w2 := xV hb
 have h1 := hx (a + 1) 0
 have h2 := hx 0 (b + 1)
 have h3 := hx (a + 1) (b + 1)
 have w3 : IntKind.i64.wrap (arc x (a + 1) 0 + arc x 0 (b + 1)) = arc x (a + 1) 0 + arc x 0 (b + 1) := wr _ (by omega) (by omega)
 have w4 : IntKind.i64.wrap (arc x (a + 1) 0 + arc x 0 (b + 1) - arc x (a + 1) (b + 1)) = jf x a b := wr _ (by omega) (by omega)
 refine pwe Tryz.func272 Tryz.ntmps272 Tryz.results272 fun S nx hd => ?_
 repeat apply za
 refine pwn ?_
 intro v0
 repeat apply za
 refine pwY none (Row.pures [0, 1, 2, 3, 4, 5, 6, 7, 8, 9, 10, 11, 12, 13, 14, 15, 16] .done) mixed (jn4 w1 w2 w3 w4) ?_
 refine pwP (xl _ _ _) (jn4 w1 w2 w3 w4) ?_
 refine pwP (xl _ _ _) (jn4 w1 w2 w3 w4) ?_
 refine pwP (xl _ _ _) (jn4 w1 w2 w3 w4) ?_
 intros
 repeat apply za
 exact zb (zg hd rfl rfl)
open Go
theorem Zae {vs : Array Value} (h : 2 = vs.size) : ∃ u v, vs = #[u, v] := by
 match vs, h with
 | ⟨[u, v]⟩, _ => exact ⟨u, v, rfl⟩
theorem Zgl {C : Ctx} {S : Store} {w : World} {v : Value} (h : Rel C S w (.sc (.slice none 0 0)) v) : v = .slice none 0 0 := by cases h; rfl
theorem Zgm (n : Nat) (h0 : 0 < n) (hn : n ≤ 1048576) (S : Store) (nx : Nat) (hd : zO nx S) :
  Spec Tryz.prog 277 [.sc (.slice none 0 0), I n] S (fun p S' => ∃ v, p = .sl nx v 2 0 0 ∧ S' = S.set nx (.cells v 50 [])) := by
 refine ⟨yY Tryz.func277 (by rfl) rfl, ?_⟩
 intro C w vs hS hl hr
 obtain ⟨u, v, rfl⟩ := Zae hl
 obtain rfl := Zgl (hr 0 _ u rfl rfl)
 obtain rfl := ux (hr 1 _ v rfl rfl)
 obtain ⟨i0, hi0⟩ := Option.isSome_iff_exists.1 i50
 have hz := z50
 have hc := c50
 have hb := b50
 simp only [Program.zeroOf, Program.cellsOf, Program.bytesOf', hi0, Option.bind_some, Option.map_some, Option.getD_some, Option.some.injEq] at hz hc hb
 refine (Tryz.slices_Grow_stop i0 _ hi0 hz (by omega) n w h0 (by rw [hb]; omega) (by omega)).mono ?_
 rintro e w' ⟨rfl, rfl⟩
 have hfr : Fresh C S nx C.clock := .clock C (hd nx (Nat.le_refl _))
 obtain ⟨d1, d2⟩ := hS.drew
 obtain ⟨t1, t2⟩ := d1.object' hfr 50 ((#[] : Array Value) ++ Builtin.zeroCells (Value.agg #[.int .i64 0, .int .i64 0]).cells (0 + n - 0) ++ Builtin.zeroCells (Value.agg #[.int .i64 0, .int .i64 0]).cells (grownCap w (0 + n) 0 50 - (0 + n))) [] (by simp) (fun i v hi => by simp at hi) (fun i p v hp => by simp at hp)
 have hge := grownCap_ge w (0 + n) 0 50
 simp only [Nat.zero_add] at hge
 refine ⟨_, _, _, _, rfl, ⟨C.clock, rfl, rfl⟩, ZW C S w _ _ _ _ _ _ _ _ rfl (Nat.zero_le _) (Nat.zero_le _) (grownCap_le_maxLen w _ _ _ (by unfold maxLen; omega)) ?_, t1, d2.trans t2⟩
 simp only [Array.size_append, size_zeroCells]
 simp [Value.cells]
 omega
set_option maxRecDepth 20000 in
theorem Zgn (ls : List (List Stop)) (hls : ls.length ≤ 1048576) (h0 : 0 < ls.flatten.length) (hn : ls.flatten.length ≤ 1048576) : Pure Tryz.prog 265 [L ls] (L ls.flatten) := by
 refine pwe Tryz.func265 Tryz.ntmps265 Tryz.results265 fun S nx hd => ?_
 (repeat apply za); refine pwn ?_; intros
 (repeat apply za); refine pwn ?_; intros
 (repeat apply za); refine pwn ?_; intros
 repeat apply za
 refine zh (zr (fun s : Nat × Nat => s.1 ≤ ls.length ∧ s.2 = (ls.take s.1).flatten.length) (fun (k, n) => [(0, L ls), (3, I (n : Int)), (9, L ls), (10, I ls.length), (11, I k)]) (fun _ => []) (fun s => ls.length - s.1) (0, 0) [] ⟨by simp, by simp⟩ (by simp) (by simp) ?_)
 rintro ⟨k, n⟩ ⟨hk, ho⟩
 simp only at hk ho ⊢
 (repeat apply za); refine pwn ?_; intros
 repeat apply za
 refine zn rfl (fun hc => ?_) (fun hc => ?_)
 ·simp at hc
  obtain ⟨t, tl, a1, a2, a3, e0⟩ := el1 rfl ls k hc
  have hs1 : (ls.take (k + 1)).flatten.length = n + t.length := by rw [a3, ho]; simp
  have hs2 : (ls.take (k + 1)).flatten.length ≤ ls.flatten.length := by
   conv => rhs; rw [← List.take_append_drop (k + 1) ls, List.flatten_append, List.length_append]
   omega
  have w1 : IntKind.i64.wrap ((n : Int) + (t.length : Nat)) = (n : Int) + (t.length : Nat) := wr _ (by omega) (by omega)
  have w2 : ¬ ((n : Int) + (t.length : Nat) < 0) := by omega
  refine ze (za (zh ?_))
  repeat apply za
  refine pwN [] (jn2 e0 hc) ?_
  intros
  repeat apply za
  refine pwN [] w1 ?_
  intros
  repeat apply za
  refine pwN [] w2 ?_
  intros
  repeat apply za
  refine zk rfl ?_
  refine ze ?_
  (repeat apply za); refine pwn ?_; intros
  exact zm (k + 1, n + t.length) [] ⟨hc, hs1.symm⟩ (by simp; omega) (by simp [wrN k (by omega)]) rfl (by simp)
 ·simp at hc
  obtain rfl : k = ls.length := by omega
  rw [List.take_length] at ho
  rw [← ho] at h0
  have hn' : n ≤ 1048576 := by omega
  clear ho
  refine zo ?_
  repeat apply za
  refine zQ [] (by rfl) (by rfl) fun K Gc Gh hK hGc hGh X hX0 hX => ?_
  simp -implicitDefEqProofs [hX0, hX]
  try clear hX0 hX X
  refine hGc _ _ _ _ _ _ _ fun hsuf => ((Zgm n h0 hn' _ _ jD).mono ?_).v
  rintro _ _ ⟨v1, rfl, rfl⟩
  refine ⟨_, _, qE _, ?_⟩
  clear hGc hGh
  clear Gc Gh
  refine zH hsuf (D := []) (by rfl) fun Gc Gh hGc hGh X hX0 hX => ?_
  simp -implicitDefEqProofs [hX0, hX]
  clear hX0 hX X
  intros
  refine hK _ _ _ ?_
  clear hK hGc hGh
  clear K Gc Gh
  (repeat apply za); refine pwn ?_; intros
  repeat apply za
  refine zh (zr (fun s : Nat × List Stop × Nat => s.1 ≤ ls.length ∧ s.2.1 = (ls.take s.1).flatten) (fun (k, out, v) => [(6, .sl nx v 2 0 out.length), (25, L ls), (26, I ls.length), (27, I k)]) (fun (k, out, v) => [.cells v 50 (out.flatMap Enc.enc)]) (fun s => ls.length - s.1) (0, [], v1) [] ⟨by simp, by simp⟩ (by simp) (by simp) ?_)
  rintro ⟨k, out, v⟩ ⟨hk, ho⟩
  simp only at hk ho ⊢
  (repeat apply za); refine pwn ?_; intros
  repeat apply za
  refine zn rfl (fun hc => ?_) (fun hc => ?_)
  ·simp at hc
   obtain ⟨t, tl, a1, a2, a3, e0⟩ := el1 rfl ls k hc
   have hs1 : (ls.take (k + 1)).flatten = out ++ t := by rw [a3, ho]; simp
   have hs2 : (ls.take (k + 1)).flatten.length ≤ ls.flatten.length := by
    conv => rhs; rw [← List.take_append_drop (k + 1) ls, List.flatten_append, List.length_append]
    omega
   rw [hs1] at hs2
   simp only [List.length_append] at hs2
   refine ze (za (zh ?_))
   repeat apply za
   refine pwN [] (jn2 e0 hc) ?_
   intros
   repeat apply za
   refine pwn ?_
   refine ⟨by omega, ?_⟩
   intros
   (repeat apply za); refine pwn ?_; intros
   exact zm (k + 1, out ++ t, v + 1) [] ⟨hc, hs1.symm⟩ (by simp; omega) (by simp [wrN k (by omega)]) rfl (by simp)
  ·simp at hc
   obtain rfl : k = ls.length := by omega
   rw [List.take_length] at ho
   refine zo ?_
   refine zL 0 rfl ?_
   (repeat apply za); refine pwn ?_; intros
   repeat apply za
   exact zb (zg hd (by simp; rfl) (by simp [zj, ho]))
open Go Hp
def xH (T : Day) (c : Int) : Nat := T.findIdx fun t => t.any fun s => decide (s.c = c)
def vf (a : zq) : Option Int := a[a.length - 1]?.map (·.c)
def vJ (b : zq) : Option Int := b[0]?.map (·.c)
def yq (x : Inst) (num : Int) (p : Pr) (i k : Nat) (a b : zq) : Bool :=
 decide (i ≠ k) && decide (vf a = some p.a) && decide (vJ b = some p.b) && !(decide (p.s ≤ 0) && decide (num ≤ x.veh)) && decide (zu x (a ++ b) = 0)
def Zl (x : Inst) (st : Day × Int) (p : Pr) (i k : Nat) : Day × Int :=
 bif yq x st.2 p i k (st.1.getD i []) (st.1.getD k []) then ((st.1.set i (st.1.getD i [] ++ st.1.getD k [])).set k [], st.2 - 1) else st
def yO (x : Inst) (st : Day × Int) (p : Pr) : Day × Int := Zl x st p (xH st.1 p.a) (xH st.1 p.b)
def Xc (x : Inst) (ss : List Stop) : Day × Int := (yS x (ss.map (·.c))).foldl (yO x) (ss.map fun s => [s], (ss.length : Int))
def jG (x : Inst) (ss : List Stop) : Day := (Xc x ss).1.filter fun t => !t.isEmpty
structure JI (ss : List Stop) (T : Day) (g : Int → Option Int) : Prop where
 len : T.length = ss.length
 perm : T.flatten.Perm ss
 g : ∀ (i : Nat) t s, T[i]? = some t → s ∈ t → g s.c = some (i : Int)
theorem JI.place {ss : List Stop} {T : Day} {g : Int → Option Int} (h : JI ss T g) {i : Nat} {t : zq} {s : Stop} (hi : T[i]? = some t) (hs : s ∈ t) : xH T s.c = i := by
 have hex : ∃ t ∈ T, (t.any fun s' => decide (s'.c = s.c)) = true := ⟨t, List.mem_of_getElem? hi, List.any_eq_true.2 ⟨s, hs, by simp⟩⟩
 have hlt : xH T s.c < T.length := List.findIdx_lt_length_of_exists hex
 have hq := List.findIdx_getElem (w := hlt)
 obtain ⟨s', h1, h2⟩ := List.any_eq_true.1 hq
 have h2' : s'.c = s.c := by simpa using h2
 have e1 := h.g (xH T s.c) _ s' (List.getElem?_eq_getElem hlt) h1
 have e2 := h.g i t s hi hs
 rw [h2', e2] at e1
 have := Option.some.inj e1
 omega
theorem JI.there {ss : List Stop} {T : Day} {g : Int → Option Int} (h : JI ss T g) {c : Int} (hc : c ∈ ss.map (·.c)) : ∃ (i : Nat) (t : zq) (s : Stop), T[i]? = some t ∧ s ∈ t ∧ s.c = c ∧ g c = some (i : Int) ∧ xH T c = i := by
 obtain ⟨s, hs, rfl⟩ := List.mem_map.1 hc
 obtain ⟨t, ht, hst⟩ := List.mem_flatten.1 (h.perm.symm.subset hs)
 obtain ⟨i, hi⟩ := List.mem_iff_getElem?.1 ht
 exact ⟨i, t, s, hi, hst, rfl, h.g i t s hi hst, h.place hi hst⟩
theorem Yj {T : Day} : ∀ {i : Nat} {a : zq}, T[i]? = some a → T.flatten.Perm (a ++ (T.set i []).flatten) := by
 induction T with
 | nil => intro i a h; simp at h
 | cons t T ih =>
  intro i a h
  cases i with
  | zero => simp at h; subst h; simp
  | succ i =>
   simp only [List.getElem?_cons_succ] at h
   simp only [List.flatten_cons, List.set_cons_succ]
   refine ((ih h).append_left t).trans ?_
   rw [← List.append_assoc, ← List.append_assoc]
   exact List.perm_append_comm.append_right _
theorem Zgo {T : Day} {i : Nat} (b : zq) (h : i < T.length) : (T.set i b).flatten.Perm (b ++ (T.set i []).flatten) := by
 have := Yj (T := T.set i b) (i := i) (a := b) (by simp [h])
 rwa [List.set_set] at this
theorem Zgp {T : Day} {i k : Nat} {a b : zq} (hi : T[i]? = some a) (hk : T[k]? = some b) (hne : i ≠ k) : ((T.set i (a ++ b)).set k []).flatten.Perm T.flatten := by
 have hil := (List.getElem?_eq_some_iff.1 hi).1
 rw [List.set_comm _ _ hne]
 have h1 := Zgo (T := T.set k []) (i := i) (a ++ b) (by simpa using hil)
 have h2 := Yj hk
 have h3 := Yj (T := T.set k []) (i := i) (a := a) (by rw [List.getElem?_set_ne (fun e => hne e.symm)]; exact hi)
 refine h1.trans (List.Perm.symm ?_)
 refine h2.trans ((h3.append_left b).trans ?_)
 rw [← List.append_assoc]
 exact List.perm_append_comm.append_right _
def gTo (g : Int → Option Int) (b : zq) (i : Nat) (j : Nat) : Int → Option Int := fun c => if c ∈ (b.take j).map (·.c) then some (i : Int) else g c
theorem Zgq (g : Int → Option Int) (b : zq) (i : Nat) : gTo g b i 0 = g := by funext c; simp [gTo]
theorem Zgr {g : Int → Option Int} {b : zq} {i j : Nat} {s : Stop} (h : b.take (j + 1) = b.take j ++ [s]) : yN (gTo g b i j) s.c (some (i : Int)) = gTo g b i (j + 1) := by
 funext c
 simp only [yN, gTo, h, List.map_append, List.mem_append, List.map_cons, List.map_nil, List.mem_singleton]
 by_cases e : c = s.c
 ·simp [e]
 ·simp [e]
theorem JI.join {ss : List Stop} {T : Day} {g : Int → Option Int} (h : JI ss T g) {i k : Nat} {a b : zq} (hi : T[i]? = some a) (hk : T[k]? = some b) (hne : i ≠ k) : JI ss ((T.set i (a ++ b)).set k []) (gTo g b i b.length) := by
 have hil := (List.getElem?_eq_some_iff.1 hi).1
 have hkl := (List.getElem?_eq_some_iff.1 hk).1
 refine ⟨by simp [h.len], (Zgp hi hk hne).trans h.perm, fun i' t s ht hs => ?_⟩
 unfold gTo
 rw [List.take_length]
 by_cases e1 : k = i'
 ·subst e1
  rw [List.getElem?_set_self (by simpa using hkl)] at ht
  cases ht; cases hs
 ·rw [List.getElem?_set_ne e1] at ht
  by_cases e2 : i = i'
  ·subst e2
   rw [List.getElem?_set_self hil] at ht
   cases ht
   by_cases e3 : s.c ∈ b.map (·.c)
   ·rw [if_pos e3]
   ·rw [if_neg e3]
    rcases List.mem_append.1 hs with hs | hs
    ·exact h.g i a s hi hs
    ·exact absurd (List.mem_map.2 ⟨s, hs, rfl⟩) e3
  ·rw [List.getElem?_set_ne e2] at ht
   have h1 := h.g i' t s ht hs
   rw [if_neg]
   ·exact h1
   ·intro e3
    obtain ⟨s', hs', e4⟩ := List.mem_map.1 e3
    have h2 := h.g k b s' hk hs'
    rw [e4, h1] at h2
    have := Option.some.inj h2
    exact e1 (by omega)
theorem JI.nil : JI [] [] (fun _ => none) := ⟨rfl, .refl _, fun i t s h => by simp at h⟩
theorem JI.snoc {ss : List Stop} {T : Day} {g : Int → Option Int} (h : JI ss T g) (s : Stop) (hs : s.c ∉ ss.map (·.c)) : JI (ss ++ [s]) (T ++ [[s]]) (yN g s.c (some (ss.length : Int))) := by
 refine ⟨by simp [h.len], by simpa using h.perm.append_right [s], fun i t s' ht hst => ?_⟩
 unfold yN
 rcases Nat.lt_or_ge i T.length with hl | hl
 ·rw [List.getElem?_append_left hl] at ht
  have h1 : s' ∈ ss := h.perm.subset (List.mem_flatten.2 ⟨t, List.mem_of_getElem? ht, hst⟩)
  rw [if_neg]
  ·exact h.g i t s' ht hst
  ·intro e; exact hs (e ▸ List.mem_map.2 ⟨s', h1, rfl⟩)
 ·rw [List.getElem?_append_right hl] at ht
  have hi : i - T.length = 0 := by
   have := (List.getElem?_eq_some_iff.1 ht).1
   simp at this; omega
  rw [hi] at ht
  simp at ht
  subst ht
  simp at hst
  subst hst
  rw [if_pos rfl, ← h.len]
  congr 1
  have : i = T.length := by omega
  rw [this]
open Go Hp
theorem Qw {P : Program} {r : Rd} {n N : Nat} {Q : Exit → (Nat → PV) → Store → Prop} {F : Nat → PV} {c : Code} {T : Store} {o ver e0 : Nat} {cs : List PV} (i : Nat) (hs : T o = .cells ver e0 cs) (hi : cs[i]? = some (.sc (.slice none 0 0)))
  (h : PW P r n N c Q F (T.set o (.cells ver e0 (cs.set i (.lst 0 []))))) : PW P r n N c Q F T := by
 refine wX (F' := F) (S' := T.set o (.cells ver e0 (cs.set i (.lst 0 [])))) (fun C w a st => ?_) h
 have := st.sim.relabel (cs' := cs.set i (.lst 0 [])) hs (by simp) (by
  intro k p' hp'
  rw [List.getElem?_set] at hp'
  split at hp'
  ·rename_i hij
   subst hij
   split at hp'
   ·cases hp'
    refine .inr ⟨_, hi, fun v hv => ?_⟩
    cases hv
    exact .lst0
   ·cases hp'
  ·exact .inl hp')
 exact ⟨C, ⟨this.1, st.size, fun k => (st.fr k).mono this.2, r.keep this.2 st.v⟩, this.2⟩
abbrev Zm (x : Inst) (tid tv n : Nat) (num : Int) (mid mv : Nat) : List PV := [I x.days, I x.veh, I x.cap, I x.len, L x.cust, L x.dist, .sl tid tv 1 0 n, I num, .mp mid mv]
theorem Xd (cs : List PV) (k : Nat) (x : PV) (h : k < cs.length) : zP cs k [x] = cs.set k x := by
 rw [zP, List.set_eq_take_append_cons_drop, if_pos h]; simp
theorem Zaf (T : Day) : T.flatMap Enc.enc = T.map fun t => L t := by induction T <;> simp_all
theorem yZ {S : Store} {nx id : Nat} {o : Ob} (hd : zO nx S) (h : S id = o) (hne : o ≠ .dead) : id < nx := by
 rcases Nat.lt_or_ge id nx with q | q
 ·exact q
 ·rw [hd id q] at h; exact absurd h.symm hne
set_option maxRecDepth 20000 in
set_option maxHeartbeats 1600000 in
theorem Zgs (x : Inst) (ss : List Stop) (T : Day) (g : Int → Option Int) (num : Int) (es : List (Value × PV)) {S : Store} {jid jv tid tv mid mv : Nat} (hx : x.cust.length ≤ 1048576) (hss : ss.length ≤ 1000) (hnum : -1048576 ≤ num ∧ num ≤ 1048576) (hI : JI ss T g) (hm : MapIs yF I es g)
  (hj : S jid = .cells jv 290 (Zm x tid tv ss.length num mid mv)) (ht : S tid = .cells tv 46 (T.flatMap Enc.enc)) (hmid : S mid = .map mv es) (d1 : jid ≠ tid) (d2 : jid ≠ mid) (d3 : tid ≠ mid)
  (p : Pr) (hpa : p.a ∈ ss.map (·.c)) (hpb : p.b ∈ ss.map (·.c)) :
  Spec Tryz.prog 246 [.ptr jid jv 0, .agg [I p.a, I p.b, I p.s]] S (fun _ S' => ∃ es' g', MapIs yF I es' g' ∧ JI ss (yO x (T, num) p).1 g' ∧
   S' = ((S.set jid (.cells jv 290 (Zm x tid tv ss.length (yO x (T, num) p).2 mid mv))).set tid (.cells tv 46 ((yO x (T, num) p).1.flatMap Enc.enc))).set mid (.map mv es')) := by
 obtain ⟨i, a, sa, hia, hsa, hsac, hga, hpi⟩ := hI.there hpa
 obtain ⟨k, b, sb, hkb, hsb, hsbc, hgb, hpk⟩ := hI.there hpb
 have hkey : KeyOk (.int .i64) yF := uy .i64
 obtain ⟨ra, fa1, fa2, fa3, fa4, fa5⟩ := hm.find hkey p.a
 obtain ⟨rb, fb1, fb2, fb3, fb4, fb5⟩ := hm.find hkey p.b
 obtain ⟨ja, rfl⟩ := fa3 _ hga
 obtain ⟨jb, rfl⟩ := fb3 _ hgb
 refine qp Tryz.func246 Tryz.ntmps246 Tryz.results246 fun nx hd => ?_
 have hlj : jid < nx := yZ hd hj (by simp)
 have hlt : tid < nx := yZ hd ht (by simp)
 have hlm : mid < nx := yZ hd hmid (by simp)
 have xj := fun obs => zB (S := S) (obs := obs) hlj
 have xt := fun obs => zB (S := S) (obs := obs) hlt
 have xm := fun obs => zB (S := S) (obs := obs) hlm
 repeat apply za
 refine pwn ?_
 intro v0
 have hil := (List.getElem?_eq_some_iff.1 hia).1
 have hkl := (List.getElem?_eq_some_iff.1 hkb).1
 have hgi : T.getD i [] = a := by rw [List.getD_eq_getElem?_getD, hia]; rfl
 have hgk : T.getD k [] = b := by rw [List.getD_eq_getElem?_getD, hkb]; rfl
 have hdef : yO x (T, num) p = bif yq x num p i k a b then ((T.set i (a ++ b)).set k [], num - 1) else (T, num) := by
  unfold yO Zl
  simp only [hpi, hpk, hgi, hgk]
 have hstay : yq x num p i k a b = false → ∃ es' g', MapIs yF I es' g' ∧ JI ss (yO x (T, num) p).1 g' ∧
   S = ((S.set jid (.cells jv 290 (Zm x tid tv ss.length (yO x (T, num) p).2 mid mv))).set tid (.cells tv 46 ((yO x (T, num) p).1.flatMap Enc.enc))).set mid (.map mv es') := by
  intro hc
  rw [hdef, hc]
  refine ⟨es, g, hm, hI, ?_⟩
  simp only [cond_false]
  rw [Zh S jid _ hj, Zh S tid _ ht, Zh S mid _ hmid]
 have hal2 : a.length ≤ 1000 := by
  have h1 := (Yj hia).length_eq
  have h2 := hI.perm.length_eq
  rw [List.length_append] at h1
  omega
 have hbl2 : b.length ≤ 1000 := by
  have h1 := (Yj hkb).length_eq
  have h2 := hI.perm.length_eq
  rw [List.length_append] at h1
  omega
 obtain ⟨m, hal⟩ : ∃ m, a.length = m + 1 := ⟨a.length - 1, by cases a with | nil => cases hsa | cons _ _ => simp⟩
 have hb0 : 0 < b.length := by cases b with | nil => cases hsb | cons _ _ => simp
 obtain ⟨la, tla, la1, la2, la3, la4, la5⟩ := el 2 rfl a m (by omega)
 obtain ⟨fb, b', hbc⟩ : ∃ fb b', b = fb :: b' := by cases b with | nil => cases hsb | cons x y => exact ⟨x, y, rfl⟩
 have hend : vf a = some la.c := by unfold vf; rw [hal, Nat.add_sub_cancel, la1]; rfl
 have hhead : vJ b = some fb.c := by rw [hbc]; rfl
 obtain ⟨ai, tai, i1, i2, i3, i0⟩ := el1 rfl T i hil
 rw [hia] at i1; cases i1
 obtain ⟨bk, tbk, k1, k2, k3, k0⟩ := el1 rfl T k hkl
 rw [hkb] at k1; cases k1
 have hTl := hI.len
 have hil2 : i < ss.length := by omega
 have hkl2 : k < ss.length := by omega
 repeat apply za
 refine zX (nx := nx) (σ := Unit) (fun _ => True) (fun _ => [(0, .ptr jid jv 0), (3, .ptr nx v0 0), (4, I i), (5, I k)]) (fun _ => S) (fun _ => [.cells v0 185 [I p.a, I p.b, I p.s]]) ?_ ?_
 ·repeat apply za
  refine xE none (Row.pures [0, 1, 2, 3, 4, 5, 7, 8, 9, 10, 11, 12] (.alt 6 (Row.pures [14] (.alt 13 (Row.pures [15] .done) .stop)) (.alt 13 (.alt 6 (Row.pures [14, 15] .done) .stop) .stop))) mixed (by rfl) (by rfl) (by rfl) fun K Gp Gc Gh hK hGp hGc hGh X hX0 hX1 hX2 hX => ?_
  simp -implicitDefEqProofs [hX0, hX1, hX2, hX, xj, xt, xm, hj, ht, hmid]
  try clear hX0 hX1 hX2 hX X
  refine ⟨?_, ?_⟩
  ·refine hGh _ _ _ _ _ (by rfl) (Za rfl Tryz.underlying288 Tryz.underlying3 rfl rfl rfl ((xm _).trans hmid) fa1 z3 ?_)
   refine ⟨by simp [zW], ?_⟩
   clear hGp hGc hGh
   clear Gp Gc Gh
   refine qS fun Gp Gc Gh hGp hGc hGh X hX0 hX1 hX2 hX => ?_
   simp -implicitDefEqProofs [hX0, hX1, hX2, hX]
   try clear hX0 hX1 hX2 hX X
   refine hGh _ _ _ _ _ (by rfl) (Za rfl Tryz.underlying288 Tryz.underlying3 rfl rfl rfl ((xm _).trans hmid) fb1 z3 ?_)
   refine ⟨by simp [zW], ?_⟩
   clear hGp hGc hGh
   clear Gp Gc Gh
   refine qS fun Gp Gc Gh hGp hGc hGh X hX0 hX1 hX2 hX => ?_
   simp -implicitDefEqProofs [hX0, hX1, hX2, hX]
   try clear hX0 hX1 hX2 hX X
   refine hK _ _ _ ?_
   clear hK hGp hGc hGh
   clear K Gp Gc Gh
   exact zy () [] trivial (by simp [ZY]) rfl (by simp)
  ·refine hGh _ _ _ _ _ (by rfl) (Za rfl Tryz.underlying288 Tryz.underlying3 rfl rfl rfl ((xm _).trans hmid) fb1 z3 ?_)
   refine ⟨by simp [zW], ?_⟩
   clear hGp hGc hGh
   clear Gp Gc Gh
   refine qS fun Gp Gc Gh hGp hGc hGh X hX0 hX1 hX2 hX => ?_
   simp -implicitDefEqProofs [hX0, hX1, hX2, hX]
   try clear hX0 hX1 hX2 hX X
   refine hGh _ _ _ _ _ (by rfl) (Za rfl Tryz.underlying288 Tryz.underlying3 rfl rfl rfl ((xm _).trans hmid) fa1 z3 ?_)
   refine ⟨by simp [zW], ?_⟩
   clear hGp hGc hGh
   clear Gp Gc Gh
   refine qS fun Gp Gc Gh hGp hGc hGh X hX0 hX1 hX2 hX => ?_
   simp -implicitDefEqProofs [hX0, hX1, hX2, hX]
   try clear hX0 hX1 hX2 hX X
   refine hK _ _ _ ?_
   clear hK hGp hGc hGh
   clear K Gp Gc Gh
   exact zy () [] trivial (by simp [ZY]) rfl (by simp)
 intro _ _
 repeat apply za
 refine pwY none (Row.pures [0, 1, 2, 3, 4, 5, 6, 7, 8, 9, 10, 11, 12, 13, 14, 15] .done) mixed (jn6 xj xt hj ht i0 (jn4 k0 hil2 hkl2 hTl)) ?_
 intros
 have wm : IntKind.i64.wrap (m : Int) = m := wr _ (by omega) (by omega)
 have hm1 : m < a.length := by omega
 refine za ?_
 refine zX (nx := nx) (σ := Unit) (fun _ => ¬ i = k ∧ la.c = p.a ∧ fb.c = p.b) (fun _ => [(0, .ptr jid jv 0), (3, .ptr nx v0 0), (4, I i), (5, I k), (6, L a), (7, L b)]) (fun _ => S) (fun _ => [.cells v0 185 [I p.a, I p.b, I p.s]]) ?_ ?_
 ·by_cases h1 : i = k
  ·have hc : yq x num p i k a b = false := by simp [yq, h1]
   repeat apply za
   refine pwY none (Row.pures [0, 1, 2, 3, 4, 5, 6, 7, 8, 9, 10, 11, 12, 13, 14, 15, 16, 17, 18, 19, 20, 21, 22, 23] .done) mixed (jn2 h1 zp) ?_
   intros
   repeat apply za
   refine zi rfl ?_
   repeat apply za
   exact zb ⟨_, S, rfl, hstay hc, zE hd⟩
  have h1' : ¬ (i : Int) = (k : Int) := by omega
  have hm2 : (m : Int) < (m : Int) + 1 := by omega
  by_cases h2 : la.c = p.a
  case neg =>
   have hc : yq x num p i k a b = false := by simp [yq, hend, h2]
   repeat apply za
   refine pwY none (Row.pures [0, 1, 2, 3, 4, 5, 6, 7, 8, 9, 10, 11, 12, 13, 14, 15, 16, 17, 18, 19, 20, 21, 22, 23] .done) mixed (jn6 h1' h2 hal wm hm2 (jn3 la4 la5 zp)) ?_
   intros
   repeat apply za
   refine zi rfl ?_
   repeat apply za
   exact zb ⟨_, S, rfl, hstay hc, zE hd⟩
  by_cases h3 : fb.c = p.b
  case neg =>
   have hc : yq x num p i k a b = false := by simp [yq, hhead, h3]
   repeat apply za
   refine pwY none (Row.pures [0, 1, 2, 3, 4, 5, 6, 7, 8, 9, 10, 11, 12, 13, 14, 15, 16, 17, 18, 19, 20, 21, 22, 23] .done) mixed (jn6 h1' h2 h3 hal wm (jn5 hm2 la4 la5 hbc zp)) ?_
   intros
   repeat apply za
   refine zi rfl ?_
   repeat apply za
   exact zb ⟨_, S, rfl, hstay hc, zE hd⟩
  repeat apply za
  refine pwY none (Row.pures [0, 1, 2, 3, 4, 5, 6, 7, 8, 9, 10, 11, 12, 13, 14, 15, 16, 17, 18, 19, 20, 21, 22, 23] .done) mixed (jn6 h1' h2 h3 hal wm (jn5 hm2 la4 la5 hbc zp)) ?_
  intros
  repeat apply za
  refine zk rfl ?_
  refine ze ?_
  exact zy () [] ⟨h1, h2, h3⟩ (by simp [hal, hbc]) rfl (by simp)
 rintro _ ⟨h1, h2, h3⟩
 have hN0 : -9223372036854775808 ≤ num := by omega
 refine za ?_
 refine zX (nx := nx) (σ := Unit) (fun _ => ¬ (p.s ≤ 0 ∧ num ≤ x.veh)) (fun _ => [(0, .ptr jid jv 0), (3, .ptr nx v0 0), (4, I i), (5, I k), (6, L a), (7, L b)]) (fun _ => S) (fun _ => [.cells v0 185 [I p.a, I p.b, I p.s]]) ?_ ?_
 ·by_cases h4 : p.s ≤ 0
  ·by_cases h5 : num ≤ x.veh
   ·have hc : yq x num p i k a b = false := by simp [yq, h4, h5]
    repeat apply za
    refine pwY none (Row.pures [0, 1, 2, 3, 4, 5, 6, 7, 8, 9, 10, 11, 12, 13, 14] .done) mixed (jn5 xj hj h4 h5 zp) ?_
    intros
    repeat apply za
    refine zi rfl ?_
    repeat apply za
    exact zb ⟨_, S, rfl, hstay hc, zE hd⟩
   ·repeat apply za
    refine pwY none (Row.pures [0, 1, 2, 3, 4, 5, 6, 7, 8, 9, 10, 11, 12, 13, 14] .done) mixed (jn5 xj hj h4 h5 zp) ?_
    intros
    repeat apply za
    refine zk rfl ?_
    refine ze ?_
    exact zy () [] (by simp [h5]) (by simp) rfl (by simp)
  ·repeat apply za
   refine pwY none (Row.pures [0, 1, 2, 3, 4, 5, 6, 7, 8, 9, 10, 11, 12, 13, 14] .done) mixed (jn2 h4 zp) ?_
   intros
   repeat apply za
   refine zk rfl ?_
   refine ze ?_
   exact zy () [] (by simp [h4]) (by simp) rfl (by simp)
 intro _ h4
 have hcon := Zgn [a, b] (by simp) (by simp; omega) (by simp; omega)
 rw [show [a, b].flatten = a ++ b from by simp] at hcon
 repeat apply za
 refine pwn ?_
 refine pwc hcon ?_
 intros
 refine za ?_
 refine zX (nx := nx) (σ := Unit) (fun _ => zu x (a ++ b) = 0) (fun _ => [(0, .ptr jid jv 0), (3, .ptr nx v0 0), (4, I i), (5, I k), (6, L a), (7, L b), (8, L (a ++ b))]) (fun _ => S) (fun _ => [.cells v0 185 [I p.a, I p.b, I p.s]]) ?_ ?_
 ·repeat apply za
  refine pwN [] (jn2 xj hj) ?_
  refine pwc (Ye x (a ++ b) hx (by simp; omega)) ?_
  intros
  by_cases h5 : zu x (a ++ b) = 0
  ·repeat apply za
   refine zk (by simp [h5]) ?_
   refine ze ?_
   exact zy () [] h5 (by simp) rfl (by simp)
  ·have hc : yq x num p i k a b = false := by simp [yq, h5]
   repeat apply za
   refine zi (by simp [h5]) ?_
   repeat apply za
   exact zb ⟨_, S, rfl, hstay hc, zE hd⟩
 intro _ h5
 have h4' : (decide (p.s ≤ 0) && decide (num ≤ x.veh)) = false := Bool.eq_false_iff.2 fun q => h4 (by simpa using q)
 have hjoin : yq x num p i k a b = true := by unfold yq; rw [h4', hend, hhead, h2, h3, h5]; simp [h1]
 rw [hdef, hjoin]
 simp only [cond_true]
 have yj := fun (o : Ob) obs => (zB (S := S.set mid o) (obs := obs) hlj).trans ((Store.set_other _ _ _ _ d2).trans hj)
 have ym := fun (o : Ob) obs => (zB (S := S.set mid o) (obs := obs) hlm).trans (Store.set_same _ _ _)
 (repeat apply za); refine pwn ?_; intros
 repeat apply za
 refine zh (jn (σ := Nat × List (Value × PV)) (fun s => s.1 ≤ b.length ∧ MapIs yF I s.2 (gTo g b i s.1)) (fun s => [(0, .ptr jid jv 0), (4, I i), (5, I k), (8, L (a ++ b)), (90, L b), (91, I b.length), (92, I s.1)]) (fun s => S.set mid (.map mv s.2)) (fun _ => [.cells v0 185 [I p.a, I p.b, I p.s]]) (fun s => b.length - s.1) (zy (0, es) [] ⟨by simp, by rw [Zgq]; exact hm⟩ (by simp) (Zh S mid _ hmid) (by simp)) ?_)
 rintro ⟨j, es2⟩ ⟨hjl, hm2'⟩
 simp only at hjl hm2' ⊢
 (repeat apply za); refine pwn ?_; intros
 repeat apply za
 refine zn rfl (fun hq => ?_) (fun hq => ?_)
 ·simp at hq
  obtain ⟨s, tl, a1, a2, a3, e1, e0⟩ := el 2 rfl b j hq
  obtain ⟨rs, f1, _, _, f4, _⟩ := hm2'.find hkey s.c
  have hnew := f4 (i : Int)
  rw [Zgr a3] at hnew
  refine ze (za (zh ?_))
  repeat apply za
  refine pwN [] (jn3 e1 e0 hq) ?_
  intro v1
  repeat apply za
  refine xE (some [jid, nx + 1]) (Row.pures [0, 1, 2, 3, 4, 5, 6] (.alt 7 (.done) .stop)) mixed (by rfl) (by rfl) (by rfl) fun K Gp Gc Gh hK hGp hGc hGh X hX0 hX1 hX2 hX => ?_
  simp -implicitDefEqProofs [hX0, hX1, hX2, hX, yj]
  try clear hX0 hX1 hX2 hX X
  refine hGh _ _ _ _ _ (by rfl) (ZZ (.inl rfl) Tryz.underlying288 Tryz.underlying3 rfl rfl rfl (ym _ _) f1 ?_)
  rw [xQ _ hlm, Store.set_set]
  refine ⟨by simp [zW, yj], ?_⟩
  clear hGp hGc hGh
  clear Gp Gc Gh
  refine qS fun Gp Gc Gh hGp hGc hGh X hX0 hX1 hX2 hX => ?_
  simp -implicitDefEqProofs [hX0, hX1, hX2, hX]
  try clear hX0 hX1 hX2 hX X
  refine hK _ _ _ ?_
  clear hK hGp hGc hGh
  clear K Gp Gc Gh
  (repeat apply za); refine pwn ?_; intros
  exact zm (j + 1, qq (yF s.c) (I i) es2 rs) [_] ⟨hq, hnew⟩ (by simp; omega) (by simp [wrN j (by omega)]) rfl (by simp; rfl)
 ·simp at hq
  obtain rfl : j = b.length := by omega
  refine zo ?_
  have yt1 := fun (o : Ob) obs => (zB (S := S.set mid o) (obs := obs) hlt).trans ((Store.set_other _ _ _ _ d3).trans ht)
  have yt2 := fun (o o' : Ob) obs => (zB (S := (S.set mid o).set tid o') (obs := obs) hlt).trans (Store.set_same _ _ _)
  have yj2 := fun (o o' : Ob) obs => (zB (S := (S.set mid o).set tid o') (obs := obs) hlj).trans ((Store.set_other _ _ _ _ d1).trans ((Store.set_other _ _ _ _ d2).trans hj))
  have hlen1 : (T.flatMap Enc.enc).length = ss.length := by rw [jE, hTl]
  have hs1 := Xd (T.flatMap Enc.enc) i (L (a ++ b)) (by omega)
  have hs2 := Xd ((T.flatMap Enc.enc).set i (L (a ++ b))) k (.sc (.slice none 0 0)) (by simp; omega)
  have hlt1 : ¬ nx ≤ tid := by omega
  have hlj1 : ¬ nx ≤ jid := by omega
  have wn : IntKind.i64.wrap (num - 1) = num - 1 := wr _ (by omega) (by omega)
  repeat apply za
  repeat apply za
  refine pwY (some [jid]) (Row.pures [0, 1, 2, 3, 4, 5, 6, 7, 8, 9, 10, 11] (.alt 12 (Row.pures [13] (.alt 14 (.done) .stop)) .stop)) mixed (jn6 yj yt1 yt2 yj2 hs1 (jn6 hs2 hil2 hkl2 hlen1 hlt1 hTl)) ?_
  refine ⟨by omega, by omega, ?_⟩
  intros
  have hcs : ((((T.flatMap Enc.enc).set i (L (a ++ b))).set k (.sc (.slice none 0 0))).set k (.lst 0 [])) = ((T.set i (a ++ b)).set k []).flatMap Enc.enc := by
   rw [List.set_set, Zaf, Zaf, List.map_set, List.map_set]
   rfl
  refine Qw (o := tid) k (yt2 _ _ _) (by rw [List.getElem?_set_self (by simp; omega)]) ?_
  rw [xQ _ hlt, Store.set_set, hcs]
  generalize ((T.set i (a ++ b)).set k []).flatMap Enc.enc = cs' at *
  repeat apply za
  refine pwN [] (jn3 yj2 hlj1 wn) ?_
  intros
  have e1 : ∀ (o o' o'' : Ob), ((S.set mid o).set tid o').set jid o'' = ((S.set jid o'').set tid o').set mid o := by
   intro o o' o''
   rw [Store.set_comm _ jid tid _ _ (fun e => d1 e.symm), Store.set_comm _ jid mid _ _ (fun e => d2 e.symm), Store.set_comm _ tid mid _ _ (fun e => d3 e.symm)]
  rw [e1]
  have hdd : ∀ (o o' o'' : Ob), zO nx (((S.set jid o'').set tid o').set mid o) := by
   intro o o' o'' q hq
   rw [Store.set_other _ _ _ _ (by omega), Store.set_other _ _ _ _ (by omega), Store.set_other _ _ _ _ (by omega)]
   exact hd q hq
  exact ⟨_, _, rfl, ⟨es2, _, hm2', hI.join hia hkb h1, rfl⟩, zE (hdd _ _ _)⟩
end Go.Proofs.YtaiplainginmaaaGreat.Pv
