/- Part of a proof, packed. -/
import Derived.Test.YtcnbiofjmioaiaaGreatD5
set_option maxRecDepth 100000
set_option maxHeartbeats 3200000
namespace Go.Proofs.YtcnbiofjmioaiaaGreat.Pv
open Go Go.Proofs Hp
def yJ (c : Cust) (last d : Int) : Int × Int :=
 ((if last < 0 then c.start else c.size) - c.rate * ((if last < 0 then d else d - last).toNat : Int),
  Zv c ((List.range (if last < 0 then d else d - last).toNat).map fun (i : Nat) => (if last < 0 then c.start else c.size) - c.rate * ((i : Int) + 1)))
theorem Zcz (c : Cust) (last d : Int) (hc : CustFits c) (hl : -1 ≤ last ∧ last ≤ 64) (hd0 : 0 ≤ d ∧ d ≤ 64) : Pure Tryz.prog 189 [.agg (yd c), I last, I d] (.tup [I (yJ c last d).1, I (yJ c last d).2]) := by
 have h1 := hc.rate
 have h2 := hc.size
 have h3 := hc.start
 have w0 : IntKind.i64.wrap (d - last) = d - last := wr _ (by omega) (by omega)
 have key : yJ c last d = (let t0 := if last < 0 then c.start else c.size; let m := if last < 0 then d else d - last; (t0 - c.rate * (m.toNat : Int), Zv c ((List.range m.toNat).map fun (i : Nat) => t0 - c.rate * ((i : Int) + 1)))) := rfl
 rw [key]
 obtain ⟨t0, ht0⟩ : ∃ t0, t0 = if last < 0 then c.start else c.size := ⟨_, rfl⟩
 obtain ⟨m, hm⟩ : ∃ m, m = if last < 0 then d else d - last := ⟨_, rfl⟩
 have hb0 : 0 ≤ t0 ∧ t0 ≤ 2147483648 := by rw [ht0]; split <;> omega
 have hmb : -64 ≤ m ∧ m ≤ 65 := by rw [hm]; split <;> omega
 rw [← ht0, ← hm]
 clear key
 simp only
 refine zy Tryz.func189 Tryz.ntmps189 Tryz.results189 fun S nx hd => ?_
 repeat apply za
 refine zb ?_
 intro v0
 repeat apply za
 refine ze [] w0 ?_
 refine za ?_
 refine qK (nx := nx) (σ := Unit) (fun _ => True) (fun _ => [(3, .ptr nx v0 0), (8, I t0), (9, I m)]) (fun _ => S) (fun _ => [.cells v0 65 (yd c)]) ?_ ?_
 ·repeat apply za
  refine zb ?_
  by_cases h : last < 0
  ·rw [if_pos h] at ht0 hm
   refine zo (by simp [h]) ?_
   refine zb ?_
   exact zS () [] trivial (by simp [ht0, hm]) rfl (by simp)
  ·rw [if_neg h] at ht0 hm
   refine zp (by simp; omega) ?_
   refine zi ?_
   exact zS () [] trivial (by simp [ht0, hm]) rfl (by simp)
 intro _ _
 repeat apply za
 refine zb ?_
 refine za (jB 10 3 1 rfl fun v1 => ?_)
 repeat apply za
 refine zb ?_
 have hprod : ∀ k : Nat, k ≤ 65 → 0 ≤ c.rate * (k : Int) ∧ c.rate * (k : Int) ≤ 2147483648 * 65 := fun k hk => ⟨Int.mul_nonneg h1.1 (by omega), Int.mul_le_mul h1.2 (by omega) (by omega) (by omega)⟩
 refine zj (zM (fun s : Nat × Nat => s.1 ≤ m.toNat) (fun (k, w) => [(3, .ptr nx v0 0), (8, I (t0 - c.rate * (k : Int))), (10, .sl (nx + 1) w 1 0 ((List.range k).map fun (i : Nat) => t0 - c.rate * ((i : Int) + 1)).length), (21, I m), (22, I k)]) (fun (k, w) => [.cells v0 65 (yd c), .cells w 3 (((List.range k).map fun (i : Nat) => t0 - c.rate * ((i : Int) + 1)).flatMap Enc.enc)]) (fun s => m.toNat - s.1) (0, v1) [] (by simp) (by simp) (by simp) ?_)
 rintro ⟨k, w⟩ hk
 simp only at hk ⊢
 have hp := hprod k (by omega)
 have hp1 := hprod (k + 1)
 have hmul : c.rate * ((k : Int) + 1) = c.rate * (k : Int) + c.rate := by rw [Int.mul_add, Int.mul_one]
 have hrs : ((List.range (k + 1)).map fun (i : Nat) => t0 - c.rate * ((i : Int) + 1)) = ((List.range k).map fun (i : Nat) => t0 - c.rate * ((i : Int) + 1)) ++ [t0 - c.rate * ((k : Int) + 1)] := by simp [List.range_succ]
 have hl0 : ((List.range k).map fun (i : Nat) => t0 - c.rate * ((i : Int) + 1)).length = k := by simp
 generalize hls : ((List.range k).map fun (i : Nat) => t0 - c.rate * ((i : Int) + 1)) = ls at *
 by_cases hc1 : (k : Int) < m
 ·have w1 : IntKind.i64.wrap (t0 - c.rate * (k : Int) - c.rate) = t0 - c.rate * ((k : Int) + 1) := by rw [wr _ (by omega) (by omega)]; omega
  repeat apply za
  refine zb ?_
  repeat apply za
  refine zo (by simp [hc1]) ?_
  refine zi (za (zj ?_))
  repeat apply za
  refine ze [] w1 ?_
  refine zb ?_
  refine ⟨by omega, ?_⟩
  refine zb ?_
  exact zr (k + 1, w + 1) [] (by simp; omega) (by simp; omega) (by simp [zx k (by omega), hrs];) rfl (by simp [hrs])
 ·repeat apply za
  refine zb ?_
  repeat apply za
  refine zp (by simp; omega) ?_
  obtain rfl : k = m.toNat := by omega
  refine zC ?_
  refine yc 1 rfl ?_
  repeat apply za
  refine zb ?_
  refine zB (Wr c ls (by omega)) ?_
  exact zh (zk hd (by simp; rfl) (by simp [zn, hls]))
def uo (c : Cust) (st : List Visit × Int) (d : Int) : List Visit × Int := (st.1 ++ [⟨d, W (c.size - (yJ c st.2 d).1)⟩], d)
def qI (c : Cust) (ds : List Int) : List Visit × Int := ds.foldl (uo c) ([], -1)
theorem Jz (c : Cust) (ds : List Int) (d : Int) : qI c (ds ++ [d]) = uo c (qI c ds) d := by simp [qI]
theorem ZcA (c : Cust) : ∀ ds : List Int, (qI c ds).1.length = ds.length := by
 have : ∀ (ds : List Int) (st : List Visit × Int), (ds.foldl (uo c) st).1.length = st.1.length + ds.length := by
  intro ds
  induction ds with
  | nil => intro st; simp
  | cons d ds ih => intro st; rw [List.foldl_cons, ih]; simp [uo]; omega
 intro ds
 unfold qI; rw [this]; simp
theorem ZjW (c : Cust) (p : Nat) (hp : p < 2 ^ 64) (hc : CustFits c) : Pure Tryz.prog 193 [.agg (yd c), U p] (L (qI c (yA p 0 64)).1) := by
 have hall := WC p hp
 have hln := Qd p 0 64
 have hds : ∀ d ∈ yA p 0 64, 0 ≤ d ∧ d < 64 := fun d hd => by obtain ⟨i, h, h2, _⟩ := WB hd; omega
 generalize yA p 0 64 = ds at hall hln hds ⊢
 refine zy Tryz.func193 Tryz.ntmps193 Tryz.results193 fun S nx hd => ?_
 repeat apply za
 refine zb ?_
 intro v0
 repeat apply za
 refine zb ?_
 refine za (jB 5 85 2 rfl fun v1 => ?_)
 refine zb ?_
 repeat apply za
 refine zb ?_
 refine zB hall ?_
 have hlast : ∀ k, -1 ≤ (qI c (ds.take k)).2 ∧ (qI c (ds.take k)).2 ≤ 64 := by
  intro k
  induction k with
  | zero => simp [qI]
  | succ k ih =>
   by_cases h : k < ds.length
   ·rw [List.take_succ_eq_append_getElem h, Jz]
    have := hds ds[k] (List.getElem_mem h)
    simp only [uo]; omega
   ·rw [List.take_of_length_le (by omega)] at ih ⊢
    exact ih
 refine zj (zM (fun s : Nat × Nat => s.1 ≤ ds.length) (fun (k, w) => [(2, .ptr nx v0 0), (5, .sl (nx + 1) w 2 0 (qI c (ds.take k)).1.length), (6, I (qI c (ds.take k)).2), (12, L ds), (13, I ds.length), (14, I k)]) (fun (k, w) => [.cells v0 65 (yd c), .cells w 85 ((qI c (ds.take k)).1.flatMap Enc.enc)]) (fun s => ds.length - s.1) (0, v1) [] (by simp) (by simp [qI]) (by simp [qI]) ?_)
 rintro ⟨k, w⟩ hk
 simp only at hk ⊢
 have hl1 := hlast k
 have hfl : (qI c (ds.take k)).1.length = k := by rw [ZcA]; simp; omega
 repeat apply za
 refine zb ?_
 repeat apply za
 refine zt rfl (fun hc1 => ?_) (fun hc1 => ?_)
 ·simp at hc1
  obtain ⟨d, tl, a1, a2, a3, e0⟩ := zI rfl ds k hc1
  have hd1 := hds d (List.mem_of_getElem? a1)
  have hsn := Jz c (ds.take k) d
  rw [← a3] at hsn
  generalize qI c (ds.take k) = st at *
  obtain ⟨out, last⟩ := st
  simp only [uo] at hl1 hfl hsn ⊢
  have hr := Zcz c last d hc hl1 (by omega)
  generalize yJ c last d = r at hr hsn
  obtain ⟨th, he⟩ := r
  simp only at hr hsn
  refine zi (za (zj ?_))
  repeat apply za
  refine ze [] (zm e0 hc1) ?_
  repeat apply za
  refine zb ?_
  refine zB hr ?_
  repeat apply za
  refine zb ?_
  refine ⟨by omega, ?_⟩
  refine zb ?_
  refine zb ?_
  exact zr (k + 1, w + 1) [] hc1 (by simp; omega) (by simp [zx k (by omega), hsn]) rfl (by simp [hsn])
 ·simp at hc1
  obtain rfl : k = ds.length := by omega
  rw [List.take_length]
  refine zC ?_
  refine yc 1 rfl ?_
  repeat apply za
  refine zb ?_
  exact zh (zk hd (by simp; rfl) rfl)
structure Stp where
 r : Bool
 k : Int
 l : Int
 deriving DecidableEq
instance : Inhabited Stp := ⟨⟨false, 0, 0⟩⟩
instance : Enc Stp := ⟨fun s => [B s.r, I s.k, I s.l], 3, fun _ => rfl, fun _ => rfl⟩
@[simp] theorem Zoo (s : Stp) : Enc.enc s = [B s.r, I s.k, I s.l] := rfl
@[simp high] theorem ZjX (l : List Stp) : (l.flatMap Enc.enc).length = l.length * 3 := jf l
@[simp high] theorem Zop (l : List Stp) : (l.flatMap Enc.enc).take (l.length * 3) = l.flatMap Enc.enc := uc l
def zs : Stp := ⟨false, 0, 0⟩
def Zz (c : Cust) (n : Nat) (cap : Int) (price : List Int) (tab : List Stp) (d : Nat) (last : Int) : Int :=
 let k1 := if 0 ≤ last then W ((yJ c last d).2 + (tab.getD last.toNat zs).k) else (yJ c last d).2
 if d < n then W (k1 + Yl price d) else k1
def uP (c : Cust) (n : Nat) (cap : Int) (tab : List Stp) (d : Nat) (last : Int) : Prop :=
 ¬ (0 ≤ last ∧ tab.getD last.toNat zs = zs) ∧ ¬ ((yJ c last d).1 < 0 ∨ (d < n ∧ xl c (yJ c last d).1 cap = 0))
instance (c : Cust) (n : Nat) (cap : Int) (tab : List Stp) (d : Nat) (last : Int) : Decidable (uP c n cap tab d last) := by unfold uP; exact inferInstance
def Qh (c : Cust) (n : Nat) (cap : Int) (price : List Int) (tab : List Stp) (d : Nat) (best : Stp) (last : Int) : Stp :=
 if uP c n cap tab d last then (if best = zs ∨ Zz c n cap price tab d last < best.k then ⟨true, Zz c n cap price tab d last, last⟩ else best) else best
def ju (c : Cust) (n : Nat) (cap : Int) (price : List Int) (tab : List Stp) (d : Nat) (j : Nat) : Stp := (List.range j).foldl (fun b (i : Nat) => Qh c n cap price tab d b ((i : Int) - 1)) zs
theorem ZcB (c : Cust) (n : Nat) (cap : Int) (price : List Int) (tab : List Stp) (d : Nat) (j : Nat) : ju c n cap price tab d (j + 1) = Qh c n cap price tab d (ju c n cap price tab d j) ((j : Int) - 1) := by simp [ju, List.range_succ]
def qA (c : Cust) (n : Nat) (cap : Int) (price : List Int) : Nat → List Stp
 | 0 => []
 | k + 1 => qA c n cap price k ++ [ju c n cap price (qA c n cap price k) k (k + 1)]
theorem Qi (c : Cust) (n : Nat) (cap : Int) (price : List Int) : ∀ k, (qA c n cap price k).length = k
 | 0 => rfl
 | k + 1 => by simp [qA, Qi c n cap price k]
def xQ (tab : List Stp) : Nat → Nat → Int → Nat
 | 0, s, _ => s
 | f + 1, s, d => if d < 0 then s else xQ tab f (wB s d) (tab.getD d.toNat zs).l
def uQ (c : Cust) (n : Nat) (cap : Int) (price : List Int) : List Visit × Bool :=
 if (qA c n cap price (n + 1)).getD n zs = zs then ([], false)
 else ((qI c (yA (xQ (qA c n cap price (n + 1)) 65 0 ((qA c n cap price (n + 1)).getD n zs).l) 0 64)).1, true)
def ZjY (tab : List Stp) : Prop := ∀ (d : Nat) (e : Stp), tab[d]? = some e → e = zs ∨ (e.r = true ∧ -1 ≤ e.l ∧ e.l < d ∧ (0 ≤ e.l → tab.getD e.l.toNat zs ≠ zs))
theorem JA (c : Cust) (n : Nat) (cap : Int) (price : List Int) (tab : List Stp) (d : Nat) : ∀ j : Nat, ju c n cap price tab d j = zs ∨ ((ju c n cap price tab d j).r = true ∧ -1 ≤ (ju c n cap price tab d j).l ∧ (ju c n cap price tab d j).l + 1 < j ∧ uP c n cap tab d (ju c n cap price tab d j).l)
 | 0 => .inl rfl
 | j + 1 => by
  have ih := JA c n cap price tab d j
  rw [ZcB]
  unfold Qh
  split
  ·rename_i hok
   split
   ·exact .inr ⟨rfl, by dsimp only; omega, by dsimp only; omega, hok⟩
   ·rcases ih with ih | ⟨h1, h2, h3, h4⟩
    ·exact .inl ih
    ·exact .inr ⟨h1, h2, by omega, h4⟩
  ·rcases ih with ih | ⟨h1, h2, h3, h4⟩
   ·exact .inl ih
   ·exact .inr ⟨h1, h2, by omega, h4⟩
theorem WH (c : Cust) (n : Nat) (cap : Int) (price : List Int) : ∀ k, ZjY (qA c n cap price k)
 | 0 => by intro d e h; cases h
 | k + 1 => by
  have ih := WH c n cap price k
  have hl := Qi c n cap price k
  have he := JA c n cap price (qA c n cap price k) k (k + 1)
  intro d e h
  simp only [qA] at h ⊢
  have hget : ∀ (i : Nat), i < k → (qA c n cap price k ++ [ju c n cap price (qA c n cap price k) k (k + 1)]).getD i zs = (qA c n cap price k).getD i zs := by
   intro i hi
   rw [List.getD_eq_getElem?_getD, List.getD_eq_getElem?_getD, List.getElem?_append_left (by omega)]
  by_cases hd : d < k
  ·rw [List.getElem?_append_left (by omega)] at h
   rcases ih d e h with q | ⟨q1, q2, q3, q4⟩
   ·exact .inl q
   ·refine .inr ⟨q1, q2, q3, fun q => ?_⟩
    rw [hget _ (by omega)]; exact q4 q
  ·rw [List.getElem?_append_right (by omega), hl] at h
   obtain rfl : d = k := by
    rcases Nat.lt_or_ge (d - k) 1 with q | q
    ·omega
    ·rw [List.getElem?_eq_none (by simpa using q)] at h; cases h
   rw [Nat.sub_self] at h
   simp only [List.getElem?_cons_zero, Option.some.injEq] at h
   subst h
   rcases he with q | ⟨q1, q2, q3, q4⟩
   ·exact .inl q
   ·refine .inr ⟨q1, q2, by omega, fun q => ?_⟩
    rw [hget _ (by omega)]
    exact fun hz => q4.1 ⟨q, hz⟩
open Go Go.Proofs Hp
def yQ (tab : List Stp) (b : Stp) : List Stp := tab ++ b :: List.replicate (64 - tab.length) zs
theorem ZcC (tab : List Stp) (b : Stp) (h : tab.length ≤ 64) : (yQ tab b).length = 65 := by simp [yQ]; omega
theorem JB (tab : List Stp) (b : Stp) (i : Nat) (h : i < tab.length) : (yQ tab b)[i]? = some (tab.getD i zs) := by
 unfold yQ
 rw [List.getElem?_append_left h, List.getD_eq_getElem?_getD, List.getElem?_eq_getElem h]; rfl
theorem ZjZ (tab : List Stp) (b : Stp) : (yQ tab b)[tab.length]? = some b := by
 unfold yQ
 rw [List.getElem?_append_right (Nat.le_refl _)]; simp
theorem Zj0 (tab : List Stp) (b e : Stp) : (yQ tab b).set tab.length e = yQ tab e := by
 unfold yQ
 rw [List.set_append_right _ _ (Nat.le_refl _)]; simp
theorem Zj1 (tab : List Stp) (b : Stp) (h : tab.length < 64) : yQ tab b = yQ (tab ++ [b]) zs := by
 unfold yQ
 rw [List.append_assoc, List.length_append, List.length_singleton, show 64 - tab.length = (64 - (tab.length + 1)) + 1 from by omega, List.replicate_succ]
 rfl
@[simp] theorem Zoq : Program.zeroOf Tryz.prog 260 = some (.agg #[.bool false, .int .i64 0, .int .i64 0, .bool false, .int .i64 0, .int .i64 0, .bool false, .int .i64 0, .int .i64 0, .bool false, .int .i64 0, .int .i64 0, .bool false, .int .i64 0, .int .i64 0, .bool false, .int .i64 0, .int .i64 0, .bool false, .int .i64 0, .int .i64 0, .bool false, .int .i64 0, .int .i64 0, .bool false, .int .i64 0, .int .i64 0, .bool false, .int .i64 0, .int .i64 0, .bool false, .int .i64 0, .int .i64 0, .bool false, .int .i64 0, .int .i64 0, .bool false, .int .i64 0, .int .i64 0, .bool false, .int .i64 0, .int .i64 0, .bool false, .int .i64 0, .int .i64 0, .bool false, .int .i64 0, .int .i64 0, .bool false, .int .i64 0, .int .i64 0, .bool false, .int .i64 0, .int .i64 0, .bool false, .int .i64 0, .int .i64 0, .bool false, .int .i64 0, .int .i64 0, .bool false, .int .i64 0, .int .i64 0, .bool false, .int .i64 0, .int .i64 0, .bool false, .int .i64 0, .int .i64 0, .bool false, .int .i64 0, .int .i64 0, .bool false, .int .i64 0, .int .i64 0, .bool false, .int .i64 0, .int .i64 0, .bool false, .int .i64 0, .int .i64 0, .bool false, .int .i64 0, .int .i64 0, .bool false, .int .i64 0, .int .i64 0, .bool false, .int .i64 0, .int .i64 0, .bool false, .int .i64 0, .int .i64 0, .bool false, .int .i64 0, .int .i64 0, .bool false, .int .i64 0, .int .i64 0, .bool false, .int .i64 0, .int .i64 0, .bool false, .int .i64 0, .int .i64 0, .bool false, .int .i64 0, .int .i64 0, .bool false, .int .i64 0, .int .i64 0, .bool false, .int .i64 0, .int .i64 0, .bool false, .int .i64 0, .int .i64 0, .bool false, .int .i64 0, .int .i64 0, .bool false, .int .i64 0, .int .i64 0, .bool false, .int .i64 0, .int .i64 0, .bool false, .int .i64 0, .int .i64 0, .bool false, .int .i64 0, .int .i64 0, .bool false, .int .i64 0, .int .i64 0, .bool false, .int .i64 0, .int .i64 0, .bool false, .int .i64 0, .int .i64 0, .bool false, .int .i64 0, .int .i64 0, .bool false, .int .i64 0, .int .i64 0, .bool false, .int .i64 0, .int .i64 0, .bool false, .int .i64 0, .int .i64 0, .bool false, .int .i64 0, .int .i64 0, .bool false, .int .i64 0, .int .i64 0, .bool false, .int .i64 0, .int .i64 0, .bool false, .int .i64 0, .int .i64 0, .bool false, .int .i64 0, .int .i64 0, .bool false, .int .i64 0, .int .i64 0, .bool false, .int .i64 0, .int .i64 0, .bool false, .int .i64 0, .int .i64 0, .bool false, .int .i64 0, .int .i64 0, .bool false, .int .i64 0, .int .i64 0, .bool false, .int .i64 0, .int .i64 0, .bool false, .int .i64 0, .int .i64 0, .bool false, .int .i64 0, .int .i64 0, .bool false, .int .i64 0, .int .i64 0]) := by kernel_rfl
theorem WI {α : Type} [Enc α] : ∀ (l : List α) (k : Nat), (l.flatMap Enc.enc).take (k * Enc.sz α) = (l.take k).flatMap Enc.enc
 | [], k => by simp
 | a :: l, 0 => by simp
 | a :: l, k + 1 => by
  have ih := WI l k
  rw [List.flatMap_cons, List.take_succ_cons, List.flatMap_cons, Nat.add_mul, Nat.one_mul, List.take_append, Enc.len, ← ih, Nat.add_sub_cancel, List.take_of_length_le (by rw [Enc.len]; omega)]
theorem Zj2 {α : Type} [Enc α] (n : Nat) (hn : Enc.sz α = n) (l : List α) (k : Nat) (v : α) (h : k < l.length) : zX (l.flatMap Enc.enc) (k * n) (Enc.enc v) = (l.set k v).flatMap Enc.enc := by
 subst hn
 have h1 := Xa h
 have h2 : (l.flatMap Enc.enc).drop (k * Enc.sz α + Enc.sz α) = (l.drop (k + 1)).flatMap Enc.enc := by
  rw [← List.drop_drop, h1, List.drop_append, List.drop_of_length_le (by rw [Enc.len]; exact Nat.le_refl _), Enc.len, Nat.sub_self]
  simp
 rw [zX, Enc.len, WI, h2, List.set_eq_take_append_cons_drop, if_pos h]
 simp
theorem ZcD (tab : List Stp) : ∀ (f s : Nat) (d : Int), s < 2 ^ 64 → xQ tab f s d < 2 ^ 64
 | 0, _, _, h => h
 | f + 1, s, d, h => by
  unfold xQ
  split
  ·exact h
  ·exact ZcD tab f _ _ (ZbV _ _ h)
theorem Zj3 (tab : List Stp) (f s : Nat) {d : Int} (h : d < 0) : xQ tab f s d = s := by
 cases f with
 | zero => rfl
 | succ f => unfold xQ; rw [if_pos h]
theorem Zj4 {S : Store} {pl : PV} {price : List Int} (c : Cust) (n : Nat) (cap : Int) (hR : RowOf S pl price) (hc : CustFits c) (hn : n ≤ 60) :
  Spec Tryz.prog 152 [.agg (yd c), I n, I cap, pl] S (fun q S' => q = .tup [L (uQ c n cap price).1, B (uQ c n cap price).2] ∧ S' = S) := by
 have hmin : wK (n : Int) 64 = n := by unfold wK; split <;> omega
 have hmax : jW (n : Int) 0 = n := by unfold jW; split <;> omega
 have hpr := fun S (h : RowOf S pl price) d => Zct d h
 have hrest := fun (last d : Int) (h1 : -1 ≤ last ∧ last ≤ 64) (h2 : 0 ≤ d ∧ d ≤ 64) => Zcz c last d hc h1 h2
 have hmost := fun (th : Int) (h : -4611686018427387904 ≤ th ∧ th ≤ 4611686018427387904) => WE c th cap hc.size h
 unfold uQ
 refine yH Tryz.func152 Tryz.ntmps152 Tryz.results152 fun nx hd => ?_
 repeat apply za
 refine zb ?_
 intro v0
 repeat apply za
 refine ze [] (zm hmin hmax) ?_
 repeat apply za
 refine zb ?_
 intro v1
 have hw : IntKind.i64.wrap ((n : Int) + 1) = ((n + 1 : Nat) : Int) := zx n (by omega)
 repeat apply za
 refine ze [] hw ?_
 refine zj (zM (fun d : Nat => d ≤ n + 1) (fun d => [(1, I n), (2, I cap), (3, pl), (4, .ptr nx v0 0), (10, .ptr (nx + 1) v1 0), (22, I (n + 1 : Nat)), (23, I d)]) (fun d => [.cells v0 65 (yd c), .cells v1 260 ((yQ (qA c n cap price d) zs).flatMap Enc.enc)]) (fun d => n + 1 - d) 0 [] (by simp) (by simp) (by simp [qA]; rfl) ?_)
 rintro d hd1
 have htl := Qi c n cap price d
 have htok := WH c n cap price d
 have htn : qA c n cap price (d + 1) = qA c n cap price d ++ [ju c n cap price (qA c n cap price d) d (d + 1)] := rfl
 by_cases hdn : d < n + 1
 case neg =>
  obtain rfl : d = n + 1 := by omega
  clear htn
  generalize qA c n cap price (n + 1) = tab at *
  have hml := ZcC tab zs (by omega)
  obtain ⟨s, tl, a1, -, -, e1, e0⟩ := el 3 rfl (yQ tab zs) n (by omega)
  have hs : tab.getD n zs = s := by have := JB tab zs n (by omega); rw [a1] at this; exact (Option.some.inj this).symm
  have hs2 : tab[n]? = some s := by rw [← hs, List.getD_eq_getElem?_getD, List.getElem?_eq_getElem (by omega)]; rfl
  have e12 := e1 2 (by omega)
  have hn65 : (n : Int) < 65 := by omega
  have z1 : 3 ≤ 195 - n * 3 := by omega
  have z2 : 1 ≤ 195 - (n * 3 + 2) := by omega
  rw [hs]
  repeat apply za
  refine zb ?_
  repeat apply za
  refine zp (by simp) ?_
  refine zC ?_
  rcases htok n s hs2 with q | ⟨hr, hl1, hl2, hl3⟩
  ·subst q
   rw [if_pos rfl]
   have e0' : ((yQ tab zs).flatMap Enc.enc).drop (n * 3) = [B false, I 0, I 0] ++ tl := e0
   repeat apply za
   refine ze [] (ye e0' hn65 hml z1) ?_
   refine zo rfl ?_
   repeat apply za
   refine zb ?_
   refine ux 8 rfl ?_
   exact zh ⟨_, S, rfl, ⟨by simp [zn], rfl⟩, zW hd⟩
  ·have hne : s ≠ zs := fun e => by rw [e] at hr; cases hr
   rw [if_neg hne]
   obtain ⟨sr, sk, sl⟩ := s
   simp only at hr hl1 hl2 hl3 ⊢
   subst hr
   repeat apply za
   refine ze [] (ye e0 hn65 hml z1) ?_
   refine zp rfl ?_
   refine zi ?_
   repeat apply za
   refine zb ?_
   repeat apply za
   refine ze [] (ye e12 hn65 hml z2) ?_
   generalize hres : xQ tab 65 0 sl = res
   have hrlt : res < 2 ^ 64 := hres ▸ ZcD tab 65 0 sl (by decide)
   have hfil := ZjW c res hrlt hc
   generalize (qI c (yA res 0 64)).1 = vv at hfil ⊢
   refine zj (zM (fun st : Nat × Nat × Int => xQ tab st.1 st.2.1 st.2.2 = res ∧ -1 ≤ st.2.2 ∧ st.2.2 < st.1 ∧ st.2.2 < n ∧ st.2.1 < 2 ^ 64 ∧ (0 ≤ st.2.2 → tab.getD st.2.2.toNat zs ≠ zs)) (fun (f, s, l) => [(4, .ptr nx v0 0), (10, .ptr (nx + 1) v1 0), (16, U s), (17, I l)]) (fun _ => [.cells v0 65 (yd c), .cells v1 260 ((yQ tab zs).flatMap Enc.enc)]) (fun st => st.1) (65, 0, sl) [] ⟨hres, hl1, by dsimp only; omega, by dsimp only; omega, by show (0 : Nat) < 2 ^ 64; decide, hl3⟩ (by simp) (by simp) ?_)
   rintro ⟨f, s, l⟩ ⟨p1, p2, p3, p4, p5, p6⟩
   simp only at p1 p2 p3 p4 p5 p6 ⊢
   by_cases hl : l < 0
   ·have hl' : ¬ 0 ≤ l := by omega
    rw [Zj3 tab f s hl] at p1
    subst p1
    repeat apply za
    refine ze [] hl' ?_
    refine zp rfl ?_
    refine zC ?_
    repeat apply za
    refine zb ?_
    refine zB hfil ?_
    exact zh ⟨_, S, (by simp; rfl), ⟨by simp [zn], rfl⟩, zW hd⟩
   ·have hl' : 0 ≤ l := by omega
    obtain ⟨i, rfl⟩ := Int.eq_ofNat_of_zero_le hl'
    obtain ⟨f, rfl⟩ : ∃ g, f = g + 1 := ⟨f - 1, by omega⟩
    have p6 := p6 hl'
    rw [Int.toNat_natCast] at p6
    have hi : i < tab.length := by omega
    obtain ⟨e, tl2, b1, -, -, f1, f0⟩ := el 3 rfl (yQ tab zs) i (by omega)
    have he : tab.getD i zs = e := by have := JB tab zs i hi; rw [b1] at this; exact (Option.some.inj this).symm
    have he2 : tab[i]? = some e := by rw [← he, List.getD_eq_getElem?_getD, List.getElem?_eq_getElem hi]; rfl
    have f12 := f1 2 (by omega)
    have hi65 : (i : Int) < 65 := by omega
    have y2 : 1 ≤ 195 - (i * 3 + 2) := by omega
    rw [he] at p6
    rcases htok i e he2 with q | ⟨er, el1', el2', el3'⟩
    ·exact absurd q p6
    have p1' : xQ tab f (wB s i) e.l = res := by
     rw [← p1]; unfold xQ; rw [if_neg (by omega), Int.toNat_natCast, he]
     cases f <;> rfl
    repeat apply za
    refine ze [] hl' ?_
    refine zo rfl ?_
    refine zi (za (zj ?_))
    refine zb ?_
    refine zB (ZiM s i p5) ?_
    refine ze [] (ye f12 hi65 hml y2) ?_
    exact zr (f, wB s i, e.l) [] ⟨p1', el1', by dsimp only; omega, by dsimp only; omega, ZbV _ _ p5, el3'⟩ (by simp) (by simp) rfl (by simp)
 generalize qA c n cap price d = tab at *
 repeat apply za
 refine zb ?_
 repeat apply za
 refine zo (by simp; omega) ?_
 refine zi (za (zj ?_))
 repeat apply za
 refine zb ?_
 repeat apply za
 refine zb ?_
 refine zj (zM (fun j : Nat => j ≤ d + 1) (fun j => [(1, I n), (2, I cap), (3, pl), (4, .ptr nx v0 0), (10, .ptr (nx + 1) v1 0), (11, I d), (12, I ((j : Int) - 1)), (22, I (n + 1 : Nat)), (23, I d)]) (fun j => [.cells v0 65 (yd c), .cells v1 260 ((yQ tab (ju c n cap price tab d j)).flatMap Enc.enc)]) (fun j => d + 1 - j) 0 [] (by simp) (by simp) (by simp [ju]) ?_)
 rintro j hj
 have hesucc := ZcB c n cap price tab d j
 have heok := JA c n cap price tab d j
 have hdd : ju c n cap price tab d (d + 1) = ju c n cap price tab d (d + 1) := rfl
 by_cases hjd : j < d + 1
 case neg =>
  obtain rfl : j = d + 1 := by omega
  repeat apply za
  refine zb ?_
  refine zp (by simp) ?_
  refine zC ?_
  refine zb ?_
  exact zr (d + 1) [] hdn (by omega) (by simp [zx d (by omega)]) rfl (by rw [htn, ← Zj1 tab _ (by omega)]; simp)
 clear hdd htn
 generalize ju c n cap price tab d j = b at *
 obtain ⟨last, hlast⟩ : ∃ last : Int, last = (j : Int) - 1 := ⟨_, rfl⟩
 rw [← hlast] at hesucc ⊢
 have hwl : IntKind.i64.wrap (last + 1) = ((j + 1 : Nat) : Int) - 1 := by rw [wr _ (by omega) (by omega)]; omega
 have hml := ZcC tab b (by omega)
 have hd65 : (d : Int) < 65 := by omega
 have zd3 : 3 ≤ 195 - d * 3 := by omega
 have zd1 : 1 ≤ 195 - (d * 3 + 1) := by omega
 have hr := hrest last d (by omega) (by omega)
 have hrbd : -4611686018427387904 ≤ (yJ c last d).1 ∧ (yJ c last d).1 ≤ 4611686018427387904 := by
  have h1 := hc.rate
  have h2 := hc.size
  have h3 := hc.start
  unfold yJ
  simp only
  have hp : 0 ≤ c.rate * ((if last < 0 then (d : Int) else d - last).toNat : Int) ∧ c.rate * ((if last < 0 then (d : Int) else d - last).toNat : Int) ≤ 2147483648 * 65 :=
   ⟨Int.mul_nonneg h1.1 (by omega), Int.mul_le_mul h1.2 (by split <;> omega) (by omega) (by omega)⟩
  generalize c.rate * ((if last < 0 then (d : Int) else d - last).toNat : Int) = pp at hp ⊢
  split <;> omega
 have hm := hmost _ hrbd
 have hks : ∀ (k1 : Int), k1 = (if 0 ≤ last then W ((yJ c last d).2 + (tab.getD last.toNat zs).k) else (yJ c last d).2) → Zz c n cap price tab d last = if d < n then W (k1 + Yl price d) else k1 := fun k1 h => by unfold Zz; rw [h]
 have hokd : uP c n cap tab d last = (¬ (0 ≤ last ∧ tab.getD last.toNat zs = zs) ∧ ¬ ((yJ c last d).1 < 0 ∨ (d < n ∧ xl c (yJ c last d).1 cap = 0))) := rfl
 have hstay : ¬ uP c n cap tab d last → ju c n cap price tab d (j + 1) = b := fun h => by rw [hesucc]; unfold Qh; rw [if_neg h]
 have hgo : uP c n cap tab d last → ju c n cap price tab d (j + 1) = if b = zs ∨ Zz c n cap price tab d last < b.k then ⟨true, Zz c n cap price tab d last, last⟩ else b := fun h => by rw [hesucc]; unfold Qh; rw [if_pos h]
 clear hesucc
 generalize yJ c last d = rr at hr hm hks hokd
 obtain ⟨th, he⟩ := rr
 simp only at hr hm hks hokd
 generalize xl c th cap = mo at hm hokd
 generalize uP c n cap tab d last = OK at hokd hstay hgo
 generalize Zz c n cap price tab d last = kk at hks hgo
 generalize hb'e : ju c n cap price tab d (j + 1) = b' at hstay hgo
 subst hokd
 repeat apply za
 refine zb ?_
 refine zo (by simp; omega) ?_
 refine zi (za (zj ?_))
 refine za ?_
 refine qK (nx := nx) (σ := Unit) (fun _ => ¬ (0 ≤ last ∧ tab.getD last.toNat zs = zs)) (fun _ => [(1, I n), (2, I cap), (3, pl), (4, .ptr nx v0 0), (10, .ptr (nx + 1) v1 0), (11, I d), (12, I last), (22, I (n + 1 : Nat)), (23, I d)]) (fun _ => S) (fun _ => [.cells v0 65 (yd c), .cells v1 260 ((yQ tab b).flatMap Enc.enc)]) ?_ ?_
 ·by_cases hl : 0 ≤ last
  ·obtain ⟨i, hi⟩ := Int.eq_ofNat_of_zero_le hl
   have hit : i < tab.length := by omega
   obtain ⟨e, tl2, b1, -, -, -, f0⟩ := el 3 rfl (yQ tab b) i (by omega)
   have hee : tab.getD i zs = e := by have := JB tab b i hit; rw [b1] at this; exact (Option.some.inj this).symm
   have he2 : tab[i]? = some e := by rw [← hee, List.getD_eq_getElem?_getD, List.getElem?_eq_getElem hit]; rfl
   have hi65 : (i : Int) < 65 := by omega
   have y3 : 3 ≤ 195 - i * 3 := by omega
   have hlt : last.toNat = i := by omega
   rcases htok i e he2 with q | ⟨er, -, -, -⟩
   ·subst q
    have f0' : ((yQ tab b).flatMap Enc.enc).drop (i * 3) = [B false, I 0, I 0] ++ tl2 := f0
    have hb' := hstay fun h => h.1 ⟨hl, by rw [hlt]; exact hee⟩
    subst hb'
    subst hi
    repeat apply za
    refine ze [(2, 33)] (qv hl f0' hi65 hml y3) ?_
    refine zo rfl ?_
    refine zC ?_
    refine ze [] hwl ?_
    exact zr (j + 1) [] (by omega) (by omega) (by simp) rfl (by simp [hb'e])
   ·obtain ⟨r1, r2, r3⟩ := e
    simp only at er
    subst er
    subst hi
    repeat apply za
    refine ze [(2, 33)] (qv hl f0 hi65 hml y3) ?_
    refine zp rfl ?_
    refine zi ?_
    exact zS () [] (by rw [hlt, hee]; rintro ⟨-, q⟩; cases q) (by simp) rfl (by simp)
  ·repeat apply za
   refine ze [(2, 33)] (zm hl zL) ?_
   refine zp rfl ?_
   refine zi ?_
   exact zS () [] (fun q => hl q.1) (by simp) rfl (by simp)
 intro _ hA
 repeat apply za
 refine zb ?_
 refine zB hr ?_
 refine za ?_
 refine qK (nx := nx) (σ := Unit) (fun _ => ¬ (th < 0 ∨ (d < n ∧ mo = 0))) (fun _ => [(1, I n), (2, I cap), (3, pl), (4, .ptr nx v0 0), (10, .ptr (nx + 1) v1 0), (11, I d), (12, I last), (14, I he), (22, I (n + 1 : Nat)), (23, I d)]) (fun _ => S) (fun _ => [.cells v0 65 (yd c), .cells v1 260 ((yQ tab b).flatMap Enc.enc)]) ?_ ?_
 ·by_cases h1 : th < 0
  ·have hb' := hstay fun h => h.2 (.inl h1)
   subst hb'
   repeat apply za
   refine ze [(2, 49), (6, 53)] (zm h1 zL) ?_
   refine zo rfl ?_
   refine zC ?_
   refine ze [] hwl ?_
   exact zr (j + 1) [] (by omega) (by omega) (by simp) rfl (by simp [hb'e])
  ·by_cases h2 : d < n
   ·by_cases h3 : mo = 0
    ·have hb' := hstay fun h => h.2 (.inr ⟨h2, h3⟩)
     subst hb'
     repeat apply za
     refine ze [(2, 49), (6, 53)] (zJ h1 h2 h3) ?_
     refine jg [(2, 49), (6, 53)] hm (zJ h1 h2 h3) ?_
     refine zo rfl ?_
     refine zC ?_
     refine ze [] hwl ?_
     exact zr (j + 1) [] (by omega) (by omega) (by simp) rfl (by simp [hb'e])
    ·repeat apply za
     refine ze [(2, 49), (6, 53)] (zJ h1 h2 h3) ?_
     refine jg [(2, 49), (6, 53)] hm (zJ h1 h2 h3) ?_
     refine zp rfl ?_
     refine zi ?_
     exact zS () [] (by omega) (by simp) rfl (by simp)
   ·repeat apply za
    refine ze [(2, 49), (6, 53)] (zJ h1 h2 zL) ?_
    refine zp rfl ?_
    refine zi ?_
    exact zS () [] (by omega) (by simp) rfl (by simp)
 intro _ hB
 have hgo := hgo ⟨hA, hB⟩
 clear hstay hm hr
 repeat apply za
 refine zb ?_
 intro v2
 obtain ⟨k1, hk1⟩ : ∃ k1, k1 = (if 0 ≤ last then W (he + (tab.getD last.toNat zs).k) else he) := ⟨_, rfl⟩
 have hks := hks k1 hk1
 refine za ?_
 refine qK (nx := nx) (σ := Unit) (fun _ => True) (fun _ => [(1, I n), (2, I cap), (3, pl), (4, .ptr nx v0 0), (10, .ptr (nx + 1) v1 0), (11, I d), (12, I last), (15, .ptr (nx + 2) v2 0), (22, I (n + 1 : Nat)), (23, I d)]) (fun _ => S) (fun _ => [.cells v0 65 (yd c), .cells v1 260 ((yQ tab b).flatMap Enc.enc), .cells v2 259 [B true, I k1, I last]]) ?_ ?_
 ·repeat apply za
  refine zb ?_
  by_cases hl : 0 ≤ last
  ·rw [if_pos hl] at hk1
   obtain ⟨i, hi⟩ := Int.eq_ofNat_of_zero_le hl
   have hit : i < tab.length := by omega
   obtain ⟨e, tl2, b1, -, -, f1, f0⟩ := el 3 rfl (yQ tab b) i (by omega)
   have hee : tab.getD i zs = e := by have := JB tab b i hit; rw [b1] at this; exact (Option.some.inj this).symm
   have f11 := f1 1 (by omega)
   have hi65 : (i : Int) < 65 := by omega
   have y1 : 1 ≤ 195 - (i * 3 + 1) := by omega
   have hlt : last.toNat = i := by omega
   rw [hlt, hee] at hk1
   subst hi
   refine zo (by simp) ?_
   refine zD (some [nx + 1]) (Row.pures [0, 2, 3, 4, 5] (.alt 1 (Row.pures [6, 7] (.alt 8 (.done) .stop)) .stop)) mixed (ye f11 hi65 hml y1) ?_
   exact zS () [] trivial (by simp) rfl (by simp [hk1])
  ·rw [if_neg hl] at hk1
   refine zp (by simp; omega) ?_
   refine zi ?_
   exact zS () [] trivial (by simp) rfl (by simp [hk1])
 intro _ _
 clear hk1
 refine za ?_
 refine qK (nx := nx) (σ := Unit) (fun _ => True) (fun _ => [(1, I n), (2, I cap), (3, pl), (4, .ptr nx v0 0), (10, .ptr (nx + 1) v1 0), (11, I d), (12, I last), (15, .ptr (nx + 2) v2 0), (22, I (n + 1 : Nat)), (23, I d)]) (fun _ => S) (fun _ => [.cells v0 65 (yd c), .cells v1 260 ((yQ tab b).flatMap Enc.enc), .cells v2 259 [B true, I kk, I last]]) ?_ ?_
 ·repeat apply za
  refine zb ?_
  by_cases h2 : d < n
  ·rw [if_pos h2] at hks
   refine zo (by simp [h2]) ?_
   refine wP (some [nx + 1]) (Row.pures [0, 2, 3] (.alt 1 (.alt 4 (Row.pures [5, 6] (.alt 7 (.done) .stop)) .stop) (.alt 4 (.alt 1 (Row.pures [5, 6] (.alt 7 (.done) .stop)) .stop) .stop))) mixed (by rfl) (by rfl) (by rfl) fun K Gp Gc Gh hK hGp hGc hGh X hX0 hX1 hX2 hX => ?_
   simp -implicitDefEqProofs [hX0, hX1, hX2, hX]
   try clear hX0 hX1 hX2 hX X
   refine ⟨?_, ?_⟩
   ·refine hGc _ _ _ _ _ _ _ (((hpr _ (hR.ext hd _) _).mono ?_).v)
    rintro _ _ ⟨rfl, rfl⟩
    refine ⟨by simp [yl], ?_⟩
    clear hGp hGc hGh
    clear Gp Gc Gh
    refine jA fun Gp Gc Gh hGp hGc hGh X hX0 hX1 hX2 hX => ?_
    simp -implicitDefEqProofs [hX0, hX1, hX2, hX]
    try clear hX0 hX1 hX2 hX X
    refine hK _ _ _ ?_
    clear hK hGp hGc hGh
    clear K Gp Gc Gh
    exact zS () [] trivial (by simp) rfl (by simp [hks])
   ·refine hGc _ _ _ _ _ _ _ (((hpr _ (hR.ext hd _) _).mono ?_).v)
    rintro _ _ ⟨rfl, rfl⟩
    refine ⟨by simp [yl], ?_⟩
    clear hGp hGc hGh
    clear Gp Gc Gh
    refine jA fun Gp Gc Gh hGp hGc hGh X hX0 hX1 hX2 hX => ?_
    simp -implicitDefEqProofs [hX0, hX1, hX2, hX]
    try clear hX0 hX1 hX2 hX X
    refine hK _ _ _ ?_
    clear hK hGp hGc hGh
    clear K Gp Gc Gh
    exact zS () [] trivial (by simp) rfl (by simp [hks])
  ·rw [if_neg h2] at hks
   refine zp (by simp; omega) ?_
   refine zi ?_
   exact zS () [] trivial (by simp) rfl (by simp [hks])
 intro _ _
 clear hks
 obtain ⟨e, tl2, b1, -, -, f1, f0⟩ := el 3 rfl (yQ tab b) d (by omega)
 have hee : b = e := by have := ZjZ tab b; rw [htl, b1] at this; exact (Option.some.inj this).symm
 subst hee
 have f11 := f1 1 (by omega)
 have hsp := Zj2 3 rfl (yQ tab b) d ⟨true, kk, last⟩ (by omega)
 have hms := Zj0 tab b ⟨true, kk, last⟩
 rw [htl] at hms
 rw [hms] at hsp
 have hsp' : zX ((yQ tab b).flatMap Enc.enc) (d * 3) [B true, I kk, I last] = (yQ tab ⟨true, kk, last⟩).flatMap Enc.enc := hsp
 clear hsp hms
 have hmf : ((yQ tab b).flatMap Enc.enc : List PV).length = 195 := by rw [ZjX, hml]
 rcases heok with q | ⟨hbr, -, -, -⟩
 ·subst q
  rw [if_pos (.inl rfl)] at hgo
  subst hgo
  have f0' : ((yQ tab zs).flatMap Enc.enc).drop (d * 3) = [B false, I 0, I 0] ++ tl2 := f0
  repeat apply za
  refine zD none (Row.pures [0, 1, 2, 3, 4, 5, 6, 7, 8, 9, 10, 11, 12, 13] .done) mixed (qv f0' hd65 hml zd3 zL) ?_
  refine zo rfl ?_
  refine ze [] (ye hd65 hmf hsp' hml) ?_
  refine ⟨by omega, ?_⟩
  refine ze [] hwl ?_
  exact zr (j + 1) [_] (by omega) (by omega) (by simp) rfl (by simp [hb'e]; rfl)
 ·obtain ⟨r1, r2, r3⟩ := b
  simp only at hbr
  subst hbr
  have hnz : ¬ ((⟨true, r2, r3⟩ : Stp) = zs) := fun e => by cases e
  by_cases hlt : kk < r2
  ·rw [if_pos (.inr hlt)] at hgo
   subst hgo
   repeat apply za
   refine zD none (Row.pures [0, 1, 2, 3, 4, 5, 6, 7, 8, 9, 10, 11, 12, 13] .done) mixed (yg f0 f11 hd65 hml zd3 (zm zd1 hlt)) ?_
   refine zo rfl ?_
   refine ze [] (ye hd65 hmf hsp' hml) ?_
   refine ⟨by omega, ?_⟩
   refine ze [] hwl ?_
   exact zr (j + 1) [_] (by omega) (by omega) (by simp) rfl (by simp [hb'e]; rfl)
  ·rw [if_neg (by rintro (q | q); exact hnz q; exact hlt q)] at hgo
   subst hgo
   repeat apply za
   refine zD none (Row.pures [0, 1, 2, 3, 4, 5, 6, 7, 8, 9, 10, 11, 12, 13] .done) mixed (yg f0 f11 hd65 hml zd3 (zm zd1 hlt)) ?_
   refine zp rfl ?_
   refine zi ?_
   refine ze [] hwl ?_
   exact zr (j + 1) [_] (by omega) (by omega) (by simp) rfl (by simp [hb'e]; rfl)
open Go Go.Proofs Hp
section
variable {P : Program} {r : Rd} {n N : Nat} {Q : Exit → (Nat → PV) → Store → Prop} {F : Nat → PV} {c : Code}
theorem Zj5 {S : Store} {nx : Nat} {obs : List Ob} (j : Nat) {ver e : Nat} {cs : List PV} (hj : obs[j]? = some (.cells ver e cs)) {id v e2 : Nat} {ds : List PV} (hlt : id < nx) (hs : S id = .cells v e2 ds)
  (h : PW P r n N c Q F (ext (S.set id (.cells v e2 (ds.map (yG (nx + j) ver cs)))) nx (obs.set j .dead))) : PW P r n N c Q F (ext S nx obs) := by
 have hjl : j < obs.length := (List.getElem?_eq_some_iff.1 hj).1
 refine Zjd (id := nx + j) (ver := ver) (e := e) (cs := cs) (G := F) (by rw [yC, List.getD_eq_getElem?_getD, hj]; rfl) (by rw [yC, List.getD_eq_getElem?_getD, List.getElem?_set_self hjl]; rfl) (fun o => ?_) (fun _ => .inl rfl) h
 by_cases ho : o < nx
 ·rw [zE ho, zE ho]
  by_cases hoi : o = id
  ·subst hoi; rw [Store.set_same, hs]; exact .inr (.inr rfl)
  ·rw [Store.set_other _ _ _ _ hoi]; exact .inr (.inl rfl)
 ·simp only [ext]
  rw [if_neg ho, if_neg ho, List.getD_eq_getElem?_getD, List.getD_eq_getElem?_getD, List.getElem?_set]
  split
  ·simp [hjl]
  ·exact .inr (.inl rfl)
theorem JC {S T : Store} {nx nz : Nat} {obs : List Ob} (hd : zR nx S) (hle : nx ≤ nz) (h : ∀ o, o < nx → T o = S o) (o : Nat) : S o = ext T nz obs o ∨ S o = .dead := by
 by_cases ho : o < nx
 ·rw [zE (by omega), h o ho]; exact .inl rfl
 ·exact .inr (hd o (by omega))
end
def wE (x : Inst) (sol : Cust → List Int → List Visit × Bool) (b : Int) (n : Nat) : Nat → List (List Int) → zu × Int
 | 0, _ => ([], 15)
 | k + 1, pr =>
  if (yK x sol pr).2 ≠ 0 then ([], 15)
  else if xB (qf x (yK x sol pr).1 b n) = 0 then (jn x (yK x sol pr).1 b n, 0)
  else if (qf x (yK x sol pr).1 b n).any vN = true then ([], 15)
  else wE x sol b n k (Yi (qf x (yK x sol pr).1 b n) pr n)
def ZA (x : Inst) (sol : Cust → List Int → List Visit × Bool) (b : Int) (n : Nat) : zu × Int := wE x sol b n 8 (qy x n 0)
def ZcE (x : Inst) (n : Nat) (sol : Cust → List Int → List Visit × Bool) : Prop := ∀ pr, wC x.cust.length n pr → (yK x sol pr).2 = 0 → VsOk x.cust.length n (yK x sol pr).1
theorem Zj6 {x : Inst} {sol : Cust → List Int → List Visit × Bool} {b : Int} {n : Nat} (hx : InstH x) (hn : x.days = n) (hn2 : n ≤ 1000) (hs : WA x n sol) (hv : ZcE x n sol) (hb : b ≤ 9223372036854775807) :
  Pure Tryz.prog 31 [.agg (zA x), I b] (.tup [.agg [L (ZA x sol b n).1], I (ZA x sol b n).2]) := by
 have hm := hx.cust
 unfold ZA
 have hPo := Zcm x n
 refine zy Tryz.func31 Tryz.ntmps31 Tryz.results31 fun S nx hd => ?_
 repeat apply za
 refine zb ?_
 intro v0 v1
 repeat apply za
 refine zD (some [nx]) (Row.pures [0, 1, 2, 3, 4] (.alt 5 (Row.pures [6] (.alt 7 (Row.pures [8] .done) .stop)) .stop)) mixed trivial ?_
 refine ⟨by omega, ?_⟩
 intro v2 v3
 rw [Zjk]
 refine Zjf (α := Int) (nx + 2) v2 45 (nx + 4) 3 1 x.cust.length (by simp) (jz (obs := [_, _, _, _])) fun T ws hR hT hdT => ?_
 have hT0 : T nx = .cells v0 25 (zA x) := by rw [hT nx (by omega) (by omega)]; simp
 have hT1 : T (nx + 1) = .cells v1 38 [.sc (.slice none 0 0)] := by rw [hT (nx + 1) (by omega) (by omega)]; simp
 have hT3 : T (nx + 3) = .cells v3 89 (jo x (.sc (.slice none 0 0)) b (.sc (.slice none 0 0)) (.sc (.slice none 0 0)) (.sl (nx + 2) v2 1 0 x.cust.length)) := by rw [hT (nx + 3) (by omega) (by omega)]; simp
 have hTS : ∀ o, o < nx → T o = S o := fun o ho => by rw [hT o (by omega) (by omega), zE ho]
 clear hT
 obtain ⟨nz, hnz⟩ : ∃ nz, nz = nx + 4 + x.cust.length := ⟨_, rfl⟩
 rw [← hnz] at hdT
 rw [show List.replicate x.cust.length ([] : List Int) = qy x 0 0 from (List.ext_getElem? fun j => by
  by_cases h : j < x.cust.length
  ·simp [qy, h]
  ·rw [List.getElem?_eq_none (by simp; omega), List.getElem?_eq_none (by rw [vK]; omega)])] at hR
 rw [← yV hdT]
 repeat apply za
 refine zQ [] (by rfl) (by rfl) fun K Gc Gh hK hGc hGh X hX0 hX => ?_
 simp -implicitDefEqProofs [hX0, hX]
 try clear hX0 hX X
 refine hGc _ _ _ _ _ _ _ fun hsuf => (Spec.mono (Zcj (nx := nz) (by rw [yV hdT]; exact hdT) x _ _ _ _ _ _ _ n hn hn2 (by rw [yV hdT]; exact hT3)
  (fun k T' => (∃ ws', RowsAt T' (nx + 2) v2 45 (nx + 4) 3 1 ws' (qy x k 0)) ∧ (∀ o, o ≠ nx + 2 → (o < nx + 4 ∨ nx + 4 + x.cust.length ≤ o) → T' o = T o)) ⟨⟨ws, by rw [yV hdT]; exact hR⟩, fun o _ _ => by rw [yV hdT]⟩
  (fun k T' h o ho => by rw [h.2 o (by omega) (.inr (by omega))]; exact hdT o ho) (fun k hk T' h => ?_)) ?_).v
 ·obtain ⟨⟨ws', h1⟩, h2⟩ := h
  refine (Zjp k hm (by omega) (by omega) (by omega) ((h2 (nx + 3) (by omega) (.inl (by omega))).trans hT3) h1).mono ?_
  rintro _ T2 ⟨g1, g2⟩
  exact ⟨g1, fun o o1 o2 => (g2 o o1 o2).trans (h2 o o1 o2)⟩
 rintro _ T' ⟨⟨ws', hR'⟩, hT'⟩
 have hdT' : zR nz T' := fun o ho => by rw [hT' o (by omega) (.inr (by omega))]; exact hdT o ho
 refine ⟨T', [], (yV hdT').symm, ?_⟩
 clear hGc hGh
 clear Gc Gh
 refine zP hsuf (D := []) (by rfl) fun Gc Gh hGc hGh X hX0 hX => ?_
 simp -implicitDefEqProofs [hX0, hX]
 clear hX0 hX X
 refine hK _ _ _ ?_
 clear hK hGc hGh
 clear K Gc Gh
 replace hT0 := (hT' nx (by omega) (.inl (by omega))).trans hT0
 replace hT1 := (hT' (nx + 1) (by omega) (.inl (by omega))).trans hT1
 replace hT3 := (hT' (nx + 3) (by omega) (.inl (by omega))).trans hT3
 replace hTS : ∀ o, o < nx → T' o = S o := fun o ho => (hT' o (by omega) (.inl (by omega))).trans (hTS o ho)
 clear hT' hR hdT
 generalize qy x n 0 = pr0 at *
 repeat apply za
 refine zb ?_
 refine zj (qP (σ := Nat × Store × List (List Int)) (fun s => s.1 ≤ 8 ∧ wC x.cust.length n s.2.2 ∧ wE x sol b n 8 pr0 = wE x sol b n (8 - s.1) s.2.2 ∧ (∃ ws', RowsAt s.2.1 (nx + 2) v2 45 (nx + 4) 3 1 ws' s.2.2) ∧ s.2.1 nx = .cells v0 25 (zA x) ∧ s.2.1 (nx + 1) = .cells v1 38 [.sc (.slice none 0 0)] ∧
  (∃ vP pP fP, s.2.1 (nx + 3) = .cells v3 89 (jo x vP b pP fP (.sl (nx + 2) v2 1 0 x.cust.length))) ∧ (∀ o, o < nx → s.2.1 o = S o) ∧ zR nz s.2.1)
  (fun s => [(2, .ptr nx v0 0), (4, .ptr (nx + 1) v1 0), (6, .ptr (nx + 3) v3 0), (21, I s.1)]) (fun s => s.2.1) (fun _ => []) (fun s => 8 - s.1) (zS (0, T', pr0) [] ⟨by simp, hPo, rfl, ⟨ws', hR'⟩, hT0, hT1, ⟨_, _, _, hT3⟩, hTS, hdT'⟩ (by simp) rfl (by simp)) ?_)
 clear hR' hT0 hT1 hT3 hTS hdT' hPo T'
 rintro ⟨k, T, pr⟩ ⟨hk, hP, hst, ⟨ws, hR⟩, hT0, hT1, ⟨vP, pP, fP, hT3⟩, hTS, hdT⟩
 simp only at hk hP hst hR hT0 hT1 hT3 hTS hdT ⊢
 have x0 := fun obs => (zE (S := T) (nx := nz) (obs := obs) (i := nx) (by omega)).trans hT0
 have x3 := fun obs => (zE (S := T) (nx := nz) (obs := obs) (i := nx + 3) (by omega)).trans hT3
 have g1 : ¬ nz ≤ nx + 1 := by omega
 have x1 := fun obs => (zE (S := T) (nx := nz) (obs := obs) (i := nx + 1) (by omega)).trans hT1
 repeat apply za
 refine zb ?_
 repeat apply za
 refine zt rfl (fun hc => ?_) (fun hc => ?_)
 ·simp at hc
  rw [show 8 - k = (7 - k) + 1 from by omega] at hst
  have hvs := hv pr hP
  have hch := Zjz (S := T) hm hP hR hs
  rw [show wE x sol b n (7 - k + 1) pr = (if (yK x sol pr).2 ≠ 0 then ([], 15) else if xB (qf x (yK x sol pr).1 b n) = 0 then (jn x (yK x sol pr).1 b n, 0) else if (qf x (yK x sol pr).1 b n).any vN = true then ([], 15) else wE x sol b n (7 - k) (Yi (qf x (yK x sol pr).1 b n) pr n)) from rfl] at hst
  generalize yK x sol pr = cz at hst hvs hch
  obtain ⟨v, e⟩ := cz
  simp only at hst hvs hch
  refine zi (za (zj ?_))
  repeat apply za
  refine wP none (Row.pures [0, 1, 2, 3, 4] (.alt 5 (Row.pures [6, 7, 8, 9, 10] .done) .stop)) mixed (by rfl) (by rfl) (by rfl) fun K Gp Gc Gh hK hGp hGc hGh X hX0 hX1 hX2 hX => ?_
  simp -implicitDefEqProofs [hX0, hX1, hX2, hX, x0, x3]
  try clear hX0 hX1 hX2 hX X
  refine hGc _ _ _ _ _ _ _ (Spec.mono (by rw [yV hdT]; exact hch) ?_).v
  rintro _ S2 ⟨rfl, hS2⟩
  have hS3 : S2 = ext T nz [] := hS2.trans (yV hdT).symm
  subst hS3
  clear hS2
  refine ⟨by simp [yl], ?_⟩
  clear hGp hGc hGh
  clear Gp Gc Gh
  refine jA fun Gp Gc Gh hGp hGc hGh X hX0 hX1 hX2 hX => ?_
  simp -implicitDefEqProofs [hX0, hX1, hX2, hX]
  try clear hX0 hX1 hX2 hX X
  refine hK _ _ _ ?_
  clear hK hGp hGc hGh
  clear K Gp Gc Gh
  repeat apply za
  refine zb ?_
  by_cases he : e = 0
  case neg =>
   rw [if_pos he] at hst
   rw [hst]
   refine zo (by simp [he]) ?_
   repeat apply za
   refine ze [] (zJ x0 x1 g1) ?_
   show PW _ _ _ _ _ _ _ (ext _ _ _)
   refine Jd (o := nx + 1) 0 (by rw [zE (by omega)]; first | exact Store.set_same _ _ _ | exact hT1) rfl ?_
   rw [jM _ (by omega)]
   try rw [Store.set_set]
   refine zh ⟨_, S, (by simp [zE (show nx + 1 < nz from by omega), Store.set_same]; rfl), ⟨by simp [zn], rfl⟩, ?_⟩
   exact JC hd (by omega) fun o ho => by rw [Store.set_other _ _ _ _ (by omega)]; exact hTS o ho
  rw [if_neg (by simpa using he)] at hst
  have hvs := hvs he
  refine zp (by simp [he]) ?_
  refine zi ?_
  repeat apply za
  refine zQ [] (by rfl) (by rfl) fun K Gc Gh hK hGc hGh X hX0 hX => ?_
  simp -implicitDefEqProofs [hX0, hX]
  try clear hX0 hX X
  refine hGc _ _ _ _ _ _ _ fun hsuf => (Spec.mono (Zjj (nx := nz) (n := n) (by rw [yV hdT]; exact hdT) (by rw [yV hdT]; exact hT3) hx hn hn2 hvs hb) ?_).v
  rintro _ _ ⟨rfl, vD, vF, rfl⟩
  rw [yV hdT]
  refine ⟨_, _, rfl, ?_⟩
  clear hGc hGh
  clear Gc Gh
  refine zP hsuf (D := []) (by rfl) fun Gc Gh hGc hGh X hX0 hX => ?_
  simp -implicitDefEqProofs [hX0, hX]
  clear hX0 hX X
  refine hK _ _ _ ?_
  clear hK hGc hGh
  clear K Gc Gh
  have hfl := Zb9 x v b n
  have hpl := Wv x v b n
  generalize qf x v b n = fs at *
  generalize jn x v b n = pl at *
  by_cases hf : xB fs = 0
  ·rw [if_pos hf] at hst
   rw [hst]
   refine zo (by simp [hf]) ?_
   show PW _ _ _ _ _ _ _ (ext _ _ _)
   refine Zj5 0 (id := nx + 3) rfl (by omega) (Store.set_same _ _ _) ?_
   rw [Store.set_set]
   have hfz : ([I x.days, I x.veh, I x.cap, I x.len, L x.cust, L x.dist, L v, I b, .sl nz vD 1 0 pl.length, .sl (nz + 1) vF 1 0 fs.length, .sl (nx + 2) v2 1 0 x.cust.length] : List PV).map (yG (nz + 0) vD (pl.flatMap Enc.enc)) = jo x (L v) b (L pl) (.sl (nz + 1) vF 1 0 fs.length) (.sl (nx + 2) v2 1 0 x.cust.length) := by
    simp [yG]
    omega
   rw [hfz]
   have y3 := fun (o : Ob) obs => (zE (S := T.set (nx + 3) o) (nx := nz) (obs := obs) (i := nx + 3) (by omega)).trans (Store.set_same _ _ _)
   have y1 := fun (o : Ob) obs => (zE (S := T.set (nx + 3) o) (nx := nz) (obs := obs) (i := nx + 1) (by omega)).trans ((Store.set_other _ _ _ _ (by omega)).trans hT1)
   repeat apply za
   refine ze [] (zJ y3 y1 g1) ?_
   refine zh ⟨_, S, (by simp [zE (show nx + 1 < nz from by omega), Store.set_same]; rfl), ⟨by simp [zn], rfl⟩, ?_⟩
   exact JC hd (by omega) fun o ho => by rw [Store.set_other _ _ _ _ (by omega), Store.set_other _ _ _ _ (by omega)]; exact hTS o ho
  rw [if_neg hf] at hst
  refine zp (by simp [hf]) ?_
  refine zi ?_
  have y3 := fun (o : Ob) obs => (zE (S := T.set (nx + 3) o) (nx := nz) (obs := obs) (i := nx + 3) (by omega)).trans (Store.set_same _ _ _)
  have y1 := fun (o : Ob) obs => (zE (S := T.set (nx + 3) o) (nx := nz) (obs := obs) (i := nx + 1) (by omega)).trans ((Store.set_other _ _ _ _ (by omega)).trans hT1)
  repeat apply za
  refine zQ [] (by rfl) (by rfl) fun K Gc Gh hK hGc hGh X hX0 hX => ?_
  simp -implicitDefEqProofs [hX0, hX, y3]
  try clear hX0 hX X
  refine hGc _ _ _ _ _ _ _ fun hsuf => ((Zjx (idF := nz + 1) (vF := vF) fs (by rw [yC]; rfl) (by omega)).mono ?_).v
  rintro _ _ ⟨rfl, rfl⟩
  refine ⟨_, _, rfl, ?_⟩
  clear hGc hGh
  clear Gc Gh
  refine zP hsuf (D := []) (by rfl) fun Gc Gh hGc hGh X hX0 hX => ?_
  simp -implicitDefEqProofs [hX0, hX]
  clear hX0 hX X
  refine hK _ _ _ ?_
  clear hK hGc hGh
  clear K Gc Gh
  cases hbad : fs.any vN with
  | true =>
   rw [if_pos hbad] at hst
   rw [hst]
   refine zo rfl ?_
   repeat apply za
   refine ze [] (zm y1 g1) ?_
   show PW _ _ _ _ _ _ _ (ext _ _ _)
   refine Jd (o := nx + 1) 0 (by rw [zE (by omega)]; first | exact Store.set_same _ _ _ | exact (Store.set_other _ _ _ _ (by omega)).trans hT1) rfl ?_
   rw [jM _ (by omega)]
   try rw [Store.set_set]
   refine zh ⟨_, S, (by simp [zE (show nx + 1 < nz from by omega), Store.set_same]; rfl), ⟨by simp [zn], rfl⟩, ?_⟩
   exact JC hd (by omega) fun o ho => by rw [Store.set_other _ _ _ _ (by omega), Store.set_other _ _ _ _ (by omega)]; exact hTS o ho
  | false =>
   rw [if_neg (by rw [hbad]; decide)] at hst
   refine zp rfl ?_
   refine zi ?_
   generalize hT2 : ext (T.set (nx + 3) (.cells v3 89 (jo x (L v) b (.sl nz vD 1 0 pl.length) (.sl (nz + 1) vF 1 0 fs.length) (.sl (nx + 2) v2 1 0 x.cust.length)))) nz [.cells vD 58 (pl.flatMap Enc.enc), .cells vF 39 (fs.flatMap Enc.enc)] = T2
   have q3 : T2 (nx + 3) = .cells v3 89 (jo x (L v) b (.sl nz vD 1 0 pl.length) (.sl (nz + 1) vF 1 0 fs.length) (.sl (nx + 2) v2 1 0 x.cust.length)) := by rw [← hT2, zE (by omega), Store.set_same]
   have qF : T2 (nz + 1) = .cells vF 39 (fs.flatMap Enc.enc) := by rw [← hT2, yC]; rfl
   have qo : ∀ o, o < nz → o ≠ nx + 3 → T2 o = T o := fun o h1 h2 => by rw [← hT2, zE h1, Store.set_other _ _ _ _ h2]
   have qd : zR (nz + 2) T2 := by rw [← hT2]; exact jz (obs := [_, _])
   have qR : RowsAt T2 (nx + 2) v2 45 (nx + 4) 3 1 ws pr := hR.other fun o ho => by
    rw [hP.1] at ho
    exact qo o (by omega) (by omega)
   clear hT2
   rw [← yV qd]
   refine zQ [] (by rfl) (by rfl) fun K Gc Gh hK hGc hGh X hX0 hX => ?_
   simp -implicitDefEqProofs [hX0, hX]
   try clear hX0 hX X
   refine hGc _ _ _ _ _ _ _ fun hsuf => (Spec.mono (Zcj (nx := nz + 2) (by rw [yV qd]; exact qd) x _ _ _ _ _ _ _ n hn hn2 (by rw [yV qd]; exact q3)
    (fun k T' => RowsAt T' (nx + 2) v2 45 (nx + 4) 3 1 ws (Yi fs pr k) ∧ (∀ o, (o < nx + 4 ∨ nx + 4 + x.cust.length ≤ o) → T' o = T2 o)) ⟨by rw [yV qd]; exact qR, fun o _ => by rw [yV qd]⟩
    (fun k T' h o ho => by rw [h.2 o (.inr (by omega))]; exact qd o ho) (fun j hj T' h => ?_)) ?_).v
   ·obtain ⟨h1, h2⟩ := h
    refine (Zju (n := n) j hm hn2 hj (by omega) (by omega) ((h2 (nz + 1) (.inr (by omega))).trans qF) hfl ((h2 (nx + 3) (.inl (by omega))).trans q3) (Qf fs hP j) h1).mono ?_
    rintro _ T3 ⟨r1, r2⟩
    exact ⟨r1, fun o o1 => (r2 o o1).trans (h2 o o1)⟩
   rintro _ T3 ⟨hR3, hT3'⟩
   have hd3 : zR (nz + 2) T3 := fun o ho => by rw [hT3' o (.inr (by omega))]; exact qd o ho
   refine ⟨T3, [], (yV hd3).symm, ?_⟩
   clear hGc hGh
   clear Gc Gh
   refine zP hsuf (D := []) (by rfl) fun Gc Gh hGc hGh X hX0 hX => ?_
   simp -implicitDefEqProofs [hX0, hX]
   clear hX0 hX X
   refine hK _ _ _ ?_
   clear hK hGc hGh
   clear K Gc Gh
   rw [yV hd3]
   refine VE (T' := fun o => if o < nz then T3 o else .dead) (fun o => by by_cases ho : o < nz <;> simp [ho]) ?_
   generalize hT4 : (fun o => if o < nz then T3 o else Ob.dead) = T4
   have q4 : ∀ o, o < nz → T4 o = T3 o := fun o ho => by rw [← hT4]; simp [ho]
   have qd4 : zR nz T4 := fun o ho => by rw [← hT4]; simp; omega
   clear hT4
   rw [← yV qd4]
   refine zb ?_
   refine zr (k + 1, T4, Yi fs pr n) [] ⟨by dsimp only; omega, Qf fs hP n, by rw [hst, show 8 - (k + 1) = 7 - k from by omega], ⟨ws, hR3.other fun o ho => q4 o (by rw [(Qf fs hP n).1] at ho; omega)⟩, ?_, ?_, ⟨L v, .sl nz vD 1 0 pl.length, .sl (nz + 1) vF 1 0 fs.length, ?_⟩, fun o ho => ?_, qd4⟩ (by simp; omega) (by simp [zx k (by omega)]) rfl (by simp)
   ·dsimp only; rw [q4 _ (by omega), hT3' _ (.inl (by omega)), qo _ (by omega) (by omega)]; exact hT0
   ·dsimp only; rw [q4 _ (by omega), hT3' _ (.inl (by omega)), qo _ (by omega) (by omega)]; exact hT1
   ·dsimp only; rw [q4 _ (by omega), hT3' _ (.inl (by omega))]; exact q3
   ·dsimp only; rw [q4 _ (by omega), hT3' _ (.inl (by omega)), qo _ (by omega) (by omega)]; exact hTS o ho
 ·simp at hc
  obtain rfl : k = 8 := by omega
  rw [hst]
  refine zC ?_
  repeat apply za
  refine ze [] (zm x1 g1) ?_
  show PW _ _ _ _ _ _ _ (ext _ _ _)
  refine Jd (o := nx + 1) 0 (by rw [zE (by omega)]; first | exact Store.set_same _ _ _ | exact hT1) rfl ?_
  rw [jM _ (by omega)]
  try rw [Store.set_set]
  refine zh ⟨_, S, (by simp [zE (show nx + 1 < nz from by omega), Store.set_same]; rfl), ⟨by simp [zn, wE], rfl⟩, ?_⟩
  exact JC hd (by omega) fun o ho => by rw [Store.set_other _ _ _ _ (by omega)]; exact hTS o ho
open Go Go.Proofs Hp
def wg : List Int → Int
 | [] => -1
 | d :: ds => (d :: ds).getLast (by simp)
theorem Qj (ds : List Int) (d : Int) : wg (ds ++ [d]) = d := by
 cases ds with
 | nil => rfl
 | cons a ds => show (a :: (ds ++ [d])).getLast _ = d; rw [List.getLast_cons (by simp), List.getLast_append_of_ne_nil _ (by simp)]; rfl
def ZcF (c : Cust) (cap : Int) (last d : Int) : Prop := 0 ≤ (yJ c last d).1 ∧ xl c (yJ c last d).1 cap ≠ 0
inductive FilS (c : Cust) (cap : Int) (n : Nat) : List Int → Prop where
 | nil : FilS c cap n []
 | snoc {ds : List Int} {d : Int} (h : FilS c cap n ds) (h1 : wg ds < d) (h2 : d < n) (h3 : ZcF c cap (wg ds) d) : FilS c cap n (ds ++ [d])
theorem FilS.lo {c : Cust} {cap : Int} {n : Nat} {ds : List Int} (h : FilS c cap n ds) : -1 ≤ wg ds ∧ (∀ d ∈ ds, 0 ≤ d ∧ d < n ∧ d ≤ wg ds) := by
 induction h with
 | nil => exact ⟨by decide, by simp⟩
 | snoc h h1 h2 h3 ih =>
  rw [Qj]
  refine ⟨by omega, fun d hd => ?_⟩
  rcases List.mem_append.1 hd with hd | hd
  ·have := ih.2 d hd; omega
  ·rw [List.mem_singleton.1 hd]; omega
theorem FilS.inc {c : Cust} {cap : Int} {n : Nat} {ds : List Int} (h : FilS c cap n ds) : ds.Pairwise (· < ·) := by
 induction h with
 | nil => exact .nil
 | snoc h h1 h2 h3 ih =>
  rw [List.pairwise_append]
  refine ⟨ih, by simp, fun a ha b hb => ?_⟩
  rw [List.mem_singleton.1 hb]
  have := h.lo.2 a ha; omega
theorem Zj7 (c : Cust) (ds : List Int) : (qI c ds).2 = wg ds := by
 rcases List.eq_nil_or_concat ds with rfl | ⟨l, d, rfl⟩
 ·rfl
 ·rw [List.concat_eq_append, Jz, Qj]; rfl
theorem Zj8 (c : Cust) : ∀ ds : List Int, (qI c ds).1.map (·.d) = ds := by
 have : ∀ (ds : List Int) (st : List Visit × Int), (ds.foldl (uo c) st).1.map (·.d) = st.1.map (·.d) ++ ds := by
  intro ds
  induction ds with
  | nil => intro st; simp
  | cons d ds ih => intro st; rw [List.foldl_cons, ih]; simp [uo]
 intro ds
 unfold qI; rw [this]; simp
theorem Zj9 {c : Cust} (hc : CustFits c) {cap last d : Int} (h : ZcF c cap last d) : W (c.size - (yJ c last d).1) = c.size - (yJ c last d).1 ∧ 1 ≤ c.size - (yJ c last d).1 ∧ c.size - (yJ c last d).1 ≤ 2147483648 ∧ (c.rule = 1 → c.size - (yJ c last d).1 ≤ cap) := by
 obtain ⟨h1, h2⟩ := h
 have hs := hc.size
 generalize (yJ c last d).1 = th at *
 unfold xl at h2
 split at h2
 ·exact absurd rfl h2
 rename_i h3
 refine ⟨wr _ (by omega) (by omega), by omega, by omega, fun hr => ?_⟩
 split at h2
 ·assumption
 ·first | exact absurd rfl h2 | exact absurd hr (by assumption) | (rw [if_pos hr] at h2; exact absurd rfl h2)
theorem Zka {c : Cust} (hc : CustFits c) {cap : Int} {n : Nat} (hn : n ≤ 60) {ds : List Int} (h : FilS c cap n ds) : GoodV n (qI c ds).1 := by
 have hlen : ds.length ≤ 64 := by
  have h1 := Zcr (m := n) ds (h.inc.imp fun h => Int.ne_of_lt h) (fun d hd => by have := h.lo.2 d hd; omega)
  omega
 refine ⟨by rw [ZcA]; exact hlen, ?_, by rw [Zj8]; exact h.inc.imp fun h => Int.ne_of_lt h⟩
 induction h with
 | nil => intro s hs; cases hs
 | @snoc ds d h h1 h2 h3 ih =>
  intro s hs
  rw [Jz] at hs
  simp only [uo] at hs
  rcases List.mem_append.1 hs with hs | hs
  ·exact ih (by simp at hlen; omega) s hs
  ·rw [List.mem_singleton.1 hs]
   rw [Zj7]
   obtain ⟨q1, q2, q3, -⟩ := Zj9 hc h3
   have := h.lo.1
   refine ⟨by dsimp only; omega, ?_⟩
   dsimp only
   rw [q1]; omega
def uR (tab : List Stp) : Nat → Int → List Int
 | 0, _ => []
 | f + 1, d => if d < 0 then [] else d :: uR tab f (tab.getD d.toNat zs).l
def JD (c : Cust) (n : Nat) (cap : Int) (tab : List Stp) : Prop := ∀ (d : Nat) (e : Stp), tab[d]? = some e → e ≠ zs → -1 ≤ e.l ∧ e.l < d ∧ (0 ≤ e.l → tab.getD e.l.toNat zs ≠ zs) ∧ 0 ≤ (yJ c e.l d).1 ∧ (d < n → xl c (yJ c e.l d).1 cap ≠ 0)
theorem ZcG (c : Cust) (n : Nat) (cap : Int) (price : List Int) : ∀ k, JD c n cap (qA c n cap price k)
 | 0 => by intro d e h; cases h
 | k + 1 => by
  have ih := ZcG c n cap price k
  have hl := Qi c n cap price k
  have he := JA c n cap price (qA c n cap price k) k (k + 1)
  have hok := WH c n cap price (k + 1)
  intro d e h hne
  have hok := hok d e h
  simp only [qA] at h hok ⊢
  rcases hok with q | ⟨-, q2, q3, q4⟩
  ·exact absurd q hne
  refine ⟨q2, q3, q4, ?_⟩
  by_cases hd : d < k
  ·rw [List.getElem?_append_left (by omega)] at h
   exact (ih d e h hne).2.2.2
  ·rw [List.getElem?_append_right (by omega), hl] at h
   obtain rfl : d = k := by
    rcases Nat.lt_or_ge (d - k) 1 with q | q
    ·omega
    ·rw [List.getElem?_eq_none (by simpa using q)] at h; cases h
   rw [Nat.sub_self] at h
   simp only [List.getElem?_cons_zero, Option.some.injEq] at h
   subst h
   rcases he with q | ⟨-, -, -, p4⟩
   ·exact absurd q hne
   ·have := p4.2
    exact ⟨by omega, fun hdn hm => this (.inr ⟨hdn, hm⟩)⟩
theorem WJ {c : Cust} {n : Nat} {cap : Int} {tab : List Stp} (h : JD c n cap tab) : ∀ (f : Nat) (d : Int), -1 ≤ d → d < f → d < n → (0 ≤ d → tab.getD d.toNat zs ≠ zs) → FilS c cap n (uR tab f d).reverse ∧ wg (uR tab f d).reverse = d
 | 0, d, h1, h2, _, _ => by
  obtain rfl : d = -1 := by omega
  exact ⟨.nil, rfl⟩
 | f + 1, d, h1, h2, h3, h4 => by
  unfold uR
  by_cases hd : d < 0
  ·rw [if_pos hd]
   obtain rfl : d = -1 := by omega
   exact ⟨.nil, rfl⟩
  ·rw [if_neg hd, List.reverse_cons]
   have h4 := h4 (by omega)
   obtain ⟨i, rfl⟩ := Int.eq_ofNat_of_zero_le (show 0 ≤ d by omega)
   rw [Int.toNat_natCast] at h4 ⊢
   have he : ∃ e, tab[i]? = some e ∧ tab.getD i zs = e := by
    cases hq : tab[i]? with
    | none => exfalso; apply h4; rw [List.getD_eq_getElem?_getD, hq]; rfl
    | some e => exact ⟨e, rfl, by rw [List.getD_eq_getElem?_getD, hq]; rfl⟩
   obtain ⟨e, he1, he2⟩ := he
   rw [he2] at h4 ⊢
   obtain ⟨g1, g2, g3, g4, g5⟩ := h i e he1 h4
   obtain ⟨p1, p2⟩ := WJ h f e.l g1 (by omega) (by omega) g3
   exact ⟨.snoc p1 (by rw [p2]; exact g2) h3 (by rw [p2]; exact ⟨g4, g5 (by omega)⟩), Qj _ _⟩
theorem Zkb (s : Nat) (d i : Nat) (hd : d < 64) : jt (wB s d) i = 1 ↔ jt s i = 1 ∨ i = d := by
 have h : ((wB s d).testBit i) = (s.testBit i || decide (d = i)) := by
  unfold wB
  rw [if_pos (by omega), Int.toNat_natCast, Nat.testBit_or, Nat.testBit_two_pow]
 rw [Zb3, Zb3] at h
 have h2 : decide (jt (wB s d) i = 1) = (decide (jt s i = 1) || decide (d = i)) := by simpa using h
 constructor
 ·intro q
  rw [decide_eq_true q] at h2
  have := h2.symm
  rw [Bool.or_eq_true, decide_eq_true_eq, decide_eq_true_eq] at this
  omega
 ·intro q
  have : (decide (jt s i = 1) || decide (d = i)) = true := by
   rw [Bool.or_eq_true, decide_eq_true_eq, decide_eq_true_eq]; omega
  rw [this] at h2
  exact of_decide_eq_true h2
theorem ZcH {c : Cust} {n : Nat} {cap : Int} {tab : List Stp} (h : JD c n cap tab) (hn : n ≤ 60) : ∀ (f s : Nat) (d : Int), -1 ≤ d → d < n → (0 ≤ d → tab.getD d.toNat zs ≠ zs) → ∀ i : Nat, jt (xQ tab f s d) i = 1 ↔ jt s i = 1 ∨ (i : Int) ∈ uR tab f d
 | 0, s, d, _, _, _ => fun i => by simp [xQ, uR]
 | f + 1, s, d, h1, h3, h4 => fun i => by
  unfold xQ uR
  by_cases hd : d < 0
  ·rw [if_pos hd, if_pos hd]; simp
  ·rw [if_neg hd, if_neg hd]
   have h4 := h4 (by omega)
   obtain ⟨k, rfl⟩ := Int.eq_ofNat_of_zero_le (show 0 ≤ d by omega)
   rw [Int.toNat_natCast] at h4 ⊢
   have he : ∃ e, tab[k]? = some e ∧ tab.getD k zs = e := by
    cases hq : tab[k]? with
    | none => exfalso; apply h4; rw [List.getD_eq_getElem?_getD, hq]; rfl
    | some e => exact ⟨e, rfl, by rw [List.getD_eq_getElem?_getD, hq]; rfl⟩
   obtain ⟨e, he1, he2⟩ := he
   rw [he2] at h4 ⊢
   obtain ⟨g1, g2, g3, -⟩ := h k e he1 h4
   rw [ZcH h hn f _ e.l g1 (by omega) g3 i, Zkb s k i (by omega), List.mem_cons, Int.natCast_inj, or_assoc]
theorem Zkc : ∀ {a b : List Int}, a.Pairwise (· < ·) → b.Pairwise (· < ·) → (∀ z, z ∈ a ↔ z ∈ b) → a = b := by
 intro a b ha hb h
 have hp : a.Perm b := (List.perm_ext_iff_of_nodup (ha.imp fun h => Int.ne_of_lt h) (hb.imp fun h => Int.ne_of_lt h)).2 h
 exact Za9 hp (ha.imp fun h => Int.le_of_lt h) (hb.imp fun h => Int.le_of_lt h)
theorem Zkd (s a k : Nat) : (yA s a k).Pairwise (· < ·) := by
 unfold yA
 rw [List.pairwise_map]
 have h : (List.range k).Pairwise (· < ·) := List.pairwise_lt_range
 exact (h.sublist List.filter_sublist).imp fun h => by omega
theorem Zke {c : Cust} {n : Nat} {cap : Int} {tab : List Stp} (h : JD c n cap tab) (hn : n ≤ 60) {d : Int} (h1 : -1 ≤ d) (h3 : d < n) (h4 : 0 ≤ d → tab.getD d.toNat zs ≠ zs) : yA (xQ tab 65 0 d) 0 64 = (uR tab 65 d).reverse := by
 obtain ⟨hf, -⟩ := WJ h 65 d h1 (by omega) h3 h4
 refine Zkc (Zkd _ _ _) hf.inc fun z => ?_
 have hb := ZcH h hn 65 0 d h1 h3 h4
 have h0 : ∀ i, ¬ jt 0 i = 1 := by intro i; simp [jt]
 rw [List.mem_reverse]
 constructor
 ·intro hz
  obtain ⟨i, rfl, _, hi⟩ := WB hz
  exact ((hb i).1 hi).resolve_left (h0 i)
 ·intro hz
  have hlo := hf.lo.2 z (List.mem_reverse.2 hz)
  obtain ⟨i, rfl⟩ := Int.eq_ofNat_of_zero_le hlo.1
  simp only [yA, List.mem_map, List.mem_filter, List.mem_range, Bool.and_eq_true, decide_eq_true_eq]
  exact ⟨i, ⟨by omega, by omega, (hb i).2 (.inr hz)⟩, rfl⟩
theorem Zkf {c : Cust} {n : Nat} (hn : n ≤ 60) {cap : Int} {price : List Int} (h : (uQ c n cap price).2 = true) : ∃ ds, FilS c cap n ds ∧ 0 ≤ (yJ c (wg ds) n).1 ∧ (uQ c n cap price).1 = (qI c ds).1 := by
 have hfit := ZcG c n cap price (n + 1)
 have hl := Qi c n cap price (n + 1)
 unfold uQ at h ⊢
 generalize qA c n cap price (n + 1) = tab at *
 split at h
 ·cases h
 rename_i hne
 rw [if_neg hne]
 have he : ∃ e, tab[n]? = some e ∧ tab.getD n zs = e := ⟨_, List.getElem?_eq_getElem (by omega), by rw [List.getD_eq_getElem?_getD, List.getElem?_eq_getElem (by omega)]; rfl⟩
 obtain ⟨e, he1, he2⟩ := he
 rw [he2] at hne ⊢
 obtain ⟨g1, g2, g3, g4, -⟩ := hfit n e he1 hne
 obtain ⟨p1, p2⟩ := WJ hfit 65 e.l g1 (by omega) g2 g3
 exact ⟨_, p1, by rw [p2]; exact g4, by rw [Zke hfit hn g1 g2 g3]⟩
def qb (n : Nat) (cap : Int) (c : Cust) (price : List Int) : List Visit × Bool :=
 if c.kind = 1 then wD c cap price else if c.rule = 1 then uQ c n cap price else Yp c n cap price
theorem ZcI {S : Store} {pl : PV} {price : List Int} (c : Cust) (n : Nat) (cap : Int) (hR : RowOf S pl price) (hp : ∀ z ∈ price, yv z) (hpl : price.length ≤ 1000) (hm : CustMade c n) (hpc : c.pats.length ≤ 1000) (hn : n ≤ 60) :
  Spec Tryz.prog 111 [.agg (yd c), I n, I cap, pl] S (fun q S' => q = .tup [L (qb n cap c price).1, B (qb n cap c price).2] ∧ S' = S) := by
 unfold qb
 by_cases hk : c.kind = 1
 ·rw [if_pos hk]
  exact ZjP c n cap hk hR hp hpl hpc hm.pats
 rw [if_neg hk]
 by_cases hr : c.rule = 1
 ·rw [if_pos hr]
  have hs := fun S (hR : RowOf S pl price) => Zj4 c n cap hR hm.fits hn
  generalize uQ c n cap price = r at *
  obtain ⟨v, ok⟩ := r
  simp only at hs ⊢
  refine yH Tryz.func111 Tryz.ntmps111 Tryz.results111 fun nx hd => ?_
  repeat apply za
  refine zb ?_
  intro v0
  repeat apply za
  refine zj ?_
  repeat apply za
  refine ze [] hk ?_
  refine zp (by simp [hk]) ?_
  repeat apply za
  refine ze [] hr ?_
  refine zo (by simp [hr]) ?_
  repeat apply za
  refine zQ [] (by rfl) (by rfl) fun K Gc Gh hK hGc hGh X hX0 hX => ?_
  simp -implicitDefEqProofs [hX0, hX]
  try clear hX0 hX X
  refine hGc _ _ _ _ _ _ _ fun hsuf => ((hs _ (hR.ext hd _)).mono ?_).v
  rintro _ _ ⟨rfl, rfl⟩
  refine ⟨_, _, rfl, ?_⟩
  clear hGc hGh
  clear Gc Gh
  refine zP hsuf (D := []) (by rfl) fun Gc Gh hGc hGh X hX0 hX => ?_
  simp -implicitDefEqProofs [hX0, hX]
  clear hX0 hX X
  refine hK _ _ _ ?_
  clear hK hGc hGh
  clear K Gc Gh
  exact zh ⟨_, S, (by simp; rfl), ⟨by simp [zn], rfl⟩, zW hd⟩
 ·rw [if_neg hr]
  have hs := fun S (hR : RowOf S pl price) => ZjV c n cap hR hm.fits (by omega)
  generalize Yp c n cap price = r at *
  obtain ⟨v, ok⟩ := r
  simp only at hs ⊢
  refine yH Tryz.func111 Tryz.ntmps111 Tryz.results111 fun nx hd => ?_
  repeat apply za
  refine zb ?_
  intro v0
  repeat apply za
  refine zj ?_
  repeat apply za
  refine ze [] hk ?_
  refine zp (by simp [hk]) ?_
  repeat apply za
  refine ze [] hr ?_
  refine zp (by simp [hr]) ?_
  refine zi ?_
  repeat apply za
  refine zQ [] (by rfl) (by rfl) fun K Gc Gh hK hGc hGh X hX0 hX => ?_
  simp -implicitDefEqProofs [hX0, hX]
  try clear hX0 hX X
  refine hGc _ _ _ _ _ _ _ fun hsuf => ((hs _ (hR.ext hd _)).mono ?_).v
  rintro _ _ ⟨rfl, rfl⟩
  refine ⟨_, _, rfl, ?_⟩
  clear hGc hGh
  clear Gc Gh
  refine zP hsuf (D := []) (by rfl) fun Gc Gh hGc hGh X hX0 hX => ?_
  simp -implicitDefEqProofs [hX0, hX]
  clear hX0 hX X
  refine hK _ _ _ ?_
  clear hK hGc hGh
  clear K Gc Gh
  exact zh ⟨_, S, (by simp; rfl), ⟨by simp [zn], rfl⟩, zW hd⟩
theorem Zkg {c : Cust} {n : Nat} (hm : CustMade c n) (hk : c.kind = 1) {p : Nat} (hp : p ∈ c.pats) : GoodV n (vJ c p) := by
 obtain ⟨h1, h2⟩ := hm.per hk
 refine ⟨by simp only [vJ, List.length_map]; exact Qd _ _ _, fun s hs => ?_, by simp only [vJ, List.map_map]; exact (by simpa [Function.comp_def] using Zjl p 0 64)⟩
 simp only [vJ, List.mem_map] at hs
 obtain ⟨d, hd, rfl⟩ := hs
 have h0 : 0 ≤ d := by
  simp only [yA, List.mem_map] at hd
  obtain ⟨i, _, rfl⟩ := hd; omega
 exact ⟨⟨h0, h1 p hp d hd⟩, h2⟩
theorem Zkh {c : Cust} {cap : Int} {price : List Int} (h : (wD c cap price).2 = true) : ∃ p ∈ c.pats, (p = 0 ∨ c.demand ≤ cap) ∧ (wD c cap price).1 = vJ c p := by
 unfold wD at h ⊢
 split at h
 ·cases h
 rename_i hn
 rw [if_neg hn]
 have hb := WD price (jp c cap) (jp c cap).length
 have hlt : (qj price (jp c cap) (jp c cap).length).1.toNat < (jp c cap).length := by omega
 have hm : (jp c cap).getD (qj price (jp c cap) (jp c cap).length).1.toNat 0 ∈ jp c cap := by
  rw [List.getD_eq_getElem?_getD, List.getElem?_eq_getElem hlt]; exact List.getElem_mem hlt
 obtain ⟨h1, h2⟩ := List.mem_filter.1 hm
 exact ⟨_, h1, by simpa using h2, rfl⟩
theorem WK {c : Cust} {n : Nat} (hm : CustMade c n) (hn : n ≤ 60) (cap : Int) (price : List Int) (h : (qb n cap c price).2 = true) : GoodV n (qb n cap c price).1 := by
 unfold qb at h ⊢
 by_cases hk : c.kind = 1
 ·rw [if_pos hk] at h ⊢
  obtain ⟨p, hp, -, e⟩ := Zkh h
  rw [e]; exact Zkg hm hk hp
 rw [if_neg hk] at h ⊢
 by_cases hr : c.rule = 1
 ·rw [if_pos hr] at h ⊢
  obtain ⟨ds, h1, -, e⟩ := Zkf hn h
  rw [e]; exact Zka hm.fits hn h1
 ·rw [if_neg hr] at h ⊢
  have hD : GoodV n (yB 0 (vf c n cap).1) := Zce (Yn hm.fits (WF hm.fits cap) n).2 (Nat.le_of_eq (Ym _ _ _)) (by omega)
  have hL : GoodV n (yB 0 (vO c n cap).1) := Zce (Yn hm.fits (WG hm.fits cap) n).2 (Nat.le_of_eq (Ym _ _ _)) (by omega)
  unfold Yp at h ⊢
  split
  ·exact hL
  ·rename_i h1
   rw [if_neg h1] at h
   split
   ·exact hD
   ·rename_i h2; rw [if_neg h2] at h; cases h
structure InstA (x : Inst) (n : Nat) : Prop where
 h : InstH x
 days : x.days = n
 n60 : n ≤ 60
 made : ∀ c ∈ x.cust, CustMade c n
 pats : ∀ c ∈ x.cust, c.pats.length ≤ 1000
theorem Zki {x : Inst} {n : Nat} (h : InstA x n) : WA x n (qb n x.cap) := by
 intro c hc l hl hi S pl hR
 rw [h.days]
 have := h.n60
 exact ZcI c n x.cap hR hi (by omega) (h.made c hc) (h.pats c hc) h.n60
theorem ZcJ {x : Inst} {sol : Cust → List Int → List Visit × Bool} {pr : List (List Int)} (h : (yK x sol pr).2 = 0) : (yK x sol pr).1.length = x.cust.length ∧ ∀ i c, x.cust[i]? = some c → (yK x sol pr).1[i]? = some (sol c (pr.getD i [])).1 ∧ (sol c (pr.getD i [])).2 = true := by
 unfold yK at h ⊢
 split at h
 ·rename_i hall
  rw [if_pos hall]
  refine ⟨by simp [wd], fun i c hc => ?_⟩
  have hi := (List.getElem?_eq_some_iff.1 hc).1
  have hg : x.cust.getD i default = c := by rw [List.getD_eq_getElem?_getD, hc]; rfl
  refine ⟨by simp only [wd, List.map_map, List.getElem?_map, List.getElem?_range hi, Option.map_some, Function.comp_apply, hg], ?_⟩
  have := List.all_eq_true.1 hall _ (Zcn x sol pr hi)
  rw [hg] at this; exact this
 ·cases h
theorem ZcK {x : Inst} {n : Nat} (h : InstA x n) : ZcE x n (qb n x.cap) := by
 intro pr hP h0
 obtain ⟨h1, h2⟩ := ZcJ h0
 have key : ∀ l ∈ (yK x (qb n x.cap) pr).1, GoodV n l := by
  intro l hl
  obtain ⟨i, hi, rfl⟩ := List.getElem_of_mem hl
  have hic : i < x.cust.length := by omega
  obtain ⟨e1, e2⟩ := h2 i _ (List.getElem?_eq_getElem hic)
  rw [List.getElem?_eq_getElem hi] at e1
  rw [Option.some.inj e1]
  exact WK (h.made _ (List.getElem_mem hic)) h.n60 _ _ e2
 exact ⟨h1, fun l hl w hw => (key l hl).ok w hw, fun l hl => (key l hl).nd, fun l hl => by have := (key l hl).len; omega⟩
def qk (x : Inst) (b : Int) : zu × Int := ZA x (qb x.days.toNat x.cap) b x.days.toNat
theorem Zkj {x : Inst} {n : Nat} (h : InstA x n) {b : Int} (hb : b ≤ 9223372036854775807) : Pure Tryz.prog 31 [.agg (zA x), I b] (.tup [.agg [L (qk x b).1], I (qk x b).2]) := by
 have hd : x.days.toNat = n := by rw [h.days]; rfl
 unfold qk
 rw [hd]
 exact Zj6 h.h h.days (by have := h.n60; omega) (Zki h) (ZcK h) hb
open Go Go.Proofs Hp
def ZB (c : Int) (p : zu) : zu := p.map (qW c)
theorem Zkk (p : zu) (c : Int) (hp : p.length ≤ 1000) (hd0 : ∀ d ∈ p, d.length ≤ 1048576) (ht : ∀ d ∈ p, ∀ t ∈ d, t.length ≤ 1048576) : Pure Tryz.prog 23 [.agg [L p], I c] (.agg [L (ZB c p)]) := by
 unfold ZB
 refine zy Tryz.func23 Tryz.ntmps23 Tryz.results23 fun S nx hd => ?_
 repeat apply za
 refine zb ?_
 intro v0 v1
 repeat apply za
 refine zb ?_
 intro v2
 refine je 2 0 58 1 rfl rfl fun v3 => ?_
 repeat apply za
 refine zb ?_
 refine zj (zM (fun s : Nat × zu × Nat => s.1 ≤ p.length ∧ s.2.1 = (p.take s.1).map (qW c)) (fun (k, q, w) => [(1, I c), (4, .ptr (nx + 1) v1 0), (5, .ptr (nx + 2) v2 0), (11, L p), (12, I p.length), (13, I k)]) (fun (k, q, w) => [.cells v0 38 [L p], .cells v1 38 [yD], .cells v2 38 [.sl (nx + 3) w 1 0 q.length], .cells w 58 (q.flatMap Enc.enc)]) (fun s => p.length - s.1) (0, [], v3) [] (by simp) (by simp) (by simp) ?_)
 rintro ⟨k, q, w⟩ ⟨hk, hq⟩
 simp only at hk hq ⊢
 have hql : q.length = k := by rw [hq]; simp; omega
 repeat apply za
 refine zb ?_
 repeat apply za
 refine zt rfl (fun hc => ?_) (fun hc => ?_)
 ·simp at hc
  obtain ⟨d, tl, a1, a2, a3, e0⟩ := zI rfl p k hc
  have hdm := List.mem_of_getElem? a1
  have hr := ZhG d c (hd0 d hdm) (ht d hdm)
  generalize hrd : qW c d = rd at hr
  have hk1 : 1 ≤ p.length - k := by omega
  have hqf : (q.flatMap Enc.enc : List PV).length = q.length := qS q
  have hqt : (q.flatMap Enc.enc : List PV).take q.length = q.flatMap Enc.enc := List.take_of_length_le (by omega)
  refine zi (za (zj ?_))
  repeat apply za
  refine ze [] (zJ hc e0 hk1) ?_
  intro v4
  repeat apply za
  refine zb ?_
  refine zB hr ?_
  intro v5
  refine ze [] (zm hqf hqt) ?_
  refine ⟨by omega, ?_⟩
  refine zb ?_
  exact zr (k + 1, q ++ [rd], w + 1) [_, _] ⟨hc, by rw [a3, List.map_append, hq, ← hrd]; rfl⟩ (by simp; omega) (by simp [zx k (by omega)]) rfl (by simp; exact ⟨rfl, rfl⟩)
 ·simp at hc
  obtain rfl : k = p.length := by omega
  rw [List.take_length] at hq
  refine zC ?_
  refine yc 3 rfl ?_
  repeat apply za
  refine zb ?_
  exact zh (zk hd (by simp; rfl) (by simp [zn, hq]))
open Go Go.Proofs Hp
def xn (x : Inst) (c : Nat) : Stop := ⟨c, if (x.cust.getD c default).kind = 1 then (x.cust.getD c default).demand else 1⟩
def jS (x : Inst) (s : Stop) (d : zg) : Int := if (yi x d s).2 = true then max 0 (W (W (zZ x (yi x d s).1) - W (zZ x d))) else 4294967296
theorem ZcL (x : Inst) (c : Int) : Pure Tryz.prog 56 [.agg (zA x), I c] (B (decide (0 ≤ c) && decide (c < x.cust.length))) := by
 refine zy Tryz.func56 Tryz.ntmps56 Tryz.results56 fun S nx hd => ?_
 repeat apply za
 refine zb ?_
 intro v0
 by_cases h : 0 ≤ c
 ·by_cases h2 : c < x.cust.length
  ·repeat apply za
   refine ze [(2, 7)] (zm h h2) ?_
   exact zh (zk hd rfl (by simp [zn, h, h2]))
  ·repeat apply za
   refine ze [(2, 7)] (zm h h2) ?_
   exact zh (zk hd rfl (by simp [zn, h, h2]))
 ·repeat apply za
  refine ze [(2, 7)] (zm h zL) ?_
  exact zh (zk hd rfl (by simp [zn, h]))
open Go Go.Proofs Hp
theorem JE {x : Inst} (hx : x.cust.length ≤ 900) {d : zg} (h : yh x d = 0) : d.flatten.length ≤ x.cust.length ∧ d.length ≤ x.cust.length ∧ RgOk x d [⟨0, 0⟩] := by
 obtain ⟨h1, h2, h3⟩ := (xc x d).1 h
 have hg := Zb6 h
 have hl := Zcr (m := x.cust.length) _ h2 (fun c hc => by
  obtain ⟨s, hs, rfl⟩ := List.mem_map.1 hc
  have := hg s hs
  simp [qE] at this
  omega)
 rw [List.length_map] at hl
 have hn := Jm h
 have hd := Zcq d hn
 refine ⟨hl, by omega, ⟨by omega, fun t ht => ?_, fun t ht s hs => ?_⟩, h, by rw [List.length_singleton]; omega⟩
 ·have := Jy d t ht; omega
 ·have := hg s (ZjH ht hs)
  simp [qE] at this
  unfold small; omega
theorem ZcM {x : Inst} (hx : x.cust.length ≤ 900) (ha : qU x) (hv : 0 ≤ x.veh) {d : zg} (h : yh x d = 0) : SOk x d.flatten ∧ SG x d.flatten d := by
 obtain ⟨h1, h2, h3⟩ := (xc x d).1 h
 obtain ⟨g1, g2, g3⟩ := JE hx h
 refine ⟨⟨by omega, ha, hv, by omega, fun s hs => ?_, h2⟩, ⟨h1, .refl _⟩⟩
 obtain ⟨t, ht, hst⟩ := List.mem_flatten.1 hs
 exact g3.ok.s t ht s hst
theorem Zkl (c : Int) (d : zg) : (qW c d).flatten = d.flatten.filter fun s => decide (s.c ≠ c) := by
 unfold qW
 have : ∀ l : zg, (l.filter fun t => !t.isEmpty).flatten = l.flatten := by
  intro l
  induction l with
  | nil => rfl
  | cons t l ih => cases t <;> simp [List.filter_cons, ih]
 rw [this]
 induction d with
 | nil => rfl
 | cons t d ih => simp only [List.map_cons, List.flatten_cons, List.filter_append, ih]; rfl
open Go Go.Proofs Hp
theorem WL {α : Type} [Enc α] (id v : Nat) (cs : List PV) (l : List (List α)) : (l.flatMap Enc.enc).map (yG id v cs) = (l.flatMap Enc.enc : List PV) := by
 refine (List.map_congr_left fun p hp => ?_).trans (List.map_id _)
 obtain ⟨t, _, ht⟩ := List.mem_flatMap.1 hp
 rw [Zeb, List.mem_singleton] at ht
 subst ht
 rfl
theorem WM (p : zu) (hp : p.length ≤ 1000) (hd0 : ∀ d ∈ p, d.length ≤ 1000) (ht : ∀ d ∈ p, ∀ t ∈ d, t.length ≤ 1000) {S : Store} {nx : Nat} (hd : zR nx S) :
  Spec Tryz.prog 61 [.agg [L p]] S (fun q S' => ∃ v, q = .agg [.sl (nx + 3) v 1 0 p.length] ∧ S' = S.set (nx + 3) (.cells v 58 (p.flatMap Enc.enc))) := by
 refine ud hd Tryz.func61 Tryz.ntmps61 Tryz.results61 ?_
 repeat apply za
 refine zb ?_
 intro v0 v1
 repeat apply za
 refine zb ?_
 intro v2
 refine je 2 0 58 1 rfl rfl fun v3 => ?_
 repeat apply za
 refine zb ?_
 refine zj (zM (fun s : Nat × Nat => s.1 ≤ p.length) (fun (k, w) => [(2, .ptr (nx + 1) v1 0), (3, .ptr (nx + 2) v2 0), (10, L p), (11, I p.length), (12, I k)]) (fun (k, w) => [.cells v0 38 [L p], .cells v1 38 [yD], .cells v2 38 [.sl (nx + 3) w 1 0 k], .cells w 58 ((p.take k).flatMap Enc.enc)]) (fun s => p.length - s.1) (0, v3) [] (by simp) (by simp) (by simp) ?_)
 rintro ⟨k, w⟩ hk
 simp only at hk ⊢
 repeat apply za
 refine zb ?_
 repeat apply za
 refine zt rfl (fun hc => ?_) (fun hc => ?_)
 ·simp at hc
  obtain ⟨d, tl, a1, a2, a3, e0⟩ := zI rfl p k hc
  have hdm := List.mem_of_getElem? a1
  have hdl := hd0 d hdm
  have hk1 : 1 ≤ p.length - k := by omega
  have htk : (p.take k).length = k := by rw [List.length_take]; omega
  generalize hpk : p.take k = pk at *
  have hqf : (pk.flatMap Enc.enc : List PV).length = k := (qS pk).trans htk
  have hqt : (pk.flatMap Enc.enc : List PV).take k = pk.flatMap Enc.enc := List.take_of_length_le (by omega)
  have hfp : ∀ id v cs, (pk.flatMap Enc.enc).map (yG id v cs) = (pk.flatMap Enc.enc : List PV) := fun id v cs => WL id v cs pk
  refine zi (za (zj ?_))
  repeat apply za
  refine ze [] (zJ hc e0 hk1) ?_
  intro v4
  repeat apply za
  refine zb ?_
  intro v5
  refine je 5 0 72 1 rfl rfl fun v6 => ?_
  repeat apply za
  refine zb ?_
  refine zj (zM (fun s : Nat × Nat => s.1 ≤ d.length) (fun (j, w6) => [(2, .ptr (nx + 1) v1 0), (3, .ptr (nx + 2) v2 0), (6, .ptr (nx + 5) v5 0), (10, L p), (11, I p.length), (12, I k), (17, L d), (18, I d.length), (19, I j)])
   (fun (j, w6) => [.cells v0 38 [L p], .cells v1 38 [yD], .cells v2 38 [.sl (nx + 3) w 1 0 k], .cells w 58 (pk.flatMap Enc.enc), .cells v4 58 [L d], .cells v5 58 [.sl (nx + 6) w6 1 0 j], .cells w6 72 ((d.take j).flatMap Enc.enc)]) (fun s => d.length - s.1) (0, v6) [] (by simp) (by simp) (by simp) ?_)
  rintro ⟨j, w6⟩ hj
  simp only at hj ⊢
  repeat apply za
  refine zb ?_
  repeat apply za
  refine zt rfl (fun hcj => ?_) (fun hcj => ?_)
  ·simp at hcj
   obtain ⟨t, tl2, b1, b2, b3, f0⟩ := zI rfl d j hcj
   have htl := ht d hdm t (List.mem_of_getElem? b1)
   have hj1 : 1 ≤ d.length - j := by omega
   have htj : (d.take j).length = j := by rw [List.length_take]; omega
   generalize hdj : d.take j = dj at *
   have hrf : (dj.flatMap Enc.enc : List PV).length = j := (qS dj).trans htj
   have hrt : (dj.flatMap Enc.enc : List PV).take j = dj.flatMap Enc.enc := List.take_of_length_le (by omega)
   have hfd : ∀ id v cs, (dj.flatMap Enc.enc).map (yG id v cs) = (dj.flatMap Enc.enc : List PV) := fun id v cs => WL id v cs dj
   have htf : (t.flatMap Enc.enc : List PV).length = t.length * 2 := uz t
   refine zi (za (zj ?_))
   repeat apply za
   refine ze [] (zJ hcj f0 hj1) ?_
   intro v7
   refine zD (some [nx + 7]) (Row.pures [0, 2, 3] (.alt 1 (.alt 4 (Row.pures [5, 6] (.alt 7 (Row.pures [8] (.alt 9 (.done) .stop)) .stop)) .stop) (.alt 4 (Row.pures [5, 6] (.alt 1 (.alt 7 (Row.pures [8] (.alt 9 (.done) .stop)) .stop) .stop)) .stop))) mixed (zm hrf hrt) ?_
   refine ⟨⟨by omega, fun v8 => ⟨⟨by omega, by omega⟩, ?_⟩⟩, ⟨by omega, fun v8 => ⟨⟨by omega, by omega⟩, ?_⟩⟩⟩
   all_goals
    refine yc 8 rfl ?_
    simp only [List.map_cons, List.map_nil, List.set_cons_succ, List.set_cons_zero, js, hfp, hfd, List.map_append]
    refine zb ?_
    exact zr (j + 1, w6 + 1) [_, _] (by simp; omega) (by simp; omega) (by simp [zx j (by omega)]) rfl (by simp [b3, yG, htf]; exact ⟨rfl, rfl⟩)
  ·simp at hcj
   obtain rfl : j = d.length := by omega
   rw [List.take_length]
   have hfd : ∀ id v cs, (d.flatMap Enc.enc).map (yG id v cs) = (d.flatMap Enc.enc : List PV) := fun id v cs => WL id v cs d
   refine zC ?_
   refine yc 6 rfl ?_
   simp only [List.map_cons, List.map_nil, List.set_cons_succ, List.set_cons_zero, js, hfp, hfd]
   refine ze [] (zm hqf hqt) ?_
   refine ⟨by omega, ?_⟩
   refine zb ?_
   exact zr (k + 1, w + 1) [_, _, _] (by simp; omega) (by simp; omega) (by simp [zx k (by omega)]) rfl (by simp [a3]; exact ⟨rfl, rfl, rfl⟩)
 ·simp at hc
  obtain rfl : k = p.length := by omega
  rw [List.take_length]
  refine zC ?_
  repeat apply za
  refine zb ?_
  exact zh ⟨_, _, (by simp; rfl), ⟨w, by simp [zn], rfl⟩, YK (j := 3) hd (by simp)⟩
theorem Zkm (p : zu) (hp : p.length ≤ 1000) (hd0 : ∀ d ∈ p, d.length ≤ 1000) (ht : ∀ d ∈ p, ∀ t ∈ d, t.length ≤ 1000) : Pure Tryz.prog 61 [.agg [L p]] (.agg [L p]) :=
 VL (sz := 1) 3 (fun S nx hd => WM p hp hd0 ht hd) (by rw [qS, Nat.mul_one])
def jT (x : Inst) (p : zu) (day b : Int) : zu × Bool :=
 if day < 0 ∨ (p.length : Int) ≤ day then (p, false)
 else if W (zZ x (p.getD day.toNat [])) ≤ W (zZ x (jH x b (p.getD day.toNat []))) then (p, false)
 else (p.set day.toNat (jH x b (p.getD day.toNat [])), true)
structure PlanM (x : Inst) (p : zu) : Prop where
 cust : x.cust.length ≤ 900
 inst : InstH x
 len : p.length ≤ 1000
 may : ∀ d ∈ p, yh x d = 0
theorem PlanM.sizes {x : Inst} {p : zu} (h : PlanM x p) : ∀ d ∈ p, d.length ≤ 1000 ∧ (∀ t ∈ d, t.length ≤ 1000) ∧ DayOk d ∧ d.flatten.length ≤ 1000 := by
 intro d hd
 obtain ⟨h1, h2, h3⟩ := JE h.cust (h.may d hd)
 have := h.cust
 exact ⟨by omega, fun t ht => by have := Jy d t ht; omega, h3.ok, by omega⟩
theorem ZcN {x : Inst} (hx : x.cust.length ≤ 900) (hi : InstH x) {d : zg} (h : yh x d = 0) (b : Int) : yh x (jH x b d) = 0 ∧ (jH x b d).flatten.Perm d.flatten ∧ zZ x (jH x b d) ≤ zZ x d := by
 obtain ⟨hs, hg⟩ := ZcM hx hi.arc hi.veh h
 obtain ⟨h1, h2, h3⟩ := Jt hs hi.diag b.toNat d hg
 obtain ⟨m1, m2, m3⟩ := (xc x d).1 h
 change SG x d.flatten (jH x b d) at h1
 change zZ x (jH x b d) ≤ zZ x d at h2
 change (jH x b d).length ≤ d.length at h3
 exact ⟨(xc x _).2 ⟨h1.may, (h1.perm.map _).nodup_iff.2 m2, by omega⟩, h1.perm, h2⟩
theorem Zkn {x : Inst} (hx : x.cust.length ≤ 900) (hi : InstH x) {d : zg} (h : yh x d = 0) {b : Int} (hb : b ≤ 9223372036854775807) : ∃ k : Int, Pure Tryz.prog 62 [.agg (zA x), .agg [L d], I b] (.tup [.agg [L (jH x b d)], I k]) := by
 obtain ⟨hs, hg⟩ := ZcM hx hi.arc hi.veh h
 have o := hg.ok hs
 exact ⟨_, Zbl x d b (xO x) (SG x d.flatten) hb o.n o.t (fun _ => hg) (ZbN hs hi.diag)⟩
theorem Zko {x : Inst} {p : zu} (h : PlanM x p) (day b : Int) (hb : b ≤ 9223372036854775807) :
  Pure Tryz.prog 28 [.agg (zA x), .agg [L p], I day, I b] (.tup [.agg [L (jT x p day b).1], B (jT x p day b).2]) := by
 have hsz := h.sizes
 have hpl := h.len
 refine zy Tryz.func28 Tryz.ntmps28 Tryz.results28 fun S nx hd => ?_
 repeat apply za
 refine zb ?_
 intro v0 v1 v2
 repeat apply za
 refine zQ [] (by rfl) (by rfl) fun K Gc Gh hK hGc hGh X hX0 hX => ?_
 simp -implicitDefEqProofs [hX0, hX]
 try clear hX0 hX X
 refine hGc _ _ _ _ _ _ _ fun hsuf => ((WM p h.len (fun d hd => (hsz d hd).1) (fun d hd => (hsz d hd).2.1) jz).mono ?_).v
 rintro _ _ ⟨v3, rfl, rfl⟩
 refine ⟨_, _, Q1 3 _, ?_⟩
 clear hGc hGh
 clear Gc Gh
 refine zP hsuf (D := []) (by rfl) fun Gc Gh hGc hGh X hX0 hX => ?_
 simp -implicitDefEqProofs [hX0, hX, Nat.add_assoc]
 clear hX0 hX X
 intro v4
 refine hK _ _ _ ?_
 clear hK hGc hGh
 clear K Gc Gh
 by_cases h0 : day < 0
 ·have hz : jT x p day b = (p, false) := by unfold jT; rw [if_pos (.inl h0)]
  rw [hz]
  repeat apply za
  refine ze [(2, 17)] (zm h0 zL) ?_
  refine zo rfl ?_
  refine yc 6 rfl ?_
  repeat apply za
  refine zb ?_
  exact zh (zk hd (by simp; rfl) rfl)
 by_cases h1 : (p.length : Int) ≤ day
 ·have hz : jT x p day b = (p, false) := by unfold jT; rw [if_pos (.inr h1)]
  rw [hz]
  repeat apply za
  refine ze [(2, 17)] (zm h0 h1) ?_
  refine zo rfl ?_
  refine yc 6 rfl ?_
  repeat apply za
  refine zb ?_
  exact zh (zk hd (by simp; rfl) rfl)
 obtain ⟨k, rfl⟩ := Int.eq_ofNat_of_zero_le (show 0 ≤ day by omega)
 have hk : k < p.length := by omega
 obtain ⟨d, tl, a1, a2, a3, e0⟩ := zI rfl p k hk
 have hdm := List.mem_of_getElem? a1
 have hgd : p.getD (k : Int).toNat [] = d := by rw [Int.toNat_natCast, List.getD_eq_getElem?_getD, a1]; rfl
 have hz : jT x p k b = if W (zZ x d) ≤ W (zZ x (jH x b d)) then (p, false) else (p.set k (jH x b d), true) := by
  unfold jT
  rw [if_neg (by omega), hgd, Int.toNat_natCast]
 obtain ⟨m, hI⟩ := Zkn h.cust h.inst (h.may d hdm) hb
 have him := ZcN h.cust h.inst (h.may d hdm) b
 have hc1 := Z0 x d (hsz d hdm).2.2.1
 have hc2 := Z0 x (jH x b d) (JE h.cust him.1).2.2.ok
 rw [hz]
 generalize jH x b d = e at *
 generalize W (zZ x d) = z1 at *
 generalize W (zZ x e) = z2 at *
 have hk1 : 1 ≤ p.length - k := by omega
 have hpf : (p.flatMap Enc.enc : List PV).length = p.length := qS p
 have hsp := Wx (α := zg) rfl p k e hk
 have hsp' : zX (p.flatMap Enc.enc) k [L e] = (p.set k e).flatMap Enc.enc := by simpa using hsp
 repeat apply za
 refine ze [(2, 17)] (zm h0 h1) ?_
 refine zp rfl ?_
 refine zi ?_
 repeat apply za
 refine zD (some [nx, nx + 6, nx + 7]) (Row.pures [0, 1, 2, 3, 4, 5, 6, 7, 8, 9, 10] (.alt 11 (.alt 12 (Row.pures [13] .done) .stop) .stop)) mixed (zJ e0 hk hk1) ?_
 refine zN (hI) (zJ e0 hk hk1) ?_
 intro v5
 by_cases hle : z1 ≤ z2
 ·rw [if_pos hle]
  repeat apply za
  refine zD (some [nx, nx + 6, nx + 7, nx + 8]) (Row.pures [0, 1, 2, 3, 4, 5, 6, 7, 8, 9, 10] .done) mixed (ye e0 hk hk1 hle) ?_
  refine zN (hc2) (ye e0 hk hk1 hle) ?_
  refine zN (hc1) (ye e0 hk hk1 hle) ?_
  refine zo rfl ?_
  refine yc 6 rfl ?_
  repeat apply za
  refine zb ?_
  exact zh (zk hd (by simp; rfl) rfl)
 ·rw [if_neg hle]
  repeat apply za
  refine zD (some [nx, nx + 6, nx + 7, nx + 8]) (Row.pures [0, 1, 2, 3, 4, 5, 6, 7, 8, 9, 10] .done) mixed (ye e0 hk hk1 hle) ?_
  refine zN (hc2) (ye e0 hk hk1 hle) ?_
  refine zN (hc1) (ye e0 hk hk1 hle) ?_
  refine zp rfl ?_
  refine zi ?_
  repeat apply za
  refine ze [] (zJ hk hsp' hpf) ?_
  refine ⟨by omega, ?_⟩
  refine yc 6 rfl ?_
  repeat apply za
  refine zb ?_
  exact zh (zk hd (by simp; rfl) (by simp [zn]))
open Go Go.Proofs Hp
structure PlanS (n K : Nat) (p : zu) : Prop where
 len : p.length = n
 ok : ∀ d ∈ p, DayOk d ∧ d.flatten.length ≤ K ∧ d.length ≤ K
theorem WN {x : Inst} {d : zg} {s : Stop} {K : Nat} (hx : x.cust.length ≤ 1048576) (h1 : DayOk d) (h2 : d.flatten.length ≤ K) (h3 : d.length ≤ K) (hK : K ≤ 100000) : DayOk (yi x d s).1 ∧ (yi x d s).1.flatten.length ≤ K + 1 ∧ (yi x d s).1.length ≤ K + 1 := by
 refine ⟨Zbi hx h1 (by omega) (by omega), ?_, ?_⟩
 ·cases hi : (yi x d s).2 with
  | true => rw [(Jj hi).length_eq, List.length_cons]; omega
  | false => rw [ZaT hi]; omega
 ·unfold yi
  cases (xy (yt x d s)).2 with
  | false => show d.length ≤ K + 1; omega
  | true =>
   show (qw d (xy (yt x d s)).1 s).length ≤ K + 1
   unfold qw; split <;> simp <;> omega
theorem Zkp (x : Inst) (p : zu) (c : Nat) {n K : Nat} (hn1 : n ≤ 1000) (hK : K ≤ 100000) (hx : x.cust.length ≤ 1000) (hc : c < x.cust.length) (hp : PlanS n K p) : Pure Tryz.prog 26 [.agg (zA x), .agg [L p], I c] (L (p.map (jS x (xn x c)))) := by
 have hth := ZcL x c
 rw [show (decide (0 ≤ (c : Int)) && decide ((c : Int) < x.cust.length)) = true from by simp; omega] at hth
 obtain ⟨cu, tlc, a1, -, -, e1, e0⟩ := el 8 rfl x.cust c hc
 have e11 := e1 1 (by omega)
 have hq : xn x c = ⟨c, if cu.kind = 1 then cu.demand else 1⟩ := by unfold xn; rw [List.getD_eq_getElem?_getD, a1]; rfl
 have hplen : p.length ≤ 1000 := by have := hp.len; omega
 refine zy Tryz.func26 Tryz.ntmps26 Tryz.results26 fun S nx hd => ?_
 repeat apply za
 refine zb ?_
 intro v0 v1
 repeat apply za
 refine zb ?_
 intro v2
 refine za ?_
 refine qK (nx := nx) (σ := Unit) (fun _ => True) (fun _ => [(3, .ptr nx v0 0), (4, .ptr (nx + 1) v1 0), (7, .ptr (nx + 2) v2 0)]) (fun _ => S) (fun _ => [.cells v0 25 (zA x), .cells v1 38 [L p], .cells v2 35 [I c, I (xn x c).q]]) ?_ ?_
 ·by_cases hk : cu.kind = 1
  ·rw [if_pos hk] at hq
   repeat apply za
   refine ze [(3, 19)] (zJ e0 hc hk) ?_
   refine jg [(3, 19)] hth (zJ e0 hc hk) ?_
   refine zo (by simp [hk]) ?_
   refine ze [] (zm e11 hc) ?_
   exact zS () [] trivial (by simp) rfl (by simp [hq])
  ·rw [if_neg hk] at hq
   repeat apply za
   refine ze [(3, 19)] (zJ e0 hc hk) ?_
   refine jg [(3, 19)] hth (zJ e0 hc hk) ?_
   refine zp (by simp [hk]) ?_
   refine zi ?_
   exact zS () [] trivial (by simp) rfl (by simp [hq])
 intro _ _
 have hsc : (xn x c).c = c := rfl
 generalize hst : xn x c = s at hsc
 clear hq
 repeat apply za
 refine zb ?_
 refine za (jB 8 3 1 rfl fun v3 => ?_)
 repeat apply za
 refine zb ?_
 refine zj (zM (fun st : Nat × List Int × Nat => st.1 ≤ p.length ∧ st.2.1 = (p.take st.1).map (jS x s)) (fun (k, out, w) => [(3, .ptr nx v0 0), (7, .ptr (nx + 2) v2 0), (8, .sl (nx + 3) w 1 0 out.length), (36, L p), (37, I p.length), (38, I k)]) (fun (k, out, w) => [.cells v0 25 (zA x), .cells v1 38 [L p], .cells v2 35 [I c, I s.q], .cells w 3 (out.flatMap Enc.enc)]) (fun st => p.length - st.1) (0, [], v3) [] (by simp) (by simp) (by simp) ?_)
 rintro ⟨k, out, w⟩ ⟨hk, ho⟩
 simp only at hk ho ⊢
 have hol : out.length = k := by rw [ho]; simp; omega
 repeat apply za
 refine zb ?_
 repeat apply za
 refine zt rfl (fun hc1 => ?_) (fun hc1 => ?_)
 ·simp at hc1
  obtain ⟨d, tl, b1, b2, b3, f0⟩ := zI rfl p k hc1
  obtain ⟨g1, g3, g4⟩ := hp.ok d (List.mem_of_getElem? b1)
  have g5 := (WN (x := x) (s := s) (by omega) g1 g3 g4 hK).1
  have hins := XZ x d s (by omega) g1 (by omega)
  have hc2 := Z0 x d g1
  have hc3 := Z0 x _ g5
  have hpr : jS x s d = if (yi x d s).2 = true then max 0 (W (W (zZ x (yi x d s).1) - W (zZ x d))) else 4294967296 := rfl
  rw [hsc] at hins
  generalize yi x d s = r at *
  obtain ⟨e, ok⟩ := r
  simp only at hins hc3 hpr
  generalize W (zZ x d) = z1 at *
  generalize W (zZ x e) = z2 at *
  have h1p : 1 ≤ p.length - k := by omega
  refine zi (za (zj ?_))
  repeat apply za
  refine ze [] (zJ f0 hc1 h1p) ?_
  intro v4
  repeat apply za
  refine zb ?_
  repeat apply za
  refine zb ?_
  refine zB hins ?_
  intro v5
  repeat apply za
  refine zb ?_
  cases ok with
  | true =>
   rw [if_pos rfl] at hpr
   have hmax : jW (0 : Int) (W (z2 - z1)) = jS x s d := by rw [hpr]; unfold jW; split <;> omega
   refine zo rfl ?_
   refine zD (some [nx, nx + 4, nx + 5]) (Row.pures [0, 1, 2, 3, 4, 5, 6, 7, 8] .done) mixed trivial ?_
   refine zN (hc3) hmax ?_
   refine zN (hc2) hmax ?_
   refine zb ?_
   refine ⟨by omega, ?_⟩
   refine zb ?_
   exact zr (k + 1, out ++ [jS x s d], w + 1) [_, _] ⟨hc1, by rw [b3, List.map_append, ho]; rfl⟩ (by simp; omega) (by simp [zx k (by omega)]) rfl (by simp [hpr]; exact ⟨rfl, rfl⟩)
  | false =>
   rw [if_neg (by decide)] at hpr
   refine zp rfl ?_
   refine zi ?_
   refine zb ?_
   refine ⟨by omega, ?_⟩
   refine zb ?_
   exact zr (k + 1, out ++ [jS x s d], w + 1) [_, _] ⟨hc1, by rw [b3, List.map_append, ho]; rfl⟩ (by simp; omega) (by simp [zx k (by omega)]) rfl (by simp [hpr]; exact ⟨rfl, rfl⟩)
 ·simp at hc1
  obtain rfl : k = p.length := by omega
  rw [List.take_length] at ho
  refine zC ?_
  refine yc 3 rfl ?_
  repeat apply za
  refine zb ?_
  exact zh (zk hd (by simp; rfl) (by simp [zn, ho]))
def vQ (x : Inst) (p : zu) : Bool := p.all fun d => decide (yh x d = 0)
theorem Zkq (x : Inst) (p : zu) {n K : Nat} (hn1 : n ≤ 1000) (hK : K ≤ 100000) (hx : x.cust.length ≤ 1000) (hp : PlanS n K p) : Pure Tryz.prog 119 [.agg (zA x), .agg [L p]] (B (vQ x p)) := by
 have hplen : p.length ≤ 1000 := by have := hp.len; omega
 refine zy Tryz.func119 Tryz.ntmps119 Tryz.results119 fun S nx hd => ?_
 repeat apply za
 refine zb ?_
 intro v0 v1
 repeat apply za
 refine zb ?_
 refine zj (zM (fun k : Nat => k ≤ p.length ∧ ∀ d ∈ p.take k, yh x d = 0) (fun k => [(2, .ptr nx v0 0), (8, L p), (9, I p.length), (10, I k)]) (fun _ => [.cells v0 25 (zA x), .cells v1 38 [L p]]) (fun k => p.length - k) 0 [] (by simp) (by simp) (by simp) ?_)
 rintro k ⟨hk, hE⟩
 repeat apply za
 refine zb ?_
 repeat apply za
 refine zt rfl (fun hc => ?_) (fun hc => ?_)
 ·simp at hc
  obtain ⟨d, tl, a1, a2, a3, e0⟩ := zI rfl p k hc
  obtain ⟨g1, g2, g3⟩ := hp.ok d (List.mem_of_getElem? a1)
  have hD := Zac x d (by omega) g1.n g1.t (by omega)
  have hk1 : 1 ≤ p.length - k := by omega
  refine zi (za (zj ?_))
  repeat apply za
  refine ze [] (zJ e0 hc hk1) ?_
  intro v2
  by_cases h0 : yh x d = 0
  ·rw [h0] at hD
   repeat apply za
   refine zb ?_
   refine zB hD ?_
   refine zp (by simp) ?_
   refine zi ?_
   refine zb ?_
   exact zr (k + 1) [_] ⟨hc, fun e he => by rw [a3] at he; rcases List.mem_append.1 he with q | q; exact hE e q; rw [List.mem_singleton.1 q]; exact h0⟩ (by omega) (by simp [zx k (by omega)]) rfl (by simp; rfl)
  ·have ho : vQ x p = false := by
    unfold vQ; rw [List.all_eq_false]; exact ⟨d, List.mem_of_getElem? a1, by simpa using h0⟩
   rw [ho]
   generalize yh x d = z at *
   repeat apply za
   refine zb ?_
   refine zB hD ?_
   refine zo (by simp [h0]) ?_
   repeat apply za
   refine zb ?_
   exact zh (zk hd rfl rfl)
 ·simp at hc
  obtain rfl : k = p.length := by omega
  rw [List.take_length] at hE
  have ho : vQ x p = true := by
   unfold vQ; rw [List.all_eq_true]; intro d hd; simpa using hE d hd
  rw [ho]
  refine zC ?_
  repeat apply za
  refine zb ?_
  exact zh (zk hd rfl rfl)
def xF (x : Inst) (c : Nat) (st : zu × Bool) (w : Visit) : zu × Bool :=
 if st.2 = true then (if (yi x (st.1.getD w.d.toNat []) ⟨c, w.q⟩).2 = true then (st.1.set w.d.toNat (yi x (st.1.getD w.d.toNat []) ⟨c, w.q⟩).1, true) else ([], false)) else st
def jq (x : Inst) (n : Nat) (p : zu) (c : Nat) : zu × Bool :=
 if (qb n x.cap (x.cust.getD c default) (p.map (jS x (xn x c)))).2 = true then (qb n x.cap (x.cust.getD c default) (p.map (jS x (xn x c)))).1.foldl (xF x c) (p, true) else ([], false)
theorem WO (x : Inst) (c : Nat) : ∀ v : List Visit, v.foldl (xF x c) ([], false) = ([], false)
 | [] => rfl
 | w :: v => by rw [List.foldl_cons]; exact WO x c v
theorem Zkr (x : Inst) (s : Stop) (p : zu) : ∀ z ∈ p.map (jS x s), yv z := by
 intro z hz
 obtain ⟨d, -, rfl⟩ := List.mem_map.1 hz
 unfold jS
 split
 ·have := Wz (W (zZ x (yi x d s).1) - W (zZ x d))
  unfold yv at *; omega
 ·unfold yv; omega
theorem PlanS.sizes {n K : Nat} {p : zu} (h : PlanS n K p) (hn1 : n ≤ 1000) (hK : K ≤ 1000) : p.length ≤ 1000 ∧ (∀ d ∈ p, d.length ≤ 1000) ∧ ∀ d ∈ p, ∀ t ∈ d, t.length ≤ 1000 := by
 refine ⟨by have := h.len; omega, fun d hd => by have := (h.ok d hd).2.2; omega, fun d hd t ht => ?_⟩
 have := Jy d t ht
 have := (h.ok d hd).2.1
 omega
theorem PlanS.set {n K : Nat} {p : zu} (h : PlanS n K p) {k : Nat} {e : zg} (he : DayOk e ∧ e.flatten.length ≤ K + 1 ∧ e.length ≤ K + 1) : PlanS n (K + 1) (p.set k e) := by
 refine ⟨by rw [List.length_set]; exact h.len, fun d hd => ?_⟩
 rcases List.mem_or_eq_of_mem_set hd with q | q
 ·obtain ⟨g1, g2, g3⟩ := h.ok d q; exact ⟨g1, by omega, by omega⟩
 ·rw [q]; exact he
theorem ZcO {x : Inst} {n : Nat} (h : InstA x n) {p : zu} {K : Nat} (hK : K ≤ 10000) (hp : PlanS n K p) {c : Nat} (hc : c < x.cust.length) (h0 : (jq x n p c).2 = true) : PlanS n (K + 64) (jq x n p c).1 := by
 have hx := h.h.cust
 unfold jq at h0 ⊢
 split at h0
 ·rename_i h1
  rw [if_pos h1]
  have hcm : x.cust.getD c default ∈ x.cust := by rw [List.getD_eq_getElem?_getD, List.getElem?_eq_getElem hc]; exact List.getElem_mem hc
  have hg := WK (h.made _ hcm) h.n60 x.cap _ h1
  have hl := hg.len
  generalize (qb n x.cap (x.cust.getD c default) (p.map (jS x (xn x c)))).1 = v at *
  clear hg h1
  have key : ∀ (v : List Visit) (q : zu) (K : Nat), K + v.length ≤ 10100 → PlanS n K q → (v.foldl (xF x c) (q, true)).2 = true → PlanS n (K + v.length) (v.foldl (xF x c) (q, true)).1 := by
   intro v
   induction v with
   | nil => intro q K _ hq _; exact hq
   | cons w v ih =>
    intro q K hKl hq hz
    rw [List.length_cons] at hKl ⊢
    rw [List.foldl_cons] at hz ⊢
    have hs : xF x c (q, true) w = if (yi x (q.getD w.d.toNat []) ⟨c, w.q⟩).2 = true then (q.set w.d.toNat (yi x (q.getD w.d.toNat []) ⟨c, w.q⟩).1, true) else ([], false) := rfl
    rw [hs] at hz ⊢
    split at hz
    ·rename_i hi
     rw [if_pos hi]
     rw [show K + (v.length + 1) = (K + 1) + v.length by omega]
     refine ih _ _ (by omega) (hq.set ?_) hz
     have hd : DayOk (q.getD w.d.toNat []) ∧ (q.getD w.d.toNat []).flatten.length ≤ K ∧ (q.getD w.d.toNat []).length ≤ K := by
      rw [List.getD_eq_getElem?_getD]
      cases e : q[w.d.toNat]? with
      | none => exact ⟨⟨by simp, by simp, by simp⟩, by simp, by simp⟩
      | some d => exact hq.ok d (List.mem_of_getElem? e)
     exact WN (by omega) hd.1 hd.2.1 hd.2.2 (by omega)
    ·rw [WO] at hz; cases hz
  have := key v p K (by omega) hp h0
  exact ⟨this.len, fun d hd => by obtain ⟨g1, g2, g3⟩ := this.ok d hd; exact ⟨g1, by omega, by omega⟩⟩
 ·cases h0
theorem Zks {x : Inst} {n : Nat} (h : InstA x n) {p : zu} {K : Nat} (hK : K ≤ 900) (hp : PlanS n K p) (c : Nat) (hc : c < x.cust.length) : Pure Tryz.prog 118 [.agg (zA x), .agg [L p], I c] (.tup [.agg [L (jq x n p c).1], B (jq x n p c).2]) := by
 have hx := h.h.cust
 have hn60 := h.n60
 have hxd := h.days
 have hpl := hp.len
 obtain ⟨hs1, hs2, hs3⟩ := hp.sizes (by omega) (by omega)
 obtain ⟨cu, tlc, a1, -, -, e1, e0⟩ := el 8 rfl x.cust c hc
 have hcm := List.mem_of_getElem? a1
 have hgc : x.cust.getD c default = cu := by rw [List.getD_eq_getElem?_getD, a1]; rfl
 have hPr := Zkp x p c (n := n) (K := K) (by omega) (by omega) hx hc hp
 have hI := Zkr x (xn x c) p
 have hlen : (p.map (jS x (xn x c))).length ≤ 1000 := by rw [List.length_map]; omega
 have hput : jq x n p c = if (qb n x.cap cu (p.map (jS x (xn x c)))).2 = true then (qb n x.cap cu (p.map (jS x (xn x c)))).1.foldl (xF x c) (p, true) else ([], false) := by unfold jq; rw [hgc]
 have hgood := WK (h.made cu hcm) hn60 x.cap (p.map (jS x (xn x c)))
 rw [hput]
 generalize p.map (jS x (xn x c)) = pr at *
 have hSo : Pure Tryz.prog 111 [.agg (yd cu), I x.days, I x.cap, L pr] (.tup [L (qb n x.cap cu pr).1, B (qb n x.cap cu pr).2]) := by
  rw [hxd]
  exact fun S => ZcI cu n x.cap (.inl rfl) hI hlen (h.made cu hcm) (h.pats cu hcm) hn60
 clear hput
 generalize qb n x.cap cu pr = r at *
 obtain ⟨v, ok⟩ := r
 simp only at hSo hgood ⊢
 refine zy Tryz.func118 Tryz.ntmps118 Tryz.results118 fun S nx hd => ?_
 repeat apply za
 refine zb ?_
 intro v0 v1 v2
 repeat apply za
 refine zD (some [nx, nx + 1]) (Row.pures [0, 1, 2, 3, 4, 5, 6, 7, 8, 9, 10, 11, 12, 13, 14, 15, 16, 17, 18] .done) mixed (zm e0 hc) ?_
 refine zN (hPr) (zm e0 hc) ?_
 refine zN (hSo) (zm e0 hc) ?_
 cases ok with
 | false =>
  rw [if_neg (by decide)]
  repeat apply za
  refine zb ?_
  refine zo rfl ?_
  repeat apply za
  refine zb ?_
  refine Zb 2 0 rfl rfl ?_
  exact zh (zk hd (by simp; rfl) rfl)
 | true =>
  have hg := hgood rfl
  have hvl := hg.len
  rw [if_pos rfl]
  repeat apply za
  refine zb ?_
  refine zp rfl ?_
  refine zi ?_
  repeat apply za
  refine zQ [] (by rfl) (by rfl) fun K Gc Gh hK hGc hGh X hX0 hX => ?_
  simp -implicitDefEqProofs [hX0, hX]
  try clear hX0 hX X
  refine hGc _ _ _ _ _ _ _ fun hsuf => ((WM p hs1 hs2 hs3 jz).mono ?_).v
  rintro _ _ ⟨v3, rfl, rfl⟩
  refine ⟨_, _, Q1 3 _, ?_⟩
  clear hGc hGh
  clear Gc Gh
  refine zP hsuf (D := []) (by rfl) fun Gc Gh hGc hGh X hX0 hX => ?_
  simp -implicitDefEqProofs [hX0, hX, Nat.add_assoc]
  clear hX0 hX X
  intro v4
  refine hK _ _ _ ?_
  clear hK hGc hGh
  clear K Gc Gh
  repeat apply za
  refine zb ?_
  refine zj (zM (fun s : Nat × zu × Nat => s.1 ≤ v.length ∧ (v.take s.1).foldl (xF x c) (p, true) = (s.2.1, true) ∧ PlanS n (K + s.1) s.2.1) (fun (k, q, w) => [(2, I c), (3, .ptr nx v0 0), (6, .ptr (nx + 2) v2 0), (10, .ptr (nx + 7) v4 0), (38, L v), (39, I v.length), (40, I k)]) (fun (k, q, w) => [.cells v0 25 (zA x), .cells v1 38 [L p], .cells v2 38 [yD], .dead, .dead, .dead, .cells w 58 (q.flatMap Enc.enc), .cells v4 38 [.sl (nx + 6) w 1 0 q.length]]) (fun s => v.length - s.1) (0, p, v3) [] ⟨by simp, by simp, hp⟩ (by simp) (by simp) ?_)
  rintro ⟨k, q, w⟩ ⟨hk, hq, hqs⟩
  simp only at hk hq hqs ⊢
  have hql := hqs.len
  repeat apply za
  refine zb ?_
  repeat apply za
  refine zt rfl (fun hc1 => ?_) (fun hc1 => ?_)
  ·simp at hc1
   obtain ⟨u, tl, b1, b2, b3, f1, f0⟩ := el 2 rfl v k hc1
   have hu := hg.ok u (List.mem_of_getElem? b1)
   obtain ⟨z, hz⟩ : ∃ z : Nat, u.d = z := ⟨u.d.toNat, by omega⟩
   have hzl : z < q.length := by omega
   obtain ⟨d, tld, d1, d2, d3, d0⟩ := zI rfl q z hzl
   obtain ⟨g1, g2, g3⟩ := hqs.ok d (List.mem_of_getElem? d1)
   have hins := XZ x d ⟨c, u.q⟩ (by omega) g1 (by omega)
   have hsz := WN (x := x) (s := ⟨c, u.q⟩) (by omega) g1 g2 g3 (by omega)
   have hst : (v.take (k + 1)).foldl (xF x c) (p, true) = if (yi x d ⟨c, u.q⟩).2 = true then (q.set z (yi x d ⟨c, u.q⟩).1, true) else ([], false) := by
    rw [b3, List.foldl_append, hq]
    have e9 : q.getD u.d.toNat [] = d := by rw [hz, Int.toNat_natCast, List.getD_eq_getElem?_getD, d1]; rfl
    show xF x c (q, true) u = _
    unfold xF
    rw [if_pos rfl, e9, hz, Int.toNat_natCast]
   generalize yi x d ⟨c, u.q⟩ = e at *
   obtain ⟨d', ok'⟩ := e
   simp only at hins hst hsz
   have hz1 : 1 ≤ q.length - z := by omega
   have hqf : (q.flatMap Enc.enc : List PV).length = q.length := qS q
   have hsp := Wx (α := zg) rfl q z d' hzl
   have hsp' : zX (q.flatMap Enc.enc) z [L d'] = (q.set z d').flatMap Enc.enc := by simpa using hsp
   refine zi (za (zj ?_))
   repeat apply za
   refine ze [] (zJ f0 hc1 hz) ?_
   intro v5
   repeat apply za
   refine zb ?_
   intro v6
   repeat apply za
   refine zD (some [nx, nx + 6, nx + 7, nx + 8, nx + 9]) (Row.pures [0, 1, 2, 3, 4, 5, 6, 7, 8, 9, 10, 11] (.alt 12 (.alt 13 (Row.pures [14] .done) .stop) .stop)) mixed (ye d0 hzl hz1 hz) ?_
   refine zN (hins) (ye d0 hzl hz1 hz) ?_
   intro v7
   cases ok' with
   | false =>
    rw [if_neg (by decide)] at hst
    have hall : v.foldl (xF x c) (p, true) = ([], false) := by
     conv => lhs; rw [← List.take_append_drop (k + 1) v, List.foldl_append, hst, WO]
    rw [hall]
    repeat apply za
    refine zb ?_
    refine zo rfl ?_
    repeat apply za
    refine zb ?_
    refine Zb 2 0 rfl rfl ?_
    exact zh (zk hd (by simp; rfl) rfl)
   | true =>
    rw [if_pos rfl] at hst
    repeat apply za
    refine zb ?_
    refine zp rfl ?_
    refine zi ?_
    refine ze [] (ye hzl hsp' hqf hz) ?_
    refine ⟨by omega, ?_⟩
    refine zb ?_
    exact zr (k + 1, q.set z d', w) [_, _, _] ⟨hc1, hst, hqs.set hsz⟩ (by simp; omega) (by simp [zx k (by omega)]) rfl (by simp; exact ⟨rfl, rfl, rfl⟩)
  ·simp at hc1
   obtain rfl : k = v.length := by omega
   rw [List.take_length] at hq
   rw [hq]
   refine zC ?_
   refine yc 6 rfl ?_
   repeat apply za
   refine zb ?_
   exact zh (zk hd (by simp; rfl) rfl)
open Go Go.Proofs Hp
theorem PlanS.wo {n K : Nat} {p : zu} (h : PlanS n K p) (c : Int) : PlanS n K (ZB c p) := by
 refine ⟨by unfold ZB; rw [List.length_map]; exact h.len, fun e he => ?_⟩
 obtain ⟨d, hd, rfl⟩ := List.mem_map.1 he
 obtain ⟨g1, g2, g3⟩ := h.ok d hd
 have hl := Zbh c d
 have hm : ∀ t ∈ qW c d, ∃ u ∈ d, t = jF c u := fun t ht => by
  obtain ⟨u, hu, e⟩ := List.mem_map.1 (List.mem_filter.1 ht).1
  exact ⟨u, hu, e.symm⟩
 refine ⟨⟨by have := g1.n; omega, fun t ht => ?_, fun t ht s hs => ?_⟩, ?_, by omega⟩
 ·obtain ⟨u, hu, rfl⟩ := hm t ht
  exact Nat.le_trans (X1 c u) (g1.t u hu)
 ·obtain ⟨u, hu, rfl⟩ := hm t ht
  exact g1.s u hu s (List.mem_filter.1 hs).1
 ·rw [Zkl]; exact Nat.le_trans (List.length_filter_le _ _) g2
structure PlanG (x : Inst) (n : Nat) (p : zu) : Prop where
 a : InstA x n
 six : x.cust.length ≤ 6
 len : p.length = n
 may : ∀ d ∈ p, yh x d = 0
theorem PlanG.m {x : Inst} {n : Nat} {p : zu} (h : PlanG x n p) : PlanM x p := ⟨by have := h.six; omega, h.a.h, by have := h.len; have := h.a.n60; omega, h.may⟩
theorem PlanG.s {x : Inst} {n : Nat} {p : zu} (h : PlanG x n p) : PlanS n 6 p := by
 refine ⟨h.len, fun d hd => ?_⟩
 obtain ⟨h1, h2, h3⟩ := JE (by have := h.six; omega) (h.may d hd)
 have := h.six
 exact ⟨h3.ok, by omega, by omega⟩
theorem PlanG.serves {x : Inst} {n : Nat} {p : zu} (h : PlanG x n p) : Serves x p := by
 have hs := h.s
 have hn := h.a.n60
 have hl := hs.len
 have hcn : Yk p ≤ 1000 * p.length := by
  have : ∀ p : zu, (∀ d ∈ p, d.flatten.length ≤ 1000) → Yk p ≤ 1000 * p.length := by
   intro p
   induction p with
   | nil => intro _; simp [Yk]
   | cons d p ih =>
    intro h
    have := ih fun e he => h e (by simp [he])
    have := h d (by simp)
    simp only [Yk, List.map_cons, List.sum_cons, List.length_cons] at *
    omega
  exact this p fun d hd => by have := (hs.ok d hd).2.1; omega
 refine ⟨⟨by omega, fun d hd => by have := (hs.ok d hd).2.2; omega, fun d hd => (hs.ok d hd).1.t, by rw [Zcp]; omega⟩, fun s hst => ?_, by omega⟩
 obtain ⟨d, hd, hsd⟩ := Zb5 p 0 s hst
 have := Zb6 (h.may d hd) s.1 hsd
 simp [qE] at this
 omega
theorem PlanG.cost {x : Inst} {n : Nat} {p : zu} (h : PlanG x n p) : Pure Tryz.prog 84 [.agg (zA x), .agg [L p]] (I (qz x p)) :=
 ZjG x p h.serves (by have := h.six; omega) (fun c hc => (h.a.made c hc).fits) fun d hd => (h.s.ok d hd).1
theorem PlanG.clone {x : Inst} {n : Nat} {p : zu} (h : PlanG x n p) : Pure Tryz.prog 61 [.agg [L p]] (.agg [L p]) := by
 obtain ⟨h1, h2, h3⟩ := h.s.sizes (by have := h.a.n60; omega) (by omega)
 exact Zkm p h1 h2 h3
theorem PlanS.open {x : Inst} {n K : Nat} (h : InstA x n) (h6 : x.cust.length ≤ 6) {p : zu} (hp : PlanS n K p) (ho : vQ x p = true) : PlanG x n p :=
 ⟨h, h6, hp.len, fun d hd => by unfold vQ at ho; have := List.all_eq_true.1 ho d hd; simpa using this⟩
def xR (cs : List Nat) (p : zu) : zu := cs.foldl (fun q (c : Nat) => ZB c q) p
def Qk (x : Inst) (n : Nat) (st : zu × Bool) (c : Nat) : zu × Bool := if st.2 = true then jq x n st.1 c else st
def xG (x : Inst) (n : Nat) (cs : List Nat) (q : zu) : zu × Bool := cs.foldl (Qk x n) (q, true)
def jx (x : Inst) (n : Nat) (p : zu) (cs : List Nat) : zu × Bool :=
 if (xG x n cs (xR cs p)).2 = true then
  (if vQ x (xG x n cs (xR cs p)).1 = true ∧ ¬ qz x p ≤ qz x (xG x n cs (xR cs p)).1 then ((xG x n cs (xR cs p)).1, true) else (p, false))
 else (p, false)
theorem WP (x : Inst) (n : Nat) (q : zu) : ∀ cs : List Nat, cs.foldl (Qk x n) (q, false) = (q, false)
 | [] => rfl
 | c :: cs => by rw [List.foldl_cons]; exact WP x n q cs
theorem ZcP {x : Inst} {n : Nat} {p : zu} (h : PlanG x n p) (cs : List Nat) (hl : cs.length ≤ 10) (hcs : ∀ c ∈ cs, c < x.cust.length) : Pure Tryz.prog 78 [.agg (zA x), .agg [L p], L (cs.map fun (c : Nat) => (c : Int))] (.tup [.agg [L (jx x n p cs).1], B (jx x n p cs).2]) := by
 have hA := h.a
 have h6 := h.six
 have hn60 := hA.n60
 have hcl := h.clone
 have hps := h.s
 have hcost := h.cost
 obtain ⟨zs, hzs⟩ : ∃ zs, zs = cs.map fun (c : Nat) => (c : Int) := ⟨_, rfl⟩
 have hzl : zs.length = cs.length := by rw [hzs, List.length_map]
 have hat : ∀ (k c : Nat), cs[k]? = some c → zs[k]? = some (c : Int) := fun k c e => by rw [hzs, List.getElem?_map, e]; rfl
 have hanew : jx x n p cs = if (xG x n cs (xR cs p)).2 = true then (if vQ x (xG x n cs (xR cs p)).1 = true ∧ ¬ qz x p ≤ qz x (xG x n cs (xR cs p)).1 then ((xG x n cs (xR cs p)).1, true) else (p, false)) else (p, false) := rfl
 rw [← hzs]
 clear hzs
 refine zy Tryz.func78 Tryz.ntmps78 Tryz.results78 fun S nx hd => ?_
 repeat apply za
 refine zb ?_
 intro v0 v1 v2
 repeat apply za
 refine zb ?_
 intro v3
 repeat apply za
 refine zb ?_
 refine zj (zM (fun s : Nat × zu => s.1 ≤ zs.length ∧ s.2 = xR (cs.take s.1) p ∧ PlanS n 6 s.2) (fun (k, q) => [(2, L zs), (3, .ptr nx v0 0), (4, .ptr (nx + 1) v1 0), (6, .ptr (nx + 2) v2 0), (8, .ptr (nx + 3) v3 0), (9, B true), (15, L zs), (16, I zs.length), (17, I k)]) (fun (k, q) => [.cells v0 25 (zA x), .cells v1 38 [L p], .cells v2 38 [yD], .cells v3 38 [L q]]) (fun s => zs.length - s.1) (0, p) [] ⟨by simp, by simp [xR], hps⟩ (by simp) (by simp) ?_)
 ·rintro ⟨k, q⟩ ⟨hk, hq, hqs⟩
  simp only at hk hq hqs ⊢
  repeat apply za
  refine zb ?_
  repeat apply za
  refine zt rfl (fun hc1 => ?_) (fun hc1 => ?_)
  ·simp at hc1
   obtain ⟨c, hc⟩ : ∃ c, cs[k]? = some c := ⟨_, List.getElem?_eq_getElem (by omega)⟩
   have hcx := hcs c (List.mem_of_getElem? hc)
   obtain ⟨z, tl, b1, b2, b3, f0⟩ := zI rfl zs k hc1
   obtain rfl : z = (c : Int) := by have := hat k c hc; rw [b1] at this; exact Option.some.inj this
   have hth := ZcL x c
   rw [show (decide (0 ≤ (c : Int)) && decide ((c : Int) < x.cust.length)) = true from by simp; omega] at hth
   obtain ⟨s1, s2, s3⟩ := hqs.sizes (by omega) (by omega)
   have hwo := Zkk q c s1 (fun d hd => by have := s2 d hd; omega) (fun d hd t ht => by have := s3 d hd t ht; omega)
   have hnext : ZB c q = xR (cs.take (k + 1)) p := by
    rw [hq, List.take_add_one, hc]; simp [xR]
   have hqs2 := hqs.wo c
   have hqs2 := hqs.wo c
   generalize ZB c q = q2 at *
   refine zi (za (zj ?_))
   repeat apply za
   refine ze [] (zm f0 hc1) ?_
   repeat apply za
   refine zb ?_
   refine zB hth ?_
   refine zp (by simp) ?_
   refine zi ?_
   refine zb ?_
   refine zB hwo ?_
   refine zb ?_
   exact zr (k + 1, q2) [] ⟨hc1, hnext, hqs2⟩ (by simp; omega) (by simp [zx k (by omega)]) rfl (by simp)
  ·simp at hc1
   obtain rfl : k = zs.length := by omega
   rw [hzl, List.take_length] at hq
   refine zC ?_
   repeat apply za
   refine zb ?_
   refine zj (zM (fun s : Nat × zu => s.1 ≤ zs.length ∧ (cs.take s.1).foldl (Qk x n) (q, true) = (s.2, true) ∧ PlanS n (6 + 64 * s.1) s.2) (fun (k, q) => [(2, L zs), (3, .ptr nx v0 0), (4, .ptr (nx + 1) v1 0), (6, .ptr (nx + 2) v2 0), (8, .ptr (nx + 3) v3 0), (31, L zs), (32, I zs.length), (33, I k)]) (fun (k, q) => [.cells v0 25 (zA x), .cells v1 38 [L p], .cells v2 38 [yD], .cells v3 38 [L q]]) (fun s => zs.length - s.1) (0, q) [] ⟨by simp, by simp, hqs⟩ (by simp) (by simp) ?_)
   rw [← hq] at hanew
   clear hqs hq hk hc1
   rintro ⟨k, r⟩ ⟨hk, hr, hrs⟩
   simp only at hk hr hrs ⊢
   repeat apply za
   refine zb ?_
   repeat apply za
   refine zt rfl (fun hc1 => ?_) (fun hc1 => ?_)
   ·simp at hc1
    obtain ⟨c, hc⟩ : ∃ c, cs[k]? = some c := ⟨_, List.getElem?_eq_getElem (by omega)⟩
    have hcx := hcs c (List.mem_of_getElem? hc)
    obtain ⟨z, tl, b1, b2, b3, f0⟩ := zI rfl zs k hc1
    obtain rfl : z = (c : Int) := by have := hat k c hc; rw [b1] at this; exact Option.some.inj this
    have hput := Zks hA (K := 6 + 64 * k) (by omega) hrs c hcx
    have hsz := ZcO hA (K := 6 + 64 * k) (by omega) hrs hcx
    have hst : (cs.take (k + 1)).foldl (Qk x n) (q, true) = jq x n r c := by
     rw [List.take_add_one, hc, List.foldl_append, hr]; rfl
    generalize jq x n r c = e at *
    obtain ⟨r2, ok⟩ := e
    simp only at hput hsz
    refine zi (za (zj ?_))
    repeat apply za
    refine ze [] (zm f0 hc1) ?_
    repeat apply za
    refine zb ?_
    refine zB hput ?_
    cases ok with
    | false =>
     have hall : xG x n cs q = (r2, false) := by
      unfold xG
      conv => lhs; rw [← List.take_append_drop (k + 1) cs, List.foldl_append, hst, WP]
     rw [hall, if_neg (by simp)] at hanew
     rw [hanew]
     repeat apply za
     refine zb ?_
     refine zo rfl ?_
     repeat apply za
     refine zb ?_
     refine zB hcl ?_
     exact zh (zk hd (by simp; rfl) rfl)
    | true =>
     repeat apply za
     refine zb ?_
     refine zp rfl ?_
     refine zi ?_
     refine zb ?_
     exact zr (k + 1, r2) [] ⟨hc1, hst, by have := hsz rfl; rw [show 6 + 64 * (k + 1) = 6 + 64 * k + 64 by omega]; exact this⟩ (by simp; omega) (by simp [zx k (by omega)]) rfl (by simp)
   ·simp at hc1
    obtain rfl : k = zs.length := by omega
    rw [hzl, List.take_length] at hr
    have hall : xG x n cs q = (r, true) := hr
    rw [hall, if_pos rfl] at hanew
    have hop := Zkq x r (n := n) (K := 6 + 64 * zs.length) (by omega) (by omega) (by omega) hrs
    refine zC ?_
    cases ho : vQ x r with
    | false =>
     rw [ho] at hop
     rw [ho, if_neg (by simp)] at hanew
     rw [hanew]
     repeat apply za
     refine zD (some [nx, nx + 1, nx + 3]) (Row.pures [0, 1, 2, 3, 4, 5, 6, 7, 8, 9, 10, 11, 12] .done) mixed zL ?_
     refine zN (hop) zL ?_
     refine zo rfl ?_
     repeat apply za
     refine zb ?_
     refine zB hcl ?_
     exact zh (zk hd (by simp; rfl) rfl)
    | true =>
     rw [ho] at hop
     have hcr := (hrs.open hA h6 ho).cost
     generalize qz x r = z2 at *
     generalize qz x p = z1 at *
     by_cases hle : z1 ≤ z2
     ·rw [if_neg (fun q => q.2 hle)] at hanew
      rw [hanew]
      repeat apply za
      refine zD (some [nx, nx + 1, nx + 3]) (Row.pures [0, 1, 2, 3, 4, 5, 6, 7, 8, 9, 10, 11, 12] .done) mixed hle ?_
      refine zN (hop) hle ?_
      refine zN (hcr) hle ?_
      refine zN (hcost) hle ?_
      refine zo rfl ?_
      repeat apply za
      refine zb ?_
      refine zB hcl ?_
      exact zh (zk hd (by simp; rfl) rfl)
     ·rw [if_pos ⟨ho, hle⟩] at hanew
      rw [hanew]
      repeat apply za
      refine zD (some [nx, nx + 1, nx + 3]) (Row.pures [0, 1, 2, 3, 4, 5, 6, 7, 8, 9, 10, 11, 12] .done) mixed hle ?_
      refine zN (hop) hle ?_
      refine zN (hcr) hle ?_
      refine zN (hcost) hle ?_
      refine zp rfl ?_
      refine zi ?_
      repeat apply za
      refine zb ?_
      exact zh (zk hd (by simp; rfl) rfl)
theorem Zkt {x : Inst} {n : Nat} {p : zu} (h : PlanG x n p) (c : Nat) (hc : c < x.cust.length) : Pure Tryz.prog 37 [.agg (zA x), .agg [L p], I c] (.tup [.agg [L (jx x n p [c]).1], B (jx x n p [c]).2]) := by
 have ha := ZcP h [c] (by simp) (by simpa using hc)
 simp only [List.map_cons, List.map_nil] at ha
 refine zy Tryz.func37 Tryz.ntmps37 Tryz.results37 fun S nx hd => ?_
 repeat apply za
 refine zb ?_
 intro v0 v1 v2
 repeat apply za
 refine zb ?_
 refine zB ha ?_
 exact zh (zk hd (by simp; rfl) rfl)
def wh (x : Inst) (n : Nat) (p : zu) (a b : Nat) : zu × Bool := if a = b then (p, false) else jx x n p [a, b]
theorem Zku {x : Inst} {n : Nat} {p : zu} (h : PlanG x n p) (a b : Nat) (ha : a < x.cust.length) (hb : b < x.cust.length) : Pure Tryz.prog 204 [.agg (zA x), .agg [L p], I a, I b] (.tup [.agg [L (wh x n p a b).1], B (wh x n p a b).2]) := by
 have hcl := h.clone
 unfold wh
 by_cases hab : a = b
 ·rw [if_pos hab]
  refine zy Tryz.func204 Tryz.ntmps204 Tryz.results204 fun S nx hd => ?_
  repeat apply za
  refine zb ?_
  intro v0 v1 v2
  repeat apply za
  refine zb ?_
  refine zo (by simp [hab]) ?_
  repeat apply za
  refine zb ?_
  refine zB hcl ?_
  exact zh (zk hd (by simp; rfl) rfl)
 ·rw [if_neg hab]
  have hn := ZcP h [a, b] (by simp) (by simpa using ⟨ha, hb⟩)
  simp only [List.map_cons, List.map_nil] at hn
  refine zy Tryz.func204 Tryz.ntmps204 Tryz.results204 fun S nx hd => ?_
  repeat apply za
  refine zb ?_
  intro v0 v1 v2
  repeat apply za
  refine zb ?_
  refine zp (by simp; omega) ?_
  refine zi ?_
  repeat apply za
  refine zb ?_
  refine zB hn ?_
  exact zh (zk hd (by simp; rfl) rfl)
theorem ZcQ {x : Inst} {n : Nat} (h : InstA x n) : ∀ (cs : List Nat) (K : Nat) (q : zu), (∀ c ∈ cs, c < x.cust.length) → K + 64 * cs.length ≤ 1000 → PlanS n K q → (xG x n cs q).2 = true → PlanS n (K + 64 * cs.length) (xG x n cs q).1
 | [], K, q, _, _, hq, _ => hq
 | c :: cs, K, q, hc, hK, hq, hz => by
  rw [List.length_cons] at hK ⊢
  have e : xG x n (c :: cs) q = cs.foldl (Qk x n) (jq x n q c) := rfl
  rw [e] at hz ⊢
  cases ho : (jq x n q c).2 with
  | false =>
   have : jq x n q c = ((jq x n q c).1, false) := by rw [← ho]
   rw [this, WP] at hz; cases hz
  | true =>
   have h1 := ZcO h (by omega) hq (hc c (by simp)) ho
   have : jq x n q c = ((jq x n q c).1, true) := by rw [← ho]
   rw [this] at hz ⊢
   have := ZcQ h cs (K + 64) _ (fun c hc' => hc c (by simp [hc'])) (by omega) h1 hz
   rw [show K + 64 * (cs.length + 1) = K + 64 + 64 * cs.length by omega]
   exact this
theorem ZcR {n K : Nat} : ∀ (cs : List Nat) (p : zu), PlanS n K p → PlanS n K (xR cs p)
 | [], _, h => h
 | c :: cs, p, h => ZcR cs _ (h.wo c)
theorem WQ {x : Inst} {n : Nat} {p : zu} (h : PlanG x n p) (cs : List Nat) (hl : cs.length ≤ 10) (hcs : ∀ c ∈ cs, c < x.cust.length) : PlanG x n (jx x n p cs).1 ∧ qz x (jx x n p cs).1 ≤ qz x p := by
 unfold jx
 split
 ·rename_i h1
  split
  ·rename_i h2
   exact ⟨(ZcQ h.a cs 6 _ hcs (by omega) (ZcR cs p h.s) h1).open h.a h.six h2.1, by have := h2.2; dsimp only; omega⟩
  ·exact ⟨h, Int.le_refl _⟩
 ·exact ⟨h, Int.le_refl _⟩
theorem ZcS {x : Inst} {n : Nat} {p : zu} (h : PlanG x n p) (a b : Nat) (ha : a < x.cust.length) (hb : b < x.cust.length) : PlanG x n (wh x n p a b).1 ∧ qz x (wh x n p a b).1 ≤ qz x p := by
 unfold wh
 split
 ·exact ⟨h, Int.le_refl _⟩
 ·exact WQ h [a, b] (by simp) (by simpa using ⟨ha, hb⟩)
open Go Go.Proofs Hp
theorem Zkv (op : BinOp) (x y : Int) : 0 ≤ bits op .u64 x y ∧ bits op .u64 x y < 18446744073709551616 := by
 have h := wf_bits op .u64 x y
 simp [Lit.wf, IntKind.min, IntKind.max, IntKind.signed, IntKind.bits] at h
 omega
abbrev q8 (s : Int) : List PV := [.sc (.int .u64 s)]
def yR (s : Int) : Int := IntKind.u64.wrap (s + 11400714819323198485)
def uS (s : Int) : Int :=
 let a := yR s
 let b := IntKind.u64.wrap (bits .xor .u64 a (a.fdiv (2 ^ 30)) * 13787848793156543929)
 let c := IntKind.u64.wrap (bits .xor .u64 b (b.fdiv (2 ^ 27)) * 10723151780598845931)
 bits .xor .u64 c (c.fdiv (2 ^ 31))
theorem Zkw (s : Int) : 0 ≤ uS s ∧ uS s < 18446744073709551616 := by unfold uS; exact Zkv _ _ _
theorem wF {S : Store} {nx id : Nat} (hd : zR nx S) (hlt : id < nx) (o : Ob) : zR nx (S.set id o) := fun i hi => by rw [Store.set_other _ _ _ _ (by omega)]; exact hd i hi
theorem Zkx : IntKind.u64.bits = 64 := rfl
theorem Zky (s : Int) {S : Store} {id v : Nat} (hS : S id = .cells v 209 (q8 s)) : Spec Tryz.prog 203 [.ptr id v 0] S (fun q S' => q = .sc (.int .u64 (uS s)) ∧ S' = S.set id (.cells v 209 (q8 (yR s)))) := by
 refine yH Tryz.func203 Tryz.ntmps203 Tryz.results203 fun nx hd => ?_
 have hlt : id < nx := yk hd hS (by simp)
 have xw := fun obs => (zE (S := S) (obs := obs) hlt).trans hS
 have yw := fun (o : Ob) obs => (zE (S := S.set id o) (obs := obs) hlt).trans (Store.set_same _ _ _)
 have g1 : ¬ nx ≤ id := by omega
 repeat apply za
 refine zb ?_
 repeat apply za
 refine ze [] (zm xw g1) ?_
 repeat apply za
 refine ze [] (zm yw g1) ?_
 repeat apply za
 refine zb ?_
 repeat apply za
 refine zb ?_
 repeat apply za
 refine zb ?_
 exact zh ⟨_, _, rfl, ⟨by simp [zn, uS, yR, Zkx], rfl⟩, zW (wF hd hlt _)⟩
def q9 (s : Int) (n : Nat) : Nat := (uS s).toNat % n
theorem uT (s : Int) {n : Nat} (h : 0 < n) : q9 s n < n := Nat.mod_lt _ h
theorem WR (s : Int) (n : Nat) (h0 : 0 < n) (hn : n ≤ 1048576) {S : Store} {id v : Nat} (hS : S id = .cells v 209 (q8 s)) : Spec Tryz.prog 160 [.ptr id v 0, I n] S (fun q S' => q = I (q9 s n) ∧ S' = S.set id (.cells v 209 (q8 (yR s)))) := by
 have hb := Zkw s
 have hbl := uT s h0
 have e1 : (uS s).tmod (n : Int) = (q9 s n : Int) := by
  unfold q9
  obtain ⟨m, hm⟩ := Int.eq_ofNat_of_zero_le hb.1
  rw [hm, Int.toNat_natCast, Int.tmod_eq_emod_of_nonneg (by omega)]; omega
 have w1 : IntKind.u64.wrap (n : Int) = n := by rw [IntWalk.u64_in _ (by omega)]
 have w2 : IntKind.i64.wrap (q9 s n : Int) = q9 s n := wr _ (by omega) (by omega)
 have hw := fun (S : Store) hS => Zky s (S := S) (id := id) (v := v) hS
 generalize uS s = r at *
 generalize q9 s n = k at *
 refine yH Tryz.func160 Tryz.ntmps160 Tryz.results160 fun nx hd => ?_
 have hlt : id < nx := yk hd hS (by simp)
 have xw := fun obs => (zE (S := S) (obs := obs) hlt).trans hS
 repeat apply za
 refine zb ?_
 repeat apply za
 refine zb ?_
 refine zp (by simp; omega) ?_
 refine zi ?_
 repeat apply za
 refine zQ [] (by rfl) (by rfl) fun K Gc Gh hK hGc hGh X hX0 hX => ?_
 simp -implicitDefEqProofs [hX0, hX, w1, e1, w2]
 try clear hX0 hX X
 refine hGc _ _ _ _ _ _ _ fun hsuf => ((hw _ (xw _)).mono ?_).v
 rintro _ _ ⟨rfl, rfl⟩
 refine ⟨S.set id (.cells v 209 (q8 (yR s))), [], jM _ hlt, ?_⟩
 have g2 : ¬ n = 0 := by omega
 clear hGc hGh
 clear Gc Gh
 refine zP hsuf (D := []) (by rfl) fun Gc Gh hGc hGh X hX0 hX => ?_
 simp -implicitDefEqProofs [hX0, hX, w1, e1, w2, g2]
 clear hX0 hX X
 refine hK _ _ _ ?_
 clear hK hGc hGh
 clear K Gc Gh
 exact zh ⟨_, _, rfl, ⟨by simp [zn], rfl⟩, zW (wF hd hlt _)⟩
theorem Zkz (s : Int) {S : Store} {nx : Nat} (hd : zR nx S) : Spec Tryz.prog 120 [I s] S (fun q S' => ∃ v, q = .ptr nx v 0 ∧ S' = S.set nx (.cells v 209 (q8 (IntKind.u64.wrap s)))) := by
 refine ud hd Tryz.func120 Tryz.ntmps120 Tryz.results120 ?_
 repeat apply za
 refine zb ?_
 repeat apply za
 refine zb ?_
 intro v0
 exact zh ⟨_, _, rfl, ⟨v0, by simp [zn], rfl⟩, YK (j := 0) hd (by simp)⟩
open Go Go.Proofs Hp
abbrev ZC (x : Inst) (p : zu) (a o d : Nat) (b : Int) : List PV := [I x.days, I x.veh, I x.cap, I x.len, L x.cust, L x.dist, L p, I a, I o, I d, I b]
theorem ZkA {x : Inst} {n : Nat} {p : zu} (h : PlanG x n p) (d : Nat) (b : Int) : PlanG x n (jT x p d b).1 := by
 unfold jT
 split
 ·exact h
 ·split
  ·exact h
  ·refine ⟨h.a, h.six, by rw [List.length_set]; exact h.len, fun e he => ?_⟩
   rcases List.mem_or_eq_of_mem_set he with q | q
   ·exact h.may e q
   ·rw [q]
    rename_i h1 h2
    have hlt : (d : Int).toNat < p.length := by omega
    refine (ZcN (by have := h.six; omega) h.a.h (h.may _ ?_) b).1
    rw [List.getD_eq_getElem?_getD, List.getElem?_eq_getElem hlt]; exact List.getElem_mem hlt
theorem ZkB {x : Inst} {n : Nat} {p : zu} (h : PlanG x n p) (a o d : Nat) (b : Int) (ha : a < x.cust.length) {S : Store} {id v : Nat} (hS : S id = .cells v 212 (ZC x p a o d b)) :
  Spec Tryz.prog 161 [.ptr id v 0] S (fun _ S' => S' = S.set id (.cells v 212 (ZC x (jx x n p [a]).1 a o d b))) := by
 have hr := Zkt h a ha
 generalize jx x n p [a] = r at *
 obtain ⟨q, ok⟩ := r
 simp only at hr ⊢
 refine yH Tryz.func161 Tryz.ntmps161 Tryz.results161 fun nx hd => ?_
 have hlt : id < nx := yk hd hS (by simp)
 have xw := fun obs => (zE (S := S) (obs := obs) hlt).trans hS
 have g1 : ¬ nx ≤ id := by omega
 refine zD (some []) (Row.pures [0, 1, 2, 3, 5, 6, 7, 9, 10, 11] (.alt 4 (.alt 8 (.alt 12 (Row.pures [13, 14, 15, 16, 17, 18] (.alt 19 (.done) .stop)) .stop) (.alt 12 (.alt 8 (Row.pures [13, 14, 15, 16, 17, 18] (.alt 19 (.done) .stop)) .stop) .stop)) (.alt 8 (.alt 4 (.alt 12 (Row.pures [13, 14, 15, 16, 17, 18] (.alt 19 (.done) .stop)) .stop) (.alt 12 (.alt 4 (Row.pures [13, 14, 15, 16, 17, 18] (.alt 19 (.done) .stop)) .stop) .stop)) (.alt 12 (.alt 4 (.alt 8 (Row.pures [13, 14, 15, 16, 17, 18] (.alt 19 (.done) .stop)) .stop) (.alt 8 (.alt 4 (Row.pures [13, 14, 15, 16, 17, 18] (.alt 19 (.done) .stop)) .stop) .stop)) .stop)))) mixed (zm xw g1) ?_
 repeat' refine And.intro ?_ ?_
 all_goals
  refine zN (hr) (zm xw g1) ?_
  exact ⟨_, _, rfl, by simp, zW (wF hd hlt _)⟩
theorem ZkC {x : Inst} {n : Nat} {p : zu} (h : PlanG x n p) (a o d : Nat) (b : Int) (ha : a < x.cust.length) (ho : o < x.cust.length) {S : Store} {id v : Nat} (hS : S id = .cells v 212 (ZC x p a o d b)) :
  Spec Tryz.prog 162 [.ptr id v 0] S (fun _ S' => S' = S.set id (.cells v 212 (ZC x (wh x n p a o).1 a o d b))) := by
 have hr := Zku h a o ha ho
 generalize wh x n p a o = r at *
 obtain ⟨q, ok⟩ := r
 simp only at hr ⊢
 refine yH Tryz.func162 Tryz.ntmps162 Tryz.results162 fun nx hd => ?_
 have hlt : id < nx := yk hd hS (by simp)
 have xw := fun obs => (zE (S := S) (obs := obs) hlt).trans hS
 have g1 : ¬ nx ≤ id := by omega
 refine zD (some []) (Row.pures [0, 1, 2, 3, 5, 6, 7, 9, 10, 11, 13, 14, 15] (.alt 4 (.alt 8 (.alt 12 (.alt 16 (Row.pures [17, 18, 19, 20, 21, 22] (.alt 23 (.done) .stop)) .stop) (.alt 16 (.alt 12 (Row.pures [17, 18, 19, 20, 21, 22] (.alt 23 (.done) .stop)) .stop) .stop)) (.alt 12 (.alt 8 (.alt 16 (Row.pures [17, 18, 19, 20, 21, 22] (.alt 23 (.done) .stop)) .stop) (.alt 16 (.alt 8 (Row.pures [17, 18, 19, 20, 21, 22] (.alt 23 (.done) .stop)) .stop) .stop)) (.alt 16 (.alt 8 (.alt 12 (Row.pures [17, 18, 19, 20, 21, 22] (.alt 23 (.done) .stop)) .stop) (.alt 12 (.alt 8 (Row.pures [17, 18, 19, 20, 21, 22] (.alt 23 (.done) .stop)) .stop) .stop)) .stop))) (.alt 8 (.alt 4 (.alt 12 (.alt 16 (Row.pures [17, 18, 19, 20, 21, 22] (.alt 23 (.done) .stop)) .stop) (.alt 16 (.alt 12 (Row.pures [17, 18, 19, 20, 21, 22] (.alt 23 (.done) .stop)) .stop) .stop)) (.alt 12 (.alt 4 (.alt 16 (Row.pures [17, 18, 19, 20, 21, 22] (.alt 23 (.done) .stop)) .stop) (.alt 16 (.alt 4 (Row.pures [17, 18, 19, 20, 21, 22] (.alt 23 (.done) .stop)) .stop) .stop)) (.alt 16 (.alt 4 (.alt 12 (Row.pures [17, 18, 19, 20, 21, 22] (.alt 23 (.done) .stop)) .stop) (.alt 12 (.alt 4 (Row.pures [17, 18, 19, 20, 21, 22] (.alt 23 (.done) .stop)) .stop) .stop)) .stop))) (.alt 12 (.alt 4 (.alt 8 (.alt 16 (Row.pures [17, 18, 19, 20, 21, 22] (.alt 23 (.done) .stop)) .stop) (.alt 16 (.alt 8 (Row.pures [17, 18, 19, 20, 21, 22] (.alt 23 (.done) .stop)) .stop) .stop)) (.alt 8 (.alt 4 (.alt 16 (Row.pures [17, 18, 19, 20, 21, 22] (.alt 23 (.done) .stop)) .stop) (.alt 16 (.alt 4 (Row.pures [17, 18, 19, 20, 21, 22] (.alt 23 (.done) .stop)) .stop) .stop)) (.alt 16 (.alt 4 (.alt 8 (Row.pures [17, 18, 19, 20, 21, 22] (.alt 23 (.done) .stop)) .stop) (.alt 8 (.alt 4 (Row.pures [17, 18, 19, 20, 21, 22] (.alt 23 (.done) .stop)) .stop) .stop)) .stop))) (.alt 16 (.alt 4 (.alt 8 (.alt 12 (Row.pures [17, 18, 19, 20, 21, 22] (.alt 23 (.done) .stop)) .stop) (.alt 12 (.alt 8 (Row.pures [17, 18, 19, 20, 21, 22] (.alt 23 (.done) .stop)) .stop) .stop)) (.alt 8 (.alt 4 (.alt 12 (Row.pures [17, 18, 19, 20, 21, 22] (.alt 23 (.done) .stop)) .stop) (.alt 12 (.alt 4 (Row.pures [17, 18, 19, 20, 21, 22] (.alt 23 (.done) .stop)) .stop) .stop)) (.alt 12 (.alt 4 (.alt 8 (Row.pures [17, 18, 19, 20, 21, 22] (.alt 23 (.done) .stop)) .stop) (.alt 8 (.alt 4 (Row.pures [17, 18, 19, 20, 21, 22] (.alt 23 (.done) .stop)) .stop) .stop)) .stop))) .stop))))) mixed (zm xw g1) ?_
 repeat' refine And.intro ?_ ?_
 all_goals
  refine zN (hr) (zm xw g1) ?_
  exact ⟨_, _, rfl, by simp, zW (wF hd hlt _)⟩
theorem ZkD {x : Inst} {n : Nat} {p : zu} (h : PlanG x n p) (a o d : Nat) (b : Int) (hb : b ≤ 9223372036854775807) {S : Store} {id v : Nat} (hS : S id = .cells v 212 (ZC x p a o d b)) :
  Spec Tryz.prog 163 [.ptr id v 0] S (fun _ S' => S' = S.set id (.cells v 212 (ZC x (jT x p d b).1 a o d b))) := by
 have hr := Zko h.m d b hb
 generalize jT x p d b = r at *
 obtain ⟨q, ok⟩ := r
 simp only at hr ⊢
 refine yH Tryz.func163 Tryz.ntmps163 Tryz.results163 fun nx hd => ?_
 have hlt : id < nx := yk hd hS (by simp)
 have xw := fun obs => (zE (S := S) (obs := obs) hlt).trans hS
 have g1 : ¬ nx ≤ id := by omega
 refine zD (some []) (Row.pures [0, 1, 2, 3, 5, 6, 7, 9, 10, 11, 13, 14, 15] (.alt 4 (.alt 8 (.alt 12 (.alt 16 (Row.pures [17, 18, 19, 20, 21, 22] (.alt 23 (.done) .stop)) .stop) (.alt 16 (.alt 12 (Row.pures [17, 18, 19, 20, 21, 22] (.alt 23 (.done) .stop)) .stop) .stop)) (.alt 12 (.alt 8 (.alt 16 (Row.pures [17, 18, 19, 20, 21, 22] (.alt 23 (.done) .stop)) .stop) (.alt 16 (.alt 8 (Row.pures [17, 18, 19, 20, 21, 22] (.alt 23 (.done) .stop)) .stop) .stop)) (.alt 16 (.alt 8 (.alt 12 (Row.pures [17, 18, 19, 20, 21, 22] (.alt 23 (.done) .stop)) .stop) (.alt 12 (.alt 8 (Row.pures [17, 18, 19, 20, 21, 22] (.alt 23 (.done) .stop)) .stop) .stop)) .stop))) (.alt 8 (.alt 4 (.alt 12 (.alt 16 (Row.pures [17, 18, 19, 20, 21, 22] (.alt 23 (.done) .stop)) .stop) (.alt 16 (.alt 12 (Row.pures [17, 18, 19, 20, 21, 22] (.alt 23 (.done) .stop)) .stop) .stop)) (.alt 12 (.alt 4 (.alt 16 (Row.pures [17, 18, 19, 20, 21, 22] (.alt 23 (.done) .stop)) .stop) (.alt 16 (.alt 4 (Row.pures [17, 18, 19, 20, 21, 22] (.alt 23 (.done) .stop)) .stop) .stop)) (.alt 16 (.alt 4 (.alt 12 (Row.pures [17, 18, 19, 20, 21, 22] (.alt 23 (.done) .stop)) .stop) (.alt 12 (.alt 4 (Row.pures [17, 18, 19, 20, 21, 22] (.alt 23 (.done) .stop)) .stop) .stop)) .stop))) (.alt 12 (.alt 4 (.alt 8 (.alt 16 (Row.pures [17, 18, 19, 20, 21, 22] (.alt 23 (.done) .stop)) .stop) (.alt 16 (.alt 8 (Row.pures [17, 18, 19, 20, 21, 22] (.alt 23 (.done) .stop)) .stop) .stop)) (.alt 8 (.alt 4 (.alt 16 (Row.pures [17, 18, 19, 20, 21, 22] (.alt 23 (.done) .stop)) .stop) (.alt 16 (.alt 4 (Row.pures [17, 18, 19, 20, 21, 22] (.alt 23 (.done) .stop)) .stop) .stop)) (.alt 16 (.alt 4 (.alt 8 (Row.pures [17, 18, 19, 20, 21, 22] (.alt 23 (.done) .stop)) .stop) (.alt 8 (.alt 4 (Row.pures [17, 18, 19, 20, 21, 22] (.alt 23 (.done) .stop)) .stop) .stop)) .stop))) (.alt 16 (.alt 4 (.alt 8 (.alt 12 (Row.pures [17, 18, 19, 20, 21, 22] (.alt 23 (.done) .stop)) .stop) (.alt 12 (.alt 8 (Row.pures [17, 18, 19, 20, 21, 22] (.alt 23 (.done) .stop)) .stop) .stop)) (.alt 8 (.alt 4 (.alt 12 (Row.pures [17, 18, 19, 20, 21, 22] (.alt 23 (.done) .stop)) .stop) (.alt 12 (.alt 4 (Row.pures [17, 18, 19, 20, 21, 22] (.alt 23 (.done) .stop)) .stop) .stop)) (.alt 12 (.alt 4 (.alt 8 (Row.pures [17, 18, 19, 20, 21, 22] (.alt 23 (.done) .stop)) .stop) (.alt 8 (.alt 4 (Row.pures [17, 18, 19, 20, 21, 22] (.alt 23 (.done) .stop)) .stop) .stop)) .stop))) .stop))))) mixed (zm xw g1) ?_
 repeat' refine And.intro ?_ ?_
 all_goals
  refine zN (hr) (zm xw g1) ?_
  exact ⟨_, _, rfl, by simp, zW (wF hd hlt _)⟩
open Go Go.Proofs Hp
def wG (x : Inst) (n : Nat) (p : zu) (s b : Int) : zu :=
 if x.cust.length = 0 then p else
  (jT x (wh x n (jx x n p [q9 s x.cust.length]).1 (q9 s x.cust.length) (q9 (yR s) x.cust.length)).1 (q9 (yR (yR s)) n) b).1
def ZD (x : Inst) (s : Int) : Int := if x.cust.length = 0 then s else yR (yR (yR s))
theorem ZkE {x : Inst} {n : Nat} {p : zu} (h : PlanG x n p) (s b : Int) : PlanG x n (wG x n p s b) := by
 unfold wG
 split
 ·exact h
 ·rename_i h0
  have ha := uT s (n := x.cust.length) (by omega)
  have ho := uT (yR s) (n := x.cust.length) (by omega)
  exact ZkA (ZcS (WQ h _ (by simp) (by simpa using ha)).1 _ _ ha ho).1 _ _
def uU (p q1 q2 q3 : zu) (k : Nat) : zu := if k = 0 then p else if k = 1 then q1 else if k = 2 then q2 else q3
theorem ZcT (p q1 q2 q3 : zu) : uU p q1 q2 q3 0 = p := if_pos rfl
theorem ZcU (p q1 q2 q3 : zu) : uU p q1 q2 q3 1 = q1 := by unfold uU; rw [if_neg (by decide), if_pos rfl]
theorem ZcV (p q1 q2 q3 : zu) : uU p q1 q2 q3 2 = q2 := by unfold uU; rw [if_neg (by decide), if_neg (by decide), if_pos rfl]
theorem ZcW (p q1 q2 q3 : zu) : uU p q1 q2 q3 3 = q3 := by unfold uU; rw [if_neg (by decide), if_neg (by decide), if_neg (by decide)]
theorem ZkF {x : Inst} {n : Nat} {p : zu} (h : PlanG x n p) (hn0 : 0 < n) (s b : Int) (hb : b ≤ 9223372036854775807) {S : Store} {id v : Nat} (hS : S id = .cells v 209 (q8 s)) :
  Spec Tryz.prog 121 [.agg (zA x), .agg [L p], .ptr id v 0, I b] S (fun q S' => q = .agg [L (wG x n p s b)] ∧ S' = S.set id (.cells v 209 (q8 (ZD x s)))) := by
 have hcl := h.clone
 have h6 := h.six
 have hxd := h.a.days
 have hn60 := h.a.n60
 by_cases hm : x.cust.length = 0
 ·have e1 : wG x n p s b = p := by unfold wG; rw [if_pos hm]
  have e2 : ZD x s = s := by unfold ZD; rw [if_pos hm]
  rw [e1, e2]
  refine yH Tryz.func121 Tryz.ntmps121 Tryz.results121 fun nx hd => ?_
  have hlt : id < nx := yk hd hS (by simp)
  repeat apply za
  refine zb ?_
  intro v0 v1 v2
  repeat apply za
  refine zD (some [nx, nx + 1]) (Row.pures [0, 1, 2, 3, 4] (.alt 5 (Row.pures [6] .done) .stop)) mixed trivial ?_
  refine zN (hcl) trivial ?_
  intro v3
  repeat apply za
  refine zb ?_
  repeat apply za
  refine zb ?_
  refine zo (by simp [List.length_eq_zero_iff.1 hm]) ?_
  repeat apply za
  refine zb ?_
  have eS : S.set id (.cells v 209 (q8 s)) = S := by
   rw [← hS]
   funext i
   by_cases hi : i = id
   ·subst hi; exact Store.set_same _ _ _
   ·exact Store.set_other _ _ _ _ hi
  rw [eS]
  exact zh ⟨_, S, (by simp; rfl), ⟨by simp [zn], rfl⟩, zW hd⟩
 have e1 : wG x n p s b = (jT x (wh x n (jx x n p [q9 s x.cust.length]).1 (q9 s x.cust.length) (q9 (yR s) x.cust.length)).1 (q9 (yR (yR s)) n) b).1 := by unfold wG; rw [if_neg hm]
 have e2 : ZD x s = yR (yR (yR s)) := by unfold ZD; rw [if_neg hm]
 rw [e1, e2]
 have ha := uT s (n := x.cust.length) (by omega)
 have ho := uT (yR s) (n := x.cust.length) (by omega)
 have hdd := uT (yR (yR s)) hn0
 have b1 := fun (S : Store) hS => WR s x.cust.length (by omega) (by omega) (S := S) (id := id) (v := v) hS
 have b2 := fun (S : Store) hS => WR (yR s) x.cust.length (by omega) (by omega) (S := S) (id := id) (v := v) hS
 have b3 := fun (S : Store) hS => WR (yR (yR s)) n (by omega) (by omega) (S := S) (id := id) (v := v) hS
 rw [← hxd] at b3
 have hp1 : PlanG x n (jx x n p [q9 s x.cust.length]).1 := (WQ h _ (by simp) (by simpa using ha)).1
 have hp2 := (ZcS hp1 _ _ ha ho).1
 generalize q9 s x.cust.length = a at *
 generalize q9 (yR s) x.cust.length = o at *
 generalize q9 (yR (yR s)) n = d at *
 generalize yR (yR s) = s2 at *
 generalize yR s = s1 at *
 generalize yR s2 = s3 at *
 have r1 := fun (S : Store) (i w : Nat) hS => ZkB h a o d b ha (S := S) (id := i) (v := w) hS
 have r2 := fun (S : Store) (i w : Nat) hS => ZkC hp1 a o d b ha ho (S := S) (id := i) (v := w) hS
 have r3 := fun (S : Store) (i w : Nat) hS => ZkD hp2 a o d b hb (S := S) (id := i) (v := w) hS
 clear hp1 hp2
 generalize (jT x (wh x n (jx x n p [a]).1 a o).1 d b).1 = q3 at *
 generalize (wh x n (jx x n p [a]).1 a o).1 = q2 at *
 generalize (jx x n p [a]).1 = q1 at *
 clear e1 e2
 refine yH Tryz.func121 Tryz.ntmps121 Tryz.results121 fun nx hd => ?_
 have hlt : id < nx := yk hd hS (by simp)
 have xw := fun obs => (zE (S := S) (obs := obs) hlt).trans hS
 repeat apply za
 refine zb ?_
 intro v0 v1 v2
 repeat apply za
 refine zD (some [nx, nx + 1]) (Row.pures [0, 1, 2, 3, 4] (.alt 5 (Row.pures [6] .done) .stop)) mixed trivial ?_
 refine zN (hcl) trivial ?_
 intro v3
 repeat apply za
 refine zb ?_
 repeat apply za
 refine zb ?_
 have hm2 : ¬ x.cust = [] := fun e => hm (by rw [e]; rfl)
 refine zp (by simp [hm2]) ?_
 refine zi ?_
 repeat apply za
 refine zQ [] (by rfl) (by rfl) fun K Gc Gh hK hGc hGh X hX0 hX => ?_
 simp -implicitDefEqProofs [hX0, hX]
 try clear hX0 hX X
 refine hGc _ _ _ _ _ _ _ fun hsuf => ((b1 _ (xw _)).mono ?_).v
 rintro _ _ ⟨rfl, rfl⟩
 refine ⟨_, _, jM _ hlt, ?_⟩
 clear hGc hGh
 clear Gc Gh
 refine zP hsuf (D := []) (by rfl) fun Gc Gh hGc hGh X hX0 hX => ?_
 simp -implicitDefEqProofs [hX0, hX]
 clear hX0 hX X
 have hS1 : (S.set id (.cells v 209 (q8 s1))) id = .cells v 209 (q8 s1) := Store.set_same _ _ _
 have hd1 := wF hd hlt (.cells v 209 (q8 s1))
 obtain ⟨S1, hS1e⟩ : ∃ S1, S1 = S.set id (.cells v 209 (q8 s1)) := ⟨_, rfl⟩
 rw [← hS1e] at hS1 hd1 ⊢
 have xw1 := fun obs => (zE (S := S1) (obs := obs) hlt).trans hS1
 refine hK _ _ _ ?_
 clear hK hGc hGh
 clear K Gc Gh
 repeat apply za
 refine zQ [] (by rfl) (by rfl) fun K Gc Gh hK hGc hGh X hX0 hX => ?_
 simp -implicitDefEqProofs [hX0, hX]
 try clear hX0 hX X
 refine hGc _ _ _ _ _ _ _ fun hsuf => ((b2 _ (xw1 _)).mono ?_).v
 rintro _ _ ⟨rfl, rfl⟩
 refine ⟨_, _, jM _ hlt, ?_⟩
 clear hGc hGh
 clear Gc Gh
 refine zP hsuf (D := []) (by rfl) fun Gc Gh hGc hGh X hX0 hX => ?_
 simp -implicitDefEqProofs [hX0, hX]
 clear hX0 hX X
 have hS2 : (S1.set id (.cells v 209 (q8 s2))) id = .cells v 209 (q8 s2) := Store.set_same _ _ _
 have hd2 := wF hd1 hlt (.cells v 209 (q8 s2))
 obtain ⟨S2, hS2e⟩ : ∃ S2, S2 = S1.set id (.cells v 209 (q8 s2)) := ⟨_, rfl⟩
 rw [← hS2e] at hS2 hd2 ⊢
 have xw2 := fun obs => (zE (S := S2) (obs := obs) hlt).trans hS2
 refine hK _ _ _ ?_
 clear hK hGc hGh
 clear K Gc Gh
 repeat apply za
 refine zQ [] (by rfl) (by rfl) fun K Gc Gh hK hGc hGh X hX0 hX => ?_
 simp -implicitDefEqProofs [hX0, hX]
 try clear hX0 hX X
 refine hGc _ _ _ _ _ _ _ fun hsuf => ((b3 _ (xw2 _)).mono ?_).v
 rintro _ _ ⟨rfl, rfl⟩
 refine ⟨_, _, jM _ hlt, ?_⟩
 clear hGc hGh
 clear Gc Gh
 refine zP hsuf (D := []) (by rfl) fun Gc Gh hGc hGh X hX0 hX => ?_
 simp -implicitDefEqProofs [hX0, hX]
 clear hX0 hX X
 have hd3 := wF hd2 hlt (.cells v 209 (q8 s3))
 obtain ⟨S3, hS3e⟩ : ∃ S3, S3 = S2.set id (.cells v 209 (q8 s3)) := ⟨_, rfl⟩
 rw [← hS3e] at hd3 ⊢
 refine hK _ _ _ ?_
 clear hK hGc hGh
 clear K Gc Gh
 repeat apply za
 refine zb ?_
 refine zj (zM (fun k : Nat => k ≤ 3) (fun k => [(8, .ptr (nx + 2) v2 0), (9, .ptr (nx + 3) v3 0), (53, .lst 3 [.fn (.func 161) [.ptr (nx + 3) v3 0] [], .fn (.func 162) [.ptr (nx + 3) v3 0] [], .fn (.func 163) [.ptr (nx + 3) v3 0] []]), (54, I 3), (55, I k)]) (fun k => [.cells v0 25 (zA x), .cells v1 38 [L p], .cells v2 38 [yD], .cells v3 212 (ZC x (uU p q1 q2 q3 k) a o d b)]) (fun k => 3 - k) 0 [] (by simp) (by simp) (by simp [ZcT]) ?_)
 rintro k hk
 repeat apply za
 refine zb ?_
 repeat apply za
 refine zt rfl (fun hc => ?_) (fun hc => ?_)
 ·simp at hc
  refine zi (za (zj ?_))
  obtain rfl | rfl | rfl : k = 0 ∨ k = 1 ∨ k = 2 := by omega
  ·repeat apply za
   refine zb ?_
   refine zQ [] (by rfl) (by rfl) fun K Gc Gh hK hGc hGh X hX0 hX => ?_
   simp -implicitDefEqProofs [hX0, hX]
   try clear hX0 hX X
   refine hGc _ _ _ _ _ _ _ fun hsuf => ((r1 _ (nx + 3) v3 (by rw [yC]; simp [ZcT])).mono ?_).v
   rintro _ _ rfl
   refine ⟨S3, _, (by rw [yN _ (by omega) (by simp), Nat.add_sub_cancel_left]), ?_⟩
   clear hGc hGh
   clear Gc Gh
   refine zP hsuf (D := []) (by rfl) fun Gc Gh hGc hGh X hX0 hX => ?_
   simp -implicitDefEqProofs [hX0, hX]
   clear hX0 hX X
   refine hK _ _ _ ?_
   clear hK hGc hGh
   clear K Gc Gh
   refine zb ?_
   exact zr 1 [] (by omega) (by omega) (by simp; exact wr 1 (by omega) (by omega)) rfl (by simp [ZcU])
  ·repeat apply za
   refine zb ?_
   refine zQ [] (by rfl) (by rfl) fun K Gc Gh hK hGc hGh X hX0 hX => ?_
   simp -implicitDefEqProofs [hX0, hX]
   try clear hX0 hX X
   refine hGc _ _ _ _ _ _ _ fun hsuf => ((r2 _ (nx + 3) v3 (by rw [yC]; simp [ZcU])).mono ?_).v
   rintro _ _ rfl
   refine ⟨S3, _, (by rw [yN _ (by omega) (by simp), Nat.add_sub_cancel_left]), ?_⟩
   clear hGc hGh
   clear Gc Gh
   refine zP hsuf (D := []) (by rfl) fun Gc Gh hGc hGh X hX0 hX => ?_
   simp -implicitDefEqProofs [hX0, hX]
   clear hX0 hX X
   refine hK _ _ _ ?_
   clear hK hGc hGh
   clear K Gc Gh
   refine zb ?_
   exact zr 2 [] (by omega) (by omega) (by simp; exact wr 2 (by omega) (by omega)) rfl (by simp [ZcV])
  ·repeat apply za
   refine zb ?_
   refine zQ [] (by rfl) (by rfl) fun K Gc Gh hK hGc hGh X hX0 hX => ?_
   simp -implicitDefEqProofs [hX0, hX]
   try clear hX0 hX X
   refine hGc _ _ _ _ _ _ _ fun hsuf => ((r3 _ (nx + 3) v3 (by rw [yC]; simp [ZcV])).mono ?_).v
   rintro _ _ rfl
   refine ⟨S3, _, (by rw [yN _ (by omega) (by simp), Nat.add_sub_cancel_left]), ?_⟩
   clear hGc hGh
   clear Gc Gh
   refine zP hsuf (D := []) (by rfl) fun Gc Gh hGc hGh X hX0 hX => ?_
   simp -implicitDefEqProofs [hX0, hX]
   clear hX0 hX X
   refine hK _ _ _ ?_
   clear hK hGc hGh
   clear K Gc Gh
   refine zb ?_
   exact zr 3 [] (by omega) (by omega) (by simp; exact wr 3 (by omega) (by omega)) rfl (by simp [ZcW])
 ·simp at hc
  obtain rfl : k = 3 := by omega
  refine zC ?_
  rw [ZcW]
  repeat apply za
  refine zb ?_
  have eS : S.set id (.cells v 209 (q8 s3)) = S3 := by rw [hS3e, hS2e, hS1e, Store.set_set, Store.set_set]
  rw [eS]
  exact zh ⟨_, S3, (by simp; rfl), ⟨by simp [zn], rfl⟩, zW hd3⟩
open Go Go.Proofs Hp
def vg : Cust := ⟨1, 1, [1], 0, 0, 0, 0, 0⟩
def yf : Inst := ⟨1, 1, 9, 9, [vg], [[0, 3], [4, 0]]⟩
theorem WS : InstH yf := by
 refine ⟨by decide, by decide, ZhH fun row hr d hd => ?_, by decide⟩
 simp only [yf, List.mem_cons, List.not_mem_nil, or_false] at hr
 rcases hr with rfl | rfl <;> simp only [List.mem_cons, List.not_mem_nil, or_false] at hd <;> rcases hd with rfl | rfl <;> decide
theorem ZcX (l : List Int) : wD vg 9 l = ([⟨0, 1⟩], true) := by
 have h1 : jp vg 9 = [1] := by decide
 have h2 : vJ vg 1 = [⟨0, 1⟩] := by decide
 unfold wD
 rw [h1]
 have h3 : (qj l [1] 1).1 = 0 := by
  unfold qj
  rw [if_pos (.inl (by simp [qj]))]; rfl
 simp only [List.length_cons, List.length_nil, Nat.zero_add, h3]
 rw [if_neg (by decide)]
 show (vJ vg 1, true) = _
 rw [h2]
theorem ZkG : VsOk 1 1 [[⟨0, 1⟩]] := by
 refine ⟨rfl, fun l hl w hw => ?_, fun l hl => ?_, fun l hl => ?_⟩
 ·simp at hl; subst hl; simp at hw; subst hw; decide
 ·simp at hl; subst hl; simp
 ·simp at hl; subst hl; simp
theorem ZcY {d : zg} {s : Stop} (h : d.flatten.Perm [s]) (hn : ∀ t ∈ d, t ≠ []) : d = [[s]] := by
 have h1 : d.flatten = [s] := List.perm_singleton.1 h
 match d, h1, hn with
 | [], h1, _ => simp at h1
 | [t], h1, _ => simpa using h1
 | t :: u :: r, h1, hn =>
  exfalso
  have a := hn t (by simp)
  have b := hn u (by simp)
  have := congrArg List.length h1
  simp only [List.flatten_cons, List.length_append, List.length_cons, List.length_nil] at this
  have := List.length_pos_iff.2 a
  have := List.length_pos_iff.2 b
  omega
theorem ZkH {x : Inst} {s : Stop} (h : SOk x [s]) (h0 : arc x 0 0 = 0) (hf : jh x [s] = 0) (hv : 1 ≤ x.veh) (b : Int) : jI x b [s] = ([[s]], 0) := by
 have he : (jI x b [s]).2 = 0 := by
  apply Classical.byContradiction
  intro hne
  rcases (ZiG h b hne).2 with q | q
  ·exact q hf
  ·simp at q; omega
 obtain ⟨-, h2, h3, -⟩ := ZbS h h0 b he
 have := ZcY h3 (Jm h2)
 exact Prod.ext this he
open Go Go.Proofs Hp
theorem ZcZ {x : Inst} {sol : Cust → List Int → List Visit × Bool} {b : Int} {n : Nat} : ∀ (k : Nat) (pr : List (List Int)), wC x.cust.length n pr → (wE x sol b n k pr).2 = 0 → ∃ pr', wC x.cust.length n pr' ∧ (yK x sol pr').2 = 0 ∧ xB (qf x (yK x sol pr').1 b n) = 0 ∧ (wE x sol b n k pr).1 = jn x (yK x sol pr').1 b n
 | 0, _, _, h => by simp [wE] at h
 | k + 1, pr, hp, h => by
  unfold wE at h ⊢
  by_cases h1 : (yK x sol pr).2 ≠ 0
  ·rw [if_pos h1] at h; cases h
  rw [if_neg h1] at h ⊢
  by_cases h2 : xB (qf x (yK x sol pr).1 b n) = 0
  ·rw [if_pos h2] at h ⊢
   exact ⟨pr, hp, by simpa using h1, h2, rfl⟩
  rw [if_neg h2] at h ⊢
  by_cases h3 : (qf x (yK x sol pr).1 b n).any vN = true
  ·rw [if_pos h3] at h; cases h
  rw [if_neg h3] at h ⊢
  exact ZcZ k _ (Qf _ hp n) h
open Go Go.Proofs Hp
theorem Yq (r : Int) (k : Nat) : r * ((k + 1 : Nat) : Int) = r * (k : Int) + r := by rw [Int.natCast_add, Int.mul_add]; simp
theorem Zc0 (size rate : Int) : ∀ (a b : List Int) (there : Int), yE size rate there (a ++ b) = (yE size rate there a).bind fun l => (yE size rate (there + a.sum - rate * a.length) b).map (l ++ ·)
 | [], b, there => by
  have e : there + ([] : List Int).sum - rate * (([] : List Int).length : Int) = there := by simp
  show yE size rate there b = (yE size rate (there + ([] : List Int).sum - rate * (([] : List Int).length : Int)) b).map ([] ++ ·)
  rw [e]
  cases yE size rate there b <;> rfl
 | q :: a, b, there => by
  rw [List.cons_append, yE, yE]
  split
  ·rfl
  ·rw [Zc0 size rate a b]
   have e : there + q - rate + a.sum - rate * (a.length : Int) = there + (q :: a).sum - rate * ((q :: a).length : Int) := by
    rw [List.sum_cons, List.length_cons, Yq]; omega
   rw [e]
   cases yE size rate (there + q - rate) a with
   | none => rfl
   | some l =>
    simp only [Option.bind_some, Option.map_some]
    cases yE size rate (there + (q :: a).sum - rate * ((q :: a).length : Int)) b <;> simp
theorem JF (c : Cust) (last d : Int) : (yJ c last d).1 = (if last < 0 then c.start else c.size) - c.rate * ((if last < 0 then d else d - last).toNat : Int) := rfl
open Go Go.Proofs Hp
theorem ZkI {x : Inst} {n : Nat} (h : InstA x n) {b : Int} (h0 : (qk x b).2 = 0) : ∃ v pr, VsOk x.cust.length n v ∧ wC x.cust.length n pr ∧ (qk x b).1 = jn x v b n ∧ (∀ d : Nat, d < n → (jI x b (qx v d x.cust.length)).2 = 0) ∧ ∀ i c, x.cust[i]? = some c → v[i]? = some (qb n x.cap c (pr.getD i [])).1 ∧ (qb n x.cap c (pr.getD i [])).2 = true := by
 have hd : x.days.toNat = n := by rw [h.days]; rfl
 unfold qk ZA at h0 ⊢
 rw [hd] at h0 ⊢
 obtain ⟨pr, hp, e1, e2, e3⟩ := ZcZ 8 _ (Zcm x n) h0
 have hv := ZcK h pr hp e1
 obtain ⟨c1, c2⟩ := ZcJ e1
 refine ⟨_, pr, hv, hp, e3, fun d hdn => ?_, c2⟩
 refine (Zi4 _).1 e2 _ (List.mem_map.2 ⟨_, List.mem_map.2 ⟨d, List.mem_range.2 hdn, rfl⟩, rfl⟩)
open Go Go.Proofs Hp
def ZkJ (c : Cust) (n : Nat) (cap : Int) : Prop := ∃ ds, FilS c cap n ds ∧ 0 ≤ (yJ c (wg ds) n).1
inductive FR (c : Cust) (cap : Int) : List Int → Int → Prop where
 | nil : FR c cap [] c.start
 | zero {q : List Int} {t : Int} (h : FR c cap q t) : FR c cap (q ++ [0]) (t - c.rate)
 | fill {q : List Int} {t : Int} (h : FR c cap q t) (h1 : 1 ≤ c.size - t) (h2 : c.size - t ≤ cap) : FR c cap (q ++ [c.size - t]) (c.size - c.rate)
theorem FR.sum {c : Cust} {cap : Int} {q : List Int} {t : Int} (h : FR c cap q t) : t = c.start + q.sum - c.rate * q.length := by
 induction h with
 | nil => simp
 | zero h ih => rw [List.sum_append, List.length_append, List.length_singleton, Yq]; simp; omega
 | fill h h1 h2 ih => rw [List.sum_append, List.length_append, List.length_singleton, Yq]; simp; omega
theorem Zc1 {size rate there z : Int} {q l : List Int} (h : yE size rate there (q ++ [z]) = some l) : (∃ l', yE size rate there q = some l') ∧ 0 ≤ there + q.sum - rate * q.length + z - rate := by
 rw [Zc0] at h
 cases e : yE size rate there q with
 | none => rw [e] at h; cases h
 | some l' =>
  rw [e, Option.bind_some] at h
  refine ⟨⟨_, rfl⟩, ?_⟩
  rw [yE] at h
  split at h
  ·cases h
  ·omega
theorem ZkK (c : Cust) {last : Int} {m : Nat} (h : last < m) (h1 : -1 ≤ last) : (yJ c last ((m + 1 : Nat) : Int)).1 = (yJ c last m).1 - c.rate := by
 rw [JF, JF]
 by_cases h0 : last < 0
 ·rw [if_pos h0, if_pos h0, if_pos h0, Int.toNat_natCast, Int.toNat_natCast, Yq]; omega
 ·rw [if_neg h0, if_neg h0, if_neg h0]
  have e : (((m + 1 : Nat) : Int) - last).toNat = ((m : Int) - last).toNat + 1 := by omega
  rw [e, Yq]; omega
theorem FR.fil {c : Cust} {cap : Int} {n : Nat} {q : List Int} {t : Int} (h : FR c cap q t) (h0 : 0 ≤ c.start) : ∀ l, yE c.size c.rate c.start q = some l → q.length ≤ n → ∃ ds, FilS c cap n ds ∧ wg ds < q.length ∧ t = (yJ c (wg ds) q.length).1 ∧ 0 ≤ t := by
 induction h with
 | nil =>
  intro l _ _
  refine ⟨[], .nil, by simp [wg], ?_, h0⟩
  rw [JF]; simp [wg]
 | @zero q t h ih =>
  intro l hl hn
  obtain ⟨⟨l', hl'⟩, hz⟩ := Zc1 hl
  rw [← h.sum] at hz
  rw [List.length_append, List.length_singleton] at hn ⊢
  obtain ⟨ds, d1, d2, d3, d4⟩ := ih l' hl' (by omega)
  refine ⟨ds, d1, by omega, ?_, by omega⟩
  rw [ZkK c d2 d1.lo.1, ← d3]
 | @fill q t h h1 h2 ih =>
  intro l hl hn
  obtain ⟨⟨l', hl'⟩, hz⟩ := Zc1 hl
  rw [← h.sum] at hz
  rw [List.length_append, List.length_singleton] at hn ⊢
  obtain ⟨ds, d1, d2, d3, d4⟩ := ih l' hl' (by omega)
  refine ⟨ds ++ [(q.length : Int)], .snoc d1 d2 (by omega) ⟨by rw [← d3]; exact d4, ?_⟩, by rw [Qj]; omega, ?_, by omega⟩
  ·rw [← d3]
   unfold xl
   rw [if_neg (by omega), if_pos h2]; omega
  ·rw [Qj, JF, if_neg (by omega), if_neg (by omega)]
   have e : (((q.length + 1 : Nat) : Int) - (q.length : Int)).toNat = 0 + 1 := by omega
   rw [e, Yq]; simp
theorem ZkL {c : Cust} {q : List Int} (h : w8 c q = 0) : ∃ l, yE c.size c.rate c.start q = some l := by
 have : (qu c q).2 = 0 := by
  unfold w8 at h
  split at h
  ·rename_i h1; exact absurd h h1
  ·rename_i h1; simpa using h1
 unfold qu at this
 split at this
 ·cases this
 ·cases e : yE c.size c.rate c.start q with
  | none => rw [e] at this; cases this
  | some l => exact ⟨l, rfl⟩
theorem FR.ok {c : Cust} {cap : Int} {n : Nat} {q : List Int} {t : Int} (h : FR c cap q t) (h0 : 0 ≤ c.start) (hq : q.length = n) (hh : w8 c q = 0) : ZkJ c n cap := by
 obtain ⟨l, hl⟩ := ZkL hh
 obtain ⟨ds, d1, -, d3, d4⟩ := h.fil (n := n) h0 l hl (Nat.le_of_eq hq)
 exact ⟨ds, d1, by rw [← hq, ← d3]; exact d4⟩
open Go Go.Proofs Hp
def jd (x : Inst) (n : Nat) (b : Int) (p : zu) (s : Int) : Nat → zu × Int
 | 0 => (p, s)
 | k + 1 => (wG x n (jd x n b p s k).1 (jd x n b p s k).2 b, ZD x (jd x n b p s k).2)
def xS (x : Inst) (n : Nat) (b : Int) (p : zu) (s : Int) (k : Nat) : List zu := (List.range (k + 1)).map fun i => (jd x n b p s i).1
theorem ZkM (x : Inst) (n : Nat) (b : Int) (p : zu) (s : Int) : xS x n b p s 0 = [p] := rfl
theorem ZkN (x : Inst) (n : Nat) (b : Int) (p : zu) (s : Int) (k : Nat) : xS x n b p s (k + 1) = xS x n b p s k ++ [(jd x n b p s (k + 1)).1] := by
 unfold xS; rw [List.range_succ, List.map_append]; rfl
theorem ZkO (x : Inst) (n : Nat) (b : Int) (p : zu) (s : Int) (k : Nat) : (xS x n b p s k).length = k + 1 := by simp [xS]
theorem Zc2 {x : Inst} {n : Nat} {p : zu} (h : PlanG x n p) (b s : Int) : ∀ k, PlanG x n (jd x n b p s k).1
 | 0 => h
 | k + 1 => ZkE (Zc2 h b s k) _ _
abbrev uV (seed r b cl : Int) : List PV := [I seed, I r, I b, I cl]
theorem ZkP {x : Inst} {n : Nat} (hA : InstA x n) (hn0 : 0 < n) (hmay : ∀ b, (qk x b).2 = 0 → PlanG x n (qk x b).1) (seed : Int) (r : Nat) (hr : r ≤ 1000) (b : Int) (hb : b ≤ 9223372036854775807) (cl : Int) (fn : FuncId) (cs : List PV) {S : Store} (St : List zu → Store) (hS0 : St [] = S)
  (hdead : ∀ nx, zR nx S → ∀ h, zR nx (St h))
  (hshow : ∀ nx, zR nx S → ∀ (h : List zu) (p : zu) (obs : List Ob), h.length ≤ 1001 → PlanG x n p → Spec Tryz.prog fn ([.agg [L p]] ++ cs) (ext (St h) nx obs) (fun _ S' => S' = ext (St (h ++ [p])) nx obs)) :
  Spec Tryz.prog 81 [.agg (zA x), .agg (uV seed r b cl), .fn (.func fn) [] cs] S (fun q S' => q = I (qk x b).2 ∧ S' = St (if (qk x b).2 = 0 then xS x n b (qk x b).1 (IntKind.u64.wrap seed) r else [])) := by
 subst hS0
 have hSt := Zkj hA hb
 have hmay := hmay b
 generalize qk x b = st at *
 obtain ⟨p0, e⟩ := st
 simp only at hSt hmay ⊢
 refine yH Tryz.func81 Tryz.ntmps81 Tryz.results81 fun nx hd => ?_
 have hshow := hshow nx hd
 have hdead := hdead nx hd
 repeat apply za
 refine zb ?_
 intro v0 v1
 repeat apply za
 refine zb ?_
 refine zB hSt ?_
 intro v2
 by_cases he : e = 0
 case neg =>
  rw [if_neg he]
  repeat apply za
  refine zb ?_
  refine zo (by simp [he]) ?_
  repeat apply za
  refine zb ?_
  exact zh ⟨_, _, rfl, ⟨by simp [zn], rfl⟩, zW hd⟩
 subst he
 rw [if_pos rfl]
 have hG := hmay rfl
 have hit := Zc2 hG b (IntKind.u64.wrap seed)
 repeat apply za
 refine zb ?_
 refine zp (by simp) ?_
 refine zi ?_
 repeat apply za
 refine zQ [] (by rfl) (by rfl) fun K Gc Gh hK hGc hGh X hX0 hX => ?_
 simp -implicitDefEqProofs [hX0, hX]
 try clear hX0 hX X
 refine hGc _ _ _ _ _ _ _ fun hsuf => ((hshow [] p0 _ (by simp) hG).mono ?_).v
 rintro _ _ rfl
 refine ⟨_, _, rfl, ?_⟩
 clear hGc hGh
 clear Gc Gh
 refine zP hsuf (D := []) (by rfl) fun Gc Gh hGc hGh X hX0 hX => ?_
 simp -implicitDefEqProofs [hX0, hX]
 clear hX0 hX X
 refine hK _ _ _ ?_
 clear hK hGc hGh
 clear K Gc Gh
 repeat apply za
 refine zQ [] (by rfl) (by rfl) fun K Gc Gh hK hGc hGh X hX0 hX => ?_
 simp -implicitDefEqProofs [hX0, hX]
 try clear hX0 hX X
 refine hGc _ _ _ _ _ _ _ fun hsuf => ((Zkz seed jz).mono ?_).v
 rintro _ _ ⟨v3, rfl, rfl⟩
 refine ⟨_, _, qO _, ?_⟩
 clear hGc hGh
 clear Gc Gh
 refine zP hsuf (D := []) (by rfl) fun Gc Gh hGc hGh X hX0 hX => ?_
 simp -implicitDefEqProofs [hX0, hX]
 clear hX0 hX X
 refine hK _ _ _ ?_
 clear hK hGc hGh
 clear K Gc Gh
 repeat apply za
 refine zb ?_
 have hz : xS x n b p0 (IntKind.u64.wrap seed) 0 = [] ++ [p0] := rfl
 generalize IntKind.u64.wrap seed = s0 at *
 refine zj (qP (σ := Nat) (fun k => k ≤ r) (fun k => [(2, .fn (.func fn) [] cs), (3, .ptr nx v0 0), (4, .ptr (nx + 1) v1 0), (7, .ptr (nx + 2) v2 0), (9, .ptr (nx + 3) v3 0), (27, I r), (28, I k)]) (fun k => St (xS x n b p0 s0 k)) (fun k => [.cells v0 25 (zA x), .cells v1 74 (uV seed r b cl), .cells v2 38 [L (jd x n b p0 s0 k).1], .cells v3 209 (q8 (jd x n b p0 s0 k).2)]) (fun k => r - k) (zS 0 [] (by simp) (by simp) (by rw [ZkM]) (by simp [jd])) ?_)
 rintro k hk
 have hgk := hit k
 have hgn := hit (k + 1)
 have hrd := fun (S : Store) (id v : Nat) hS => ZkF hgk hn0 (jd x n b p0 s0 k).2 b hb (S := S) (id := id) (v := v) hS
 have hnx : wG x n (jd x n b p0 s0 k).1 (jd x n b p0 s0 k).2 b = (jd x n b p0 s0 (k + 1)).1 := rfl
 have hnx2 : ZD x (jd x n b p0 s0 k).2 = (jd x n b p0 s0 (k + 1)).2 := rfl
 have hhs := ZkN x n b p0 s0 k
 have hhl := ZkO x n b p0 s0 k
 rw [hnx, hnx2] at hrd
 repeat apply za
 refine zb ?_
 repeat apply za
 refine zt rfl (fun hc => ?_) (fun hc => ?_)
 ·simp at hc
  refine zi (za (zj ?_))
  repeat apply za
  refine zQ [] (by rfl) (by rfl) fun K Gc Gh hK hGc hGh X hX0 hX => ?_
  simp -implicitDefEqProofs [hX0, hX]
  try clear hX0 hX X
  refine hGc _ _ _ _ _ _ _ fun hsuf => ((hrd _ (nx + 3) v3 (by rw [yC]; rfl)).mono ?_).v
  rintro _ _ ⟨rfl, rfl⟩
  refine ⟨_, _, yN _ (by omega) (by simp), ?_⟩
  clear hGc hGh
  clear Gc Gh
  refine zP hsuf (D := []) (by rfl) fun Gc Gh hGc hGh X hX0 hX => ?_
  simp -implicitDefEqProofs [hX0, hX]
  clear hX0 hX X
  try simp only [Nat.add_sub_cancel_left, List.set_cons_succ, List.set_cons_zero]
  refine hK _ _ _ ?_
  clear hK hGc hGh
  clear K Gc Gh
  refine zQ [] (by rfl) (by rfl) fun K Gc Gh hK hGc hGh X hX0 hX => ?_
  simp -implicitDefEqProofs [hX0, hX]
  try clear hX0 hX X
  refine hGc _ _ _ _ _ _ _ fun hsuf => ((hshow _ _ _ (by omega) hgn).mono ?_).v
  rintro _ _ rfl
  refine ⟨_, _, rfl, ?_⟩
  clear hGc hGh
  clear Gc Gh
  refine zP hsuf (D := []) (by rfl) fun Gc Gh hGc hGh X hX0 hX => ?_
  simp -implicitDefEqProofs [hX0, hX]
  clear hX0 hX X
  refine hK _ _ _ ?_
  clear hK hGc hGh
  clear K Gc Gh
  refine zb ?_
  exact zr (k + 1) [] hc (by omega) (by simp [zx k (by omega)]) (by rw [hhs]) (by simp)
 ·simp at hc
  obtain rfl : k = r := by omega
  refine zC ?_
  repeat apply za
  refine zb ?_
  exact zh ⟨_, _, rfl, ⟨by simp [zn], rfl⟩, zW (hdead _)⟩
open Go Go.Proofs Hp
theorem ZkQ {x : Inst} {n : Nat} {p : zu} (hG : PlanG x n p) (l : List Int) (hl : l.length ≤ 2000) {S : Store} {id v ib w ix vx : Nat} (hS : S id = .cells v 45 [.sl ib w 1 0 l.length]) (hB : S ib = .cells w 3 (l.flatMap Enc.enc)) (hX : S ix = .cells vx 25 (zA x)) (d1 : id ≠ ib) (d2 : ix ≠ id) (d3 : ix ≠ ib) :
  Spec Tryz.prog 83 [.agg [L p], .ptr id v 0, .ptr ix vx 0] S (fun _ S' => S' = (S.set ib (.cells (w + 1) 3 ((l ++ [qz x p]).flatMap Enc.enc))).set id (.cells v 45 [.sl ib (w + 1) 1 0 (l.length + 1)])) := by
 have hc := hG.cost
 generalize qz x p = z at *
 refine yH Tryz.func83 Tryz.ntmps83 Tryz.results83 fun nx hd => ?_
 have hlt : id < nx := yk hd hS (by simp)
 have hltB : ib < nx := yk hd hB (by simp)
 have hltX : ix < nx := yk hd hX (by simp)
 have xw := fun obs => (zE (S := S) (obs := obs) hlt).trans hS
 have xb := fun obs => (zE (S := S) (obs := obs) hltB).trans hB
 have xx := fun obs => (zE (S := S) (obs := obs) hltX).trans hX
 have yw := fun (o : Ob) obs => (zE (S := S.set ib o) (obs := obs) hlt).trans ((Store.set_other _ _ _ _ d1).trans hS)
 have g1 : ¬ nx ≤ id := by omega
 have g2 : ¬ nx ≤ ib := by omega
 have g3 : ¬ nx ≤ ix := by omega
 repeat apply za
 refine zb ?_
 intro v0
 refine zD (some [nx, ix]) (Row.pures [1, 2, 3, 4] (.alt 0 (.alt 5 (.alt 6 (.done) .stop) .stop) .stop)) mixed (yg xw xb xx yw g1 (zm g2 g3)) ?_
 refine zN (hc) (yg xw xb xx yw g1 (zm g2 g3)) ?_
 refine ⟨by omega, ?_⟩
 refine ⟨by rw [zE hltX, Store.set_other _ _ _ _ d3]; exact hX, by rw [zE hltX, Store.set_other _ _ _ _ d2, Store.set_other _ _ _ _ d3]; exact hX, ?_⟩
 exact ⟨_, _, rfl, by simp, zW (wF (wF hd hltB _) hlt _)⟩
def ZE (x : Inst) (n : Nat) (seed : Int) (r : Nat) (b : Int) : List Int :=
 if (qk x b).2 = 0 then (xS x n b (qk x b).1 (IntKind.u64.wrap seed) r).map (qz x) else []
theorem ZkR {x : Inst} {n : Nat} (hA : InstA x n) (hn0 : 0 < n) (hmay : ∀ b, (qk x b).2 = 0 → PlanG x n (qk x b).1) (seed : Int) (r : Nat) (hr : r ≤ 1000) (b : Int) (hb : b ≤ 9223372036854775807) (cl : Int) :
  Pure Tryz.prog 43 [.agg (zA x), .agg (uV seed r b cl)] (L (ZE x n seed r b)) := by
 have hw := fun (S : Store) fn cs St h1 h2 h3 => ZkP hA hn0 hmay seed r hr b hb cl fn cs (S := S) St h1 h2 h3
 have hcz : (if (qk x b).2 = 0 then xS x n b (qk x b).1 (IntKind.u64.wrap seed) r else []).map (qz x) = ZE x n seed r b := by unfold ZE; split <;> rfl
 have hcl : (if (qk x b).2 = 0 then xS x n b (qk x b).1 (IntKind.u64.wrap seed) r else []).length = (ZE x n seed r b).length := by rw [← hcz, List.length_map]
 generalize (if (qk x b).2 = 0 then xS x n b (qk x b).1 (IntKind.u64.wrap seed) r else []) = H at *
 generalize ZE x n seed r b = cz at *
 generalize (qk x b).2 = e at *
 refine zy Tryz.func43 Tryz.ntmps43 Tryz.results43 fun S nx hd => ?_
 repeat apply za
 refine zb ?_
 intro v0 v1
 repeat apply za
 refine zb ?_
 intro v2
 refine je 2 0 3 1 rfl rfl fun v3 => ?_
 obtain ⟨S1, hS1⟩ : ∃ S1, S1 = ext S nx [.cells v0 25 (zA x), .cells v1 74 (uV seed r b cl), .cells v2 45 [.sl (nx + 3) v3 1 0 0], .cells v3 3 []] := ⟨_, rfl⟩
 have h0 : S1 nx = .cells v0 25 (zA x) := by
  have : S1 (nx + 0) = .cells v0 25 (zA x) := by rw [hS1, yC]; rfl
  exact this
 have h2 : S1 (nx + 2) = .cells v2 45 [.sl (nx + 3) v3 1 0 0] := by rw [hS1, yC]; rfl
 have h3 : S1 (nx + 3) = .cells v3 3 [] := by rw [hS1, yC]; rfl
 have hwk := hw S1 83 [.ptr (nx + 2) v2 0, .ptr nx v0 0] (fun h => (S1.set (nx + 3) (.cells (v3 + h.length) 3 ((h.map (qz x)).flatMap Enc.enc))).set (nx + 2) (.cells v2 45 [.sl (nx + 3) (v3 + h.length) 1 0 h.length])) (by
   funext i
   by_cases hi : i = nx + 2
   ·subst hi; rw [Store.set_same]; exact h2.symm
   ·rw [Store.set_other _ _ _ _ hi]
    by_cases hi3 : i = nx + 3
    ·subst hi3; rw [Store.set_same]; exact h3.symm
    ·exact Store.set_other _ _ _ _ hi3) (fun nx' hd' h => wF (wF hd' (yk hd' h3 (by simp)) _) (yk hd' h2 (by simp)) _) (fun nx' hd' h p obs hhl hG => by
   have hlt2 : nx + 2 < nx' := yk hd' h2 (by simp)
   have hlt3 : nx + 3 < nx' := yk hd' h3 (by simp)
   refine (ZkQ hG (h.map (qz x)) (by rw [List.length_map]; omega) (id := nx + 2) (v := v2) (ib := nx + 3) (w := v3 + h.length) (ix := nx) (vx := v0) (by rw [zE hlt2, Store.set_same, List.length_map]) (by rw [zE hlt3, Store.set_other _ _ _ _ (by omega), Store.set_same]) (by rw [zE (by omega), Store.set_other _ _ _ _ (by omega), Store.set_other _ _ _ _ (by omega)]; exact h0) (by omega) (by omega) (by omega)).mono ?_
   rintro _ _ rfl
   rw [jM _ hlt3, jM _ hlt2]
   congr 1
   funext i
   simp only [Store.set, List.length_map, List.length_append, List.length_singleton, List.map_append, List.map_cons, List.map_nil, Nat.add_assoc]
   by_cases hi : i = nx + 2
   ·simp [hi]
   ·by_cases hi3 : i = nx + 3
    ·simp [hi3]
    ·simp [hi, hi3])
 rw [hS1] at hwk
 repeat apply za
 refine zQ [] (by rfl) (by rfl) fun K Gc Gh hK hGc hGh X hX0 hX => ?_
 simp -implicitDefEqProofs [hX0, hX]
 try clear hX0 hX X
 refine hGc _ _ _ _ _ _ _ fun hsuf => (hwk.mono ?_).v
 rintro _ _ ⟨rfl, rfl⟩
 refine ⟨S, _, by rw [yN _ (by omega) (by simp), yN _ (by omega) (by simp)], ?_⟩
 clear hGc hGh
 clear Gc Gh
 refine zP hsuf (D := []) (by rfl) fun Gc Gh hGc hGh X hX0 hX => ?_
 simp -implicitDefEqProofs [hX0, hX]
 clear hX0 hX X
 try simp only [Nat.add_sub_cancel_left, List.set_cons_succ, List.set_cons_zero]
 refine hK _ _ _ ?_
 clear hK hGc hGh
 clear K Gc Gh
 rw [hcz, hcl]
 refine yc 3 rfl ?_
 repeat apply za
 refine zb ?_
 exact zh (zk hd (by simp; rfl) (by simp [zn]))
open Go Go.Proofs Hp
def yM (l : List Int) (i : Nat) : Int := if 1000 < l.getD i 0 then 1000 else if l.getD i 0 < 0 then 0 else l.getD i 0
theorem WT (l : List Int) (i : Nat) (hi : i ≤ 100) : Pure Tryz.prog 80 [L l, I i] (I (yM l i)) := by
 refine zy Tryz.func80 Tryz.ntmps80 Tryz.results80 fun S nx hd => ?_
 repeat apply za
 refine zb ?_
 by_cases h1 : i < l.length
 ·obtain ⟨z, tl, a1, a2, a3, e0⟩ := zI rfl l i h1
  have hz : l.getD i 0 = z := by rw [List.getD_eq_getElem?_getD, a1]; rfl
  have hz1 : 1 ≤ l.length - i := by omega
  have h1' : ¬ l.length ≤ i := by omega
  unfold yM
  rw [hz]
  by_cases h2 : z < 0
  ·rw [if_neg (by omega), if_pos h2]
   repeat apply za
   refine ze [(4, 9)] (qv e0 h1 h1' hz1 h2) ?_
   refine zo rfl ?_
   repeat apply za
   refine zb ?_
   exact zh (zk hd rfl rfl)
  ·by_cases h3 : 1000 < z
   ·rw [if_pos h3]
    repeat apply za
    refine ze [(4, 9)] (qv e0 h1 h1' hz1 h2) ?_
    refine zp rfl ?_
    refine zi ?_
    repeat apply za
    refine ze [] (zJ e0 h1 hz1) ?_
    refine zo (by simp [h3]) ?_
    repeat apply za
    refine zb ?_
    exact zh (zk hd rfl rfl)
   ·rw [if_neg h3, if_neg h2]
    repeat apply za
    refine ze [(4, 9)] (qv e0 h1 h1' hz1 h2) ?_
    refine zp rfl ?_
    refine zi ?_
    repeat apply za
    refine ze [] (zJ e0 h1 hz1) ?_
    refine zp (by simp; omega) ?_
    refine zi ?_
    repeat apply za
    refine ze [] (zJ e0 h1 hz1) ?_
    exact zh (zk hd rfl rfl)
 ·have hz : l.getD i 0 = 0 := by rw [List.getD_eq_getElem?_getD, List.getElem?_eq_none (by omega)]; rfl
  unfold yM
  rw [hz, if_neg (by decide), if_neg (by decide)]
  have h1' : l.length ≤ i := by omega
  repeat apply za
  refine ze [(4, 9)] (zm h1' zL) ?_
  refine zo rfl ?_
  repeat apply za
  refine zb ?_
  exact zh (zk hd rfl rfl)
def wH (l : List Int) : Int := l.getD 0 0
theorem Zc3 (l : List Int) : Pure Tryz.prog 39 [L l] (.agg (uV (wH l) (yM l 1) (yM l 2) (yM l 3))) := by
 have t1 := WT l 1 (by omega)
 have t2 := WT l 2 (by omega)
 have t3 := WT l 3 (by omega)
 generalize yM l 1 = r at *
 generalize yM l 2 = b at *
 generalize yM l 3 = c at *
 refine zy Tryz.func39 Tryz.ntmps39 Tryz.results39 fun S nx hd => ?_
 repeat apply za
 refine zb ?_
 intro v0
 repeat apply za
 refine zb ?_
 refine zB t1 ?_
 refine zB t2 ?_
 refine zB t3 ?_
 intro v1
 by_cases h : 0 < l.length
 ·obtain ⟨z, tl, a1, a2, a3, e0⟩ := zI rfl l 0 h
  have hz : wH l = z := by unfold wH; rw [List.getD_eq_getElem?_getD, a1]; rfl
  have hz1 : 1 ≤ l.length := h
  rw [List.drop_zero] at e0
  rw [hz]
  repeat apply za
  refine zb ?_
  refine zo (by simp [h]) ?_
  refine ze [] (zJ e0 h hz1) ?_
  repeat apply za
  refine zb ?_
  exact zh (zk hd (by simp; rfl) rfl)
 ·have hz : wH l = 0 := by unfold wH; rw [List.getD_eq_getElem?_getD, List.getElem?_eq_none (by omega)]; rfl
  rw [hz]
  have hl : l = [] := List.length_eq_zero_iff.1 (by omega)
  subst hl
  repeat apply za
  refine zb ?_
  refine zp (by simp) ?_
  refine zi ?_
  repeat apply za
  refine zb ?_
  exact zh (zk hd (by simp; rfl) rfl)
open Go Go.Proofs Hp
theorem Zc4 : InstA yf 1 := by
 refine ⟨WS, rfl, by decide, fun c hc => ?_, fun c hc => ?_⟩
 ·have : c = vg := by simpa [yf] using hc
  subst this
  exact ⟨⟨by decide, by decide, by decide⟩, by decide, by decide, fun _ => ⟨by decide, by decide, by decide⟩⟩
 ·have : c = vg := by simpa [yf] using hc
  subst this; decide
theorem ZkS {x : Inst} {n : Nat} (h : InstA x n) (h6 : x.cust.length ≤ 6) (b : Int) (h0 : (qk x b).2 = 0) : PlanG x n (qk x b).1 := by
 obtain ⟨v, pr, hv, hp, e, hd, hc⟩ := ZkI h h0
 rw [e]
 refine ⟨h, h6, Wv x v b n, fun d hd' => ?_⟩
 obtain ⟨r, hr, rfl⟩ := List.mem_map.1 hd'
 obtain ⟨k, hk, rfl⟩ := List.mem_map.1 hr
 exact (ZbS (Wu h.h hv k) h.h.diag b (hd k (List.mem_range.1 hk))).2.1
theorem ZkT (pr : List (List Int)) : yK yf (qb 1 9) pr = ([[⟨0, 1⟩]], 0) := by
 have h : wd yf (qb 1 9) pr yf.cust.length = [([⟨0, 1⟩], true)] := by
  show [qb 1 9 vg (pr.getD 0 [])] = _
  unfold qb
  rw [if_pos (show vg.kind = 1 from rfl), ZcX]
 unfold yK
 rw [h]; rfl
theorem ZkU : qk yf 0 = ([[[⟨0, 1⟩]]], 0) := by
 have hs : qx [[⟨0, 1⟩]] (0 : Nat) 1 = [⟨0, 1⟩] := by decide
 have hk := Wu WS ZkG 0
 have hb : Zx yf [[⟨0, 1⟩]] 0 1 = [([[⟨0, 1⟩]], 0)] := by
  show [jI yf 0 (qx [[⟨0, 1⟩]] (0 : Nat) 1)] = _
  rw [hs]
  rw [show qx [[(⟨0, 1⟩ : Visit)]] 0 yf.cust.length = [⟨0, 1⟩] from hs] at hk
  rw [ZkH hk WS.diag (by decide) (by decide) 0]
 have h1 : qf yf [[⟨0, 1⟩]] 0 1 = [0] := by unfold qf; rw [hb]; rfl
 have h2 : jn yf [[⟨0, 1⟩]] 0 1 = [[[⟨0, 1⟩]]] := by unfold jn; rw [hb]; rfl
 show ZA yf (qb 1 9) 0 1 = _
 unfold ZA wE
 rw [ZkT]
 simp only [h1, h2]
 rfl
def jU : zu := [[[⟨0, 1⟩]]]
theorem ZkV : qz yf jU = 7 := by decide
theorem ZkW : jq yf 1 [[]] 0 = (jU, true) ∨ (jq yf 1 [[]] 0).2 = false := by
 unfold jq
 have e : qb 1 yf.cap (yf.cust.getD 0 default) (([[]] : zu).map (jS yf (xn yf 0))) = ([⟨0, 1⟩], true) := by
  show qb 1 9 vg _ = _
  unfold qb
  rw [if_pos (show vg.kind = 1 from rfl), ZcX]
 rw [e, if_pos rfl]
 show ([⟨0, 1⟩] : List Visit).foldl (xF yf 0) ([[]], true) = _ ∨ _
 have e2 : ([⟨0, 1⟩] : List Visit).foldl (xF yf 0) ([[]], true) = xF yf 0 ([[]], true) ⟨0, 1⟩ := rfl
 rw [e2]
 unfold xF
 rw [if_pos rfl]
 split
 ·rename_i hi
  left
  have hp := Jj hi
  have hm := (RgOk.step (x := yf) (d := []) (l := [⟨0, 0⟩]) (by decide) (X3 (by decide) (by decide)) (i := 0) (by decide) hi).may
  have : (yi yf [] ⟨0, 1⟩).1 = [[⟨0, 1⟩]] := ZcY hp (Jm hm)
  show ([[]].set 0 (yi yf [] ⟨0, 1⟩).1, true) = _
  rw [this]; rfl
 ·exact .inr rfl
theorem ZkX : (jx yf 1 jU [0]).1 = jU := by
 unfold jx
 have e : xR [0] jU = [[]] := by decide
 rw [e]
 have e2 : xG yf 1 [0] [[]] = jq yf 1 [[]] 0 := rfl
 rw [e2]
 rcases ZkW with q | q
 ·rw [q, if_pos rfl]
  split
  ·rename_i h; exact absurd (Int.le_refl _) h.2
  ·rfl
 ·rw [if_neg (by rw [q]; decide)]
theorem ZkY (s : Int) : wG yf 1 jU s 0 = jU := by
 unfold wG
 rw [if_neg (by decide)]
 have b0 : ∀ s, q9 s yf.cust.length = 0 := fun s => by have := uT s (n := yf.cust.length) (by decide); have e : yf.cust.length = 1 := rfl; omega
 have b1 : ∀ s, q9 s 1 = 0 := fun s => by have := uT s (n := 1) (by decide); omega
 rw [b0, b0, b1, ZkX]
 unfold wh
 rw [if_pos rfl]
 show (jT yf jU 0 0).1 = jU
 have hi : ∀ d, jH yf 0 d = d := fun d => rfl
 unfold jT
 rw [if_neg (by decide), hi, if_pos (Int.le_refl _)]
theorem JG (s : Int) : ∀ k, (jd yf 1 0 jU s k).1 = jU
 | 0 => rfl
 | k + 1 => by
  show wG yf 1 (jd yf 1 0 jU s k).1 (jd yf 1 0 jU s k).2 0 = jU
  rw [JG s k, ZkY]
theorem ZkZ : ZE yf 1 0 2 0 = [7, 7, 7] := by
 unfold ZE
 rw [ZkU, if_pos rfl]
 unfold xS
 show [qz yf (jd yf 1 0 jU _ 0).1, qz yf (jd yf 1 0 jU _ 1).1, qz yf (jd yf 1 0 jU _ 2).1] = _
 rw [JG, JG, JG, ZkV]
theorem Zk0 (hread : ∀ l : List Int, Pure Tryz.prog 38 [L l] (.agg (uV (wH l) (yM l 1) (yM l 2) (yM l 3)))) : Pure Tryz.prog 40 [] (B true) := by
 have h1 := hread [7, -1, 2000]
 rw [show wH [7, -1, 2000] = 7 from by decide, show yM [7, -1, 2000] 1 = 0 from by decide, show yM [7, -1, 2000] 2 = 1000 from by decide, show yM [7, -1, 2000] 3 = 0 from by decide] at h1
 have h2 := ZkR Zc4 (by decide) (ZkS Zc4 (by decide)) 0 2 (by decide) 0 (by decide) 0
 rw [ZkZ] at h2
 refine zy Tryz.func40 Tryz.ntmps40 Tryz.results40 fun S nx hd => ?_
 repeat apply za
 refine zb ?_
 repeat apply za
 refine zb ?_
 intro v0
 repeat apply za
 refine zb ?_
 refine zB h1 ?_
 intro v1
 repeat apply za
 refine zb ?_
 refine zB h2 ?_
 repeat apply za
 refine ze [(3, 19), (8, 24), (14, 30)] trivial ?_
 exact zh (zk hd (by simp; rfl) rfl)
open Go Go.Proofs Hp
theorem Zk1 (hread : ∀ l : List Int, Pure Tryz.prog 38 [L l] (.agg (uV (wH l) (yM l 1) (yM l 2) (yM l 3)))) (l : List Int) (hl : l.length ≤ 9223372036854775807) : Pure Tryz.prog 9 [L l] (B true) := by
 have hlv := Zk0 hread
 by_cases h8 : 8 < l.length
 ·have h1 := hread (l.take 8)
  have h2 := Zc3 (l.take 8)
  have hf : (l.flatMap Enc.enc : List PV).take 8 = (l.take 8).flatMap Enc.enc := by
   have := WI l 8
   rw [show 8 * Enc.sz Int = 8 from rfl] at this
   exact this
  have hfl : (l.flatMap Enc.enc : List PV).length = l.length := by rw [jf]; simp [Enc.sz]
  have h88 : (l.take 8).length = 8 := by rw [List.length_take]; omega
  generalize hm : l.take 8 = m at *
  have e8 : L m = .lst 8 (m.flatMap Enc.enc) := by show PV.lst m.length _ = _; rw [h88]
  rw [e8] at h1 h2
  generalize wH m = s1 at *
  generalize yM m 1 = s2 at *
  generalize yM m 2 = s3 at *
  generalize yM m 3 = s4 at *
  refine zy Tryz.func9 Tryz.ntmps9 Tryz.results9 fun S nx hd => ?_
  repeat apply za
  refine zb ?_
  repeat apply za
  refine zb ?_
  refine zo (by simp; omega) ?_
  have h8' : 8 ≤ l.length := by omega
  refine ze [] (ye hf hfl h8' h88) ?_
  repeat apply za
  refine ze [(5, 13)] trivial ?_
  refine jg [(5, 13)] h1 trivial ?_
  refine jg [(5, 13)] h2 trivial ?_
  refine jg [(5, 13)] hlv trivial ?_
  exact zh (zk hd (by simp; rfl) rfl)
 ·have h1 := hread l
  have h2 := Zc3 l
  generalize wH l = s1 at *
  generalize yM l 1 = s2 at *
  generalize yM l 2 = s3 at *
  generalize yM l 3 = s4 at *
  refine zy Tryz.func9 Tryz.ntmps9 Tryz.results9 fun S nx hd => ?_
  repeat apply za
  refine zb ?_
  repeat apply za
  refine zb ?_
  refine zp (by simp; omega) ?_
  refine zi ?_
  repeat apply za
  refine ze [(5, 13)] trivial ?_
  refine jg [(5, 13)] h1 trivial ?_
  refine jg [(5, 13)] h2 trivial ?_
  refine jg [(5, 13)] hlv trivial ?_
  exact zh (zk hd (by simp; rfl) rfl)
open Go Go.Proofs Hp
def JH (id ver b : Nat) : Rd := ⟨none, fun C S w => Rel C S w (.ptr id ver 0) (.pointer (some ⟨b, 0, none⟩)), fun st h => Rel.mono st h⟩
theorem Zk2 {P : Program} {n N : Nat} {c : Code} {Q : Exit → (Nat → PV) → Store → Prop} {F : Nat → PV} {S : Store} {x id ver e : Nat} {cs : List PV} (hF : F x = .ptr id ver 0) (hs : S id = .cells ver e cs)
  (h : ∀ b, PW P (JH id ver b) n N c Q F S) : PW P wv n N c Q F S := by
 intro C w a st
 have e1 := st.fr x
 rw [hF] at e1
 generalize hv : a.tmps.getD x undef = v at e1
 cases e1 with
 | ptr h1 h2 h3 =>
  obtain ⟨b, k, hl, rfl⟩ := (h3 ver (by rw [hs]; rfl)).2 rfl
  have := h b C w a ⟨st.sim, st.size, st.fr, .ptr h1 h2 h3⟩
  exact wpIn_mono this fun e a' w' ⟨F', S', C', q1, q2, q3, q4⟩ => ⟨F', S', C', q1, ⟨q2.sim, q2.size, q2.fr, trivial⟩, q3, q4⟩
theorem Zk3 {P : Program} {n : Nat} {F : Nat → PV} {S : Store} {o : Oper} {t e m id ver b et : Nat} {x : Operand} {cs : List PV} {K : PV → Store → Prop} (ho : o.op = .slice t x none none none) (ht : P.underlying t = some (.array m e)) (hc : P.cellsOf e ≠ 0) (hx : ev F x = .ptr id ver 0) (hs : S id = .cells ver et cs)
  (hK : K (.sc (.slice (some ⟨b, 0, none⟩) m m)) S) : PO P (JH id ver b) n o F S K := by
 intro G hG C w a N st next Q' hnext
 have e1 := st.ev x
 rw [(hG x (by simp [ho, Op.operands])).trans hx] at e1
 have e2 : Rel C S w (.ptr id ver 0) (.pointer (some ⟨b, 0, none⟩)) := st.v
 have hnd : ∀ c, o.op ≠ .defer c := by intro c hc; rw [ho] at hc; cases hc
 generalize hv : a.eval x = v at e1
 cases e1 with
 | ptr h1 h2 h3 =>
  obtain ⟨b1, k1, hl, rfl⟩ := (h3 ver (by rw [hs]; rfl)).2 rfl
  cases e2 with
  | ptr i1 i2 i3 =>
   obtain ⟨b2, k2, hl2, hb⟩ := (i3 ver (by rw [hs]; rfl)).2 rfl
   rw [hl] at hl2
   cases hl2
   cases hb
   have hrun : (execOp a.eval o).run P w = .ok (.value (.slice (some ⟨b, 0, none⟩) m m)) w := by
    unfold execOp
    simp [ho, hv, Instr.sliceAt, run_underlying ht, Instr.sureAddr, Instr.sliceBounds, xo hc]
    intro _; rfl
   exact y0 hnd hrun (hnext _ _ _ _ _ hK (.sc _) st.sim (Step.refl _ _ _))
theorem Zc5 {P : Program} {o : Oper} {s x : Operand} {t : TypeId} {a : Act} {w w' : World} {v : Value} (ho : o.op = .call { callee := .builtin .copy, args := #[s, x], argTypes := #[t, t] })
  (h : (Builtin.copy_ #[t, t] o.type #[a.eval s, a.eval x]).run P w = .ok v w') : (execOp a.eval o).run P w = .ok (.value v) w' := by
 unfold execOp
 simp only [ho, resolve, invoke, builtin, Sem.run_bind, Sem.run_pure, Result.andThen_ok, List.map_toArray, List.map_cons, List.map_nil, h]
theorem Zk4 {P : Program} {n : Nat} {F : Nat → PV} {S : Store} {o : Oper} {s x : Operand} {t e b m id ver et : Nat} {cs l : List PV} {K : PV → Store → Prop} (ho : o.op = .call { callee := .builtin .copy, args := #[s, x], argTypes := #[t, t] }) (ht : P.underlying t = some (.slice e)) (hz : (P.info? e).map (·.size) = some 1)
  (hs : ev F s = .sc (.slice (some ⟨b, 0, none⟩) m m)) (hx : ev F x = .lst l.length l) (hid : S id = .cells ver et cs) (hm : cs.length = m)
  (hK : K (I (min l.length m : Nat)) (S.set id (.cells ver et (l.take m ++ cs.drop (min l.length m))))) : PO P (JH id ver b) n o F S K := by
 intro G hG C w a N st next Q' hnext
 have e1 := st.ev s
 rw [(hG s (by simp [ho, Op.operands, Call.operands])).trans hs] at e1
 have e2 := st.ev x
 rw [(hG x (by simp [ho, Op.operands, Call.operands])).trans hx] at e2
 have e3 : Rel C S w (.ptr id ver 0) (.pointer (some ⟨b, 0, none⟩)) := st.v
 have hnd : ∀ c, o.op ≠ .defer c := by intro c hc; rw [ho] at hc; cases hc
 generalize hv : a.eval s = v at e1
 cases e1
 generalize hu : a.eval x = u at e2
 cases e3 with
 | ptr i1 i2 i3 =>
  obtain ⟨b2, k, hl, hb⟩ := (i3 ver (by rw [hid]; rfl)).2 rfl
  cases hb
  rcases st.sim.cells id ver et cs hid with ⟨hn, _⟩ | ⟨b', k', c, g1, g2, g3, g4, g5, g6⟩
  ·rw [hn] at hl; cases hl
  rw [hl] at g1; cases g1
  have main : ∀ (vs : List Value) (a' : Addr) (cap : Nat), u = .slice (some a') l.length cap → vs.length = min l.length m → (∀ j v, vs[j]? = some v → w.cell? (a'.add j) = some v) → (∀ v ∈ vs, v.oneCell' = true) → (∀ (i : Nat) (p : PV) (v : Value), (l.take m)[i]? = some p → vs[i]? = some v → Rel C S w p v) → o.wpIn (Fe (JH id ver b)) n P a w next Q' := by
   intro vs a' cap hu' hvl hcell hone hrel
   have hrun0 := run_copy_row P w t t o.type e b 0 m m a' l.length cap c et vs ht hz g2 (by rw [hvl]) hcell (by omega) hone
   have hrun := Zc5 (P := P) (a := a) (w := w) ho (by rw [hv, hu, hu']; exact hrun0)
   simp only [List.take_zero, List.nil_append, Nat.zero_add] at hrun
   generalize hw' : w.setRow b (vs ++ c.toList.drop vs.length).toArray = w' at hrun
   have hheap : w'.heap[b]? = some (.cells (vs ++ c.toList.drop vs.length).toArray et (0, 0)) := by rw [← hw']; exact setRow_heap w b c _ et _ g2
   have hgr : w.grownBy w' (some b) ∧ w.drawn ≤ w'.drawn := by
    rw [← hw']
    exact ⟨⟨rfl, rfl, rfl, by simp [World.setRow], fun j hj hne => setRow_other w b j _ (fun e => hne (by rw [e]))⟩, Nat.le_refl _⟩
   have hsize : (vs ++ c.toList.drop vs.length).toArray.size = k := by simp; omega
   have htl : (l.take m).length = vs.length := by rw [List.length_take, hvl]; omega
   obtain ⟨t1, t2⟩ := st.sim.turn (l := C.loc id) (ver' := ver) (cs' := l.take m ++ cs.drop (min l.length m)) hid (Nat.le_refl _) (fun _ => rfl) (by rw [hl]; exact hgr)
    (.inr ⟨b, k, _, hl, .inr (by rw [hl]; rfl), hheap, hsize, by rw [List.length_append, List.length_drop, htl]; omega, fun i z hi hz => by
      rw [List.getElem?_toArray] at hz
      by_cases q1 : i < vs.length
      ·rw [List.getElem?_append_left q1] at hz
       exact hone z (List.mem_of_getElem? hz)
      ·rw [List.getElem?_append_right (by omega), List.getElem?_drop] at hz
       rw [List.length_append, List.length_drop, htl] at hi
       have e9 : vs.length + (i - vs.length) = i := by omega
       rw [e9] at hz
       exact g5 i z (by omega) (by rw [← Array.getElem?_toList]; exact hz),
     fun i p z hp hz => by
      rw [List.getElem?_toArray] at hz
      by_cases q1 : i < vs.length
      ·rw [List.getElem?_append_left q1] at hz
       rw [List.getElem?_append_left (by omega)] at hp
       exact hrel i p z hp hz
      ·rw [List.getElem?_append_right (by omega), List.getElem?_drop] at hz
       rw [List.getElem?_append_right (by omega), List.getElem?_drop, htl, ← hvl] at hp
       have e9 : vs.length + (i - vs.length) = i := by omega
       rw [e9] at hz hp
       exact g6 i p z hp (by rw [← Array.getElem?_toList]; exact hz)⟩)
   have hres : goInt vs.length = Value.int .i64 ((min l.length m : Nat) : Int) := by rw [hvl]; rfl
   exact y0 hnd hrun (hnext _ _ _ _ _ hK (by rw [hres]; exact .sc _) t1 t2)
  generalize hk : l.length = kk at e2
  cases e2 with
  | lst0 =>
   rename_i cap a'
   have hrun0 : (Builtin.copy_ #[t, t] o.type #[a.eval s, a.eval x]).run P w = .ok (goInt 0) w := by
    rw [hv, hu]
    cases hq : P.info? e with
    | none => simp [hq] at hz
    | some i =>
     cases a' <;> simp [Builtin.copy_, run_underlying ht, Builtin.lenOf, Builtin.firstCells, sizeOf, typeInfo, hq, storeCells, loadCells, loadCellsFrom]
   have hrun := Zc5 (P := P) (a := a) (w := w) ho hrun0
   have eS : S.set id (.cells ver et cs) = S := by
    funext i
    by_cases hi : i = id
    ·subst hi; rw [Store.set_same]; exact hid.symm
    ·exact Store.set_other _ _ _ _ hi
   simp only [List.length_nil, Nat.zero_min, List.take_nil, List.drop_zero, List.nil_append, eS] at hK
   exact y0 hnd hrun (hnext _ _ _ _ _ hK (.sc _) st.sim (Step.refl _ _ _))
  | lst1 hn hmx hb hM hs1 h1 h2 =>
   rename_i cap b' o' c' e' fz
   subst hk
   have hadd : ∀ j, (⟨b', o', none⟩ : Addr).add j = ⟨b', o' + j, none⟩ := by intro j; unfold Addr.add; split <;> simp_all
   have hat : ∀ (j : Nat) (v : Value), ((c'.toList.drop o').take (min l.length m))[j]? = some v → j < min l.length m ∧ c'[o' + j]? = some v := fun j v hj => by
    rw [List.getElem?_take] at hj
    split at hj
    ·rename_i hlt
     rw [List.getElem?_drop, Array.getElem?_toList] at hj
     exact ⟨hlt, hj⟩
    ·cases hj
   refine main ((c'.toList.drop o').take (min l.length m)) ⟨b', o', none⟩ cap rfl ?_ ?_ ?_ ?_
   ·rw [List.length_take, List.length_drop]
    have e9 : c'.toList.length = c'.size := Array.length_toList
    by_cases hl0 : l = []
    ·subst hl0; simp
    ·have := hs1 hl0; omega
   ·intro j v hj
    obtain ⟨q1, q2⟩ := hat j v hj
    rw [hadd]
    simp [World.cell?, hb, q2]
   ·intro v hv'
    obtain ⟨j, hj⟩ := List.getElem?_of_mem hv'
    obtain ⟨q1, q2⟩ := hat j v hj
    exact h1 j v (by omega) q2
   ·intro i p v hp hvi
    obtain ⟨q1, q2⟩ := hat i v hvi
    rw [List.getElem?_take_of_lt (by omega)] at hp
    exact h2 i p v hp q2
open Go Go.Proofs Hp
theorem Zk5 (l : List Int) (i : Nat) : min (max (l.getD i 0) 0) 1000 = yM l i := by
 unfold yM; split
 ·omega
 ·split <;> omega
theorem Zk6 (l : List Int) : (l.flatMap Enc.enc : List PV).take 4 ++ [I 0, I 0, I 0, I 0].drop (min (l.flatMap Enc.enc : List PV).length 4) = [I (l.getD 0 0), I (l.getD 1 0), I (l.getD 2 0), I (l.getD 3 0)] := by
 match l with
 | [] => rfl
 | [a] => simp
 | [a, b] => simp
 | [a, b, c] => simp
 | a :: b :: c :: d :: r =>
  have : min (((a :: b :: c :: d :: r).flatMap Enc.enc : List PV).length) 4 = 4 := by rw [jf]; simp [Enc.sz]
  rw [this]; simp
theorem Zk7 (l : List Int) : Pure Tryz.prog 38 [L l] (.agg (uV (wH l) (yM l 1) (yM l 2) (yM l 3))) := by
 have c1 := Ju (l.getD 1 0) 0 1000
 have c2 := Ju (l.getD 2 0) 0 1000
 have c3 := Ju (l.getD 3 0) 0 1000
 rw [Zk5] at c1 c2 c3
 have ha := Zk6 l
 have hL : L l = .lst (l.flatMap Enc.enc : List PV).length (l.flatMap Enc.enc) := by
  show PV.lst l.length _ = _
  congr 1
  rw [jf]; simp [Enc.sz]
 have hsd : wH l = l.getD 0 0 := rfl
 rw [hsd, hL]
 generalize l.getD 0 0 = z0 at *
 generalize l.getD 1 0 = z1 at *
 generalize l.getD 2 0 = z2 at *
 generalize l.getD 3 0 = z3 at *
 generalize yM l 1 = t1 at *
 generalize yM l 2 = t2 at *
 generalize yM l 3 = t3 at *
 generalize (l.flatMap Enc.enc : List PV) = cs at *
 refine zy Tryz.func38 Tryz.ntmps38 Tryz.results38 fun S nx hd => ?_
 repeat apply za
 refine zb ?_
 intro v0
 repeat apply za
 refine zb ?_
 intro v1
 refine Zk2 (x := 3) (id := nx + 1) (ver := v1) rfl (by rw [yC]; rfl) fun b => ?_
 repeat apply za
 refine zQ [] (by rfl) (by rfl) fun K Gc Gh hK hGc hGh X hX0 hX => ?_
 simp -implicitDefEqProofs [hX0, hX]
 try clear hX0 hX X
 refine hGh _ _ _ _ _ fun hsuf => Zk3 rfl Tryz.underlying120 (by simp) rfl (by rw [yC]; rfl) ?_
 refine ⟨_, _, rfl, ?_⟩
 clear hGc hGh
 clear Gc Gh
 refine zP hsuf (D := []) (by rfl) fun Gc Gh hGc hGh X hX0 hX => ?_
 simp -implicitDefEqProofs [hX0, hX]
 clear hX0 hX X
 refine hGh _ _ _ _ _ fun hsuf => Zk4 (id := nx + 1) (ver := v1) rfl Tryz.underlying45 (by kernel_rfl) rfl rfl (by rw [yC]; rfl) rfl ?_
 rw [ha]
 refine ⟨_, _, yN _ (by omega) (by simp), ?_⟩
 clear hGc hGh
 clear Gc Gh
 refine zP hsuf (D := []) (by rfl) fun Gc Gh hGc hGh X hX0 hX => ?_
 simp -implicitDefEqProofs [hX0, hX]
 clear hX0 hX X
 try simp only [Nat.add_sub_cancel_left, List.set_cons_succ, List.set_cons_zero]
 refine hK _ _ _ ?_
 clear hK hGc hGh
 clear K Gc Gh
 repeat apply za
 refine zb ?_
 refine zj (zM (fun k : Nat => 1 ≤ k ∧ k ≤ 4) (fun k => [(2, .ptr nx v0 0), (3, .ptr (nx + 1) v1 0), (4, I k)]) (fun k => [.cells v0 74 [I 0, I 0, I 0, I 0], .cells v1 120 [I z0, I (if 1 < k then t1 else z1), I (if 2 < k then t2 else z2), I (if 3 < k then t3 else z3)]]) (fun k => 4 - k) 1 [] (by simp) (by simp) (by simp) ?_)
 rintro k ⟨hk1, hk⟩
 repeat apply za
 refine zb ?_
 refine zt rfl (fun hc => ?_) (fun hc => ?_)
 ·simp at hc
  refine zi (za (zj ?_))
  obtain rfl | rfl | rfl : k = 1 ∨ k = 2 ∨ k = 3 := by omega
  ·repeat apply za
   refine zb ?_
   refine zB c1 ?_
   refine zb ?_
   exact zr 2 [] (by omega) (by omega) (by simp; exact wr 2 (by omega) (by omega)) rfl (by simp)
  ·repeat apply za
   refine zb ?_
   refine zB c2 ?_
   refine zb ?_
   exact zr 3 [] (by omega) (by omega) (by simp; exact wr 3 (by omega) (by omega)) rfl (by simp)
  ·repeat apply za
   refine zb ?_
   refine zB c3 ?_
   refine zb ?_
   exact zr 4 [] (by omega) (by omega) (by simp; exact wr 4 (by omega) (by omega)) rfl (by simp)
 ·simp at hc
  obtain rfl : k = 4 := by omega
  refine zC ?_
  repeat apply za
  refine zb ?_
  exact zh (zk hd (by simp; rfl) rfl)
open Go Go.Proofs Hp
theorem Zk8 (l : List Int) (hl : l.length ≤ 9223372036854775807) : Pure Tryz.prog 9 [L l] (B true) := Zk1 Zk7 l hl
end Go.Proofs.YtcnbiofjmioaiaaGreat.Pv
namespace Go.Proofs.YtcnbiofjmioaiaaGreat
open Go Go.ChangeShapes Go.WideShapes Go.ChangeAt Go.RowKit Pv
theorem Zk9 (os : Os) (started : os.Started) (H : Type) (enc : TypeId × Value → H) :
  ReturnsInHanded {} Tryz.checked os 9 .any (Rows.searchReadsSpec.pre6 enc Tryz.prog Tryz.f9 Rows.searchReadsRow.domain false) (Rows.searchReadsSpec.post enc Tryz.prog Tryz.f9 false true false false) := by
 refine returnsInHanded_of_change (C := Tryz.checked) Zel started (by kernel_rfl) Tryz.func9
  (ChangeSpec.witness6 (enc := enc) (C := Tryz.checked) false ⟨#[], #[.slice none 0 0], []⟩ 8 (by kernel_rfl) (by kernel_rfl) (by kernel_rfl) (by kernel_rfl)) ?_
 intro W base args ds gs before hval0 hW hcnd _
 have hval : ∀ (j : Nat) t v, Tryz.f9.params[j]? = some t → args[j]? = some v → Value.okWide Tryz.prog W .any base t v := hval0
 have hW' := hW
 obtain ⟨p, q, hA0, hV, rfl, hfz, hnd⟩ := hW
 have hA : DataW.TrodAll enc Tryz.prog W 0 (fun _ => true) true Tryz.f9.params.toList args.toList ds p := hA0
 rw [Tryz.params9] at hA hval
 obtain ⟨v0, d0, rfl, rfl, h0⟩ := trodAll_one hA
 obtain ⟨rfl, rfl⟩ := trodVars_none hV
 obtain ⟨b0, n0, m0, rfl⟩ := okWide_slice Tryz.underlying45 (hval 0 _ v0 rfl rfl)
 obtain ⟨a0, k0, r0⟩ := Zek (ZeK W) rfl h0
 have r0 := r0 _ rfl
 refine (Zen ((Zk8 a0 k0.1)) rfl (fun i c v hc hv => ?_)).mono fun e W' hq => ?_
 ·match i with
  | 0 => cases hc; cases hv; exact r0
  | i + 1 => cases hc
 exact ⟨_, hq.1, Zeo rfl rfl (of_decide_eq_true (by kernel_rfl)) hW' rfl rfl rfl hq.2⟩
theorem Zla : Rows.searchReadsRow.wf (OpenSpec.ofChange Rows.searchReadsSpec) = true := by kernel_rfl
theorem Zlb : Tryz.f9.params.all (Tryz.pinned.checked.prog.readableRec ·) = true := by kernel_rfl
theorem Zlc : namedTie Tryz.pinned.checked.prog Rows.searchReadsRow.named Rows.searchReadsSpec.vars = true := by kernel_rfl
theorem Zld : (Rows.searchReadsRow.inPlace == Tryz.pinned.checked.prog.inPlace 9) = true := by kernel_rfl
theorem Zle : (Rows.searchReadsRow.unfollowed == Tryz.pinned.checked.prog.unfollowed 9) = true := by kernel_rfl
theorem Zlf : (Rows.searchReadsRow.recurses == Tryz.pinned.checked.prog.recurses 9) = true := by kernel_rfl
theorem Zlg : (Rows.searchReadsRow.named == Tryz.pinned.checked.prog.varsNamed 9) = true := by kernel_rfl
theorem Zlh : (Rows.searchReadsRow.maps == (Tryz.f9.params.toList ++ Rows.searchReadsSpec.plain.varTypes Tryz.pinned.checked.prog).any (Tryz.pinned.checked.prog.mapsRec ·)) = true := by kernel_rfl
theorem Zli : (Rows.searchReadsRow.ifaces == (Tryz.f9.params.toList ++ Rows.searchReadsSpec.plain.varTypes Tryz.pinned.checked.prog).any (Tryz.pinned.checked.prog.ifacesRec ·)) = true := by kernel_rfl
theorem Zlj : (Rows.searchReadsRow.mapsOut == Tryz.pinned.checked.prog.mapsAmong Tryz.f9.resultTypes.toList) = true := by kernel_rfl
theorem Zlk : (Rows.searchReadsRow.loops == (Tryz.f9.params.toList ++ Rows.searchReadsSpec.plain.varTypes Tryz.pinned.checked.prog).any (Tryz.pinned.checked.prog.loopsFrom ·)) = true := by kernel_rfl
theorem Zll : (Rows.searchReadsRow.wideKeys == (Tryz.f9.params.toList ++ Rows.searchReadsSpec.plain.varTypes Tryz.pinned.checked.prog ++ Tryz.f9.resultTypes.toList).any (Tryz.pinned.checked.prog.wideKeysFrom ·)) = true := by kernel_rfl
theorem Zlm : Rows.searchReadsSpec.vars.all (Tryz.pinned.checked.prog.varReadable ·) = true := by kernel_rfl
theorem Zln : Tryz.f9.resultTypes.all (fun t => Tryz.pinned.checked.prog.readableRec t && decide (t < Tryz.pinned.checked.prog.types.size)) = true := by kernel_rfl
theorem Zlo : (Rows.searchReadsRow.ifacesOut == Tryz.f9.resultTypes.toList.any (Tryz.pinned.checked.prog.ifacesRec ·)) = true := by kernel_rfl
theorem Zlp : (Rows.searchReadsRow.loopsOut == Tryz.f9.resultTypes.toList.any (Tryz.pinned.checked.prog.loopsFrom ·)) = true := by kernel_rfl
theorem Zlq : (Rows.searchReadsRow.plainKeys == Tryz.pinned.checked.prog.plainKeys) = true := by kernel_rfl
theorem Zlr : (Rows.searchReadsRow.lifted == Tryz.pinned.checked.prog.liftsFinal) = true := by kernel_rfl
theorem Zls : (Tryz.pinned.checked.prog.make == some Rows.searchReadsRow.make) = true := by kernel_rfl
theorem Zlt : (Rows.searchReadsRow.kinds == (if Rows.searchReadsRow.domain.isEmpty then [] else Tryz.f9.params.toList.map fun t => match Tryz.pinned.checked.prog.underlying t with | some (.int k) => some k | _ => none)) = true := by kernel_rfl
theorem Zlu : (Rows.searchReadsRow.veiled == (Tryz.f9.params.toList ++ Rows.searchReadsSpec.plain.varTypes Tryz.pinned.checked.prog ++ Tryz.f9.resultTypes.toList).any (Tryz.pinned.checked.prog.veiledRec ·)) = true := by kernel_rfl
theorem Zlv : Rows.searchReadsRow.veiledFits Tryz.pinned.checked.prog Tryz.f9.params.toList (Tryz.f9.params.toList ++ Rows.searchReadsSpec.plain.varTypes Tryz.pinned.checked.prog ++ Tryz.f9.resultTypes.toList) = true := by kernel_rfl
theorem Zlw : Tryz.pinned.checked.prog.funcNamed Rows.searchReadsRow.func = some 9 := by kernel_rfl
theorem Zlx : Tryz.f9.isInstance Tryz.pinned.checked.prog Rows.searchReadsRow.origin Rows.searchReadsRow.targs := of_decide_eq_true (by kernel_rfl)
theorem Zly : Tryz.f9.isWrapper Tryz.pinned.checked.prog Rows.searchReadsRow.wrapper Rows.searchReadsRow.mainSum := by unfold Func.isWrapper; first | (rw [if_pos (by decide +kernel)]; kernel_rfl) | (rw [if_neg (by decide +kernel)]; exact ⟨rfl, rfl⟩)
theorem searchReads_holds : Rows.SearchReadsSaid :=
 OpenClaim.holds_of_wide 9 Tryz.f9 rfl rfl rfl rfl rfl rfl rfl ⟨rfl, rfl, rfl, rfl, rfl⟩ rfl rfl rfl rfl rfl Zlw Tryz.func9 (Zep Zla Zeq Zer Zlb Zlc rfl Zes rfl Zet Zld Zle Zlf Zlg Zlh Zli Zlj Zlk Zll Zlm Zln Zlo Zlp Zlq rfl Zeu Zev Zlr Zls Zlt rfl Zlu Zlv)
  Zlx Zly
  (fun os started H enc _ => Zk9 os started H enc)
end Go.Proofs.YtcnbiofjmioaiaaGreat
