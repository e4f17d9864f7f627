/- Part of a proof, packed. -/
import Derived.Test.YtaiplainginmaaaGreatZ6
namespace Go.Proofs.YtaiplainginmaaaGreat.Pv
open Go Go.Proofs Hp
def yW : List Int → Int
 | [] => -1
 | d :: ds => (d :: ds).getLast (by simp)
theorem ue (ds : List Int) (d : Int) : yW (ds ++ [d]) = d := by
 cases ds with
 | nil => rfl
 | cons a ds => show (a :: (ds ++ [d])).getLast _ = d; rw [List.getLast_cons (by simp), List.getLast_append_of_ne_nil _ (by simp)]; rfl
def ZcF (c : Cust) (cap : Int) (last d : Int) : Prop := 0 ≤ (zV c last d).1 ∧ qm c (zV c last d).1 cap ≠ 0
inductive FilS (c : Cust) (cap : Int) (n : Nat) : List Int → Prop where
 | nil : FilS c cap n []
 | snoc {ds : List Int} {d : Int} (h : FilS c cap n ds) (h1 : yW ds < d) (h2 : d < n) (h3 : ZcF c cap (yW ds) d) : FilS c cap n (ds ++ [d])
theorem FilS.lo {c : Cust} {cap : Int} {n : Nat} {ds : List Int} (h : FilS c cap n ds) : -1 ≤ yW ds ∧ (∀ d ∈ ds, 0 ≤ d ∧ d < n ∧ d ≤ yW ds) := by
 induction h with
 | nil => exact ⟨by decide, by simp⟩
 | snoc h h1 h2 h3 ih =>
  rw [ue]
  refine ⟨by omega, fun d hd => ?_⟩
  rcases List.mem_append.1 hd with hd | hd
  ·have := ih.2 d hd; omega
  ·rw [List.mem_singleton.1 hd]; omega
theorem FilS.inc {c : Cust} {cap : Int} {n : Nat} {ds : List Int} (h : FilS c cap n ds) : ds.Pairwise (· < ·) := by
 induction h with
 | nil => exact .nil
 | snoc h h1 h2 h3 ih =>
  rw [List.pairwise_append]
  refine ⟨ih, by simp, fun a ha b hb => ?_⟩
  rw [List.mem_singleton.1 hb]
  have := h.lo.2 a ha; omega
theorem Wg (c : Cust) (ds : List Int) : (zZ c ds).2 = yW ds := by
 rcases List.eq_nil_or_concat ds with rfl | ⟨l, d, rfl⟩
 ·rfl
 ·rw [List.concat_eq_append, ZJ, ue]; rfl
theorem Wh (c : Cust) : ∀ ds : List Int, (zZ c ds).1.map (·.d) = ds := by
 have : ∀ (ds : List Int) (st : List Visit × Int), (ds.foldl (wg c) st).1.map (·.d) = st.1.map (·.d) ++ ds := by
  intro ds
  induction ds with
  | nil => intro st; simp
  | cons d ds ih => intro st; rw [List.foldl_cons, ih]; simp [wg]
 intro ds
 unfold zZ; rw [this]; simp
theorem Wi {c : Cust} (hc : CustFits c) {cap last d : Int} (h : ZcF c cap last d) : W (c.size - (zV c last d).1) = c.size - (zV c last d).1 ∧ 1 ≤ c.size - (zV c last d).1 ∧ c.size - (zV c last d).1 ≤ 2147483648 ∧ (c.rule = 1 → c.size - (zV c last d).1 ≤ cap) := by
 obtain ⟨h1, h2⟩ := h
 have hs := hc.size
 generalize (zV c last d).1 = th at *
 unfold qm at h2
 split at h2
 ·exact absurd rfl h2
 rename_i h3
 refine ⟨wr _ (by omega) (by omega), by omega, by omega, fun hr => ?_⟩
 split at h2
 ·assumption
 ·first | exact absurd rfl h2 | exact absurd hr (by assumption) | (rw [if_pos hr] at h2; exact absurd rfl h2)
theorem ZcG {c : Cust} (hc : CustFits c) {cap : Int} {n : Nat} (hn : n ≤ 60) {ds : List Int} (h : FilS c cap n ds) : GoodV n (zZ c ds).1 := by
 have hlen : ds.length ≤ 64 := by
  have h1 := Zko (m := n) ds (h.inc.imp fun h => Int.ne_of_lt h) (fun d hd => by have := h.lo.2 d hd; omega)
  omega
 refine ⟨by rw [ZcA]; exact hlen, ?_, by rw [Wh]; exact h.inc.imp fun h => Int.ne_of_lt h⟩
 induction h with
 | nil => intro s hs; cases hs
 | @snoc ds d h h1 h2 h3 ih =>
  intro s hs
  rw [ZJ] at hs
  simp only [wg] at hs
  rcases List.mem_append.1 hs with hs | hs
  ·exact ih (by simp at hlen; omega) s hs
  ·rw [List.mem_singleton.1 hs]
   rw [Wg]
   obtain ⟨q1, q2, q3, -⟩ := Wi hc h3
   have := h.lo.1
   refine ⟨by dsimp only; omega, ?_⟩
   dsimp only
   rw [q1]; omega
def uf (tab : List Stp) : Nat → Int → List Int
 | 0, _ => []
 | f + 1, d => if d < 0 then [] else d :: uf tab f (tab.getD d.toNat zs).l
def Q7 (c : Cust) (n : Nat) (cap : Int) (tab : List Stp) : Prop := ∀ (d : Nat) (e : Stp), tab[d]? = some e → e ≠ zs → -1 ≤ e.l ∧ e.l < d ∧ (0 ≤ e.l → tab.getD e.l.toNat zs ≠ zs) ∧ 0 ≤ (zV c e.l d).1 ∧ (d < n → qm c (zV c e.l d).1 cap ≠ 0)
theorem ZcH (c : Cust) (n : Nat) (cap : Int) (price : List Int) : ∀ k, Q7 c n cap (yD c n cap price k)
 | 0 => by intro d e h; cases h
 | k + 1 => by
  have ih := ZcH c n cap price k
  have hl := ZK c n cap price k
  have he := Q4 c n cap price (yD c n cap price k) k (k + 1)
  have hok := We c n cap price (k + 1)
  intro d e h hne
  have hok := hok d e h
  simp only [yD] at h hok ⊢
  rcases hok with q | ⟨-, q2, q3, q4⟩
  ·exact absurd q hne
  refine ⟨q2, q3, q4, ?_⟩
  by_cases hd : d < k
  ·rw [List.getElem?_append_left (by omega)] at h
   exact (ih d e h hne).2.2.2
  ·rw [List.getElem?_append_right (by omega), hl] at h
   obtain rfl : d = k := by
    rcases Nat.lt_or_ge (d - k) 1 with q | q
    ·omega
    ·rw [List.getElem?_eq_none (by simpa using q)] at h; cases h
   rw [Nat.sub_self] at h
   simp only [List.getElem?_cons_zero, Option.some.injEq] at h
   subst h
   rcases he with q | ⟨-, -, -, p4⟩
   ·exact absurd q hne
   ·have := p4.2
    exact ⟨by omega, fun hdn hm => this (.inr ⟨hdn, hm⟩)⟩
theorem Wj {c : Cust} {n : Nat} {cap : Int} {tab : List Stp} (h : Q7 c n cap tab) : ∀ (f : Nat) (d : Int), -1 ≤ d → d < f → d < n → (0 ≤ d → tab.getD d.toNat zs ≠ zs) → FilS c cap n (uf tab f d).reverse ∧ yW (uf tab f d).reverse = d
 | 0, d, h1, h2, _, _ => by
  obtain rfl : d = -1 := by omega
  exact ⟨.nil, rfl⟩
 | f + 1, d, h1, h2, h3, h4 => by
  unfold uf
  by_cases hd : d < 0
  ·rw [if_pos hd]
   obtain rfl : d = -1 := by omega
   exact ⟨.nil, rfl⟩
  ·rw [if_neg hd, List.reverse_cons]
   have h4 := h4 (by omega)
   obtain ⟨i, rfl⟩ := Int.eq_ofNat_of_zero_le (show 0 ≤ d by omega)
   rw [Int.toNat_natCast] at h4 ⊢
   have he : ∃ e, tab[i]? = some e ∧ tab.getD i zs = e := by
    cases hq : tab[i]? with
    | none => exfalso; apply h4; rw [List.getD_eq_getElem?_getD, hq]; rfl
    | some e => exact ⟨e, rfl, by rw [List.getD_eq_getElem?_getD, hq]; rfl⟩
   obtain ⟨e, he1, he2⟩ := he
   rw [he2] at h4 ⊢
   obtain ⟨g1, g2, g3, g4, g5⟩ := h i e he1 h4
   obtain ⟨p1, p2⟩ := Wj h f e.l g1 (by omega) (by omega) g3
   exact ⟨.snoc p1 (by rw [p2]; exact g2) h3 (by rw [p2]; exact ⟨g4, g5 (by omega)⟩), ue _ _⟩
theorem ZkM (s : Nat) (d i : Nat) (hd : d < 64) : yb (qO s d) i = 1 ↔ yb s i = 1 ∨ i = d := by
 have h : ((qO s d).testBit i) = (s.testBit i || decide (d = i)) := by
  unfold qO
  rw [if_pos (by omega), Int.toNat_natCast, Nat.testBit_or, Nat.testBit_two_pow]
 rw [ZB, ZB] at h
 have h2 : decide (yb (qO s d) i = 1) = (decide (yb s i = 1) || decide (d = i)) := by simpa using h
 constructor
 ·intro q
  rw [decide_eq_true q] at h2
  have := h2.symm
  rw [Bool.or_eq_true, decide_eq_true_eq, decide_eq_true_eq] at this
  omega
 ·intro q
  have : (decide (yb s i = 1) || decide (d = i)) = true := by
   rw [Bool.or_eq_true, decide_eq_true_eq, decide_eq_true_eq]; omega
  rw [this] at h2
  exact of_decide_eq_true h2
theorem ZcI {c : Cust} {n : Nat} {cap : Int} {tab : List Stp} (h : Q7 c n cap tab) (hn : n ≤ 60) : ∀ (f s : Nat) (d : Int), -1 ≤ d → d < n → (0 ≤ d → tab.getD d.toNat zs ≠ zs) → ∀ i : Nat, yb (xc tab f s d) i = 1 ↔ yb s i = 1 ∨ (i : Int) ∈ uf tab f d
 | 0, s, d, _, _, _ => fun i => by simp [xc, uf]
 | f + 1, s, d, h1, h3, h4 => fun i => by
  unfold xc uf
  by_cases hd : d < 0
  ·rw [if_pos hd, if_pos hd]; simp
  ·rw [if_neg hd, if_neg hd]
   have h4 := h4 (by omega)
   obtain ⟨k, rfl⟩ := Int.eq_ofNat_of_zero_le (show 0 ≤ d by omega)
   rw [Int.toNat_natCast] at h4 ⊢
   have he : ∃ e, tab[k]? = some e ∧ tab.getD k zs = e := by
    cases hq : tab[k]? with
    | none => exfalso; apply h4; rw [List.getD_eq_getElem?_getD, hq]; rfl
    | some e => exact ⟨e, rfl, by rw [List.getD_eq_getElem?_getD, hq]; rfl⟩
   obtain ⟨e, he1, he2⟩ := he
   rw [he2] at h4 ⊢
   obtain ⟨g1, g2, g3, -⟩ := h k e he1 h4
   rw [ZcI h hn f _ e.l g1 (by omega) g3 i, ZkM s k i (by omega), List.mem_cons, Int.natCast_inj, or_assoc]
theorem ZkN : ∀ {a b : List Int}, a.Pairwise (· < ·) → b.Pairwise (· < ·) → (∀ z, z ∈ a ↔ z ∈ b) → a = b := by
 intro a b ha hb h
 have hp : a.Perm b := (List.perm_ext_iff_of_nodup (ha.imp fun h => Int.ne_of_lt h) (hb.imp fun h => Int.ne_of_lt h)).2 h
 exact ZaV hp (ha.imp fun h => Int.le_of_lt h) (hb.imp fun h => Int.le_of_lt h)
theorem ZcJ (s a k : Nat) : (zS s a k).Pairwise (· < ·) := by
 unfold zS
 rw [List.pairwise_map]
 have h : (List.range k).Pairwise (· < ·) := List.pairwise_lt_range
 exact (h.sublist List.filter_sublist).imp fun h => by omega
theorem ZkO {c : Cust} {n : Nat} {cap : Int} {tab : List Stp} (h : Q7 c n cap tab) (hn : n ≤ 60) {d : Int} (h1 : -1 ≤ d) (h3 : d < n) (h4 : 0 ≤ d → tab.getD d.toNat zs ≠ zs) : zS (xc tab 65 0 d) 0 64 = (uf tab 65 d).reverse := by
 obtain ⟨hf, -⟩ := Wj h 65 d h1 (by omega) h3 h4
 refine ZkN (ZcJ _ _ _) hf.inc fun z => ?_
 have hb := ZcI h hn 65 0 d h1 h3 h4
 have h0 : ∀ i, ¬ yb 0 i = 1 := by intro i; simp [yb]
 rw [List.mem_reverse]
 constructor
 ·intro hz
  obtain ⟨i, rfl, _, hi⟩ := uO hz
  exact ((hb i).1 hi).resolve_left (h0 i)
 ·intro hz
  have hlo := hf.lo.2 z (List.mem_reverse.2 hz)
  obtain ⟨i, rfl⟩ := Int.eq_ofNat_of_zero_le hlo.1
  simp only [zS, List.mem_map, List.mem_filter, List.mem_range, Bool.and_eq_true, decide_eq_true_eq]
  exact ⟨i, ⟨by omega, by omega, (hb i).2 (.inr hz)⟩, rfl⟩
theorem ZcK {c : Cust} {n : Nat} (hn : n ≤ 60) {cap : Int} {price : List Int} (h : (wR c n cap price).2 = true) : ∃ ds, FilS c cap n ds ∧ 0 ≤ (zV c (yW ds) n).1 ∧ (wR c n cap price).1 = (zZ c ds).1 := by
 have hfit := ZcH c n cap price (n + 1)
 have hl := ZK c n cap price (n + 1)
 unfold wR at h ⊢
 generalize yD c n cap price (n + 1) = tab at *
 split at h
 ·cases h
 rename_i hne
 rw [if_neg hne]
 have he : ∃ e, tab[n]? = some e ∧ tab.getD n zs = e := ⟨_, List.getElem?_eq_getElem (by omega), by rw [List.getD_eq_getElem?_getD, List.getElem?_eq_getElem (by omega)]; rfl⟩
 obtain ⟨e, he1, he2⟩ := he
 rw [he2] at hne ⊢
 obtain ⟨g1, g2, g3, g4, -⟩ := hfit n e he1 hne
 obtain ⟨p1, p2⟩ := Wj hfit 65 e.l g1 (by omega) g2 g3
 exact ⟨_, p1, by rw [p2]; exact g4, by rw [ZkO hfit hn g1 g2 g3]⟩
def qY (n : Nat) (cap : Int) (c : Cust) (price : List Int) : List Visit × Bool :=
 if c.kind = 1 then jy c cap price else if c.rule = 1 then wR c n cap price else uc c n cap price
set_option maxRecDepth 20000 in
theorem ZkP {S : Store} {pl : PV} {price : List Int} (c : Cust) (n : Nat) (cap : Int) (hR : RowOf S pl price) (hp : ∀ z ∈ price, I64 z) (hpl : price.length ≤ 1000) (hm : CustMade c n) (hpc : c.pats.length ≤ 1000) (hn : n ≤ 60) :
  Spec Tryz.prog 88 [.agg (zv c), I n, I cap, pl] S (fun q S' => q = .tup [L (qY n cap c price).1, B (qY n cap c price).2] ∧ S' = S) := by
 unfold qY
 by_cases hk : c.kind = 1
 ·rw [if_pos hk]
  exact Zcs c n cap hk hR hp hpl hpc hm.pats
 rw [if_neg hk]
 by_cases hr : c.rule = 1
 ·rw [if_pos hr]
  have hs := fun S (hR : RowOf S pl price) => ZkK c n cap hR hm.fits hn
  generalize wR c n cap price = r at *
  obtain ⟨v, ok⟩ := r
  simp only at hs ⊢
  refine qp Tryz.func88 Tryz.ntmps88 Tryz.results88 fun nx hd => ?_
  repeat apply za
  refine pwn ?_
  intro v0
  repeat apply za
  refine zh ?_
  repeat apply za
  refine pwN [] hk ?_
  intros
  repeat apply za
  refine zk (by simp [hk]) ?_
  repeat apply za
  refine pwN [] hr ?_
  intros
  repeat apply za
  refine zi (by simp [hr]) ?_
  repeat apply za
  refine zQ [] (by rfl) (by rfl) fun K Gc Gh hK hGc hGh X hX0 hX => ?_
  simp -implicitDefEqProofs [hX0, hX]
  try clear hX0 hX X
  refine hGc _ _ _ _ _ _ _ fun hsuf => ((hs _ (hR.ext hd _)).mono ?_).v
  rintro _ _ ⟨rfl, rfl⟩
  refine ⟨_, _, rfl, ?_⟩
  clear hGc hGh
  clear Gc Gh
  refine zH hsuf (D := []) (by rfl) fun Gc Gh hGc hGh X hX0 hX => ?_
  simp -implicitDefEqProofs [hX0, hX]
  clear hX0 hX X
  intros
  refine hK _ _ _ ?_
  clear hK hGc hGh
  clear K Gc Gh
  repeat apply za
  exact zb ⟨_, S, (by simp; rfl), ⟨by simp [zj], rfl⟩, zE hd⟩
 ·rw [if_neg hr]
  have hs := fun S (hR : RowOf S pl price) => ZkB c n cap hR hm.fits (by omega)
  generalize uc c n cap price = r at *
  obtain ⟨v, ok⟩ := r
  simp only at hs ⊢
  refine qp Tryz.func88 Tryz.ntmps88 Tryz.results88 fun nx hd => ?_
  repeat apply za
  refine pwn ?_
  intro v0
  repeat apply za
  refine zh ?_
  repeat apply za
  refine pwN [] hk ?_
  intros
  repeat apply za
  refine zk (by simp [hk]) ?_
  repeat apply za
  refine pwN [] hr ?_
  intros
  repeat apply za
  refine zk (by simp [hr]) ?_
  refine ze ?_
  repeat apply za
  refine zQ [] (by rfl) (by rfl) fun K Gc Gh hK hGc hGh X hX0 hX => ?_
  simp -implicitDefEqProofs [hX0, hX]
  try clear hX0 hX X
  refine hGc _ _ _ _ _ _ _ fun hsuf => ((hs _ (hR.ext hd _)).mono ?_).v
  rintro _ _ ⟨rfl, rfl⟩
  refine ⟨_, _, rfl, ?_⟩
  clear hGc hGh
  clear Gc Gh
  refine zH hsuf (D := []) (by rfl) fun Gc Gh hGc hGh X hX0 hX => ?_
  simp -implicitDefEqProofs [hX0, hX]
  clear hX0 hX X
  intros
  refine hK _ _ _ ?_
  clear hK hGc hGh
  clear K Gc Gh
  repeat apply za
  exact zb ⟨_, S, (by simp; rfl), ⟨by simp [zj], rfl⟩, zE hd⟩
theorem ZkQ {c : Cust} {n : Nat} (hm : CustMade c n) (hk : c.kind = 1) {p : Nat} (hp : p ∈ c.pats) : GoodV n (yV c p) := by
 obtain ⟨h1, h2⟩ := hm.per hk
 refine ⟨by simp only [yV, List.length_map]; exact vW _ _ _, fun s hs => ?_, by simp only [yV, List.map_map]; exact (by simpa [Function.comp_def] using Zj2 p 0 64)⟩
 simp only [yV, List.mem_map] at hs
 obtain ⟨d, hd, rfl⟩ := hs
 have h0 : 0 ≤ d := by
  simp only [zS, List.mem_map] at hd
  obtain ⟨i, _, rfl⟩ := hd; omega
 exact ⟨⟨h0, h1 p hp d hd⟩, h2⟩
theorem ZcL {c : Cust} {cap : Int} {price : List Int} (h : (jy c cap price).2 = true) : ∃ p ∈ c.pats, (p = 0 ∨ c.demand ≤ cap) ∧ (jy c cap price).1 = yV c p := by
 unfold jy at h ⊢
 split at h
 ·cases h
 rename_i hn
 rw [if_neg hn]
 have hb := QZ price (yQ c cap) (yQ c cap).length
 have hlt : (qa price (yQ c cap) (yQ c cap).length).1.toNat < (yQ c cap).length := by omega
 have hm : (yQ c cap).getD (qa price (yQ c cap) (yQ c cap).length).1.toNat 0 ∈ yQ c cap := by
  rw [List.getD_eq_getElem?_getD, List.getElem?_eq_getElem hlt]; exact List.getElem_mem hlt
 obtain ⟨h1, h2⟩ := List.mem_filter.1 hm
 exact ⟨_, h1, by simpa using h2, rfl⟩
theorem ZcM {c : Cust} {n : Nat} (hm : CustMade c n) (hn : n ≤ 60) (cap : Int) (price : List Int) (h : (qY n cap c price).2 = true) : GoodV n (qY n cap c price).1 := by
 unfold qY at h ⊢
 by_cases hk : c.kind = 1
 ·rw [if_pos hk] at h ⊢
  obtain ⟨p, hp, -, e⟩ := ZcL h
  rw [e]; exact ZkQ hm hk hp
 rw [if_neg hk] at h ⊢
 by_cases hr : c.rule = 1
 ·rw [if_pos hr] at h ⊢
  obtain ⟨ds, h1, -, e⟩ := ZcK hn h
  rw [e]; exact ZcG hm.fits hn h1
 ·rw [if_neg hr] at h ⊢
  have hD : GoodV n (zG 0 (jz c n cap).1) := QX (uR hm.fits (Q1 hm.fits cap) n).2 (Nat.le_of_eq (uQ _ _ _)) (by omega)
  have hL : GoodV n (zG 0 (we c n cap).1) := QX (uR hm.fits (Q3 hm.fits cap) n).2 (Nat.le_of_eq (uQ _ _ _)) (by omega)
  unfold uc at h ⊢
  split
  ·exact hL
  ·rename_i h1
   rw [if_neg h1] at h
   split
   ·exact hD
   ·rename_i h2; rw [if_neg h2] at h; cases h
structure InstA (x : Inst) (n : Nat) : Prop where
 h : InstH x
 days : x.days = n
 n60 : n ≤ 60
 made : ∀ c ∈ x.cust, CustMade c n
 pats : ∀ c ∈ x.cust, c.pats.length ≤ 1000
theorem ZkR {x : Inst} {n : Nat} (h : InstA x n) : QY x n (qY n x.cap) := by
 intro c hc l hl hi S pl hR
 rw [h.days]
 have := h.n60
 exact ZkP c n x.cap hR hi (by omega) (h.made c hc) (h.pats c hc) h.n60
theorem Wl {x : Inst} {sol : Cust → List Int → List Visit × Bool} {pr : List (List Int)} (h : (yk x sol pr).2 = 0) : (yk x sol pr).1.length = x.cust.length ∧ ∀ i c, x.cust[i]? = some c → (yk x sol pr).1[i]? = some (sol c (pr.getD i [])).1 ∧ (sol c (pr.getD i [])).2 = true := by
 unfold yk at h ⊢
 split at h
 ·rename_i hall
  rw [if_pos hall]
  refine ⟨by simp [xB], fun i c hc => ?_⟩
  have hi := (List.getElem?_eq_some_iff.1 hc).1
  have hg : x.cust.getD i default = c := by rw [List.getD_eq_getElem?_getD, hc]; rfl
  refine ⟨by simp only [xB, List.map_map, List.getElem?_map, List.getElem?_range hi, Option.map_some, Function.comp_apply, hg], ?_⟩
  have := List.all_eq_true.1 hall _ (Zci x sol pr hi)
  rw [hg] at this; exact this
 ·cases h
theorem Wm {x : Inst} {n : Nat} (h : InstA x n) : Wf x n (qY n x.cap) := by
 intro pr hP h0
 obtain ⟨h1, h2⟩ := Wl h0
 have key : ∀ l ∈ (yk x (qY n x.cap) pr).1, GoodV n l := by
  intro l hl
  obtain ⟨i, hi, rfl⟩ := List.getElem_of_mem hl
  have hic : i < x.cust.length := by omega
  obtain ⟨e1, e2⟩ := h2 i _ (List.getElem?_eq_getElem hic)
  rw [List.getElem?_eq_getElem hi] at e1
  rw [Option.some.inj e1]
  exact ZcM (h.made _ (List.getElem_mem hic)) h.n60 _ _ e2
 exact ⟨h1, fun l hl w hw => (key l hl).ok w hw, fun l hl => (key l hl).nd, fun l hl => by have := (key l hl).len; omega⟩
def jd (x : Inst) (b : Int) : yA × Int := ud x (qY x.days.toNat x.cap) b x.days.toNat
theorem ZkS {x : Inst} {n : Nat} (h : InstA x n) {b : Int} (hb : b ≤ 9223372036854775807) : Pure Tryz.prog 13 [.agg (zt x), I b] (.tup [.agg [L (jd x b).1], I (jd x b).2]) := by
 have hd : x.days.toNat = n := by rw [h.days]; rfl
 unfold jd
 rw [hd]
 exact ZcE h.h h.days (by have := h.n60; omega) (ZkR h) (Wm h) hb
theorem ZkT (x : Inst) (c l : Int) : InstA (Zcr x 6 c l) (zz x).days.toNat := by
 have hd := uP x
 refine ⟨⟨Nat.le_trans (Xj x) (by decide), ZbA x, Zbv x, by show (0 : Int) ≤ 6; decide⟩, ?_, by omega, fun c hc => ?_, fun c hc => ?_⟩
 ·show (zz x).days = _; omega
 ·obtain ⟨c0, rfl⟩ := ZH x hc
  exact Zcm c0 _ hd.1 hd.2
 ·obtain ⟨c0, rfl⟩ := ZH x hc
  unfold yM
  split
  ·simp
  ·simp only [xk]; split
   ·simp
   ·simp; omega
theorem Wn (x : Inst) : InstA (zz x) (zz x).days.toNat := by
 have hd := uP x
 have h := ZkT x (zz x).cap (zz x).len
 exact ⟨⟨Nat.le_trans (Xj x) (by decide), ZbA x, Zbv x, Zi1 x⟩, by omega, h.n60, h.made, h.pats⟩
open Go Go.Proofs Hp
def woP (c : Int) (p : yA) : yA := p.map (jh c)
set_option maxHeartbeats 1600000 in
theorem ZkU (p : yA) (c : Int) (hp : p.length ≤ 1000) (hd0 : ∀ d ∈ p, d.length ≤ 1048576) (ht : ∀ d ∈ p, ∀ t ∈ d, t.length ≤ 1048576) : Pure Tryz.prog 28 [.agg [L p], I c] (.agg [L (woP c p)]) := by
 unfold woP
 refine pwe Tryz.func28 Tryz.ntmps28 Tryz.results28 fun S nx hd => ?_
 repeat apply za
 refine pwn ?_
 intro v0 v1
 repeat apply za
 refine pwn ?_
 intro v2
 refine qT 2 0 66 1 rfl rfl fun v3 => ?_
 (repeat apply za); refine pwn ?_; intros
 repeat apply za
 refine zh (zr (fun s : Nat × yA × Nat => s.1 ≤ p.length ∧ s.2.1 = (p.take s.1).map (jh c)) (fun (k, q, w) => [(1, I c), (4, .ptr (nx + 1) v1 0), (5, .ptr (nx + 2) v2 0), (11, L p), (12, I p.length), (13, I k)]) (fun (k, q, w) => [.cells v0 29 [L p], .cells v1 29 [yH], .cells v2 29 [.sl (nx + 3) w 1 0 q.length], .cells w 66 (q.flatMap Enc.enc)]) (fun s => p.length - s.1) (0, [], v3) [] (by simp) (by simp) (by simp) ?_)
 rintro ⟨k, q, w⟩ ⟨hk, hq⟩
 simp only at hk hq ⊢
 have hql : q.length = k := by rw [hq]; simp; omega
 (repeat apply za); refine pwn ?_; intros
 repeat apply za
 refine zn rfl (fun hc => ?_) (fun hc => ?_)
 ·simp at hc
  obtain ⟨d, tl, a1, a2, a3, e0⟩ := el1 rfl p k hc
  have hdm := List.mem_of_getElem? a1
  have hr := Zib d c (hd0 d hdm) (ht d hdm)
  generalize hrd : jh c d = rd at hr
  have hk1 : 1 ≤ p.length - k := by omega
  have hqf : (q.flatMap Enc.enc : List PV).length = q.length := jE q
  have hqt : (q.flatMap Enc.enc : List PV).take q.length = q.flatMap Enc.enc := List.take_of_length_le (by omega)
  refine ze (za (zh ?_))
  repeat apply za
  refine pwN [] (jn3 hc e0 hk1) ?_
  intro v4
  repeat apply za
  refine pwn ?_
  refine pwc hr ?_
  intro v5
  intros
  repeat apply za
  refine pwN [] (jn2 hqf hqt) ?_
  refine ⟨by omega, ?_⟩
  intros
  (repeat apply za); refine pwn ?_; intros
  exact zm (k + 1, q ++ [rd], w + 1) [_, _] ⟨hc, by rw [a3, List.map_append, hq, ← hrd]; rfl⟩ (by simp; omega) (by simp [wrN k (by omega)]) rfl (by simp; exact ⟨rfl, rfl⟩)
 ·simp at hc
  obtain rfl : k = p.length := by omega
  rw [List.take_length] at hq
  refine zo ?_
  refine zL 3 rfl ?_
  (repeat apply za); refine pwn ?_; intros
  repeat apply za
  exact zb (zg hd (by simp; rfl) (by simp [zj, hq]))
open Go Go.Proofs Hp
def ug : Cust := ⟨1, 1, [1], 0, 0, 0, 0, 0⟩
def x19 : Inst := ⟨1, 1, 9, 9, [ug], [[0, 3], [4, 0]]⟩
def uT (c : Cust) (l : List Int) : List Visit × Bool := jy c 9 l
theorem Wo : InstH x19 := by
 refine ⟨by decide, by decide, Za4 fun row hr d hd => ?_, by decide⟩
 simp only [x19, List.mem_cons, List.not_mem_nil, or_false] at hr
 rcases hr with rfl | rfl <;> simp only [List.mem_cons, List.not_mem_nil, or_false] at hd <;> rcases hd with rfl | rfl <;> decide
theorem ZkV (l : List Int) : jy ug 9 l = ([⟨0, 1⟩], true) := by
 have h1 : yQ ug 9 = [1] := by decide
 have h2 : yV ug 1 = [⟨0, 1⟩] := by decide
 unfold jy
 rw [h1]
 have h3 : (qa l [1] 1).1 = 0 := by
  unfold qa
  rw [if_pos (.inl (by simp [qa]))]; rfl
 simp only [List.length_cons, List.length_nil, Nat.zero_add, h3]
 rw [if_neg (by decide)]
 show (yV ug 1, true) = _
 rw [h2]
theorem ZkW : QY x19 1 uT := by
 intro c hc l hl hi S pl hR
 have : c = ug := by simpa [x19] using hc
 subst this
 exact Zcs ug 1 9 rfl hR hi (by omega) (by decide) (by decide)
theorem ZcN (pr : List (List Int)) : yk x19 uT pr = ([[⟨0, 1⟩]], 0) := by
 have h : xB x19 uT pr x19.cust.length = [([⟨0, 1⟩], true)] := by
  show [uT ug (pr.getD 0 [])] = _
  unfold uT; rw [ZkV]
 unfold yk
 rw [h]; rfl
theorem ZcO : VsOk 1 1 [[⟨0, 1⟩]] := by
 refine ⟨rfl, fun l hl w hw => ?_, fun l hl => ?_, fun l hl => ?_⟩
 ·simp at hl; subst hl; simp at hw; subst hw; decide
 ·simp at hl; subst hl; simp
 ·simp at hl; subst hl; simp
theorem ZkX : Wf x19 1 uT := by
 intro pr _ _
 rw [ZcN]; exact ZcO
theorem ZkY {d : Day} {s : Stop} (h : d.flatten.Perm [s]) (hn : ∀ t ∈ d, t ≠ []) : d = [[s]] := by
 have h1 : d.flatten = [s] := List.perm_singleton.1 h
 match d, h1, hn with
 | [], h1, _ => simp at h1
 | [t], h1, _ => simpa using h1
 | t :: u :: r, h1, hn =>
  exfalso
  have a := hn t (by simp)
  have b := hn u (by simp)
  have := congrArg List.length h1
  simp only [List.flatten_cons, List.length_append, List.length_cons, List.length_nil] at this
  have := List.length_pos_iff.2 a
  have := List.length_pos_iff.2 b
  omega
theorem ZkZ {x : Inst} {s : Stop} (h : SOk x [s]) (h0 : arc x 0 0 = 0) (hf : qH x [s] = 0) (hv : 1 ≤ x.veh) (b : Int) : yT x b [s] = ([[s]], 0) := by
 have he : (yT x b [s]).2 = 0 := by
  apply Classical.byContradiction
  intro hne
  rcases (ZbH h b hne).2 with q | q
  ·exact q hf
  ·simp at q; omega
 obtain ⟨-, h2, h3, -⟩ := XU h h0 b he
 have := ZkY h3 (ZaS h2)
 exact Prod.ext this he
theorem Zk0 : ud x19 uT 0 1 = ([[[⟨0, 1⟩]]], 0) := by
 have hs : yo [[⟨0, 1⟩]] (0 : Nat) 1 = [⟨0, 1⟩] := by decide
 have hk := ZC Wo ZcO 0
 have hb : uN x19 [[⟨0, 1⟩]] 0 1 = [([[⟨0, 1⟩]], 0)] := by
  show [yT x19 0 (yo [[⟨0, 1⟩]] (0 : Nat) 1)] = _
  rw [hs]
  rw [show yo [[(⟨0, 1⟩ : Visit)]] 0 x19.cust.length = [⟨0, 1⟩] from hs] at hk
  rw [ZkZ hk Wo.diag (by decide) (by decide) 0]
 have h1 : yP x19 [[⟨0, 1⟩]] 0 1 = [0] := by unfold yP; rw [hb]; rfl
 have h2 : qw x19 [[⟨0, 1⟩]] 0 1 = [[[⟨0, 1⟩]]] := by unfold qw; rw [hb]; rfl
 unfold ud jL
 rw [ZcN]
 simp only [h1, h2]
 rfl
theorem Zk1 : Pure Tryz.prog 13 [.agg (zt x19), I 0] (.tup [.agg [L ([[[⟨0, 1⟩]]] : yA)], I 0]) := by
 have h := ZcE (b := 0) Wo (n := 1) rfl (by decide) ZkW ZkX (by decide)
 rw [Zk0] at h
 exact h
set_option maxRecDepth 20000 in
theorem Zk2 : Pure Tryz.prog 17 [] (B true) := by
 have h1 := Zk1
 have h2 := ZkU [[[⟨0, 1⟩]]] 0 (by decide) (by decide) (by decide)
 rw [show woP 0 [[[(⟨0, 1⟩ : Stop)]]] = [[]] from by decide] at h2
 refine pwe Tryz.func17 Tryz.ntmps17 Tryz.results17 fun S nx hd => ?_
 (repeat apply za); refine pwn ?_; intros
 repeat apply za
 refine pwn ?_
 intro v0
 repeat apply za
 refine pwn ?_
 refine pwc h1 ?_
 intro v1
 intros
 repeat apply za
 refine pwN [(2, 18), (8, 24), (17, 33)] trivial ?_
 refine pwC [(2, 18), (8, 24), (17, 33)] h2 trivial ?_
 intros
 repeat apply za
 exact zb (zg hd (by simp; rfl) rfl)
open Go Go.Proofs Hp
theorem Zk3 {x : Inst} (hx : InstH x) {v : List (List Visit)} {n : Nat} (hv : VsOk x.cust.length n v) (b : Int) : ∀ d ∈ qw x v b n, DayOk d ∧ d.length ≤ 1000 ∧ d.flatten.length ≤ 1000 := by
 intro d hd
 obtain ⟨r, hr, rfl⟩ := List.mem_map.1 hd
 obtain ⟨k, -, rfl⟩ := List.mem_map.1 hr
 exact Zja (ZC hx hv k) hx.diag b
open Go Go.Proofs Hp
structure SuitsP (c : Cust) (n : Nat) (cap : Int) (v : List Visit) : Prop where
 cap : ∀ w ∈ v, w.q ≤ cap
 per : c.kind = 1 → ∃ p ∈ c.pats, v = yV c p
 tank : c.kind ≠ 1 → v = zG 0 (zK v n) ∧ qB c (zK v n) = 0
open Go Go.Proofs Hp
theorem Zk4 {x : Inst} {p : yA} (h1 : qC x = true) (h2 : (p.length : Int) = x.days) (h3 : ∀ d ∈ p, zT x d = 0) (h4 : ∀ i, i < x.cust.length → x9 x p i = 0) : vY x p = 0 := by
 unfold vY
 rw [if_neg (by simp [h1]), if_neg (by simp [h2])]
 have e : y9 (p.map (zT x)) = 0 := uL fun e he => by obtain ⟨d, hd, rfl⟩ := List.mem_map.1 he; exact h3 d hd
 rw [if_neg (by simp [e])]
 exact uL fun e he => by obtain ⟨i, hi, rfl⟩ := List.mem_map.1 he; exact h4 i (List.mem_range.1 hi)
open Go Go.Proofs Hp
theorem ZcP {x : Inst} {sol : Cust → List Int → List Visit × Bool} {b : Int} {n : Nat} : ∀ (k : Nat) (pr : List (List Int)), xA x.cust.length n pr → (jL x sol b n k pr).2 = 0 → ∃ pr', xA x.cust.length n pr' ∧ (yk x sol pr').2 = 0 ∧ y9 (yP x (yk x sol pr').1 b n) = 0 ∧ (jL x sol b n k pr).1 = qw x (yk x sol pr').1 b n
 | 0, _, _, h => by simp [jL] at h
 | k + 1, pr, hp, h => by
  unfold jL at h ⊢
  by_cases h1 : (yk x sol pr).2 ≠ 0
  ·rw [if_pos h1] at h; cases h
  rw [if_neg h1] at h ⊢
  by_cases h2 : y9 (yP x (yk x sol pr).1 b n) = 0
  ·rw [if_pos h2] at h ⊢
   exact ⟨pr, hp, by simpa using h1, h2, rfl⟩
  rw [if_neg h2] at h ⊢
  by_cases h3 : (yP x (yk x sol pr).1 b n).any wP = true
  ·rw [if_pos h3] at h; cases h
  rw [if_neg h3] at h ⊢
  exact ZcP k _ (Yy _ hp n) h
def jk (v : List Visit) : Prop := (v.map (·.d)).Pairwise (· < ·)
theorem ZcQ : ∀ (v : List Visit), jk v → ∀ k : Nat, (v.filter fun w => decide (w.d < ((k + 1 : Nat) : Int))) = (v.filter fun w => decide (w.d < (k : Int))) ++ (v.filter fun w => decide (w.d = (k : Int)))
 | [], _, _ => rfl
 | w :: v, h, k => by
  have h' : jk v := by unfold jk at h ⊢; rw [List.map_cons, List.pairwise_cons] at h; exact h.2
  have h1 : ∀ u ∈ v, w.d < u.d := by
   unfold jk at h; rw [List.map_cons, List.pairwise_cons] at h
   exact fun u hu => h.1 _ (List.mem_map_of_mem hu)
  have ih := ZcQ v h' k
  by_cases c1 : w.d < (k : Int)
  ·have c2 : w.d < ((k + 1 : Nat) : Int) := by omega
   have c3 : ¬ w.d = (k : Int) := by omega
   rw [List.filter_cons_of_pos (by simpa using c2), List.filter_cons_of_pos (by simpa using c1), List.filter_cons_of_neg (by simpa using c3), ih]
   rfl
  ·have e0 : (v.filter fun w => decide (w.d < (k : Int))) = [] := by
    rw [List.filter_eq_nil_iff]; intro u hu; have := h1 u hu; simp; omega
   rw [e0] at ih
   by_cases c3 : w.d = (k : Int)
   ·have c2 : w.d < ((k + 1 : Nat) : Int) := by omega
    rw [List.filter_cons_of_pos (by simpa using c2), List.filter_cons_of_neg (by simpa using c1), List.filter_cons_of_pos (by simpa using c3), ih, e0]
    rfl
   ·have c2 : ¬ w.d < ((k + 1 : Nat) : Int) := by omega
    rw [List.filter_cons_of_neg (by simpa using c2), List.filter_cons_of_neg (by simpa using c1), List.filter_cons_of_neg (by simpa using c3), ih, e0]
theorem ZcR {v : List Visit} (h : jk v) (h0 : ∀ w ∈ v, 0 ≤ w.d) : ∀ k : Nat, (List.range k).flatMap (fun d : Nat => v.filter fun w => decide (w.d = (d : Int))) = v.filter fun w => decide (w.d < (k : Int))
 | 0 => by
  symm
  rw [List.range_zero, List.flatMap_nil, List.filter_eq_nil_iff]; intro u hu; have := h0 u hu; simp; omega
 | k + 1 => by rw [List.range_succ, List.flatMap_append, ZcR h h0 k, ZcQ v h k]; simp
theorem ZcS {v : List Visit} {n : Nat} (h : jk v) (h0 : ∀ w ∈ v, 0 ≤ w.d ∧ w.d < n) : (List.range n).flatMap (fun d : Nat => v.filter fun w => decide (w.d = (d : Int))) = v := by
 rw [ZcR h fun w hw => (h0 w hw).1]
 rw [List.filter_eq_self]; intro w hw; simpa using (h0 w hw).2
theorem ZcT {v : List Visit} (h : jk v) (d : Int) : (v.filter fun w => decide (w.d = d)) = [] ∨ ∃ w, w.d = d ∧ (v.filter fun w => decide (w.d = d)) = [w] := by
 have h1 := Zb2 (l := v) (h.imp fun h => Int.ne_of_lt h) d
 generalize he : (v.filter fun w => decide (w.d = d)) = m at *
 match m, h1, he with
 | [], _, _ => exact .inl rfl
 | [w], _, he =>
  refine .inr ⟨w, ?_, rfl⟩
  have : w ∈ v.filter fun w => decide (w.d = d) := by rw [he]; simp
  simpa using (List.mem_filter.1 this).2
 | _ :: _ :: _, h1, _ => simp at h1
theorem ZcU (f : Nat → Int) : ∀ (k i : Nat), zG i ((List.range' i k).map f) = (List.range' i k).flatMap fun d => if 0 < f d then [⟨(d : Int), f d⟩] else []
 | 0, i => by simp [zG]
 | k + 1, i => by
  rw [List.range'_succ, List.map_cons, List.flatMap_cons, ← ZcU f k (i + 1)]
  simp only [zG]
  split <;> rfl
theorem Zk5 (f : Nat → Int) (k : Nat) : zG 0 ((List.range k).map f) = (List.range k).flatMap fun d => if 0 < f d then [⟨(d : Int), f d⟩] else [] := by
 rw [List.range_eq_range']; exact ZcU f k 0
theorem Zk6 {v : List Visit} {n : Nat} (hg : GoodV n v) (hn : n ≤ 60) (h : jk v) : zG 0 (zK v n) = v := by
 unfold zK
 have e : (min (max (n : Int) 0) 64).toNat = n := by omega
 rw [e, Zk5]
 conv => rhs; rw [← ZcS h fun w hw => (hg.ok w hw).1]
 have key : ∀ d : Nat, (if 0 < ((v.filter fun s => decide (s.d = (d : Int))).map (·.q)).sum then [(⟨(d : Int), ((v.filter fun s => decide (s.d = (d : Int))).map (·.q)).sum⟩ : Visit)] else []) = v.filter fun w => decide (w.d = (d : Int)) := by
  intro d
  rcases ZcT h d with q | ⟨w, q1, q2⟩
  ·rw [q]; rfl
  ·have hw : w ∈ v := by
    have : w ∈ v.filter fun w => decide (w.d = (d : Int)) := by rw [q2]; simp
    exact (List.mem_filter.1 this).1
   have := (hg.ok w hw).2
   rw [q2]
   simp only [List.map_cons, List.map_nil, List.sum_cons, List.sum_nil, Int.add_zero]
   rw [if_pos (by omega), ← q1]
 have ef : (fun d : Nat => if 0 < ((v.filter fun s => decide (s.d = (d : Int))).map (·.q)).sum then [(⟨(d : Int), ((v.filter fun s => decide (s.d = (d : Int))).map (·.q)).sum⟩ : Visit)] else []) = fun d : Nat => v.filter fun w => decide (w.d = (d : Int)) := funext key
 rw [ef]
theorem Wp : ∀ (l : List Int) (i : Nat), jk (zG i l)
 | [], _ => .nil
 | z :: l, i => by
  have ih := Wp l (i + 1)
  simp only [zG]
  split
  ·unfold jk at ih ⊢
   rw [List.map_cons, List.pairwise_cons]
   refine ⟨fun d hd => ?_, ih⟩
   obtain ⟨s, hs, rfl⟩ := List.mem_map.1 hd
   have := QW l (i + 1) s hs
   show (i : Int) < s.d
   omega
  ·exact ih
theorem ZcV : ∀ (l : List Int) (i d : Nat), Qs l → (((zG i l).filter fun s => decide (s.d = ((i + d : Nat) : Int))).map (·.q)).sum = l.getD d 0
 | [], i, d, _ => by simp [zG]
 | z :: l, i, d, h => by
  have hz := h z (by simp)
  have hge := QW l (i + 1)
  have ih := fun d => ZcV l (i + 1) d fun x hx => h x (by simp [hx])
  cases d with
  | zero =>
   have e : ((zG (i + 1) l).filter fun s => decide (s.d = ((i + 0 : Nat) : Int))) = [] := by
    rw [List.filter_eq_nil_iff]; intro s hs; have := hge s hs; simp; omega
   simp only [zG]
   split
   ·rw [List.filter_cons_of_pos (by simp), e]; simp
   ·rw [e]; simp; omega
  | succ d =>
   have ih := ih d
   rw [show i + 1 + d = i + (d + 1) by omega] at ih
   simp only [zG]
   split
   ·rw [List.filter_cons_of_neg (by simp; omega), ih]; simp
   ·rw [ih]; simp
theorem Zk7 {l : List Int} {n : Nat} (hl : l.length = n) (hn : n ≤ 60) (h : Qs l) : zK (zG 0 l) n = l := by
 apply List.ext_getElem?
 intro d
 have e : (min (max (n : Int) 0) 64).toNat = n := by omega
 by_cases hd : d < n
 ·have := ZcV l 0 d h
  rw [Nat.zero_add] at this
  unfold zK
  rw [List.getElem?_map, e, List.getElem?_range hd, Option.map_some, this, List.getD_eq_getElem?_getD, List.getElem?_eq_getElem (by omega)]; rfl
 ·rw [List.getElem?_eq_none (by rw [ZA]; omega), List.getElem?_eq_none (by omega)]
theorem ZcW : ∀ (p : yA) (i : Nat) (d : Day), told i (p ++ [d]) = told i p ++ d.flatten.map (·, i + p.length)
 | [], i, d => by simp [told]
 | e :: p, i, d => by
  rw [List.cons_append, told, ZcW p (i + 1) d, told, List.append_assoc, List.length_cons, show i + 1 + p.length = i + (p.length + 1) by omega]
theorem ZcX {m n : Nat} {v : List (List Visit)} (h : VsOk m n v) (day : Int) (i : Nat) : ∀ k : Nat, (yo v day k).filter (fun s => decide (s.c = (i : Int))) = if i < k then j9 v day i else []
 | 0 => by simp [yo]
 | k + 1 => by
  rw [QR, List.filter_append, ZcX h day i k]
  have hm : ∀ s ∈ j9 v day k, s.c = k := fun s hs => (X6 h hs).1
  by_cases hik : i = k
  ·subst hik
   rw [if_neg (by omega), if_pos (by omega), List.nil_append, List.filter_eq_self]
   intro s hs; simpa using hm s hs
  ·have : (j9 v day k).filter (fun s => decide (s.c = (i : Int))) = [] := by
    rw [List.filter_eq_nil_iff]; intro s hs; have := hm s hs; simp; omega
   rw [this, List.append_nil]
   by_cases h1 : i < k
   ·rw [if_pos h1, if_pos (by omega)]
   ·rw [if_neg h1, if_neg (by omega)]
theorem Zk8 {α : Type} {a b : List α} (h : a.Perm b) (hb : b.length ≤ 1) : a = b := by
 match b, hb, h with
 | [], _, h => exact List.perm_nil.1 h
 | [s], _, h => exact List.perm_singleton.1 h
 | _ :: _ :: _, hb, _ => simp at hb
theorem Zk9 {m n : Nat} {v : List (List Visit)} (h : VsOk m n v) {d : Day} {k i : Nat} (hd : d.flatten.Perm (yo v k m)) (hi : i < m) : yr i (d.flatten.map (·, k)) = (v.getD i []).filter fun w => decide (w.d = (k : Int)) := by
 have h1 : (d.flatten.filter fun s => decide (s.c = (i : Int))) = j9 v k i := by
  have := hd.filter fun s => decide (s.c = (i : Int))
  rw [ZcX h k i m, if_pos hi] at this
  exact Zk8 this (Zb3 h k i)
 unfold yr
 rw [List.filter_map, List.map_map]
 have e2 : ((fun x : Stop × Nat => decide (x.1.c = (i : Int))) ∘ fun x : Stop => (x, k)) = fun s : Stop => decide (s.c = (i : Int)) := rfl
 rw [e2, h1]
 unfold j9
 rw [List.map_map]
 conv => rhs; rw [← List.map_id (List.filter _ _)]
 apply List.map_congr_left
 intro w hw
 have := (List.mem_filter.1 hw).2
 simp only [decide_eq_true_eq] at this
 show (⟨(k : Int), w.q⟩ : Visit) = w
 rw [← this]
theorem ZcY {x : Inst} (hx : InstH x) {v : List (List Visit)} {b : Int} {n : Nat} (h : VsOk x.cust.length n v) {i : Nat} (hi : i < x.cust.length) : ∀ k : Nat, (∀ d < k, (yT x b (yo v (d : Nat) x.cust.length)).2 = 0) → yr i (told 0 (qw x v b k)) = (List.range k).flatMap fun d : Nat => (v.getD i []).filter fun w => decide (w.d = (d : Int))
 | 0, _ => rfl
 | k + 1, h0 => by
  have hk := h0 k (by omega)
  obtain ⟨-, -, hp, -⟩ := XU (ZC hx h k) hx.diag b hk
  rw [Zb5, ZcW, Yt, ZcY hx h hi k fun d hd => h0 d (by omega), Nat.zero_add, QT, Zk9 h hp hi, List.range_succ, List.flatMap_append]
  simp
open Go Go.Proofs Hp
theorem vw (r : Int) (k : Nat) : r * ((k + 1 : Nat) : Int) = r * (k : Int) + r := by rw [Int.natCast_add, Int.mul_add]; simp
theorem Wq (size rate : Int) : ∀ (a b : List Int) (there : Int), zR size rate there (a ++ b) = (zR size rate there a).bind fun l => (zR size rate (there + a.sum - rate * a.length) b).map (l ++ ·)
 | [], b, there => by
  have e : there + ([] : List Int).sum - rate * (([] : List Int).length : Int) = there := by simp
  show zR size rate there b = (zR size rate (there + ([] : List Int).sum - rate * (([] : List Int).length : Int)) b).map ([] ++ ·)
  rw [e]
  cases zR size rate there b <;> rfl
 | q :: a, b, there => by
  rw [List.cons_append, zR, zR]
  split
  ·rfl
  ·rw [Wq size rate a b]
   have e : there + q - rate + a.sum - rate * (a.length : Int) = there + (q :: a).sum - rate * ((q :: a).length : Int) := by
    rw [List.sum_cons, List.length_cons, vw]; omega
   rw [e]
   cases zR size rate (there + q - rate) a with
   | none => rfl
   | some l =>
    simp only [Option.bind_some, Option.map_some]
    cases zR size rate (there + (q :: a).sum - rate * ((q :: a).length : Int)) b <;> simp
theorem Wr {size rate : Int} (hr : 0 ≤ rate) : ∀ (k : Nat) (t : Int), t ≤ size → 0 ≤ t - rate * k → ∃ l, zR size rate t (List.replicate k 0) = some l
 | 0, t, _, _ => ⟨[], rfl⟩
 | k + 1, t, h1, h2 => by
  rw [vw] at h2
  have hk : 0 ≤ rate * (k : Int) := Int.mul_nonneg hr (by omega)
  obtain ⟨l, hl⟩ := Wr (size := size) hr k (t + 0 - rate) (by omega) (by omega)
  rw [List.replicate_succ, zR, if_neg (by omega), hl]
  exact ⟨_, rfl⟩
theorem ZcZ : ∀ k : Nat, (List.replicate k (0 : Int)).sum = 0
 | 0 => rfl
 | k + 1 => by rw [List.replicate_succ, List.sum_cons, ZcZ k]; rfl
theorem Zc0 (rate size : Int) : ∀ (a b : List Int) (n m : List Int), a.length = n.length → qv rate size (a ++ b) (n ++ m) = (qv rate size a n || qv rate size b m)
 | [], b, [], m, _ => by simp [qv]
 | z :: a, b, x :: n, m, h => by
  rw [List.cons_append, List.cons_append, qv, qv, Zc0 rate size a b n m (by simpa using h), Bool.or_assoc]
 | [], b, _ :: _, m, h => by simp at h
 | _ :: _, b, [], m, h => by simp at h
theorem Ws (rate size : Int) : ∀ (k : Nat) (l : List Int), qv rate size (List.replicate k 0) l = false
 | 0, l => rfl
 | k + 1, [] => by simp [List.replicate_succ, qv]
 | k + 1, x :: l => by simp [List.replicate_succ, qv, Ws rate size k l]
theorem Zc1 {size rate : Int} : ∀ (q : List Int) (there : Int) (l : List Int), zR size rate there q = some l → l.length = q.length
 | [], _, l, h => by simp only [zR, Option.some.injEq] at h; subst h; rfl
 | q :: qs, there, l, h => by
  rw [zR] at h
  split at h
  ·cases h
  ·obtain ⟨m, hm, rfl⟩ := Option.map_eq_some_iff.1 h
   rw [List.length_cons, List.length_cons, Zc1 qs _ m hm]
theorem uh (v : List Visit) {n : Nat} (hn : n ≤ 60) : (zK v n).length = n := by rw [ZA]; omega
theorem Zla (v : List Visit) {w : Visit} {d m : Nat} (hw : w.d = d) (hv : ∀ u ∈ v, u.d < d) (hdm : d < m) (hm : m ≤ 60) : zK (v ++ [w]) m = zK v d ++ w.q :: List.replicate (m - d - 1) 0 := by
 apply List.ext_getElem?
 intro i
 have em : (min (max (m : Int) 0) 64).toNat = m := by omega
 have ed : (min (max (d : Int) 0) 64).toNat = d := by omega
 by_cases hi : i < m
 ·have hL : (zK (v ++ [w]) m)[i]? = some ((((v ++ [w]).filter fun s => decide (s.d = (i : Int))).map (·.q)).sum) := by
   unfold zK; rw [List.getElem?_map, em, List.getElem?_range hi]; rfl
  rw [hL, List.filter_append]
  rcases Nat.lt_trichotomy i d with h | h | h
  ·rw [List.getElem?_append_left (by rw [uh v (by omega)]; exact h)]
   have : (zK v d)[i]? = some ((((v.filter fun s => decide (s.d = (i : Int))).map (·.q)).sum)) := by
    unfold zK; rw [List.getElem?_map, ed, List.getElem?_range h]; rfl
   rw [this, List.filter_cons_of_neg (by simp; omega)]; simp
  ·subst h
   have e0 : (v.filter fun s => decide (s.d = (i : Int))) = [] := by
    rw [List.filter_eq_nil_iff]; intro u hu; have := hv u hu; simp; omega
   rw [e0, List.getElem?_append_right (by rw [uh v (by omega)]; exact Nat.le_refl _), uh v (by omega), Nat.sub_self, List.filter_cons_of_pos (by simpa using hw)]
   simp
  ·have e0 : (v.filter fun s => decide (s.d = (i : Int))) = [] := by
    rw [List.filter_eq_nil_iff]; intro u hu; have := hv u hu; simp; omega
   rw [e0, List.getElem?_append_right (by rw [uh v (by omega)]; omega), uh v (by omega), List.filter_cons_of_neg (by simp; omega)]
   obtain ⟨j, hj⟩ : ∃ j, i - d = j + 1 := ⟨i - d - 1, by omega⟩
   rw [hj, List.getElem?_cons_succ, List.getElem?_replicate, if_pos (by omega)]; simp
 ·rw [List.getElem?_eq_none (by rw [uh _ hm]; omega), List.getElem?_eq_none (by simp [uh v (show d ≤ 60 by omega)]; omega)]
theorem ZL (c : Cust) (last d : Int) : (zV c last d).1 = (if last < 0 then c.start else c.size) - c.rate * ((if last < 0 then d else d - last).toNat : Int) := rfl
theorem Zlb {c : Cust} (hc : CustFits c) (hst : c.start ≤ c.size) {cap : Int} {n : Nat} (hn : n ≤ 60) {ds : List Int} (h : FilS c cap n ds) : ∀ m : Nat, yW ds < m → m ≤ n → 0 ≤ (zV c (yW ds) m).1 → ∃ l, zR c.size c.rate c.start (zK (zZ c ds).1 m) = some l ∧ qv c.rate c.size (zK (zZ c ds).1 m) l = false ∧ c.start + (zK (zZ c ds).1 m).sum - c.rate * (m : Int) = (zV c (yW ds) m).1 := by
 have hr := hc.rate.1
 induction h with
 | nil =>
  intro m _ hm h0
  have e : zK (zZ c []).1 m = List.replicate m 0 := by
   show zK [] m = _
   rw [ZbP, show (min (max (m : Int) 0) 64).toNat = m by omega]
  have e9 : (zV c (yW []) m).1 = c.start - c.rate * (m : Int) := by rw [ZL]; simp [yW]
  rw [e9] at h0 ⊢
  obtain ⟨l, hl⟩ := Wr (size := c.size) hr m c.start hst (by omega)
  refine ⟨l, by rw [e, hl], by rw [e]; exact Ws _ _ _ _, by rw [e]; simp⟩
 | @snoc ds d h h1 h2 h3 ih =>
  intro m hm hmn h0
  rw [ue] at hm h0 ⊢
  have hlo := h.lo
  obtain ⟨k, rfl⟩ := Int.eq_ofNat_of_zero_le (show 0 ≤ d by omega)
  obtain ⟨l, e1, e2, e3⟩ := ih k h1 (by omega) h3.1
  obtain ⟨q1, q2, q3, q4⟩ := Wi hc h3
  have hb : zK (zZ c (ds ++ [(k : Int)])).1 m = zK (zZ c ds).1 k ++ (c.size - (zV c (yW ds) k).1) :: List.replicate (m - k - 1) 0 := by
   have hf : (zZ c (ds ++ [(k : Int)])).1 = (zZ c ds).1 ++ [⟨k, c.size - (zV c (yW ds) k).1⟩] := by
    rw [ZJ]; simp only [wg]; rw [Wg, q1]
   rw [hf]
   refine Zla _ rfl (fun u hu => ?_) (by omega) (by omega)
   have : u.d ∈ (zZ c ds).1.map (·.d) := List.mem_map_of_mem hu
   rw [Wh] at this
   have := hlo.2 _ this
   show u.d < (k : Int)
   omega
  have hbl := uh (zZ c ds).1 (n := k) (by omega)
  rw [ZL c k m] at h0 ⊢
  rw [if_neg (by omega), if_neg (by omega)] at h0 ⊢
  have ek : ((m : Int) - (k : Int)).toNat = (m - k - 1) + 1 := by omega
  rw [ek, vw] at h0 ⊢
  obtain ⟨l2, hl2⟩ := Wr (size := c.size) hr (m - k - 1) (c.size - c.rate) (by omega) (by omega)
  have hthere : c.start + (zK (zZ c ds).1 k).sum - c.rate * ((zK (zZ c ds).1 k).length : Int) + (c.size - (zV c (yW ds) k).1) = c.size := by rw [hbl, e3]; omega
  have hk0 : 0 ≤ c.rate * ((m - k - 1 : Nat) : Int) := Int.mul_nonneg hr (by omega)
  have hrun : zR c.size c.rate c.start (zK (zZ c (ds ++ [(k : Int)])).1 m) = some (l ++ (c.size - c.rate) :: l2) := by
   rw [hb, Wq, e1, Option.bind_some, zR, hthere, if_neg (by omega), hl2]; rfl
  refine ⟨_, hrun, ?_, ?_⟩
  ·rw [hb, Zc0 _ _ _ _ _ _ (Zc1 _ _ _ e1).symm, e2, qv, Ws]
   simp
  ·rw [hb, List.sum_append, List.sum_cons]
   have : (m : Int) = (k : Int) + ((m - k - 1 + 1 : Nat) : Int) := by omega
   have e4 : c.rate * (m : Int) = c.rate * (k : Int) + (c.rate * ((m - k - 1 : Nat) : Int) + c.rate) := by rw [this, Int.mul_add, vw]
   rw [e4, ZcZ]
   omega
open Go Go.Proofs Hp
theorem Zc2 {c : Cust} {cap : Int} {n : Nat} {ds : List Int} (h : FilS c cap n ds) : yW ds < n := by
 cases h with
 | nil => show (-1 : Int) < n; omega
 | snoc h h1 h2 h3 => rw [ue]; exact h2
theorem Zlc (c : Cust) (p : Nat) : jk (yV c p) := by
 have e : (yV c p).map (·.d) = zS p 0 64 := by simp [yV, Function.comp_def]
 unfold jk; rw [e]; exact ZcJ p 0 64
theorem Wt {c : Cust} {cap : Int} {n : Nat} {ds : List Int} (h : FilS c cap n ds) : jk (zZ c ds).1 := by
 unfold jk; rw [Wh]; exact h.inc
theorem Zld {c : Cust} (hc : CustFits c) (hr : c.rule = 1) {cap : Int} {n : Nat} {ds : List Int} (h : FilS c cap n ds) : ∀ w ∈ (zZ c ds).1, w.q ≤ cap := by
 induction h with
 | nil => intro w hw; cases hw
 | @snoc ds d h h1 h2 h3 ih =>
  intro w hw
  obtain ⟨q1, -, -, q4⟩ := Wi hc h3
  rw [ZJ] at hw
  simp only [wg] at hw
  rcases List.mem_append.1 hw with hw | hw
  ·exact ih w hw
  ·rw [List.mem_singleton.1 hw, Wg]
   dsimp only
   rw [q1]; exact q4 hr
theorem Zle {v : List Visit} {n : Nat} (hg : GoodV n v) (h : jk v) : Qs (zK v n) := by
 intro z hz
 unfold zK at hz
 obtain ⟨d, -, rfl⟩ := List.mem_map.1 hz
 rcases ZcT h d with q | ⟨w, -, q2⟩
 ·rw [q]; simp
 ·have hw : w ∈ v := by
   have : w ∈ v.filter fun w => decide (w.d = (d : Int)) := by rw [q2]; simp
   exact (List.mem_filter.1 this).1
  have := (hg.ok w hw).2
  rw [q2]; simp; omega
theorem Zlf {c : Cust} {q l : List Int} (hq : Qs q) (h : zR c.size c.rate c.start q = some l) : yd c q = (l, 0) := by
 have : q.any qX = false := by
  rw [List.any_eq_false]; intro z hz; have := hq z hz; simp [qX]; omega
 unfold yd
 rw [this, h]; rfl
theorem Zlg {c : Cust} {n : Nat} {cap : Int} {price : List Int} (hk : c.kind = 1) (h : (jy c cap price).2 = true) : SuitsP c n cap (jy c cap price).1 ∧ jk (jy c cap price).1 := by
 obtain ⟨p, hp, hc, e⟩ := ZcL h
 rw [e]
 refine ⟨⟨fun w hw => ?_, fun _ => ⟨p, hp, rfl⟩, fun h => absurd hk h⟩, Zlc c p⟩
 simp only [yV, List.mem_map] at hw
 obtain ⟨d, hd, rfl⟩ := hw
 rcases hc with rfl | hc
 ·simp [zS, yb] at hd
 ·exact hc
theorem Zlh {c : Cust} {n : Nat} {cap : Int} (hc : CustFits c) (hst : c.start ≤ c.size) (hn : n ≤ 60) (hk : c.kind ≠ 1) (hr : c.rule = 1) {ds : List Int} (h : FilS c cap n ds) (h0 : 0 ≤ (zV c (yW ds) n).1) : SuitsP c n cap (zZ c ds).1 := by
 have hg := ZcG hc hn h
 refine ⟨Zld hc hr h, fun h => absurd h hk, fun _ => ⟨(Zk6 hg hn (Wt h)).symm, ?_⟩⟩
 obtain ⟨l, e1, e2, -⟩ := Zlb hc hst hn h n (Zc2 h) (Nat.le_refl n) h0
 unfold qB
 rw [Zlf (Zle hg (Wt h)) e1]
 simp [e2]
theorem Zc3 : ∀ (l : List Int) (i : Nat), ∀ w ∈ zG i l, 0 < w.q ∧ w.q ∈ l
 | [], _ => by intro w hw; cases hw
 | z :: l, i => by
  have ih := Zc3 l (i + 1)
  intro w hw
  simp only [zG] at hw
  split at hw
  ·rcases List.mem_cons.1 hw with rfl | hw
   ·exact ⟨by assumption, by simp⟩
   ·have := ih w hw; exact ⟨this.1, by simp [this.2]⟩
  ·have := ih w hw; exact ⟨this.1, by simp [this.2]⟩
theorem Zc4 (c : Cust) (f : Int → Int) : ∀ k : Nat, ∀ z ∈ (ye c f k).1, ∃ t, z = f t
 | 0 => by intro z hz; cases hz
 | k + 1 => by
  intro z hz
  simp only [ye] at hz
  rcases List.mem_append.1 hz with hz | hz
  ·exact Zc4 c f k z hz
  ·exact ⟨_, List.mem_singleton.1 hz⟩
theorem Zc5 (c : Cust) (t cap : Int) : qm c t cap ≤ cap ∨ qm c t cap = 0 := by
 unfold qm
 split
 ·exact .inr rfl
 ·split
  ·left; assumption
  ·split
   ·exact .inr rfl
   ·left; omega
theorem Zc6 {c : Cust} {n : Nat} {cap : Int} {f : Int → Int} (hc : CustFits c) (hn : n ≤ 60) (hk : c.kind ≠ 1) (hb : ∀ t, 0 ≤ f t ∧ f t ≤ 2147483648) (hf : ∀ t, f t ≤ cap ∨ f t = 0) (h : qB c (ye c f n).1 = 0) : SuitsP c n cap (zG 0 (ye c f n).1) := by
 have hq := (uR hc hb n).2
 have hl := uQ c f n
 refine ⟨fun w hw => ?_, fun h => absurd h hk, fun _ => ?_⟩
 ·obtain ⟨h1, h2⟩ := Zc3 _ _ w hw
  obtain ⟨t, ht⟩ := Zc4 c f n _ h2
  rcases hf t with q | q <;> omega
 ·rw [Zk7 hl hn hq]; exact ⟨rfl, h⟩
theorem Zc7 {c : Cust} {n : Nat} (hm : CustMade c n) (hst : c.start ≤ c.size) (hn : n ≤ 60) (cap : Int) (price : List Int) (h : (qY n cap c price).2 = true) : SuitsP c n cap (qY n cap c price).1 ∧ jk (qY n cap c price).1 := by
 unfold qY at h ⊢
 by_cases hk : c.kind = 1
 ·rw [if_pos hk] at h ⊢
  exact Zlg hk h
 rw [if_neg hk] at h ⊢
 by_cases hr : c.rule = 1
 ·rw [if_pos hr] at h ⊢
  obtain ⟨ds, h1, h0, e⟩ := ZcK hn h
  rw [e]; exact ⟨Zlh hm.fits hst hn hk hr h1 h0, Wt h1⟩
 ·rw [if_neg hr] at h ⊢
  have hD := fun h => Zc6 (cap := cap) (n := n) hm.fits hn hk (Q1 hm.fits cap) (fun t => Zc5 c _ cap) h
  have hL := fun h => Zc6 (cap := cap) (n := n) hm.fits hn hk (Q3 hm.fits cap) (fun t => by unfold wQ; split; exact .inr rfl; exact Zc5 c _ cap) h
  unfold uc at h ⊢
  split
  ·rename_i h1
   have := h1.1
   unfold we at this
   exact ⟨hL (of_decide_eq_true this), Wp _ 0⟩
  ·rename_i h1
   rw [if_neg h1] at h
   split
   ·rename_i h2
    unfold jz at h2
    exact ⟨hD (of_decide_eq_true h2), Wp _ 0⟩
   ·rename_i h2; rw [if_neg h2] at h; cases h
theorem Zc8 (x : Inst) : ∀ c ∈ (zz x).cust, c.start ≤ c.size := by
 intro c hc
 obtain ⟨c0, rfl⟩ := ZH x hc
 unfold yM
 split
 ·have b := yB c0.size 1 30 (by omega)
  exact (yB c0.start 0 (rnd c0.size 1 30) (by omega)).2
 ·exact Int.le_refl _
theorem Zc9 : ∀ p : yA, (∀ d ∈ p, d.flatten.length ≤ 1000) → Yz p ≤ 1000 * p.length
 | [], _ => by simp [Yz]
 | d :: p, h => by
  have := Zc9 p fun e he => h e (by simp [he])
  have := h d (by simp)
  simp only [Yz, List.map_cons, List.sum_cons, List.length_cons] at *
  omega
theorem Zda {x : Inst} {n : Nat} (h : InstA x n) {b : Int} (h0 : (jd x b).2 = 0) : ∃ v pr, VsOk x.cust.length n v ∧ xA x.cust.length n pr ∧ (jd x b).1 = qw x v b n ∧ (∀ d : Nat, d < n → (yT x b (yo v d x.cust.length)).2 = 0) ∧ ∀ i c, x.cust[i]? = some c → v[i]? = some (qY n x.cap c (pr.getD i [])).1 ∧ (qY n x.cap c (pr.getD i [])).2 = true := by
 have hd : x.days.toNat = n := by rw [h.days]; rfl
 unfold jd ud at h0 ⊢
 rw [hd] at h0 ⊢
 obtain ⟨pr, hp, e1, e2, e3⟩ := ZcP 8 _ (Wa x n) h0
 have hv := Wm h pr hp e1
 obtain ⟨c1, c2⟩ := Wl e1
 refine ⟨_, pr, hv, hp, e3, fun d hdn => ?_, c2⟩
 refine (ZjK _).1 e2 _ (List.mem_map.2 ⟨_, List.mem_map.2 ⟨d, List.mem_range.2 hdn, rfl⟩, rfl⟩)
theorem Zli {x : Inst} {n : Nat} (h : InstA x n) {v : List (List Visit)} {b : Int} {i : Nat} {l : List Visit} (hv : VsOk x.cust.length n v) (hl : v[i]? = some l) (hr : jk l) (h0 : ∀ d : Nat, d < n → (yT x b (yo v d x.cust.length)).2 = 0) : yr i (told 0 (qw x v b n)) = l := by
 have hi : i < x.cust.length := by rw [← hv.len]; exact (List.getElem?_eq_some_iff.1 hl).1
 rw [ZcY h.h hv hi n h0]
 have e : v.getD i [] = l := by rw [List.getD_eq_getElem?_getD, hl]; rfl
 rw [e]
 exact ZcS hr fun w hw => (hv.ok l (List.mem_of_getElem? hl) w hw).1
theorem Zlj (x : Inst) (b : Int) (h0 : (jd (zz x) b).2 = 0) : (jd (zz x) b).1.length = (zz x).days ∧ PlanSz (jd (zz x) b).1 ∧ ∀ (i : Nat) (c : Cust), (zz x).cust[i]? = some c → SuitsP c (zz x).days.toNat (zz x).cap (yr i (told 0 (jd (zz x) b).1)) ∧ VisOk (yr i (told 0 (jd (zz x) b).1)) := by
 have hA := Wn x
 have hgs := Zc8 x
 have hgd := uP x
 obtain ⟨n, hn⟩ : ∃ n : Nat, (zz x).days = n := ⟨(zz x).days.toNat, by omega⟩
 have hnt : (zz x).days.toNat = n := by omega
 rw [hnt] at hA ⊢
 generalize zz x = y at *
 obtain ⟨v, pr, hv, hp, e, hd, hc⟩ := Zda hA h0
 rw [e]
 have hsz := Zk3 hA.h hv b
 have hpl := QT y v b n
 have hcn := Zc9 _ fun d hd => (hsz d hd).2.2
 refine ⟨by rw [hpl, hn], ⟨⟨by omega, fun d hd => by have := (hsz d hd).2.1; omega, fun d hd => (hsz d hd).1.t, by rw [Zck]; omega⟩, fun d hd => by have := (hsz d hd).2.2; omega⟩, fun i c hic => ?_⟩
 obtain ⟨q1, q2⟩ := hc i c hic
 have hcm := List.mem_of_getElem? hic
 obtain ⟨s1, s2⟩ := Zc7 (hA.made c hcm) (hgs c hcm) hA.n60 y.cap _ q2
 have hg := ZcM (hA.made c hcm) hA.n60 _ _ q2
 rw [Zli hA hv q1 s2 hd]
 exact ⟨s1, ⟨by have := hg.len; omega, fun s hs => by have := hg.ok s hs; omega, fun s hs => by have := hg.ok s hs; have := hA.n60; unfold I64; omega⟩⟩
open Go Go.Proofs Hp
theorem Zlk (c : Cust) (d : Int) (h1 : 1 ≤ d) (h7 : d ≤ 7) : jT (yM c d) d = true := by
 have hm := Zcm c d h1 h7
 by_cases hk : c.kind.tmod 2 = 0
 ·have e : yM c d = ⟨2, 0, [], rnd c.rate 0 9, rnd c.size 1 30, rnd c.start 0 (rnd c.size 1 30), rnd c.rule 1 2, rnd c.hold 0 4⟩ := by unfold yM; rw [if_pos hk]
  have a := yB c.rate 0 9 (by omega)
  have b := yB c.size 1 30 (by omega)
  have s := yB c.start 0 (rnd c.size 1 30) (by omega)
  have r := yB c.rule 1 2 (by omega)
  have h := yB c.hold 0 4 (by omega)
  rw [e]
  simp [jT, zD, wL, vr]
  omega
 ·have e : yM c d = ⟨1, rnd c.demand 1 15, xk c.pats d, 0, 0, 0, 0, 0⟩ := by unfold yM; rw [if_neg hk]
  have a := yB c.demand 1 15 (by omega)
  rw [e] at hm ⊢
  obtain ⟨hp, -⟩ := hm.per rfl
  have hl : 1 ≤ (xk c.pats d).length ∧ (xk c.pats d).length ≤ 64 := by
   unfold xk
   split
   ·simp
   ·rename_i hn
    have : 0 < c.pats.length := List.length_pos_iff.2 hn
    simp only [List.length_map, List.length_take]; omega
  simp only [jT, if_true, Bool.and_eq_true, zD, decide_eq_true_eq, xK, vX, List.all_eq_true]
  refine ⟨⟨by omega, fun p hpm => ?_, by omega⟩, by simp⟩
  unfold vq
  have : zS p d.toNat 64 = [] := by
   rw [ZbV, List.filter_eq_nil_iff]
   intro z hz
   have := hp p hpm z hz
   simp; omega
  rw [this]; decide
theorem Zdb (n : Nat) (row : Nat → List Int) (h : ∀ a, a < n → (row a).length = n ∧ (row a).getD a 0 = 0 ∧ ∀ z ∈ row a, 0 ≤ z ∧ z ≤ 2147483648) : ∀ k a : Nat, a + k ≤ n → wM n a ((List.range' a k).map row) = true
 | 0, _, _ => rfl
 | k + 1, a, ha => by
  obtain ⟨h1, h2, h3⟩ := h a (by omega)
  rw [List.range'_succ, List.map_cons]
  simp only [wM, Zdb n row h k (a + 1) (by omega), Bool.and_true, h1, h2, decide_true, Bool.true_and, List.all_eq_true, zD, decide_eq_true_eq]
  exact h3
theorem Zll (x : Inst) : qC (zz x) = true := by
 have h1 := uP x
 have h2 := Zcn x
 have h3 := Zco x
 have h4 := Zcp x
 have h5 := Zcq x
 unfold qC
 simp only [Bool.and_eq_true, List.all_eq_true, decide_eq_true_eq, zD]
 refine ⟨⟨⟨⟨⟨⟨by omega, by omega⟩, by omega⟩, by omega⟩, by omega⟩, fun c hc => ?_⟩, ?_⟩
 ·obtain ⟨c0, rfl⟩ := ZH x hc
  exact Zlk c0 _ h1.1 h1.2
 ·have e : (zz x).cust.length = (x.cust.take 6).length := by simp [zz]
  rw [e]
  unfold QQ
  have e2 : (zz x).dist = (List.range' 0 ((x.cust.take 6).length + 1)).map fun a => q8 x (x.cust.take 6).length a := by rw [← List.range_eq_range']; rfl
  rw [e2, Zdb _ _ (fun a ha => ?_) _ _ (by omega)]
  ·simp
  ·refine ⟨by simp [q8], ?_, fun z hz => ?_⟩
   ·unfold q8
    rw [List.getD_eq_getElem?_getD, List.getElem?_map, List.getElem?_range ha]
    simp
   ·unfold q8 at hz
    obtain ⟨b, -, rfl⟩ := List.mem_map.1 hz
    split
    ·have := yB (arc x a b) 0 60 (by omega); omega
    ·omega
theorem Zdc {c : Cust} {n : Nat} {cap : Int} (price : List Int) {tab : List Stp} {d i : Nat} (hok : vu c n cap tab d ((i : Int) - 1)) : ∀ j : Nat, i < j → qP c n cap price tab d j ≠ zs
 | 0, h => by omega
 | j + 1, h => by
  have hne : ∀ (k l : Int), (⟨true, k, l⟩ : Stp) ≠ zs := by intro k l e; injection e with e _ _; cases e
  rw [Wd]
  unfold cnS
  by_cases hij : i = j
  ·subst hij
   rw [if_pos hok]
   split
   ·exact hne _ _
   ·rename_i h2; exact fun e => h2 (.inl e)
  ·have ih := Zdc price hok j (by omega)
   split
   ·split
    ·exact hne _ _
    ·exact ih
   ·exact ih
theorem Zdd (c : Cust) (n : Nat) (cap : Int) (price : List Int) : ∀ m d : Nat, d < m → (yD c n cap price m).getD d zs = qP c n cap price (yD c n cap price d) d (d + 1)
 | 0, _, h => by omega
 | m + 1, d, h => by
  have hl := ZK c n cap price m
  rw [List.getD_eq_getElem?_getD]
  simp only [yD]
  by_cases hd : d < m
  ·rw [List.getElem?_append_left (by omega), ← List.getD_eq_getElem?_getD, Zdd c n cap price m d hd]
  ·obtain rfl : d = m := by omega
   rw [List.getElem?_append_right (by omega), hl, Nat.sub_self]; rfl
def ZM (c : Cust) (n : Nat) (cap : Int) : Prop := ∃ ds, FilS c cap n ds ∧ 0 ≤ (zV c (yW ds) n).1
theorem Zde {c : Cust} {n : Nat} {cap : Int} (price : List Int) {last : Int} {d : Nat} (h1 : -1 ≤ last) (h2 : last < d) (h3 : ∀ m : Nat, last < m → 0 ≤ last → (yD c n cap price m).getD last.toNat zs ≠ zs) (h4 : 0 ≤ (zV c last d).1) (h5 : d < n → qm c (zV c last d).1 cap ≠ 0) (m : Nat) (hm : d < m) : (yD c n cap price m).getD d zs ≠ zs := by
 rw [Zdd _ _ _ _ _ _ hm]
 refine Zdc (i := (last + 1).toNat) price ?_ _ (by omega)
 have e : (((last + 1).toNat : Nat) : Int) - 1 = last := by omega
 rw [e]
 exact ⟨fun q => h3 d h2 q.1 q.2, fun q => by rcases q with q | ⟨q1, q2⟩; omega; exact h5 q1 q2⟩
theorem Zlm {c : Cust} {n : Nat} {cap : Int} (price : List Int) {ds : List Int} (h : FilS c cap n ds) : ∀ m : Nat, yW ds < m → 0 ≤ yW ds → (yD c n cap price m).getD (yW ds).toNat zs ≠ zs := by
 induction h with
 | nil => intro m _ h0; simp [yW] at h0
 | @snoc ds d h h1 h2 h3 ih =>
  have hlo := h.lo.1
  intro m hm h0
  rw [ue] at hm h0 ⊢
  obtain ⟨k, rfl⟩ := Int.eq_ofNat_of_zero_le h0
  rw [Int.toNat_natCast]
  exact Zde price hlo h1 ih h3.1 (fun _ => h3.2) m (by omega)
theorem Zln {c : Cust} {n : Nat} {cap : Int} (price : List Int) (h : ZM c n cap) : (wR c n cap price).2 = true := by
 obtain ⟨ds, h1, h2⟩ := h
 have hlo := h1.lo.1
 have := Zde price hlo (Zc2 h1) (Zlm price h1) h2 (fun q => absurd q (by omega)) (n + 1) (by omega)
 unfold wR
 rw [if_neg this]
inductive FR (c : Cust) (cap : Int) : List Int → Int → Prop where
 | nil : FR c cap [] c.start
 | zero {q : List Int} {t : Int} (h : FR c cap q t) : FR c cap (q ++ [0]) (t - c.rate)
 | fill {q : List Int} {t : Int} (h : FR c cap q t) (h1 : 1 ≤ c.size - t) (h2 : c.size - t ≤ cap) : FR c cap (q ++ [c.size - t]) (c.size - c.rate)
theorem FR.sum {c : Cust} {cap : Int} {q : List Int} {t : Int} (h : FR c cap q t) : t = c.start + q.sum - c.rate * q.length := by
 induction h with
 | nil => simp
 | zero h ih => rw [List.sum_append, List.length_append, List.length_singleton, vw]; simp; omega
 | fill h h1 h2 ih => rw [List.sum_append, List.length_append, List.length_singleton, vw]; simp; omega
theorem Zdf {size rate there z : Int} {q l : List Int} (h : zR size rate there (q ++ [z]) = some l) : (∃ l', zR size rate there q = some l') ∧ 0 ≤ there + q.sum - rate * q.length + z - rate := by
 rw [Wq] at h
 cases e : zR size rate there q with
 | none => rw [e] at h; cases h
 | some l' =>
  rw [e, Option.bind_some] at h
  refine ⟨⟨_, rfl⟩, ?_⟩
  rw [zR] at h
  split at h
  ·cases h
  ·omega
theorem Zlo (c : Cust) {last : Int} {m : Nat} (h : last < m) (h1 : -1 ≤ last) : (zV c last ((m + 1 : Nat) : Int)).1 = (zV c last m).1 - c.rate := by
 rw [ZL, ZL]
 by_cases h0 : last < 0
 ·rw [if_pos h0, if_pos h0, if_pos h0, Int.toNat_natCast, Int.toNat_natCast, vw]; omega
 ·rw [if_neg h0, if_neg h0, if_neg h0]
  have e : (((m + 1 : Nat) : Int) - last).toNat = ((m : Int) - last).toNat + 1 := by omega
  rw [e, vw]; omega
theorem FR.fil {c : Cust} {cap : Int} {n : Nat} {q : List Int} {t : Int} (h : FR c cap q t) (h0 : 0 ≤ c.start) : ∀ l, zR c.size c.rate c.start q = some l → q.length ≤ n → ∃ ds, FilS c cap n ds ∧ yW ds < q.length ∧ t = (zV c (yW ds) q.length).1 ∧ 0 ≤ t := by
 induction h with
 | nil =>
  intro l _ _
  refine ⟨[], .nil, by simp [yW], ?_, h0⟩
  rw [ZL]; simp [yW]
 | @zero q t h ih =>
  intro l hl hn
  obtain ⟨⟨l', hl'⟩, hz⟩ := Zdf hl
  rw [← h.sum] at hz
  rw [List.length_append, List.length_singleton] at hn ⊢
  obtain ⟨ds, d1, d2, d3, d4⟩ := ih l' hl' (by omega)
  refine ⟨ds, d1, by omega, ?_, by omega⟩
  rw [Zlo c d2 d1.lo.1, ← d3]
 | @fill q t h h1 h2 ih =>
  intro l hl hn
  obtain ⟨⟨l', hl'⟩, hz⟩ := Zdf hl
  rw [← h.sum] at hz
  rw [List.length_append, List.length_singleton] at hn ⊢
  obtain ⟨ds, d1, d2, d3, d4⟩ := ih l' hl' (by omega)
  refine ⟨ds ++ [(q.length : Int)], .snoc d1 d2 (by omega) ⟨by rw [← d3]; exact d4, ?_⟩, by rw [ue]; omega, ?_, by omega⟩
  ·rw [← d3]
   unfold qm
   rw [if_neg (by omega), if_pos h2]; omega
  ·rw [ue, ZL, if_neg (by omega), if_neg (by omega)]
   have e : (((q.length + 1 : Nat) : Int) - (q.length : Int)).toNat = 0 + 1 := by omega
   rw [e, vw]; simp
theorem Zlp {c : Cust} {q : List Int} (h : qB c q = 0) : ∃ l, zR c.size c.rate c.start q = some l := by
 have : (yd c q).2 = 0 := by
  unfold qB at h
  split at h
  ·rename_i h1; exact absurd h h1
  ·rename_i h1; simpa using h1
 unfold yd at this
 split at this
 ·cases this
 ·cases e : zR c.size c.rate c.start q with
  | none => rw [e] at this; cases this
  | some l => exact ⟨l, rfl⟩
theorem FR.ok {c : Cust} {cap : Int} {n : Nat} {q : List Int} {t : Int} (h : FR c cap q t) (h0 : 0 ≤ c.start) (hq : q.length = n) (hh : qB c q = 0) : ZM c n cap := by
 obtain ⟨l, hl⟩ := Zlp hh
 obtain ⟨ds, d1, -, d3, d4⟩ := h.fil (n := n) h0 l hl (Nat.le_of_eq hq)
 exact ⟨ds, d1, by rw [← hq, ← d3]; exact d4⟩
open Go Go.Proofs Hp
theorem Zlq (s : Nat) (d : Int) (i : Nat) (h : 0 ≤ d ∧ d < 64) : (qO s d).testBit i = (s.testBit i || decide (d = (i : Int))) := by
 obtain ⟨k, rfl⟩ := Int.eq_ofNat_of_zero_le h.1
 unfold qO
 rw [if_pos (by omega), Int.toNat_natCast, Nat.testBit_or, Nat.testBit_two_pow]
 congr 1
 rw [decide_eq_decide]; omega
theorem Zdg (i : Nat) : ∀ (l : List Int) (s : Nat), (∀ d ∈ l, 0 ≤ d ∧ d < 64) → (l.foldl qO s).testBit i = (s.testBit i || decide ((i : Int) ∈ l))
 | [], s, _ => by simp
 | d :: l, s, h => by
  rw [List.foldl_cons, Zdg i l _ fun z hz => h z (by simp [hz]), Zlq s d i (h d (by simp)), Bool.or_assoc]
  congr 1
  by_cases h1 : d = (i : Int)
  ·subst h1; simp
  ·have : ¬ (i : Int) = d := fun e => h1 e.symm
   simp [h1, this]
theorem Zdh (p : Nat) (hp : p < 2 ^ 64) : ofD (zS p 0 64) = p := by
 apply Nat.eq_of_testBit_eq
 intro i
 unfold ofD
 rw [Zdg i _ _ fun d hd => by obtain ⟨k, rfl, hk, -⟩ := uO hd; omega, Nat.zero_testBit, Bool.false_or]
 by_cases hi : i < 64
 ·rw [ZB, decide_eq_decide]
  constructor
  ·intro h
   obtain ⟨k, e, -, hk⟩ := uO h
   obtain rfl : i = k := by omega
   exact hk
  ·intro h
   simp only [zS, List.mem_map, List.mem_filter, List.mem_range, Bool.and_eq_true, decide_eq_true_eq]
   exact ⟨i, ⟨hi, by omega, h⟩, rfl⟩
 ·rw [Nat.testBit_lt_two_pow (Nat.lt_of_lt_of_le hp (Nat.pow_le_pow_right (by decide) (by omega)))]
  rw [decide_eq_false_iff_not]
  intro h
  obtain ⟨k, e, hk, -⟩ := uO h
  omega
theorem Zlr {c : Cust} {p : Nat} (hp : p ∈ c.pats) (h : p < 2 ^ 64) : Yw c (yV c p) = 0 := by
 unfold Yw
 have e1 : (yV c p).any (fun s => decide (s.q ≠ c.demand)) = false := by
  rw [List.any_eq_false]; intro s hs
  simp only [yV, List.mem_map] at hs
  obtain ⟨d, -, rfl⟩ := hs
  simp
 have e2 : (yV c p).map (·.d) = zS p 0 64 := by simp [yV, Function.comp_def]
 rw [e1, if_neg (by simp), e2, Zdh p h, if_pos hp]
def Q8 (c : Cust) : Prop := (c.kind = 1 ∧ c.rule = 0) ∨ (c.kind = 2 ∧ (c.rule = 1 ∨ c.rule = 2))
theorem Zdi (x : Inst) : ∀ c ∈ (zz x).cust, Q8 c := by
 intro c hc
 obtain ⟨c0, rfl⟩ := ZH x hc
 unfold yM
 split
 ·have := yB c0.rule 1 2 (by omega)
  refine .inr ⟨rfl, ?_⟩
  show rnd c0.rule 1 2 = 1 ∨ rnd c0.rule 1 2 = 2
  omega
 ·exact .inl ⟨rfl, rfl⟩
theorem Zls (x : Inst) (b : Int) (h0 : (jd (zz x) b).2 = 0) : vY (zz x) (jd (zz x) b).1 = 0 ∧ PlanSz (jd (zz x) b).1 := by
 obtain ⟨s1, s2, s3⟩ := Zlj x b h0
 have hmay := Zll x
 have hA := Wn x
 have hgd := uP x
 have hkd := Zdi x
 obtain ⟨n, hn⟩ : ∃ n : Nat, (zz x).days = n := ⟨(zz x).days.toNat, by omega⟩
 have hnt : (zz x).days.toNat = n := by omega
 rw [hnt] at hA s3
 generalize zz x = y at *
 refine ⟨Zk4 hmay s1 ?_ ?_, s2⟩
 ·obtain ⟨v, pr, hv, hp, e, hd, hc⟩ := Zda hA h0
  rw [e]
  intro d hd'
  obtain ⟨r, hr, rfl⟩ := List.mem_map.1 hd'
  obtain ⟨k, hk, rfl⟩ := List.mem_map.1 hr
  exact (XU (ZC hA.h hv k) hA.h.diag b (hd k (List.mem_range.1 hk))).2.1
 ·intro i hi
  have hic := List.getElem?_eq_getElem hi
  obtain ⟨g1, -⟩ := s3 i _ hic
  have hcm := List.mem_of_getElem? hic
  unfold x9
  rw [hic]
  simp only
  rcases hkd _ hcm with ⟨k1, k2⟩ | ⟨k1, k2⟩
  ·rw [if_neg (by omega)]
   obtain ⟨p, hp, e⟩ := g1.per k1
   rw [e]
   exact Zlr hp ((hA.made _ hcm).pats p hp)
  ·rw [if_pos k1, hn]
   exact (g1.tank (by omega)).2
def uU (n : Nat) (cap : Int) (c : Cust) : Prop := if c.rule = 2 then (jz c n cap).2 = true else if c.kind = 1 then yQ c cap ≠ [] else ZM c n cap
theorem Zlt {n : Nat} {cap : Int} {c : Cust} (hk : Q8 c) (h : uU n cap c) (price : List Int) : (qY n cap c price).2 = true := by
 unfold uU at h
 unfold qY
 rcases hk with ⟨k1, k2⟩ | ⟨k1, k2 | k2⟩
 ·rw [if_neg (by omega), if_pos k1] at h
  rw [if_pos k1]
  unfold jy
  have := (QZ price (yQ c cap) (yQ c cap).length).2.2 (List.length_pos_iff.2 h)
  rw [if_neg (by omega)]
 ·rw [if_neg (by omega), if_neg (by omega)] at h
  rw [if_neg (by omega), if_pos k2]
  exact Zln price h
 ·rw [if_pos k2] at h
  rw [if_neg (by omega), if_neg (by omega)]
  unfold uc
  rw [if_pos h]
  split <;> rfl
def Wu (x : Inst) : Prop := (∀ i : Nat, i < x.cust.length → zF x [(i : Int)] ≤ x.len) ∧ (x.cust.length : Int) ≤ x.veh
theorem Zdj {m n : Nat} {v : List (List Visit)} (h : VsOk m n v) {day : Int} {s : Stop} : ∀ k : Nat, s ∈ yo v day k → ∃ i : Nat, i < k ∧ s.c = i ∧ 1 ≤ s.q ∧ s.q ≤ 2147483648 ∧ ∃ w ∈ v.getD i [], s.q = w.q
 | 0, hs => by simp [yo] at hs
 | k + 1, hs => by
  rw [QR] at hs
  rcases List.mem_append.1 hs with hs | hs
  ·obtain ⟨i, h1, h2⟩ := Zdj h k hs
   exact ⟨i, by omega, h2⟩
  ·obtain ⟨h1, h2, h3⟩ := X6 h hs
   obtain ⟨w, hw, rfl⟩ := List.mem_map.1 hs
   exact ⟨k, by omega, h1, h2, h3, w, (List.mem_filter.1 hw).1, rfl⟩
theorem Zlu {x : Inst} {n : Nat} (hx : InstH x) (hS : Wu x) {v : List (List Visit)} (h : VsOk x.cust.length n v) (hcap : ∀ l ∈ v, ∀ w ∈ l, w.q ≤ x.cap) (day : Int) (b : Int) : (yT x b (yo v day x.cust.length)).2 = 0 := by
 have hok := ZC hx h day
 have hlen := (QS h day x.cust.length).1
 by_cases he : (yT x b (yo v day x.cust.length)).2 = 0
 ·exact he
 exfalso
 rcases (ZbH hok b he).2 with hf | hf
 ·apply hf
  unfold qH
  have : (yo v day x.cust.length).find? (fun s => zu x [s] != 0) = none := by
   rw [List.find?_eq_none]
   intro s hs
   obtain ⟨i, h1, h2, h3, h4, w, hw, e⟩ := Zdj h _ hs
   have hwq : w.q ≤ x.cap := by
    rw [List.getD_eq_getElem?_getD] at hw
    cases hq : v[i]? with
    | none => rw [hq] at hw; cases hw
    | some l => rw [hq] at hw; exact hcap l (List.mem_of_getElem? hq) w hw
   have hg : XM x [s] := ⟨fun u hu => by rw [List.mem_singleton.1 hu]; simp [qf]; omega, by simp, by simp⟩
   have : zu x [s] = 0 := by
    rw [Zy hx.arc hg (by simp)]
    refine ⟨by simp [zx]; omega, ?_⟩
    simp only [List.map_cons, List.map_nil, h2]
    exact hS.1 i h1
   simp [this]
  rw [this]
  simp only
  rw [if_neg (by simpa using hok.nd)]
 ·have := hS.2; omega
theorem Zlv {x : Inst} {n : Nat} (h : InstA x n) (hk : ∀ c ∈ x.cust, Q8 c) (hst : ∀ c ∈ x.cust, c.start ≤ c.size) (hE : ∀ c ∈ x.cust, uU n x.cap c) (hS : Wu x) (b : Int) : (jd x b).2 = 0 := by
 have hd : x.days.toNat = n := by rw [h.days]; rfl
 unfold jd ud
 rw [hd]
 generalize hpr : qk x n 0 = pr
 have hP : xA x.cust.length n pr := by rw [← hpr]; exact Wa x n
 have hch : (yk x (qY n x.cap) pr).2 = 0 := by
  unfold yk
  rw [if_pos]
  rw [List.all_eq_true]
  intro r hr
  obtain ⟨i, hi, rfl⟩ := List.mem_map.1 hr
  have hi := List.mem_range.1 hi
  have hm : x.cust.getD i default ∈ x.cust := by rw [List.getD_eq_getElem?_getD, List.getElem?_eq_getElem hi]; exact List.getElem_mem hi
  exact Zlt (hk _ hm) (hE _ hm) _
 have hv := Wm h pr hP hch
 obtain ⟨c1, c2⟩ := Wl hch
 have hf : y9 (yP x (yk x (qY n x.cap) pr).1 b n) = 0 := by
  apply uL
  intro e he
  obtain ⟨r, hr, rfl⟩ := List.mem_map.1 he
  obtain ⟨k, -, rfl⟩ := List.mem_map.1 hr
  refine Zlu h.h hS hv (fun l hl w hw => ?_) k b
  obtain ⟨i, hi, rfl⟩ := List.getElem_of_mem hl
  have hic : i < x.cust.length := by omega
  obtain ⟨e1, e2⟩ := c2 i _ (List.getElem?_eq_getElem hic)
  rw [List.getElem?_eq_getElem hi] at e1
  have hcm := List.getElem_mem hic
  rw [Option.some.inj e1] at hw
  exact (Zc7 (h.made _ hcm) (hst _ hcm) h.n60 x.cap _ e2).1.cap w hw
 unfold jL
 rw [if_neg (by simpa using hch), if_pos hf]
theorem Zdk {x : Inst} {sol : Cust → List Int → List Visit × Bool} {b : Int} {n : Nat} : ∀ (k : Nat) (pr : List (List Int)), (jL x sol b n k pr).2 ≠ 0 → jL x sol b n k pr = ([], 15)
 | 0, _, _ => rfl
 | k + 1, pr, h => by
  unfold jL at h ⊢
  split
  ·rfl
  ·rename_i h1
   rw [if_neg h1] at h
   split
   ·rename_i h2; rw [if_pos h2] at h; exact absurd rfl h
   ·rename_i h2
    rw [if_neg h2] at h
    split
    ·rfl
    ·rename_i h3
     rw [if_neg h3] at h
     exact Zdk k _ h
open Go Go.Proofs Hp
set_option maxRecDepth 20000 in
theorem Zdl (c : Cust) (there cap : Int) (hs : 0 ≤ c.size ∧ c.size ≤ 2147483648) (ht : 0 ≤ there ∧ there ≤ 4611686018427387904) (hc : cap ≤ 2147483648) :
  Pure Tryz.prog 131 [.agg (zv c), I there, I cap] (I (qm c there cap)) := by
 have w1 : IntKind.i64.wrap (c.size - there) = c.size - there := wr _ (by omega) (by omega)
 refine pwe Tryz.func131 Tryz.ntmps131 Tryz.results131 fun S nx hd => ?_
 repeat apply za
 refine pwn ?_
 intro v0
 repeat apply za
 refine pwN [] w1 ?_
 intros
 (repeat apply za); refine pwn ?_; intros
 refine zX (nx := nx) (σ := Int) (fun r => r = max (c.size - there) 0) (fun r => [(2, I cap), (3, .ptr nx v0 0), (7, I r)]) (fun _ => S) (fun _ => [.cells v0 41 (zv c)]) ?_ ?_
 ·by_cases h : c.size - there < 0
  ·repeat apply za
   refine zi (by simp; omega) ?_
   (repeat apply za); refine pwn ?_; intros
   exact zy 0 [] (by omega) (by simp) rfl (by simp)
  ·repeat apply za
   refine zk (by simp; omega) ?_
   refine ze ?_
   exact zy (c.size - there) [] (by omega) (by simp) rfl (by simp)
 intro r hr
 (repeat apply za); refine pwn ?_; intros
 refine zX (nx := nx) (σ := Int) (fun k => k = max cap 0) (fun k => [(2, I k), (3, .ptr nx v0 0), (7, I r)]) (fun _ => S) (fun _ => [.cells v0 41 (zv c)]) ?_ ?_
 ·by_cases h : cap < 0
  ·repeat apply za
   refine zi (by simp [h]) ?_
   (repeat apply za); refine pwn ?_; intros
   exact zy 0 [] (by omega) (by simp) rfl (by simp)
  ·repeat apply za
   refine zk (by simp; omega) ?_
   refine ze ?_
   exact zy cap [] (by omega) (by simp) rfl (by simp)
 intro k hk
 have key : qm c there cap = if r ≤ k then r else if c.rule = 1 then 0 else k := by
  unfold qm
  by_cases h1 : c.size - there < 1 ∨ cap < 0
  ·rw [if_pos h1]
   by_cases h2 : r ≤ k
   ·rw [if_pos h2]; omega
   ·rw [if_neg h2]; split
    ·rfl
    ·omega
  ·rw [if_neg h1]
   have er : r = c.size - there := by omega
   have ek : k = cap := by omega
   rw [er, ek]
 rw [key]
 (repeat apply za); refine pwn ?_; intros
 by_cases h1 : r ≤ k
 ·rw [if_pos h1]
  repeat apply za
  refine zi (by simp [h1]) ?_
  (repeat apply za); refine pwn ?_; intros
  repeat apply za
  exact zb (zg hd rfl rfl)
 ·rw [if_neg h1]
  repeat apply za
  refine zk (by simp; omega) ?_
  refine ze ?_
  (repeat apply za); refine pwn ?_; intros
  by_cases h2 : c.rule = 1
  ·rw [if_pos h2]
   repeat apply za
   refine zi (by simp [h2]) ?_
   (repeat apply za); refine pwn ?_; intros
   repeat apply za
   exact zb (zg hd rfl rfl)
  ·rw [if_neg h2]
   repeat apply za
   refine zk (by simp [h2]) ?_
   refine ze ?_
   (repeat apply za); refine pwn ?_; intros
   repeat apply za
   exact zb (zg hd rfl rfl)
set_option maxRecDepth 20000 in
theorem Zdm (c : Cust) (n : Nat) (cap : Int) (late : Bool) (hc : CustFits c) (hn : n ≤ 64) (hcap : cap ≤ 2147483648) :
  RSpec Tryz.prog 92 [.agg (zv c), I n, I cap, B late] (fun p => ∃ q b, p = .tup [L q, B b] ∧ q.length = n ∧ Qs q ∧ (late = false → b = true → (jz c n cap).2 = true)) := by
 have hr := hc.rate
 have hst := hc.start
 refine vG Tryz.func92 Tryz.ntmps92 Tryz.results92 fun S nx hd => ?_
 repeat apply za
 refine pwn ?_
 intro v0
 (repeat apply za); refine pwn ?_; intros
 refine za (yK 10 3 1 rfl fun v1 => ?_)
 (repeat apply za); refine pwn ?_; intros
 (repeat apply za); refine pwn ?_; intros
 repeat apply za
 refine zh (zr (fun s : Nat × Int × List Int × Nat => s.1 ≤ n ∧ (-4294967296 * (s.1 + 1 : Int) ≤ s.2.1 ∧ s.2.1 ≤ 4294967296 * (s.1 + 1 : Int)) ∧ (s.2.2.1.length = s.1 ∧ (late = false → ye c (xL c cap) s.1 = (s.2.2.1, s.2.1))) ∧ Qs s.2.2.1) (fun (k, there, out, v1) => [(1, I n), (2, I cap), (3, B late), (4, .ptr nx v0 0), (10, .sl (nx + 1) v1 1 0 out.length), (11, I there), (12, I k)]) (fun (k, there, out, v1) => [.cells v0 41 (zv c), .cells v1 3 (out.flatMap Enc.enc)]) (fun s => n - s.1) (0, c.start, [], v1) [] ⟨by simp, by dsimp only; omega, ⟨rfl, fun _ => rfl⟩, by intro z hz; cases hz⟩ (by simp) (by simp) ?_)
 rintro ⟨k, there, out, v1⟩ ⟨hk, hth, ⟨hol, hway⟩, hq⟩
 simp only at hk hth hol hq hway ⊢
 (repeat apply za); refine pwn ?_; intros
 repeat apply za
 refine zn rfl (fun hc1 => ?_) (fun hc1 => ?_)
 ·simp at hc1
  refine ze (za (zh ?_))
  (repeat apply za); refine pwn ?_; intros
  repeat apply za
  refine zX (nx := nx) (σ := Bool × Nat) (fun t => late = false → t.1 = true) (fun (t, v1) => [(1, I n), (2, I cap), (3, B late), (4, .ptr nx v0 0), (10, .sl (nx + 1) v1 1 0 out.length), (11, I there), (12, I k), (13, I 0), (29, B t)]) (fun _ => S) (fun (t, v1) => [.cells v0 41 (zv c), .cells v1 3 (out.flatMap Enc.enc)]) ?_ ?_
  ·cases late with
   | true =>
    by_cases h : there < c.rate
    ·repeat apply za
     refine pwN [(2, 24)] h ?_
     intros
     exact zy (true, v1) [] (fun h => rfl) (by simp) rfl (by simp)
    ·repeat apply za
     refine pwN [(2, 24)] h ?_
     intros
     exact zy (false, v1) [] (fun h => by cases h) (by simp) rfl (by simp)
   | false =>
    repeat apply za
    refine pwN [(2, 24)] zp ?_
    intros
    exact zy (true, v1) [] (fun h => rfl) (by simp) rfl (by simp)
  rintro ⟨t, v1⟩ hlt
  simp only at hlt ⊢
  repeat apply za
  refine zX (nx := nx) (σ := Int × Nat) (fun z => (0 ≤ z.1 ∧ z.1 ≤ 2147483648) ∧ (late = false → z.1 = xL c cap there)) (fun (z, v1) => [(1, I n), (2, I cap), (3, B late), (4, .ptr nx v0 0), (10, .sl (nx + 1) v1 1 0 out.length), (11, I there), (12, I k), (13, I z)]) (fun _ => S) (fun (z, v1) => [.cells v0 41 (zv c), .cells v1 3 (out.flatMap Enc.enc)]) ?_ ?_
  ·cases t with
   | true =>
    repeat apply za
    refine zi rfl ?_
    (repeat apply za); refine pwn ?_; intros
    (repeat apply za); refine pwn ?_; intros
    by_cases h0 : there < 0
    ·repeat apply za
     refine zi (by simp [h0]) ?_
     (repeat apply za); refine pwn ?_; intros
     have hb := Q0 (cap := cap) (there := 0) hc.size (by omega)
     repeat apply za
     refine pwn ?_
     refine pwc (Zdl c 0 cap hc.size (by omega) hcap) ?_
     intros
     exact zy (qm c 0 cap, v1) [] ⟨hb, fun _ => by unfold xL; rw [show max there 0 = 0 by omega]⟩ (by simp) rfl (by simp)
    ·repeat apply za
     refine zk (by simp; omega) ?_
     refine ze ?_
     have hb := Q0 (cap := cap) (there := there) hc.size (by omega)
     repeat apply za
     refine pwn ?_
     refine pwc (Zdl c there cap hc.size (by omega) hcap) ?_
     intros
     exact zy (qm c there cap, v1) [] ⟨hb, fun _ => by unfold xL; rw [show max there 0 = there by omega]⟩ (by simp) rfl (by simp)
   | false =>
    repeat apply za
    refine zk rfl ?_
    refine ze ?_
    exact zy (0, v1) [] ⟨by simp, fun h => by have := hlt h; cases this⟩ (by simp) rfl (by simp)
  ·rintro ⟨z, v1⟩ ⟨hz, hzd⟩
   simp only at hz hzd ⊢
   have w1 : IntKind.i64.wrap (there + z) = there + z := wr _ (by omega) (by omega)
   have w2 : IntKind.i64.wrap (there + z - c.rate) = there + z - c.rate := wr _ (by omega) (by omega)
   repeat apply za
   refine pwn ?_
   refine ⟨by omega, ?_⟩
   intros
   repeat apply za
   refine pwN [] (jn2 w1 w2) ?_
   intros
   (repeat apply za); refine pwn ?_; intros
   exact zm (k + 1, there + z - c.rate, out ++ [z], v1 + 1) [] ⟨by omega, by dsimp only; omega, ⟨by simp [hol], fun hl => by simp only [ye]; rw [hway hl, ← hzd hl]; simp only [Prod.mk.injEq, true_and]; omega⟩, fun y hy => by rcases List.mem_append.1 hy with h | h; exact hq y h; rw [List.mem_singleton.1 h]; exact hz⟩ (by simp; omega) (by simp [wrN k (by omega)]) rfl (by simp)
 ·simp at hc1
  obtain rfl : k = n := by omega
  refine zo ?_
  refine zL 1 rfl ?_
  repeat apply za
  refine pwn ?_
  refine pwc (X1 c out hc (by omega)) ?_
  intros
  repeat apply za
  exact zb ⟨_, S, (by simp; rfl), ⟨⟨out, decide (qB c out = 0), by simp [zj], hol, hq, fun hl hb => by unfold jz; rw [hway hl]; exact hb⟩, rfl⟩, zE hd⟩
set_option maxRecDepth 20000 in
theorem Zlw (c : Cust) (n : Nat) (cap : Int) (set : Nat) (hc : CustFits c) (hn : n ≤ 64) (hcap : cap ≤ 2147483648) (hset : set < 2 ^ 64) :
  RSpec Tryz.prog 94 [.agg (zv c), I n, I cap, U set] (fun p => ∃ (q : List Int) (b : Bool), p = .tup [L q, B b] ∧ q.length ≤ n ∧ (b = true → ZM c n cap)) := by
 have hr := hc.rate
 have hst := hc.start
 have hsz := hc.size
 refine vG Tryz.func94 Tryz.ntmps94 Tryz.results94 fun S nx hd => ?_
 repeat apply za
 refine pwn ?_
 intro v0
 (repeat apply za); refine pwn ?_; intros
 refine za (yK 10 3 1 rfl fun v1 => ?_)
 (repeat apply za); refine pwn ?_; intros
 (repeat apply za); refine pwn ?_; intros
 repeat apply za
 refine zh (zr (fun s : Nat × Int × List Int × Nat => s.1 ≤ n ∧ (-4294967296 * (s.1 + 1 : Int) ≤ s.2.1 ∧ s.2.1 ≤ 4294967296 * (s.1 + 1 : Int)) ∧ s.2.2.1.length = s.1 ∧ FR c cap s.2.2.1 s.2.1) (fun (k, there, out, v1) => [(1, I n), (2, I cap), (3, U set), (4, .ptr nx v0 0), (10, .sl (nx + 1) v1 1 0 out.length), (11, I there), (12, I k)]) (fun (k, there, out, v1) => [.cells v0 41 (zv c), .cells v1 3 (out.flatMap Enc.enc)]) (fun s => n - s.1) (0, c.start, [], v1) [] ⟨by simp, by dsimp only; omega, rfl, .nil⟩ (by simp) (by simp) ?_)
 rintro ⟨k, there, out, v1⟩ ⟨hk, hth, hol, hq⟩
 simp only at hk hth hol hq ⊢
 (repeat apply za); refine pwn ?_; intros
 repeat apply za
 refine zn rfl (fun hc1 => ?_) (fun hc1 => ?_)
 ·simp at hc1
  refine ze (za (zh ?_))
  (repeat apply za); refine pwn ?_; intros
  repeat apply za
  repeat apply za
  refine pwn ?_
  refine pwc (Vx set k hset (by omega) (by omega)) ?_
  intros
  repeat apply za
  refine zX (nx := nx) (σ := Int × Nat) (fun z => (0 ≤ z.1 ∧ z.1 ≤ 2147483648 ∨ z.1 ≤ cap ∧ 1 ≤ z.1) ∧ (z.1 = 0 ∨ (z.1 = c.size - there ∧ 1 ≤ z.1 ∧ z.1 ≤ cap))) (fun (z, v1) => [(1, I n), (2, I cap), (3, U set), (4, .ptr nx v0 0), (10, .sl (nx + 1) v1 1 0 out.length), (11, I there), (12, I k), (13, I z)]) (fun _ => S) (fun (z, v1) => [.cells v0 41 (zv c), .cells v1 3 (out.flatMap Enc.enc)]) ?_ ?_
  ·repeat apply za
   refine zn rfl (fun hb => ?_) (fun hb => ?_)
   ·have w1 : IntKind.i64.wrap (c.size - there) = c.size - there := wr _ (by omega) (by omega)
    repeat apply za
    refine pwN [] w1 ?_
    intros
    by_cases h1 : c.size - there < 1
    ·repeat apply za
     refine pwN [(2, 30)] (jn2 h1 zp) ?_
     intros
     repeat apply za
     refine zi rfl ?_
     (repeat apply za); refine pwn ?_; intros
     refine jP 8 rfl ?_
     repeat apply za
     exact zb ⟨_, S, (by simp; rfl), ⟨⟨[], false, by simp [zj], by simp, fun h => by cases h⟩, rfl⟩, zE hd⟩
    by_cases h2 : cap < c.size - there
    ·repeat apply za
     refine pwN [(2, 30)] (jn2 h1 h2) ?_
     intros
     repeat apply za
     refine zi rfl ?_
     (repeat apply za); refine pwn ?_; intros
     refine jP 8 rfl ?_
     repeat apply za
     exact zb ⟨_, S, (by simp; rfl), ⟨⟨[], false, by simp [zj], by simp, fun h => by cases h⟩, rfl⟩, zE hd⟩
    repeat apply za
    refine pwN [(2, 30)] (jn2 h1 h2) ?_
    intros
    repeat apply za
    refine zk rfl ?_
    refine ze ?_
    exact zy (c.size - there, v1) [] (by dsimp only; omega) (by simp) rfl (by simp)
   ·refine ze ?_
    exact zy (0, v1) [] (by simp) (by simp) rfl (by simp)
  ·rintro ⟨z, v1⟩ ⟨hz, hz2⟩
   simp only at hz hz2 ⊢
   have w1 : IntKind.i64.wrap (there + z) = there + z := wr _ (by omega) (by omega)
   have w2 : IntKind.i64.wrap (there + z - c.rate) = there + z - c.rate := wr _ (by omega) (by omega)
   have hfr : FR c cap (out ++ [z]) (there + z - c.rate) := by
    rcases hz2 with rfl | ⟨rfl, q1, q2⟩
    ·have := hq.zero; rw [Int.add_zero]; exact this
    ·have := hq.fill q1 q2
     rw [show there + (c.size - there) - c.rate = c.size - c.rate by omega]; exact this
   repeat apply za
   refine pwn ?_
   refine ⟨by omega, ?_⟩
   intros
   repeat apply za
   refine pwN [] (jn2 w1 w2) ?_
   intros
   (repeat apply za); refine pwn ?_; intros
   exact zm (k + 1, there + z - c.rate, out ++ [z], v1 + 1) [] ⟨by omega, by dsimp only; omega, by simp [hol], hfr⟩ (by simp; omega) (by simp [wrN k (by omega)]) rfl (by simp)
 ·simp at hc1
  obtain rfl : k = n := by omega
  refine zo ?_
  refine zL 1 rfl ?_
  repeat apply za
  refine pwn ?_
  refine pwc (X1 c out hc (by omega)) ?_
  intros
  repeat apply za
  exact zb ⟨_, S, (by simp; rfl), ⟨⟨out, decide (qB c out = 0), by simp [zj], by omega, fun hb => hq.ok hst.1 hol (of_decide_eq_true hb)⟩, rfl⟩, zE hd⟩
set_option maxRecDepth 20000 in
theorem Zlx (c : Cust) (n : Nat) (cap : Int) (l : List Int) (hc : CustFits c) (hn : n ≤ 64) (hcap : cap ≤ 2147483648) :
  RSpec Tryz.prog 54 [.agg (zv c), I n, I cap, L l] (fun p => ∃ v b, p = .tup [L (v : List Visit), B b] ∧ (b = true → (jz c n cap).2 = true)) := by
 have vok : ∀ v, GoodV n v → VisOk v := fun v h => ⟨Nat.le_trans h.len (by decide), fun s hs => by have := h.ok s hs; omega, fun s hs => by have := h.ok s hs; unfold I64; omega⟩
 refine vG Tryz.func54 Tryz.ntmps54 Tryz.results54 fun S nx hd => ?_
 repeat apply za
 refine pwn ?_
 intro v0
 repeat apply za
 refine zQ [] (by rfl) (by rfl) fun K Gc Gh hK hGc hGh X hX0 hX => ?_
 simp -implicitDefEqProofs [hX0, hX]
 try clear hX0 hX X
 refine hGc _ _ _ _ _ _ _ fun hsuf => ((Zdm c n cap false hc hn hcap _).mono ?_).v
 rintro _ _ ⟨⟨q, b, rfl, hq1, hq2, hday⟩, rfl⟩
 refine ⟨_, _, rfl, ?_⟩
 clear hGc hGh
 clear Gc Gh
 refine zH hsuf (D := []) (by rfl) fun Gc Gh hGc hGh X hX0 hX => ?_
 simp -implicitDefEqProofs [hX0, hX]
 try clear hX0 hX X
 intros
 refine hK _ _ _ ?_
 clear hK hGc hGh
 clear K Gc Gh
 have gq := QX hq2 (Nat.le_of_eq hq1) hn
 cases b with
 | false =>
  (repeat apply za); refine pwn ?_; intros
  repeat apply za
  refine zi rfl ?_
  (repeat apply za); refine pwn ?_; intros
  refine jP 8 rfl ?_
  repeat apply za
  exact zb ⟨_, S, (by simp; rfl), ⟨⟨[], false, by simp [zj], fun h => nomatch h⟩, rfl⟩, zE hd⟩
 | true =>
  have hday := hday rfl rfl
  (repeat apply za); refine pwn ?_; intros
  repeat apply za
  refine zk rfl ?_
  refine ze ?_
  repeat apply za
  refine pwn ?_
  refine pwc (X8 q (by omega)) ?_
  intros
  repeat apply za
  refine zQ [] (by rfl) (by rfl) fun K Gc Gh hK hGc hGh X hX0 hX => ?_
  simp -implicitDefEqProofs [hX0, hX]
  try clear hX0 hX X
  refine hGc _ _ _ _ _ _ _ fun hsuf => ((Zdm c n cap true hc hn hcap _).mono ?_).v
  rintro _ _ ⟨⟨q', b', rfl, hq1', hq2', -⟩, rfl⟩
  refine ⟨_, _, rfl, ?_⟩
  clear hGc hGh
  clear Gc Gh
  refine zH hsuf (D := []) (by rfl) fun Gc Gh hGc hGh X hX0 hX => ?_
  simp -implicitDefEqProofs [hX0, hX]
  try clear hX0 hX X
  intros
  refine hK _ _ _ ?_
  clear hK hGc hGh
  clear K Gc Gh
  have gq' := QX hq2' (Nat.le_of_eq hq1') hn
  repeat apply za
  refine pwn ?_
  refine pwc (X8 q' (by omega)) ?_
  intros
  cases b' with
  | false =>
   repeat apply za
   refine pwY (some [nx]) (Row.pures [0, 1, 2, 3, 4, 5, 6, 7, 8, 9, 10, 11, 12, 13] .done) mixed zp ?_
   intros
   repeat apply za
   refine zk rfl ?_
   refine ze ?_
   (repeat apply za); refine pwn ?_; intros
   repeat apply za
   exact zb ⟨_, S, (by simp; rfl), ⟨⟨zG 0 q, true, by simp [zj], fun _ => hday⟩, rfl⟩, zE hd⟩
  | true =>
   have e1 := Zb9 c n l (zG 0 q') hc (vok _ gq')
   have e2 := Zb9 c n l (zG 0 q) hc (vok _ gq)
   generalize zG 0 q' = w at *
   generalize zG 0 q = v at *
   repeat apply za
   refine xE (some [nx]) (Row.pures [0, 1, 2, 3, 4, 5, 7, 8, 9, 10] (.alt 6 (.alt 11 (Row.pures [12, 13] .done) .stop) .stop)) mixed (by rfl) (by rfl) (by rfl) fun K Gp Gc Gh hK hGp hGc hGh X hX0 hX1 hX2 hX => ?_
   simp -implicitDefEqProofs [hX0, hX1, hX2, hX]
   try clear hX0 hX1 hX2 hX X
   refine hGc _ _ _ _ _ _ _ (((e1 _).mono ?_).v)
   rintro _ _ ⟨⟨y, rfl⟩, rfl⟩
   refine ⟨by simp, ?_⟩
   clear hGp hGc hGh
   clear Gp Gc Gh
   refine qS fun Gp Gc Gh hGp hGc hGh X hX0 hX1 hX2 hX => ?_
   simp -implicitDefEqProofs [hX0, hX1, hX2, hX]
   try clear hX0 hX1 hX2 hX X
   refine hGc _ _ _ _ _ _ _ (((e2 _).mono ?_).v)
   rintro _ _ ⟨⟨z, rfl⟩, rfl⟩
   refine ⟨by simp, ?_⟩
   clear hGp hGc hGh
   clear Gp Gc Gh
   refine qS fun Gp Gc Gh hGp hGc hGh X hX0 hX1 hX2 hX => ?_
   simp -implicitDefEqProofs [hX0, hX1, hX2, hX]
   try clear hX0 hX1 hX2 hX X
   refine hK _ _ _ ?_
   clear hK hGp hGc hGh
   clear K Gp Gc Gh
   repeat apply za
   refine zn rfl (fun h => ?_) (fun h => ?_)
   ·(repeat apply za); refine pwn ?_; intros
    repeat apply za
    exact zb ⟨_, S, (by simp; rfl), ⟨⟨w, true, by simp [zj], fun _ => hday⟩, rfl⟩, zE hd⟩
   ·refine ze ?_
    (repeat apply za); refine pwn ?_; intros
    repeat apply za
    exact zb ⟨_, S, (by simp; rfl), ⟨⟨v, true, by simp [zj], fun _ => hday⟩, rfl⟩, zE hd⟩
theorem Zly {c : Cust} {p : Nat} (hp : p < 2 ^ 64) (h : yV c p = []) : p = 0 := by
 have e : zS p 0 64 = [] := by
  unfold yV at h; simpa using h
 have := Zdh p hp
 rw [e] at this
 exact this.symm
set_option maxRecDepth 20000 in
theorem Zlz (c : Cust) (n : Nat) (cap : Int) (hc : CustFits c) (hn : n ≤ 16) (hcap : cap ≤ 2147483648) (hp : ∀ p ∈ c.pats, p < 2 ^ 64) (hpl : c.pats.length ≤ 1048576) :
  RSpec Tryz.prog 55 [.agg (zv c), I n, I cap] (fun p => ∃ vs : List (List Visit), p = L vs ∧ (vs.length ≠ 0 → if c.kind = 1 then yQ c cap ≠ [] else ZM c n cap)) := by
 refine vG Tryz.func55 Tryz.ntmps55 Tryz.results55 fun S nx hd => ?_
 repeat apply za
 refine pwn ?_
 intro v0
 (repeat apply za); refine pwn ?_; intros
 refine za (yK 7 42 1 rfl fun v1 => ?_)
 (repeat apply za); refine pwn ?_; intros
 repeat apply za
 refine zn rfl (fun hk => ?_) (fun hk => ?_)
 ·simp at hk
  rw [if_pos hk]
  (repeat apply za); refine pwn ?_; intros
  repeat apply za
  refine zh (zr (fun s : Nat × List (List Visit) × Nat => s.1 ≤ c.pats.length ∧ s.2.1.length ≤ s.1 ∧ (s.2.1.length ≠ 0 → yQ c cap ≠ [])) (fun (k, out, v1) => [(1, I n), (2, I cap), (3, .ptr nx v0 0), (7, .sl (nx + 1) v1 1 0 out.length), (8, I k)]) (fun (k, out, v1) => [.cells v0 41 (zv c), .cells v1 42 (out.flatMap Enc.enc)]) (fun s => c.pats.length - s.1) (0, [], v1) [] (by simp) (by simp) (by simp) ?_)
  rintro ⟨k, out, v1⟩ ⟨hkl, hol, hg⟩
  simp only at hkl hol hg ⊢
  (repeat apply za); refine pwn ?_; intros
  repeat apply za
  refine zn rfl (fun hc1 => ?_) (fun hc1 => ?_)
  ·simp at hc1
   obtain ⟨p, tl, a1, a2, a3, e0⟩ := el1 rfl c.pats k hc1
   have hpm := List.mem_of_getElem? a1
   have hin : (p = 0 ∨ c.demand ≤ cap) → yQ c cap ≠ [] := fun h e => by
    have : p ∈ yQ c cap := List.mem_filter.2 ⟨hpm, by simpa using h⟩
    rw [e] at this; cases this
   refine ze (za (zh ?_))
   repeat apply za
   refine pwY (some [nx]) (Row.pures [0, 1, 2, 3, 4, 5, 6, 7] .done) mixed (jn2 hc1 e0) ?_
   refine pwP (Zj4 c p (hp p hpm)) trivial ?_
   intros
   repeat apply za
   refine zX (nx := nx) (σ := Bool × Nat) (fun t => t.1 = true → yQ c cap ≠ []) (fun (t, v1) => [(1, I n), (2, I cap), (3, .ptr nx v0 0), (7, .sl (nx + 1) v1 1 0 out.length), (8, I k), (9, L (yV c p)), (40, B t)]) (fun _ => S) (fun (t, v1) => [.cells v0 41 (zv c), .cells v1 42 (out.flatMap Enc.enc)]) ?_ ?_
   ·by_cases h0 : yV c p = []
    ·have hp0 := Zly (hp p hpm) h0
     repeat apply za
     refine pwN [(3, 35)] (jn2 h0 zp) ?_
     intros
     exact zy (true, v1) [] (fun _ => hin (.inl hp0)) (by simp [h0]) rfl (by simp)
    ·repeat apply za
     refine pwN [(3, 35)] h0 ?_
     intros
     exact zy (decide (c.demand ≤ cap), v1) [] (fun h => hin (.inr (of_decide_eq_true h))) (by simp) rfl (by simp)
   rintro ⟨t, v1⟩ ht
   simp only at ht ⊢
   cases t with
   | true =>
    have ht := ht rfl
    repeat apply za
    refine zi rfl ?_
    repeat apply za
    refine pwn ?_
    refine ⟨by omega, ?_⟩
    intros
    (repeat apply za); refine pwn ?_; intros
    exact zm (k + 1, out ++ [yV c p], v1 + 1) [] ⟨hc1, by simp; omega, fun _ => ht⟩ (by simp; omega) (by simp [wrN k (by omega)]) rfl (by simp)
   | false =>
    repeat apply za
    refine zk rfl ?_
    refine ze ?_
    (repeat apply za); refine pwn ?_; intros
    exact zm (k + 1, out, v1) [] ⟨hc1, Nat.le_succ_of_le hol, hg⟩ (by simp; omega) (by simp [wrN k (by omega)]) rfl (by simp)
  ·simp at hc1
   refine zo ?_
   (repeat apply za); refine pwn ?_; intros
   refine zL 1 rfl ?_
   repeat apply za
   exact zb ⟨_, S, (by simp; rfl), ⟨⟨out, by simp [zj], hg⟩, rfl⟩, zE hd⟩
 ·simp at hk
  rw [if_neg hk]
  refine ze ?_
  (repeat apply za); refine pwn ?_; intros
  (repeat apply za); refine pwn ?_; intros
  repeat apply za
  have h2n : ∀ k : Nat, k ≤ n → 2 ^ k ≤ 65536 := fun k hk => by
   calc 2 ^ k ≤ 2 ^ 16 := Nat.pow_le_pow_right (by decide) (by omega)
    _ = 65536 := by decide
  refine zX (nx := nx) (σ := Nat) (fun _ => True) (fun v1 => [(1, I n), (2, I cap), (3, .ptr nx v0 0), (7, .sl (nx + 1) v1 1 0 0), (10, U (2 ^ n))]) (fun _ => S) (fun v1 => [.cells v0 41 (zv c), .cells v1 42 []]) ?_ ?_
  ·refine zh (zr (fun s : Nat => s ≤ n) (fun k => [(1, I n), (2, I cap), (3, .ptr nx v0 0), (7, .sl (nx + 1) v1 1 0 0), (10, U (2 ^ k)), (11, I k)]) (fun k => [.cells v0 41 (zv c), .cells v1 42 []]) (fun s => n - s) 0 [] (by simp) (by simp) (by simp) ?_)
   rintro k hkn
   (repeat apply za); refine pwn ?_; intros
   repeat apply za
   refine zn rfl (fun hc1 => ?_) (fun hc1 => ?_)
   ·simp at hc1
    have := h2n k hkn
    have u1 : IntKind.u64.wrap (2 * 2 ^ k) = 2 ^ (k + 1) := by
     have e2 : (2 : Int) ^ k = ((2 ^ k : Nat) : Int) := by simp
     have e3 : (2 : Int) ^ (k + 1) = 2 * 2 ^ k := by rw [Int.pow_succ, Int.mul_comm]
     rw [e3, e2]
     generalize 2 ^ k = m at this ⊢
     rw [IntWalk.u64_in _ (by omega)]
    refine ze (za (zh ?_))
    repeat apply za
    refine pwN [] u1 ?_
    intros
    (repeat apply za); refine pwn ?_; intros
    exact zm (k + 1) [] hc1 (by omega) (by simp [wrN k (by omega)]) rfl (by simp)
   ·simp at hc1
    obtain rfl : k = n := by omega
    exact zo (zy v1 [] trivial (by simp) rfl (by simp))
  intro v1 _
  have hl16 := h2n n (Nat.le_refl _)
  generalize 2 ^ n = last at hl16 ⊢
  (repeat apply za); refine pwn ?_; intros
  repeat apply za
  refine zh (zr (fun s : Nat × List (List Visit) × Nat => s.1 ≤ last ∧ s.2.1.length ≤ s.1 ∧ (s.2.1.length ≠ 0 → ZM c n cap)) (fun (k, out, v1) => [(1, I n), (2, I cap), (3, .ptr nx v0 0), (7, .sl (nx + 1) v1 1 0 out.length), (10, U last), (12, U k)]) (fun (k, out, v1) => [.cells v0 41 (zv c), .cells v1 42 (out.flatMap Enc.enc)]) (fun s => last - s.1) (0, [], v1) [] (by simp) (by simp) (by simp) ?_)
  rintro ⟨k, out, v1⟩ ⟨hkl, hol, hg⟩
  simp only at hkl hol hg ⊢
  (repeat apply za); refine pwn ?_; intros
  repeat apply za
  refine zn rfl (fun hc1 => ?_) (fun hc1 => ?_)
  ·simp at hc1
   have u1 : IntKind.u64.wrap ((k : Int) + 1) = ((k + 1 : Nat) : Int) := by rw [IntWalk.u64_in _ (by omega)]; omega
   refine ze (za (zh ?_))
   repeat apply za
   refine zQ [] (by rfl) (by rfl) fun K Gc Gh hK hGc hGh X hX0 hX => ?_
   simp -implicitDefEqProofs [hX0, hX]
   try clear hX0 hX X
   refine hGc _ _ _ _ _ _ _ fun hsuf => ((Zlw c n cap k hc (by omega) hcap (by omega) _).mono ?_).v
   rintro _ _ ⟨⟨q, b, rfl, hq1, hq2⟩, rfl⟩
   refine ⟨_, _, rfl, ?_⟩
   clear hGc hGh
   clear Gc Gh
   refine zH hsuf (D := []) (by rfl) fun Gc Gh hGc hGh X hX0 hX => ?_
   simp -implicitDefEqProofs [hX0, hX]
   try clear hX0 hX X
   intros
   refine hK _ _ _ ?_
   clear hK hGc hGh
   clear K Gc Gh
   (repeat apply za); refine pwn ?_; intros
   cases b with
   | true =>
    have hq2 := hq2 rfl
    repeat apply za
    refine zi rfl ?_
    repeat apply za
    refine pwn ?_
    refine pwc (X8 q (by omega)) ?_
    refine ⟨by omega, ?_⟩
    intros
    repeat apply za
    refine pwN [] u1 ?_
    intros
    exact zm (k + 1, out ++ [zG 0 q], v1 + 1) [] ⟨hc1, by simp; omega, fun _ => hq2⟩ (by simp; omega) (by simp) rfl (by simp)
   | false =>
    repeat apply za
    refine zk rfl ?_
    refine ze ?_
    repeat apply za
    refine pwN [] u1 ?_
    intros
    exact zm (k + 1, out, v1) [] ⟨hc1, Nat.le_succ_of_le hol, hg⟩ (by simp; omega) (by simp) rfl (by simp)
  ·simp at hc1
   refine zo ?_
   (repeat apply za); refine pwn ?_; intros
   refine zL 1 rfl ?_
   repeat apply za
   exact zb ⟨_, S, (by simp; rfl), ⟨⟨out, by simp [zj], hg⟩, rfl⟩, zE hd⟩
open Go Go.Proofs Hp
set_option maxRecDepth 20000 in
theorem ZlA (x : Inst) (n : Nat) (h : InstA x n) (hn : n ≤ 16) (hcap : x.cap ≤ 2147483648) (hk : ∀ c ∈ x.cust, Q8 c) : RSpec Tryz.prog 15 [.agg (zt x)] (fun p => ∃ z, p = B z ∧ (z = true → ∀ c ∈ x.cust, uU n x.cap c)) := by
 have hx6 := h.h.cust
 have hxd := h.days
 refine vG Tryz.func15 Tryz.ntmps15 Tryz.results15 fun S nx hd => ?_
 repeat apply za
 refine pwn ?_
 intro v0
 (repeat apply za); refine pwn ?_; intros
 repeat apply za
 refine zh (zr (fun k : Nat => k ≤ x.cust.length ∧ ∀ c ∈ x.cust.take k, uU n x.cap c) (fun k => [(1, .ptr nx v0 0), (3, I k)]) (fun _ => [.cells v0 25 (zt x)]) (fun k => x.cust.length - k) 0 [] (by simp) (by simp) (by simp) ?_)
 rintro k ⟨hkl, hE⟩
 (repeat apply za); refine pwn ?_; intros
 repeat apply za
 refine zn rfl (fun hc => ?_) (fun hc => ?_)
 ·simp at hc
  obtain ⟨c, tl, a1, -, a3, e1, e0⟩ := el 8 rfl x.cust k hc
  have hcm := List.mem_of_getElem? a1
  have hm := h.made c hcm
  have hko := hk c hcm
  have hany : RSpec Tryz.prog 54 [.agg (zv c), I n, I x.cap, .sc (.slice none 0 0)] (fun p => ∃ v b, p = .tup [L (v : List Visit), B b] ∧ (b = true → (jz c n x.cap).2 = true)) :=
   fun S => Zem (.cons Wk.rfl (.cons Wk.rfl (.cons Wk.rfl (.cons Wk.nil .nil)))) (Zlx c n x.cap [] hm.fits (by omega) hcap S)
  have hall := Zlz c n x.cap hm.fits hn hcap hm.pats hm.npats
  have hsn : ∀ c' ∈ x.cust.take (k + 1), c' ∈ x.cust.take k ∨ c' = c := fun c' hc' => by
   rw [a3] at hc'
   rcases List.mem_append.1 hc' with q | q
   ·exact .inl q
   ·exact .inr (List.mem_singleton.1 q)
  refine ze (za (zh ?_))
  repeat apply za
  refine pwN [] (jn3 hc e1 e0) ?_
  intro v2
  (repeat apply za); refine pwn ?_; intros
  by_cases hr : c.rule = 2
  ·repeat apply za
   refine zi (by simp [hr]) ?_
   repeat apply za
   refine zQ [] (by rfl) (by rfl) fun K Gc Gh hK hGc hGh X hX0 hX => ?_
   simp -implicitDefEqProofs [hX0, hX, hxd]
   try clear hX0 hX X
   refine hGc _ _ _ _ _ _ _ fun hsuf => ((hany _).mono ?_).v
   rintro _ _ ⟨⟨v, b, rfl, hg⟩, rfl⟩
   refine ⟨_, _, rfl, ?_⟩
   clear hGc hGh
   clear Gc Gh
   refine zH hsuf (D := []) (by rfl) fun Gc Gh hGc hGh X hX0 hX => ?_
   simp -implicitDefEqProofs [hX0, hX]
   try clear hX0 hX X
   intros
   refine hK _ _ _ ?_
   clear hK hGc hGh
   clear K Gc Gh
   (repeat apply za); refine pwn ?_; intros
   cases b with
   | false =>
    repeat apply za
    refine zi (by simp) ?_
    (repeat apply za); refine pwn ?_; intros
    repeat apply za
    exact zb ⟨_, S, (by simp; rfl), ⟨⟨false, rfl, fun q => by cases q⟩, rfl⟩, zE hd⟩
   | true =>
    repeat apply za
    refine zk (by simp) ?_
    refine ze ?_
    (repeat apply za); refine pwn ?_; intros
    exact zm (k + 1) [_] ⟨hc, fun c' hc' => by rcases hsn c' hc' with q | rfl; exact hE c' q; unfold uU; rw [if_pos hr]; exact hg rfl⟩ (by omega) (by simp [wrN k (by omega)]) rfl (by simp; rfl)
  ·repeat apply za
   refine zk (by simp [hr]) ?_
   repeat apply za
   refine zQ [] (by rfl) (by rfl) fun K Gc Gh hK hGc hGh X hX0 hX => ?_
   simp -implicitDefEqProofs [hX0, hX, hxd]
   try clear hX0 hX X
   refine hGc _ _ _ _ _ _ _ fun hsuf => ((hall _).mono ?_).v
   rintro _ _ ⟨⟨vs, rfl, hg⟩, rfl⟩
   refine ⟨_, _, rfl, ?_⟩
   clear hGc hGh
   clear Gc Gh
   refine zH hsuf (D := []) (by rfl) fun Gc Gh hGc hGh X hX0 hX => ?_
   simp -implicitDefEqProofs [hX0, hX]
   try clear hX0 hX X
   intros
   refine hK _ _ _ ?_
   clear hK hGc hGh
   clear K Gc Gh
   by_cases h0 : vs.length = 0
   ·repeat apply za
    refine zi (by simp [List.length_eq_zero_iff.1 h0]) ?_
    (repeat apply za); refine pwn ?_; intros
    repeat apply za
    exact zb ⟨_, S, (by simp; rfl), ⟨⟨false, rfl, fun q => by cases q⟩, rfl⟩, zE hd⟩
   ·have hg := hg h0
    repeat apply za
    refine zk (by simp; exact fun e => h0 (by rw [e]; rfl)) ?_
    refine ze ?_
    (repeat apply za); refine pwn ?_; intros
    exact zm (k + 1) [_] ⟨hc, fun c' hc' => by rcases hsn c' hc' with q | rfl; exact hE c' q; unfold uU; rw [if_neg hr]; exact hg⟩ (by omega) (by simp [wrN k (by omega)]) rfl (by simp; rfl)
 ·simp at hc
  obtain rfl : k = x.cust.length := by omega
  rw [List.take_length] at hE
  refine zo ?_
  (repeat apply za); refine pwn ?_; intros
  repeat apply za
  exact zb ⟨_, S, (by simp; rfl), ⟨⟨true, rfl, fun _ => hE⟩, rfl⟩, zE hd⟩
set_option maxRecDepth 20000 in
theorem ZlB (x : Inst) (hA : InstH x) : RSpec Tryz.prog 16 [.agg (zt x)] (fun p => ∃ z, p = B z ∧ (z = true → Wu x)) := by
 have hx6 := hA.cust
 refine vG Tryz.func16 Tryz.ntmps16 Tryz.results16 fun S nx hd => ?_
 repeat apply za
 refine pwn ?_
 intro v0
 (repeat apply za); refine pwn ?_; intros
 repeat apply za
 refine zh (zr (fun k : Nat => k ≤ x.cust.length ∧ ∀ i : Nat, i < k → zF x [(i : Int)] ≤ x.len) (fun k => [(1, .ptr nx v0 0), (3, I k)]) (fun _ => [.cells v0 25 (zt x)]) (fun k => x.cust.length - k) 0 [] (by simp) (by simp) (by simp) ?_)
 rintro k ⟨hkl, hE⟩
 (repeat apply za); refine pwn ?_; intros
 repeat apply za
 refine zn rfl (fun hc => ?_) (fun hc => ?_)
 ·simp at hc
  have hb := Zo hA.arc [(k : Int)]
  have w1 : W (zF x [(k : Int)]) = zF x [(k : Int)] := wr _ (by simp at hb; omega) (by simp at hb; omega)
  have hw := VF x [(k : Int)] (by simp) (fun c hc => by rw [List.mem_singleton.1 hc]; unfold small; omega)
  rw [w1] at hw
  refine ze (za (zh ?_))
  repeat apply za
  refine pwY (some [nx]) (Row.pures [0, 1, 2, 3, 4, 5, 6] .done) mixed trivial ?_
  refine pwP (hw) trivial ?_
  intros
  by_cases h1 : x.len < zF x [(k : Int)]
  ·repeat apply za
   refine zi (by simp [h1]) ?_
   (repeat apply za); refine pwn ?_; intros
   repeat apply za
   exact zb ⟨_, S, (by simp; rfl), ⟨⟨false, rfl, fun q => by cases q⟩, rfl⟩, zE hd⟩
  ·repeat apply za
   refine zk (by simp; omega) ?_
   refine ze ?_
   (repeat apply za); refine pwn ?_; intros
   exact zm (k + 1) [] ⟨hc, fun i hi => by by_cases hik : i < k; exact hE i hik; (obtain rfl : i = k := (by omega)); omega⟩ (by omega) (by simp [wrN k (by omega)]) rfl (by simp)
 ·simp at hc
  obtain rfl : k = x.cust.length := by omega
  refine zo ?_
  (repeat apply za); refine pwn ?_; intros
  repeat apply za
  exact zb ⟨_, S, (by simp; rfl), ⟨⟨decide ((x.cust.length : Int) ≤ x.veh), by simp [zj], fun q => ⟨hE, of_decide_eq_true q⟩⟩, rfl⟩, zE hd⟩
set_option maxHeartbeats 3200000 in
theorem ZlC (x : Inst) (b : Int) (hx : InstOk x) (hb : I64 b) : Pure Tryz.prog 3 [.agg (zt x), I b] (B true) := by
 have hgd := uP x
 have hgc := Zcn x
 have hG := Ze7 x hx
 have hA := Wn x
 have h6 := Xj x
 have hlv := Zk2
 have hSm := ZjS b
 have hbb : vt b ≤ 9223372036854775807 := by unfold vt; unfold I64 at hb; split <;> omega
 have hgo : InstOk (zz x) := Zkn x (zz x).veh (zz x).cap (zz x).len (by have := Zco x; unfold I64; omega) (by unfold I64; omega) (by have := Zcp x; unfold I64; omega)
 obtain ⟨n, hn⟩ : ∃ n : Nat, (zz x).days = n := ⟨(zz x).days.toNat, by omega⟩
 have hnt : (zz x).days.toNat = n := by omega
 have hSt := ZkS hA hbb
 have hmay := Zls x (vt b)
 have hkd := Zdi x
 have hgs := Zc8 x
 rw [hnt] at hA
 have hez := ZlA (zz x) n hA (by omega) (by omega) hkd
 have hsh := ZlB (zz x) hA.h
 have hes := fun h1 h2 => Zlv hA hkd hgs h1 h2 (vt b)
 have hno : (jd (zz x) (vt b)).2 ≠ 0 → jd (zz x) (vt b) = ([], 15) := fun h => Zdk _ _ h
 generalize vt b = bb at *
 generalize zz x = y at *
 generalize jd y bb = r at *
 obtain ⟨p, e⟩ := r
 simp only at hSt hmay hes hno
 refine pwe Tryz.func3 Tryz.ntmps3 Tryz.results3 fun S nx hd => ?_
 repeat apply za
 refine pwn ?_
 intro v0
 repeat apply za
 refine pwn ?_
 refine pwc hG ?_
 intro v1
 intros
 repeat apply za
 refine pwY (some [nx + 1]) (Row.pures [0, 1, 2, 3, 4, 5, 6] (.alt 7 (.alt 8 (Row.pures [9] .done) .stop) .stop)) mixed trivial ?_
 refine pwP (hSm) trivial ?_
 refine pwP (hSt) trivial ?_
 intro v2
 intros
 by_cases he : e = 0
 case neg =>
  have e15 := hno he
  obtain ⟨rfl, rfl⟩ : p = [] ∧ e = 15 := by injection e15 with q1 q2; exact ⟨q1, q2⟩
  (repeat apply za); refine pwn ?_; intros
  repeat apply za
  refine zi (by simp) ?_
  repeat apply za
  refine zQ [] (by rfl) (by rfl) fun K Gc Gh hK hGc hGh X hX0 hX => ?_
  simp -implicitDefEqProofs [hX0, hX]
  try clear hX0 hX X
  refine hGc _ _ _ _ _ _ _ fun hsuf => ((hez _).mono ?_).v
  rintro _ _ ⟨⟨ez, rfl, hz1⟩, rfl⟩
  refine ⟨_, _, rfl, ?_⟩
  clear hGc hGh
  clear Gc Gh
  refine zH hsuf (D := []) (by rfl) fun Gc Gh hGc hGh X hX0 hX => ?_
  simp -implicitDefEqProofs [hX0, hX]
  try clear hX0 hX X
  intros
  refine hK _ _ _ ?_
  clear hK hGc hGh
  clear K Gc Gh
  repeat apply za
  refine zQ [] (by rfl) (by rfl) fun K Gc Gh hK hGc hGh X hX0 hX => ?_
  simp -implicitDefEqProofs [hX0, hX]
  try clear hX0 hX X
  refine hGc _ _ _ _ _ _ _ fun hsuf => ((hsh _).mono ?_).v
  rintro _ _ ⟨⟨sh, rfl, hz2⟩, rfl⟩
  refine ⟨_, _, rfl, ?_⟩
  clear hGc hGh
  clear Gc Gh
  refine zH hsuf (D := []) (by rfl) fun Gc Gh hGc hGh X hX0 hX => ?_
  simp -implicitDefEqProofs [hX0, hX]
  try clear hX0 hX X
  intros
  refine hK _ _ _ ?_
  clear hK hGc hGh
  clear K Gc Gh
  cases ez with
  | false =>
   repeat apply za
   refine pwN [(4, 29), (8, 33), (11, 36), (16, 41)] zp ?_
   refine pwC [(4, 29), (8, 33), (11, 36), (16, 41)] hlv trivial ?_
   intros
   repeat apply za
   exact zb (zg hd (by simp; rfl) rfl)
  | true =>
   cases sh with
   | false =>
    repeat apply za
    refine pwN [(4, 29), (8, 33), (11, 36), (16, 41)] trivial ?_
    refine pwC [(4, 29), (8, 33), (11, 36), (16, 41)] hlv trivial ?_
    intros
    repeat apply za
    exact zb (zg hd (by simp; rfl) rfl)
   | true => exact absurd (hes (hz1 rfl) (hz2 rfl)) he
 subst he
 obtain ⟨hpe, hps⟩ := hmay rfl
 have hPR := ZjO y p hgo hps
 rw [hpe] at hPR
 (repeat apply za); refine pwn ?_; intros
 repeat apply za
 refine zk (by simp) ?_
 refine ze ?_
 repeat apply za
 refine pwN [(4, 48)] trivial ?_
 refine pwC [(4, 48)] hPR trivial ?_
 refine pwC [(4, 48)] hlv trivial ?_
 intros
 repeat apply za
 exact zb (zg hd (by simp; rfl) rfl)
end Go.Proofs.YtaiplainginmaaaGreat.Pv
namespace Go.Proofs.YtaiplainginmaaaGreat
open Go Go.ChangeShapes Go.WideShapes Go.ChangeAt Go.RowKit Pv
set_option maxRecDepth 100000 in
theorem ZlD (os : Os) (started : os.Started) (H : Type) (enc : TypeId × Value → H) :
  ReturnsInHanded {} Tryz.checked os 3 .any (Rows.horizonStartsSpec.pre6 enc Tryz.prog Tryz.f3 Rows.horizonStartsRow.domain false) (Rows.horizonStartsSpec.post enc Tryz.prog Tryz.f3 false true false false) := by
 refine returnsInHanded_of_change (C := Tryz.checked) ZeC started (by kernel_rfl) Tryz.func3
  (ChangeSpec.witness6 (enc := enc) (C := Tryz.checked) false ⟨#[], #[.agg #[.int .i64 0, .int .i64 0, .int .i64 0, .int .i64 0, .slice none 0 0, .slice none 0 0], .int .i64 0], []⟩ 8 (by kernel_rfl) (by kernel_rfl) (by kernel_rfl) (by kernel_rfl)) ?_
 intro W base args ds gs before hval0 hW hcnd _
 have hval : ∀ (j : Nat) t v, Tryz.f3.params[j]? = some t → args[j]? = some v → Value.okWide Tryz.prog W .any base t v := hval0
 have hW' := hW
 obtain ⟨p, q, hA0, hV, rfl, hfz, hnd⟩ := hW
 have hA : DataW.TrodAll enc Tryz.prog W 0 (fun _ => true) true Tryz.f3.params.toList args.toList ds p := hA0
 rw [Tryz.params3] at hA hval
 obtain ⟨v0, v1, d0, d1, p0, p1, rfl, rfl, rfl, h0, h1⟩ := trodAll_two hA
 obtain ⟨rfl, rfl⟩ := trodVars_none hV
 obtain ⟨c0, rfl, _⟩ := okWide_struct Tryz.underlying25 (hval 0 _ v0 rfl rfl)
 obtain ⟨a0, k0, r0⟩ := ZeA (Ze9 W) h0
 obtain ⟨z1, rfl⟩ := okWide_int Tryz.underlying3 (hval 1 _ v1 rfl rfl)
 obtain ⟨a1, k1, r1⟩ := ZeB ((xi Tryz.underlying3 : w9 Tryz.prog W 3 Int I64)) rfl h1
 have r1 := r1 _ rfl
 refine (ZeE ((ZlC a0 a1 k0 k1)) rfl (fun i c v hc hv => ?_)).mono fun e W' hq => ?_
 ·match i with
  | 0 => cases hc; cases hv; exact r0
  | 1 => cases hc; cases hv; exact r1
  | i + 2 => cases hc
 exact ⟨_, hq.1, ZeF rfl rfl (of_decide_eq_true (by kernel_rfl)) hW' rfl rfl rfl hq.2⟩
set_option maxRecDepth 100000 in
theorem ZlE : Rows.horizonStartsRow.wf (OpenSpec.ofChange Rows.horizonStartsSpec) = true := by kernel_rfl
set_option maxRecDepth 100000 in
theorem ZlF : Tryz.f3.params.all (Tryz.pinned.checked.prog.readableRec ·) = true := by kernel_rfl
set_option maxRecDepth 100000 in
theorem ZlG : namedTie Tryz.pinned.checked.prog Rows.horizonStartsRow.named Rows.horizonStartsSpec.vars = true := by kernel_rfl
set_option maxRecDepth 100000 in
theorem ZlH : (Rows.horizonStartsRow.inPlace == Tryz.pinned.checked.prog.inPlace 3) = true := by kernel_rfl
set_option maxRecDepth 100000 in
theorem ZlI : (Rows.horizonStartsRow.unfollowed == Tryz.pinned.checked.prog.unfollowed 3) = true := by kernel_rfl
set_option maxRecDepth 100000 in
theorem ZlJ : (Rows.horizonStartsRow.recurses == Tryz.pinned.checked.prog.recurses 3) = true := by kernel_rfl
set_option maxRecDepth 100000 in
theorem ZlK : (Rows.horizonStartsRow.named == Tryz.pinned.checked.prog.varsNamed 3) = true := by kernel_rfl
set_option maxRecDepth 100000 in
theorem ZlL : (Rows.horizonStartsRow.maps == (Tryz.f3.params.toList ++ Rows.horizonStartsSpec.plain.varTypes Tryz.pinned.checked.prog).any (Tryz.pinned.checked.prog.mapsRec ·)) = true := by kernel_rfl
set_option maxRecDepth 100000 in
theorem ZlM : (Rows.horizonStartsRow.ifaces == (Tryz.f3.params.toList ++ Rows.horizonStartsSpec.plain.varTypes Tryz.pinned.checked.prog).any (Tryz.pinned.checked.prog.ifacesRec ·)) = true := by kernel_rfl
set_option maxRecDepth 100000 in
theorem ZlN : (Rows.horizonStartsRow.mapsOut == Tryz.pinned.checked.prog.mapsAmong Tryz.f3.resultTypes.toList) = true := by kernel_rfl
set_option maxRecDepth 100000 in
theorem ZlO : (Rows.horizonStartsRow.loops == (Tryz.f3.params.toList ++ Rows.horizonStartsSpec.plain.varTypes Tryz.pinned.checked.prog).any (Tryz.pinned.checked.prog.loopsFrom ·)) = true := by kernel_rfl
set_option maxRecDepth 100000 in
theorem ZlP : (Rows.horizonStartsRow.wideKeys == (Tryz.f3.params.toList ++ Rows.horizonStartsSpec.plain.varTypes Tryz.pinned.checked.prog ++ Tryz.f3.resultTypes.toList).any (Tryz.pinned.checked.prog.wideKeysFrom ·)) = true := by kernel_rfl
set_option maxRecDepth 100000 in
theorem ZlQ : Rows.horizonStartsSpec.vars.all (Tryz.pinned.checked.prog.varReadable ·) = true := by kernel_rfl
set_option maxRecDepth 100000 in
theorem ZlR : Tryz.f3.resultTypes.all (fun t => Tryz.pinned.checked.prog.readableRec t && decide (t < Tryz.pinned.checked.prog.types.size)) = true := by kernel_rfl
set_option maxRecDepth 100000 in
theorem ZlS : (Rows.horizonStartsRow.ifacesOut == Tryz.f3.resultTypes.toList.any (Tryz.pinned.checked.prog.ifacesRec ·)) = true := by kernel_rfl
set_option maxRecDepth 100000 in
theorem ZlT : (Rows.horizonStartsRow.loopsOut == Tryz.f3.resultTypes.toList.any (Tryz.pinned.checked.prog.loopsFrom ·)) = true := by kernel_rfl
set_option maxRecDepth 100000 in
theorem ZlU : (Rows.horizonStartsRow.plainKeys == Tryz.pinned.checked.prog.plainKeys) = true := by kernel_rfl
set_option maxRecDepth 100000 in
theorem ZlV : (Rows.horizonStartsRow.lifted == Tryz.pinned.checked.prog.liftsFinal) = true := by kernel_rfl
set_option maxRecDepth 100000 in
theorem ZlW : (Tryz.pinned.checked.prog.make == some Rows.horizonStartsRow.make) = true := by kernel_rfl
set_option maxRecDepth 100000 in
theorem ZlX : (Rows.horizonStartsRow.kinds == (if Rows.horizonStartsRow.domain.isEmpty then [] else Tryz.f3.params.toList.map fun t => match Tryz.pinned.checked.prog.underlying t with | some (.int k) => some k | _ => none)) = true := by kernel_rfl
set_option maxRecDepth 100000 in
theorem ZlY : (Rows.horizonStartsRow.veiled == (Tryz.f3.params.toList ++ Rows.horizonStartsSpec.plain.varTypes Tryz.pinned.checked.prog ++ Tryz.f3.resultTypes.toList).any (Tryz.pinned.checked.prog.veiledRec ·)) = true := by kernel_rfl
set_option maxRecDepth 100000 in
theorem ZlZ : Rows.horizonStartsRow.veiledFits Tryz.pinned.checked.prog Tryz.f3.params.toList (Tryz.f3.params.toList ++ Rows.horizonStartsSpec.plain.varTypes Tryz.pinned.checked.prog ++ Tryz.f3.resultTypes.toList) = true := by kernel_rfl
theorem Zl0 : Tryz.pinned.checked.prog.funcNamed Rows.horizonStartsRow.func = some 3 := by kernel_rfl
theorem Zl1 : Tryz.f3.isInstance Tryz.pinned.checked.prog Rows.horizonStartsRow.origin Rows.horizonStartsRow.targs := of_decide_eq_true (by kernel_rfl)
theorem Zl2 : Tryz.f3.isWrapper Tryz.pinned.checked.prog Rows.horizonStartsRow.wrapper Rows.horizonStartsRow.mainSum := by unfold Func.isWrapper; first | (rw [if_pos (by decide +kernel)]; kernel_rfl) | (rw [if_neg (by decide +kernel)]; exact ⟨rfl, rfl⟩)
set_option maxRecDepth 20000 in
theorem horizonStarts_holds : Rows.HorizonStartsSaid :=
 OpenClaim.holds_of_wide 3 Tryz.f3 rfl rfl rfl rfl rfl rfl rfl ⟨rfl, rfl, rfl, rfl, rfl⟩ rfl rfl rfl rfl rfl Zl0 Tryz.func3 (ZeG ZlE ZeH ZeI ZlF ZlG rfl ZeJ rfl ZeK ZlH ZlI ZlJ ZlK ZlL ZlM ZlN ZlO ZlP ZlQ ZlR ZlS ZlT ZlU rfl ZeL ZeM ZlV ZlW ZlX rfl ZlY ZlZ)
  Zl1 Zl2
  (fun os started H enc _ => ZlD os started H enc)
end Go.Proofs.YtaiplainginmaaaGreat
