/- Part of a proof, packed. -/
import Derived.Test.YtcnbiofjmioaiaaGreatR6
set_option maxRecDepth 100000
set_option maxHeartbeats 3200000
namespace Go.Proofs.YtcnbiofjmioaiaaGreat.Pv
open Go Go.Proofs Hp
theorem Znw {c : Cust} {cap : Int} {n : Nat} {ds : List Int} (h : FilS c cap n ds) : jd ds < n := by
 cases h with
 | nil => show (-1 : Int) < n; omega
 | snoc h h1 h2 h3 => rw [Yh]; exact h2
theorem Znx (c : Cust) (p : Nat) : j9 (jI c p) := by
 have e : (jI c p).map (·.d) = yy p 0 64 := by simp [jI, Function.comp_def]
 unfold j9; rw [e]; exact Zez p 0 64
theorem Zak {c : Cust} {cap : Int} {n : Nat} {ds : List Int} (h : FilS c cap n ds) : j9 (yH c ds).1 := by
 unfold j9; rw [V5]; exact h.inc
theorem Zny {c : Cust} (hc : CustFits c) (hr : c.rule = 1) {cap : Int} {n : Nat} {ds : List Int} (h : FilS c cap n ds) : ∀ w ∈ (yH c ds).1, w.q ≤ cap := by
 induction h with
 | nil => intro w hw; cases hw
 | @snoc ds d h h1 h2 h3 ih =>
  intro w hw
  obtain ⟨q1, -, -, q4⟩ := V6 hc h3
  rw [Qd] at hw
  simp only [vW] at hw
  rcases List.mem_append.1 hw with hw | hw
  ·exact ih w hw
  ·rw [List.mem_singleton.1 hw, V4]
   dsimp only
   rw [q1]; exact q4 hr
theorem Znz {v : List Visit} {n : Nat} (hg : GoodV n v) (h : j9 v) : Qs (zS v n) := by
 intro z hz
 unfold zS at hz
 obtain ⟨d, -, rfl⟩ := List.mem_map.1 hz
 rcases ZeX h d with q | ⟨w, -, q2⟩
 ·rw [q]; simp
 ·have hw : w ∈ v := by
   have : w ∈ v.filter fun w => decide (w.d = (d : Int)) := by rw [q2]; simp
   exact (List.mem_filter.1 this).1
  have := (hg.ok w hw).2
  rw [q2]; simp; omega
theorem ZnA {c : Cust} {q l : List Int} (hq : Qs q) (h : yt c.size c.rate c.start q = some l) : yK c q = (l, 0) := by
 have : q.any jG = false := by
  rw [List.any_eq_false]; intro z hz; have := hq z hz; simp [jG]; omega
 unfold yK
 rw [this, h]; rfl
theorem ZnB {c : Cust} {n : Nat} {cap : Int} {price : List Int} (hk : c.kind = 1) (h : (we c cap price).2 = true) : SuitsP c n cap (we c cap price).1 ∧ j9 (we c cap price).1 := by
 obtain ⟨p, hp, hc, e⟩ := ZeC h
 rw [e]
 refine ⟨⟨fun w hw => ?_, fun _ => ⟨p, hp, rfl⟩, fun h => absurd hk h⟩, Znx c p⟩
 simp only [jI, List.mem_map] at hw
 obtain ⟨d, hd, rfl⟩ := hw
 rcases hc with rfl | hc
 ·simp [yy, yQ] at hd
 ·exact hc
theorem ZnC {c : Cust} {n : Nat} {cap : Int} (hc : CustFits c) (hst : c.start ≤ c.size) (hn : n ≤ 60) (hk : c.kind ≠ 1) (hr : c.rule = 1) {ds : List Int} (h : FilS c cap n ds) (h0 : 0 ≤ (yD c (jd ds) n).1) : SuitsP c n cap (yH c ds).1 := by
 have hg := Zew hc hn h
 refine ⟨Zny hc hr h, fun h => absurd h hk, fun _ => ⟨(Znq hg hn (Zak h)).symm, ?_⟩⟩
 obtain ⟨l, e1, e2, -⟩ := Znv hc hst hn h n (Znw h) (Nat.le_refl n) h0
 unfold x6
 rw [ZnA (Znz hg (Zak h)) e1]
 simp [e2]
theorem Ze6 : ∀ (l : List Int) (i : Nat), ∀ w ∈ yk i l, 0 < w.q ∧ w.q ∈ l
 | [], _ => by intro w hw; cases hw
 | z :: l, i => by
  have ih := Ze6 l (i + 1)
  intro w hw
  simp only [yk] at hw
  split at hw
  ·rcases List.mem_cons.1 hw with rfl | hw
   ·exact ⟨by assumption, by simp⟩
   ·have := ih w hw; exact ⟨this.1, by simp [this.2]⟩
  ·have := ih w hw; exact ⟨this.1, by simp [this.2]⟩
theorem Ze7 (c : Cust) (f : Int → Int) : ∀ k : Nat, ∀ z ∈ (yS c f k).1, ∃ t, z = f t
 | 0 => by intro z hz; cases hz
 | k + 1 => by
  intro z hz
  simp only [yS] at hz
  rcases List.mem_append.1 hz with hz | hz
  ·exact Ze7 c f k z hz
  ·exact ⟨_, List.mem_singleton.1 hz⟩
theorem Ze8 (c : Cust) (t cap : Int) : jT c t cap ≤ cap ∨ jT c t cap = 0 := by
 unfold jT
 split
 ·exact .inr rfl
 ·split
  ·left; assumption
  ·split
   ·exact .inr rfl
   ·left; omega
theorem Ze9 {c : Cust} {n : Nat} {cap : Int} {f : Int → Int} (hc : CustFits c) (hn : n ≤ 60) (hk : c.kind ≠ 1) (hb : ∀ t, 0 ≤ f t ∧ f t ≤ 2147483648) (hf : ∀ t, f t ≤ cap ∨ f t = 0) (h : x6 c (yS c f n).1 = 0) : SuitsP c n cap (yk 0 (yS c f n).1) := by
 have hq := (Yc hc hb n).2
 have hl := Yb c f n
 refine ⟨fun w hw => ?_, fun h => absurd h hk, fun _ => ?_⟩
 ·obtain ⟨h1, h2⟩ := Ze6 _ _ w hw
  obtain ⟨t, ht⟩ := Ze7 c f n _ h2
  rcases hf t with q | q <;> omega
 ·rw [Znr hl hn hq]; exact ⟨rfl, h⟩
theorem ZnD {c : Cust} {n : Nat} (hm : CustMade c n) (hst : c.start ≤ c.size) (hn : n ≤ 60) (cap : Int) (price : List Int) (h : (y9 n cap c price).2 = true) : SuitsP c n cap (y9 n cap c price).1 ∧ j9 (y9 n cap c price).1 := by
 unfold y9 at h ⊢
 by_cases hk : c.kind = 1
 ·rw [if_pos hk] at h ⊢
  exact ZnB hk h
 rw [if_neg hk] at h ⊢
 by_cases hr : c.rule = 1
 ·rw [if_pos hr] at h ⊢
  obtain ⟨ds, h1, h0, e⟩ := ZeA hn h
  rw [e]; exact ⟨ZnC hm.fits hst hn hk hr h1 h0, Zak h1⟩
 ·rw [if_neg hr] at h ⊢
  have hD := fun h => Ze9 (cap := cap) (n := n) hm.fits hn hk (XJ hm.fits cap) (fun t => Ze8 c _ cap) h
  have hL := fun h => Ze9 (cap := cap) (n := n) hm.fits hn hk (XK hm.fits cap) (fun t => by unfold uC; split; exact .inr rfl; exact Ze8 c _ cap) h
  unfold Ye at h ⊢
  split
  ·rename_i h1
   have := h1.1
   unfold vV at this
   exact ⟨hL (of_decide_eq_true this), Zag _ 0⟩
  ·rename_i h1
   rw [if_neg h1] at h
   split
   ·rename_i h2
    unfold vn at h2
    exact ⟨hD (of_decide_eq_true h2), Zag _ 0⟩
   ·rename_i h2; rw [if_neg h2] at h; cases h
theorem ZnE (x : Inst) : ∀ c ∈ (zN x).cust, c.start ≤ c.size := by
 intro c hc
 obtain ⟨c0, rfl⟩ := Q8 x hc
 unfold qC
 split
 ·have b := qX c0.size 1 30 (by omega)
  exact (qX c0.start 0 (yl c0.size 1 30) (by omega)).2
 ·exact Int.le_refl _
theorem Zfa : ∀ p : zx, (∀ d ∈ p, d.flatten.length ≤ 1000) → uZ p ≤ 1000 * p.length
 | [], _ => by simp [uZ]
 | d :: p, h => by
  have := Zfa p fun e he => h e (by simp [he])
  have := h d (by simp)
  simp only [uZ, List.map_cons, List.sum_cons, List.length_cons] at *
  omega
theorem Zal {x : Inst} {n : Nat} (h : InstA x n) {b : Int} (h0 : (yr x b).2 = 0) : ∃ v pr, VsOk x.cust.length n v ∧ vk x.cust.length n pr ∧ (yr x b).1 = q9 x v b n ∧ (∀ d : Nat, d < n → (qL x b (qp v d x.cust.length)).2 = 0) ∧ ∀ i c, x.cust[i]? = some c → v[i]? = some (y9 n x.cap c (pr.getD i [])).1 ∧ (y9 n x.cap c (pr.getD i [])).2 = true := by
 have hd : x.days.toNat = n := by rw [h.days]; rfl
 unfold yr Yg at h0 ⊢
 rw [hd] at h0 ⊢
 obtain ⟨pr, hp, e1, e2, e3⟩ := ZeT 8 _ (Zea x n) h0
 have hv := ZeE h pr hp e1
 obtain ⟨c1, c2⟩ := ZeD e1
 refine ⟨_, pr, hv, hp, e3, fun d hdn => ?_, c2⟩
 refine (VP _).1 e2 _ (List.mem_map.2 ⟨_, List.mem_map.2 ⟨d, List.mem_range.2 hdn, rfl⟩, rfl⟩)
theorem ZnF {x : Inst} {n : Nat} (h : InstA x n) {v : List (List Visit)} {b : Int} {i : Nat} {l : List Visit} (hv : VsOk x.cust.length n v) (hl : v[i]? = some l) (hr : j9 l) (h0 : ∀ d : Nat, d < n → (qL x b (qp v d x.cust.length)).2 = 0) : yq i (told 0 (q9 x v b n)) = l := by
 have hi : i < x.cust.length := by rw [← hv.len]; exact (List.getElem?_eq_some_iff.1 hl).1
 rw [Ze2 h.h hv hi n h0]
 have e : v.getD i [] = l := by rw [List.getD_eq_getElem?_getD, hl]; rfl
 rw [e]
 exact ZeW hr fun w hw => (hv.ok l (List.mem_of_getElem? hl) w hw).1
theorem ZnG (x : Inst) (b : Int) (h0 : (yr (zN x) b).2 = 0) : (yr (zN x) b).1.length = (zN x).days ∧ PlanSz (yr (zN x) b).1 ∧ ∀ (i : Nat) (c : Cust), (zN x).cust[i]? = some c → SuitsP c (zN x).days.toNat (zN x).cap (yq i (told 0 (yr (zN x) b).1)) ∧ VisOk (yq i (told 0 (yr (zN x) b).1)) := by
 have hA := XT x
 have hgs := ZnE x
 have hgd := Ya x
 obtain ⟨n, hn⟩ : ∃ n : Nat, (zN x).days = n := ⟨(zN x).days.toNat, by omega⟩
 have hnt : (zN x).days.toNat = n := by omega
 rw [hnt] at hA ⊢
 generalize zN x = y at *
 obtain ⟨v, pr, hv, hp, e, hd, hc⟩ := Zal hA h0
 rw [e]
 have hsz := Zno hA.h hv b
 have hpl := Q5 y v b n
 have hcn := Zfa _ fun d hd => (hsz d hd).2.2
 refine ⟨by rw [hpl, hn], ⟨⟨by omega, fun d hd => by have := (hsz d hd).2.1; omega, fun d hd => (hsz d hd).1.t, by rw [VY]; omega⟩, fun d hd => by have := (hsz d hd).2.2; omega⟩, fun i c hic => ?_⟩
 obtain ⟨q1, q2⟩ := hc i c hic
 have hcm := List.mem_of_getElem? hic
 obtain ⟨s1, s2⟩ := ZnD (hA.made c hcm) (hgs c hcm) hA.n60 y.cap _ q2
 have hg := XP (hA.made c hcm) hA.n60 _ _ q2
 rw [ZnF hA hv q1 s2 hd]
 exact ⟨s1, ⟨by have := hg.len; omega, fun s hs => by have := hg.ok s hs; omega, fun s hs => by have := hg.ok s hs; have := hA.n60; unfold z8; omega⟩⟩
open Go Go.Proofs Hp
theorem ZnH (c : Cust) (d : Int) (h1 : 1 ≤ d) (h7 : d ≤ 7) : XA (qC c d) d = true := by
 have hm := Zef c d h1 h7
 by_cases hk : c.kind.tmod 2 = 0
 ·have e : qC c d = ⟨2, 0, [], yl c.rate 0 9, yl c.size 1 30, yl c.start 0 (yl c.size 1 30), yl c.rule 1 2, yl c.hold 0 4⟩ := by unfold qC; rw [if_pos hk]
  have a := qX c.rate 0 9 (by omega)
  have b := qX c.size 1 30 (by omega)
  have s := qX c.start 0 (yl c.size 1 30) (by omega)
  have r := qX c.rule 1 2 (by omega)
  have h := qX c.hold 0 4 (by omega)
  rw [e]
  simp [XA, x7, ZdK, ZdL]
  omega
 ·have e : qC c d = ⟨1, yl c.demand 1 15, vG c.pats d, 0, 0, 0, 0, 0⟩ := by unfold qC; rw [if_neg hk]
  have a := qX c.demand 1 15 (by omega)
  rw [e] at hm ⊢
  obtain ⟨hp, -⟩ := hm.per rfl
  have hl : 1 ≤ (vG c.pats d).length ∧ (vG c.pats d).length ≤ 64 := by
   unfold vG
   split
   ·simp
   ·rename_i hn
    have : 0 < c.pats.length := List.length_pos_iff.2 hn
    simp only [List.length_map, List.length_take]; omega
  simp only [XA, if_true, Bool.and_eq_true, x7, decide_eq_true_eq, ZdJ, ZdI, List.all_eq_true]
  refine ⟨⟨by omega, fun p hpm => ?_, by omega⟩, by simp⟩
  unfold ZdH
  have : yy p d.toNat 64 = [] := by
   rw [ZlH, List.filter_eq_nil_iff]
   intro z hz
   have := hp p hpm z hz
   simp; omega
  rw [this]; decide
theorem Zfb (n : Nat) (row : Nat → List Int) (h : ∀ a, a < n → (row a).length = n ∧ (row a).getD a 0 = 0 ∧ ∀ z ∈ row a, 0 ≤ z ∧ z ≤ 2147483648) : ∀ k a : Nat, a + k ≤ n → XB n a ((List.range' a k).map row) = true
 | 0, _, _ => rfl
 | k + 1, a, ha => by
  obtain ⟨h1, h2, h3⟩ := h a (by omega)
  rw [List.range'_succ, List.map_cons]
  simp only [XB, Zfb n row h k (a + 1) (by omega), Bool.and_true, h1, h2, decide_true, Bool.true_and, List.all_eq_true, x7, decide_eq_true_eq]
  exact h3
theorem ZnI (x : Inst) : Q3 (zN x) = true := by
 have h1 := Ya x
 have h2 := Zmm x
 have h3 := Zmn x
 have h4 := Zmo x
 have h5 := Zmp x
 unfold Q3
 simp only [Bool.and_eq_true, List.all_eq_true, decide_eq_true_eq, x7]
 refine ⟨⟨⟨⟨⟨⟨by omega, by omega⟩, by omega⟩, by omega⟩, by omega⟩, fun c hc => ?_⟩, ?_⟩
 ·obtain ⟨c0, rfl⟩ := Q8 x hc
  exact ZnH c0 _ h1.1 h1.2
 ·have e : (zN x).cust.length = (x.cust.take 6).length := by simp [zN]
  rw [e]
  unfold ZdM
  have e2 : (zN x).dist = (List.range' 0 ((x.cust.take 6).length + 1)).map fun a => xh x (x.cust.take 6).length a := by rw [← List.range_eq_range']; rfl
  rw [e2, Zfb _ _ (fun a ha => ?_) _ _ (by omega)]
  ·simp
  ·refine ⟨by simp [xh], ?_, fun z hz => ?_⟩
   ·unfold xh
    rw [List.getD_eq_getElem?_getD, List.getElem?_map, List.getElem?_range ha]
    simp
   ·unfold xh at hz
    obtain ⟨b, -, rfl⟩ := List.mem_map.1 hz
    split
    ·have := qX (arc x a b) 0 60 (by omega); omega
    ·omega
def ZnJ (c : Cust) (n : Nat) (cap : Int) : Prop := ∃ ds, FilS c cap n ds ∧ 0 ≤ (yD c (jd ds) n).1
inductive FR (c : Cust) (cap : Int) : List Int → Int → Prop where
 | nil : FR c cap [] c.start
 | zero {q : List Int} {t : Int} (h : FR c cap q t) : FR c cap (q ++ [0]) (t - c.rate)
 | fill {q : List Int} {t : Int} (h : FR c cap q t) (h1 : 1 ≤ c.size - t) (h2 : c.size - t ≤ cap) : FR c cap (q ++ [c.size - t]) (c.size - c.rate)
theorem FR.sum {c : Cust} {cap : Int} {q : List Int} {t : Int} (h : FR c cap q t) : t = c.start + q.sum - c.rate * q.length := by
 induction h with
 | nil => simp
 | zero h ih => rw [List.sum_append, List.length_append, List.length_singleton, u5]; simp; omega
 | fill h h1 h2 ih => rw [List.sum_append, List.length_append, List.length_singleton, u5]; simp; omega
theorem Zfc {size rate there z : Int} {q l : List Int} (h : yt size rate there (q ++ [z]) = some l) : (∃ l', yt size rate there q = some l') ∧ 0 ≤ there + q.sum - rate * q.length + z - rate := by
 rw [Zah] at h
 cases e : yt size rate there q with
 | none => rw [e] at h; cases h
 | some l' =>
  rw [e, Option.bind_some] at h
  refine ⟨⟨_, rfl⟩, ?_⟩
  rw [yt] at h
  split at h
  ·cases h
  ·omega
theorem ZnK (c : Cust) {last : Int} {m : Nat} (h : last < m) (h1 : -1 ≤ last) : (yD c last ((m + 1 : Nat) : Int)).1 = (yD c last m).1 - c.rate := by
 rw [Qe, Qe]
 by_cases h0 : last < 0
 ·rw [if_pos h0, if_pos h0, if_pos h0, Int.toNat_natCast, Int.toNat_natCast, u5]; omega
 ·rw [if_neg h0, if_neg h0, if_neg h0]
  have e : (((m + 1 : Nat) : Int) - last).toNat = ((m : Int) - last).toNat + 1 := by omega
  rw [e, u5]; omega
theorem FR.fil {c : Cust} {cap : Int} {n : Nat} {q : List Int} {t : Int} (h : FR c cap q t) (h0 : 0 ≤ c.start) : ∀ l, yt c.size c.rate c.start q = some l → q.length ≤ n → ∃ ds, FilS c cap n ds ∧ jd ds < q.length ∧ t = (yD c (jd ds) q.length).1 ∧ 0 ≤ t := by
 induction h with
 | nil =>
  intro l _ _
  refine ⟨[], .nil, by simp [jd], ?_, h0⟩
  rw [Qe]; simp [jd]
 | @zero q t h ih =>
  intro l hl hn
  obtain ⟨⟨l', hl'⟩, hz⟩ := Zfc hl
  rw [← h.sum] at hz
  rw [List.length_append, List.length_singleton] at hn ⊢
  obtain ⟨ds, d1, d2, d3, d4⟩ := ih l' hl' (by omega)
  refine ⟨ds, d1, by omega, ?_, by omega⟩
  rw [ZnK c d2 d1.lo.1, ← d3]
 | @fill q t h h1 h2 ih =>
  intro l hl hn
  obtain ⟨⟨l', hl'⟩, hz⟩ := Zfc hl
  rw [← h.sum] at hz
  rw [List.length_append, List.length_singleton] at hn ⊢
  obtain ⟨ds, d1, d2, d3, d4⟩ := ih l' hl' (by omega)
  refine ⟨ds ++ [(q.length : Int)], .snoc d1 d2 (by omega) ⟨by rw [← d3]; exact d4, ?_⟩, by rw [Yh]; omega, ?_, by omega⟩
  ·rw [← d3]
   unfold jT
   rw [if_neg (by omega), if_pos h2]; omega
  ·rw [Yh, Qe, if_neg (by omega), if_neg (by omega)]
   have e : (((q.length + 1 : Nat) : Int) - (q.length : Int)).toNat = 0 + 1 := by omega
   rw [e, u5]; simp
theorem ZnL {c : Cust} {q : List Int} (h : x6 c q = 0) : ∃ l, yt c.size c.rate c.start q = some l := by
 have : (yK c q).2 = 0 := by
  unfold x6 at h
  split at h
  ·rename_i h1; exact absurd h h1
  ·rename_i h1; simpa using h1
 unfold yK at this
 split at this
 ·cases this
 ·cases e : yt c.size c.rate c.start q with
  | none => rw [e] at this; cases this
  | some l => exact ⟨l, rfl⟩
theorem FR.ok {c : Cust} {cap : Int} {n : Nat} {q : List Int} {t : Int} (h : FR c cap q t) (h0 : 0 ≤ c.start) (hq : q.length = n) (hh : x6 c q = 0) : ZnJ c n cap := by
 obtain ⟨l, hl⟩ := ZnL hh
 obtain ⟨ds, d1, -, d3, d4⟩ := h.fil (n := n) h0 l hl (Nat.le_of_eq hq)
 exact ⟨ds, d1, by rw [← hq, ← d3]; exact d4⟩
open Go Go.Proofs Hp
theorem ZnM (s : Nat) (d : Int) (i : Nat) (h : 0 ≤ d ∧ d < 64) : (jR s d).testBit i = (s.testBit i || decide (d = (i : Int))) := by
 obtain ⟨k, rfl⟩ := Int.eq_ofNat_of_zero_le h.1
 unfold jR
 rw [if_pos (by omega), Int.toNat_natCast, Nat.testBit_or, Nat.testBit_two_pow]
 congr 1
 rw [decide_eq_decide]; omega
theorem Zfd (i : Nat) : ∀ (l : List Int) (s : Nat), (∀ d ∈ l, 0 ≤ d ∧ d < 64) → (l.foldl jR s).testBit i = (s.testBit i || decide ((i : Int) ∈ l))
 | [], s, _ => by simp
 | d :: l, s, h => by
  rw [List.foldl_cons, Zfd i l _ fun z hz => h z (by simp [hz]), ZnM s d i (h d (by simp)), Bool.or_assoc]
  congr 1
  by_cases h1 : d = (i : Int)
  ·subst h1; simp
  ·have : ¬ (i : Int) = d := fun e => h1 e.symm
   simp [h1, this]
theorem ZnN (p : Nat) (hp : p < 2 ^ 64) : VG (yy p 0 64) = p := by
 apply Nat.eq_of_testBit_eq
 intro i
 unfold VG
 rw [Zfd i _ _ fun d hd => by obtain ⟨k, rfl, hk, -⟩ := Z9 hd; omega, Nat.zero_testBit, Bool.false_or]
 by_cases hi : i < 64
 ·rw [Y4, decide_eq_decide]
  constructor
  ·intro h
   obtain ⟨k, e, -, hk⟩ := Z9 h
   obtain rfl : i = k := by omega
   exact hk
  ·intro h
   simp only [yy, List.mem_map, List.mem_filter, List.mem_range, Bool.and_eq_true, decide_eq_true_eq]
   exact ⟨i, ⟨hi, by omega, h⟩, rfl⟩
 ·rw [Nat.testBit_lt_two_pow (Nat.lt_of_lt_of_le hp (Nat.pow_le_pow_right (by decide) (by omega)))]
  rw [decide_eq_false_iff_not]
  intro h
  obtain ⟨k, e, hk, -⟩ := Z9 h
  omega
theorem ZnO {c : Cust} {p : Nat} (hp : p ∈ c.pats) (h : p < 2 ^ 64) : VO c (jI c p) = 0 := by
 unfold VO
 have e1 : (jI c p).any (fun s => decide (s.q ≠ c.demand)) = false := by
  rw [List.any_eq_false]; intro s hs
  simp only [jI, List.mem_map] at hs
  obtain ⟨d, -, rfl⟩ := hs
  simp
 have e2 : (jI c p).map (·.d) = yy p 0 64 := by simp [jI, Function.comp_def]
 rw [e1, if_neg (by simp), e2, ZnN p h, if_pos hp]
def ZnP (c : Cust) : Prop := (c.kind = 1 ∧ c.rule = 0) ∨ (c.kind = 2 ∧ (c.rule = 1 ∨ c.rule = 2))
theorem ZnQ (x : Inst) : ∀ c ∈ (zN x).cust, ZnP c := by
 intro c hc
 obtain ⟨c0, rfl⟩ := Q8 x hc
 unfold qC
 split
 ·have := qX c0.rule 1 2 (by omega)
  refine .inr ⟨rfl, ?_⟩
  show yl c0.rule 1 2 = 1 ∨ yl c0.rule 1 2 = 2
  omega
 ·exact .inl ⟨rfl, rfl⟩
theorem ZnR (x : Inst) (b : Int) (h0 : (yr (zN x) b).2 = 0) : Q4 (zN x) (yr (zN x) b).1 = 0 ∧ PlanSz (yr (zN x) b).1 := by
 obtain ⟨s1, s2, s3⟩ := ZnG x b h0
 have hmay := ZnI x
 have hA := XT x
 have hgd := Ya x
 have hkd := ZnQ x
 obtain ⟨n, hn⟩ : ∃ n : Nat, (zN x).days = n := ⟨(zN x).days.toNat, by omega⟩
 have hnt : (zN x).days.toNat = n := by omega
 rw [hnt] at hA s3
 generalize zN x = y at *
 refine ⟨Zm0 hmay s1 ?_ ?_, s2⟩
 ·obtain ⟨v, pr, hv, hp, e, hd, hc⟩ := Zal hA h0
  rw [e]
  intro d hd'
  obtain ⟨r, hr, rfl⟩ := List.mem_map.1 hd'
  obtain ⟨k, hk, rfl⟩ := List.mem_map.1 hr
  exact (Xt (Y5 hA.h hv k) hA.h.diag b (hd k (List.mem_range.1 hk))).2.1
 ·intro i hi
  have hic := List.getElem?_eq_getElem hi
  obtain ⟨g1, -⟩ := s3 i _ hic
  have hcm := List.mem_of_getElem? hic
  unfold XC
  rw [hic]
  simp only
  rcases hkd _ hcm with ⟨k1, k2⟩ | ⟨k1, k2⟩
  ·rw [if_neg (by omega)]
   obtain ⟨p, hp, e⟩ := g1.per k1
   rw [e]
   exact ZnO hp ((hA.made _ hcm).pats p hp)
  ·rw [if_pos k1, hn]
   exact (g1.tank (by omega)).2
open Go Go.Proofs Hp
def qQ (x : Inst) (n : Nat) (b : Int) (p : zx) (s : Int) : Nat → zx × Int
 | 0 => (p, s)
 | k + 1 => (vq x n (qQ x n b p s k).1 (qQ x n b p s k).2 b, Yk x (qQ x n b p s k).2)
def xS (x : Inst) (n : Nat) (b : Int) (p : zx) (s : Int) (k : Nat) : List zx := (List.range (k + 1)).map fun i => (qQ x n b p s i).1
theorem ZnS (x : Inst) (n : Nat) (b : Int) (p : zx) (s : Int) : xS x n b p s 0 = [p] := rfl
theorem Zfe (x : Inst) (n : Nat) (b : Int) (p : zx) (s : Int) (k : Nat) : xS x n b p s (k + 1) = xS x n b p s k ++ [(qQ x n b p s (k + 1)).1] := by
 unfold xS; rw [List.range_succ, List.map_append]; rfl
theorem Zff (x : Inst) (n : Nat) (b : Int) (p : zx) (s : Int) (k : Nat) : (xS x n b p s k).length = k + 1 := by simp [xS]
theorem Zam {x : Inst} {n : Nat} {p : zx} (h : PlanG x n p) (b s : Int) : ∀ k, PlanG x n (qQ x n b p s k).1
 | 0 => h
 | k + 1 => Znk (Zam h b s k) _ _
abbrev uE (seed r b cl : Int) : List PV := [I seed, I r, I b, I cl]
theorem Zfg {x : Inst} {n : Nat} (hA : InstA x n) (hn0 : 0 < n) (hmay : ∀ b, (yr x b).2 = 0 → PlanG x n (yr x b).1) (seed : Int) (r : Nat) (hr : r ≤ 1000) (b : Int) (hb : b ≤ 9223372036854775807) (cl : Int) (fn : FuncId) (cs : List PV) {S : Store} (St : List zx → Store) (hS0 : St [] = S)
  (hdead : ∀ nx, zV nx S → ∀ h, zV nx (St h))
  (hshow : ∀ nx, zV nx S → ∀ (h : List zx) (p : zx) (obs : List Ob), h.length ≤ 1001 → PlanG x n p → Spec Tryz.prog fn ([.agg [L p]] ++ cs) (ext (St h) nx obs) (fun _ S' => S' = ext (St (h ++ [p])) nx obs)) :
  Spec Tryz.prog 81 [.agg (zA x), .agg (uE seed r b cl), .fn (.func fn) [] cs] S (fun q S' => q = I (yr x b).2 ∧ S' = St (if (yr x b).2 = 0 then xS x n b (yr x b).1 (IntKind.u64.wrap seed) r else [])) := by
 subst hS0
 have hSt := ZmW hA hb
 have hmay := hmay b
 generalize yr x b = st at *
 obtain ⟨p0, e⟩ := st
 simp only at hSt hmay ⊢
 refine yT Tryz.func81 Tryz.ntmps81 Tryz.results81 fun nx hd => ?_
 have hshow := hshow nx hd
 have hdead := hdead nx hd
 refine za (zb ?_)
 intro v0 v1
 refine za (zb ?_)
 refine zz hSt ?_
 intro v2
 by_cases he : e = 0
 case neg =>
  rw [if_neg he]
  repeat apply za
  refine zb ?_
  refine zo (by simp [he]) ?_
  refine za (zb ?_)
  exact zg ⟨_, _, rfl, ⟨by simp [zq], rfl⟩, yb hd⟩
 subst he
 rw [if_pos rfl]
 have hG := hmay rfl
 have hit := Zam hG b (IntKind.u64.wrap seed)
 repeat apply za
 refine zb ?_
 refine zn (by simp) ?_
 refine zh (za (zT [] (by rfl) (by rfl) fun K Gc Gh hK hGc hGh X hX0 hX => ?_))
 simp -implicitDefEqProofs [hX0, hX]
 try clear hX0 hX X
 refine hGc _ _ _ _ _ _ _ fun hsuf => ((hshow [] p0 _ (by simp) hG).mono ?_).v
 rintro _ _ rfl
 refine ⟨_, _, rfl, ?_⟩
 clear hGc hGh
 clear Gc Gh
 refine zQ hsuf (D := []) (by rfl) fun Gc Gh hGc hGh X hX0 hX => ?_
 simp -implicitDefEqProofs [hX0, hX]
 clear hX0 hX X
 refine hK _ _ _ ?_
 clear hK hGc hGh
 clear K Gc Gh
 refine za (zT [] (by rfl) (by rfl) fun K Gc Gh hK hGc hGh X hX0 hX => ?_)
 simp -implicitDefEqProofs [hX0, hX]
 try clear hX0 hX X
 refine hGc _ _ _ _ _ _ _ fun hsuf => ((Znf seed jM).mono ?_).v
 rintro _ _ ⟨v3, rfl, rfl⟩
 refine ⟨_, _, jf _, ?_⟩
 clear hGc hGh
 clear Gc Gh
 refine zQ hsuf (D := []) (by rfl) fun Gc Gh hGc hGh X hX0 hX => ?_
 simp -implicitDefEqProofs [hX0, hX]
 clear hX0 hX X
 refine hK _ _ _ ?_
 clear hK hGc hGh
 clear K Gc Gh
 repeat apply za
 refine zb ?_
 have hz : xS x n b p0 (IntKind.u64.wrap seed) 0 = [] ++ [p0] := rfl
 generalize IntKind.u64.wrap seed = s0 at *
 refine zj (jl (σ := Nat) (fun k => k ≤ r) (fun k => [(2, .fn (.func fn) [] cs), (3, .ptr nx v0 0), (4, .ptr (nx + 1) v1 0), (7, .ptr (nx + 2) v2 0), (9, .ptr (nx + 3) v3 0), (27, I r), (28, I k)]) (fun k => St (xS x n b p0 s0 k)) (fun k => [.cells v0 25 (zA x), .cells v1 74 (uE seed r b cl), .cells v2 38 [L (qQ x n b p0 s0 k).1], .cells v3 209 (jy (qQ x n b p0 s0 k).2)]) (fun k => r - k) (zP 0 [] (by simp) (by simp) (by rw [ZnS]) (by simp [qQ])) ?_)
 rintro k hk
 have hgk := hit k
 have hgn := hit (k + 1)
 have hrd := fun (S : Store) (id v : Nat) hS => Znl hgk hn0 (qQ x n b p0 s0 k).2 b hb (S := S) (id := id) (v := v) hS
 have hnx : vq x n (qQ x n b p0 s0 k).1 (qQ x n b p0 s0 k).2 b = (qQ x n b p0 s0 (k + 1)).1 := rfl
 have hnx2 : Yk x (qQ x n b p0 s0 k).2 = (qQ x n b p0 s0 (k + 1)).2 := rfl
 have hhs := Zfe x n b p0 s0 k
 have hhl := Zff x n b p0 s0 k
 rw [hnx, hnx2] at hrd
 refine za (zb ?_)
 refine za (zr rfl (fun hc => ?_) (fun hc => ?_))
 ·simp at hc
  refine zh (za (zj (za (zT [] (by rfl) (by rfl) fun K Gc Gh hK hGc hGh X hX0 hX => ?_))))
  simp -implicitDefEqProofs [hX0, hX]
  try clear hX0 hX X
  refine hGc _ _ _ _ _ _ _ fun hsuf => ((hrd _ (nx + 3) v3 (by rw [yP]; rfl)).mono ?_).v
  rintro _ _ ⟨rfl, rfl⟩
  refine ⟨_, _, yY _ (by omega) (by simp), ?_⟩
  clear hGc hGh
  clear Gc Gh
  refine zQ hsuf (D := []) (by rfl) fun Gc Gh hGc hGh X hX0 hX => ?_
  simp -implicitDefEqProofs [hX0, hX]
  clear hX0 hX X
  try simp only [Nat.add_sub_cancel_left, List.set_cons_succ, List.set_cons_zero]
  refine hK _ _ _ ?_
  clear hK hGc hGh
  clear K Gc Gh
  refine zT [] (by rfl) (by rfl) fun K Gc Gh hK hGc hGh X hX0 hX => ?_
  simp -implicitDefEqProofs [hX0, hX]
  try clear hX0 hX X
  refine hGc _ _ _ _ _ _ _ fun hsuf => ((hshow _ _ _ (by omega) hgn).mono ?_).v
  rintro _ _ rfl
  refine ⟨_, _, rfl, ?_⟩
  clear hGc hGh
  clear Gc Gh
  refine zQ hsuf (D := []) (by rfl) fun Gc Gh hGc hGh X hX0 hX => ?_
  simp -implicitDefEqProofs [hX0, hX]
  clear hX0 hX X
  refine hK _ _ _ ?_
  clear hK hGc hGh
  clear K Gc Gh
  refine zb ?_
  exact zp (k + 1) [] hc (by omega) (by simp [zt k (by omega)]) (by rw [hhs]) (by simp)
 ·simp at hc
  obtain rfl : k = r := by omega
  refine zy (za (zb ?_))
  exact zg ⟨_, _, rfl, ⟨by simp [zq], rfl⟩, yb (hdead _)⟩
open Go Go.Proofs Hp
theorem ZnT (p : zx) {S : Store} {id v : Nat} {old : PV} (hS : S id = .cells v 38 [old]) : Spec Tryz.prog 82 [.agg [L p], .ptr id v 0] S (fun _ S' => S' = S.set id (.cells v 38 [L p])) := by
 refine yT Tryz.func82 Tryz.ntmps82 Tryz.results82 fun nx hd => ?_
 have hlt : id < nx := yA hd hS (by simp)
 have xw := fun obs => (zH (S := S) (obs := obs) hlt).trans hS
 have g1 : ¬ nx ≤ id := by omega
 refine za (zb ?_)
 intro v0
 refine ze [] (zm xw g1) ?_
 exact ⟨_, _, rfl, by simp, yb (wF hd hlt _)⟩
def Jd (h : List zx) : PV := match h.getLast? with
 | none => yF
 | some p => L p
theorem Zfh (h : List zx) (p : zx) : Jd (h ++ [p]) = L p := by unfold Jd; rw [List.getLast?_append]; rfl
theorem ZnU (x : Inst) (n : Nat) (b : Int) (p : zx) (s : Int) (k : Nat) : Jd (xS x n b p s k) = L (qQ x n b p s k).1 := by
 cases k with
 | zero => rfl
 | succ k => rw [Zfe, Zfh]
def vY (x : Inst) (n : Nat) (seed : Int) (r : Nat) (b : Int) : zx × Int :=
 if (yr x b).2 = 0 then ((qQ x n b (yr x b).1 (IntKind.u64.wrap seed) r).1, 0) else ([], (yr x b).2)
theorem ZnV {x : Inst} {n : Nat} (hA : InstA x n) (hn0 : 0 < n) (hmay : ∀ b, (yr x b).2 = 0 → PlanG x n (yr x b).1) (seed : Int) (r : Nat) (hr : r ≤ 1000) (b : Int) (hb : b ≤ 9223372036854775807) (cl : Int) :
  Pure Tryz.prog 42 [.agg (zA x), .agg (uE seed r b cl)] (.tup [.agg [L (vY x n seed r b).1], I (vY x n seed r b).2]) := by
 have hw := fun (S : Store) fn cs St h1 h2 h3 => Zfg hA hn0 hmay seed r hr b hb cl fn cs (S := S) St h1 h2 h3
 have hrz : vY x n seed r b = if (yr x b).2 = 0 then ((qQ x n b (yr x b).1 (IntKind.u64.wrap seed) r).1, 0) else ([], (yr x b).2) := rfl
 have hl := fun p s => ZnU x n b p s r
 generalize yr x b = st at *
 obtain ⟨p0, e⟩ := st
 simp only at hw hrz
 generalize IntKind.u64.wrap seed = s0 at *
 refine zv Tryz.func42 Tryz.ntmps42 Tryz.results42 fun S nx hd => ?_
 refine za (zb ?_)
 intro v0 v1 v2
 refine za (zb ?_)
 intro v3
 obtain ⟨S1, hS1⟩ : ∃ S1, S1 = ext S nx [.cells v0 25 (zA x), .cells v1 74 (uE seed r b cl), .cells v2 38 [yF], .cells v3 38 [yF]] := ⟨_, rfl⟩
 have h1 : S1 (nx + 3) = .cells v3 38 [yF] := by rw [hS1, yP]; rfl
 have hwk := hw S1 82 [.ptr (nx + 3) v3 0] (fun h => S1.set (nx + 3) (.cells v3 38 [Jd h])) (by
   funext i
   by_cases hi : i = nx + 3
   ·subst hi; rw [Store.set_same]; exact h1.symm
   ·exact Store.set_other _ _ _ _ hi) (fun nx' hd' h => wF hd' (yA hd' h1 (by simp)) _) (fun nx' hd' h p obs _ _ => by
   have hlt : nx + 3 < nx' := yA hd' h1 (by simp)
   refine (ZnT p (id := nx + 3) (v := v3) (old := Jd h) (by rw [zH hlt]; exact Store.set_same _ _ _)).mono ?_
   rintro _ _ rfl
   rw [jX _ hlt, Store.set_set, Zfh])
 rw [hS1] at hwk
 refine za (zT [] (by rfl) (by rfl) fun K Gc Gh hK hGc hGh X hX0 hX => ?_)
 simp -implicitDefEqProofs [hX0, hX]
 try clear hX0 hX X
 refine hGc _ _ _ _ _ _ _ fun hsuf => (hwk.mono ?_).v
 rintro _ _ ⟨rfl, rfl⟩
 refine ⟨_, _, yY _ (by omega) (by simp), ?_⟩
 clear hGc hGh
 clear Gc Gh
 refine zQ hsuf (D := []) (by rfl) fun Gc Gh hGc hGh X hX0 hX => ?_
 simp -implicitDefEqProofs [hX0, hX]
 clear hX0 hX X
 try simp only [Nat.add_sub_cancel_left, List.set_cons_succ, List.set_cons_zero]
 refine hK _ _ _ ?_
 clear hK hGc hGh
 clear K Gc Gh
 by_cases he : e = 0
 ·rw [if_pos he] at hrz
  rw [hrz]
  simp only [if_pos he, hl]
  subst he
  refine za (zb ?_)
  exact zg (zk hd (by simp; rfl) rfl)
 ·rw [if_neg he] at hrz
  rw [hrz]
  simp only [if_neg he]
  show PW _ _ _ _ _ _ _ (ext _ _ _)
  refine za (zb ?_)
  refine uP 2 0 rfl rfl ?_
  exact zg (zk hd (by simp; rfl) rfl)
theorem ZnW {x : Inst} {n : Nat} {p : zx} (hG : PlanG x n p) (l : List Int) (hl : l.length ≤ 2000) {S : Store} {id v ib w ix vx : Nat} (hS : S id = .cells v 45 [.sl ib w 1 0 l.length]) (hB : S ib = .cells w 3 (l.flatMap Enc.enc)) (hX : S ix = .cells vx 25 (zA x)) (d1 : id ≠ ib) (d2 : ix ≠ id) (d3 : ix ≠ ib) :
  Spec Tryz.prog 83 [.agg [L p], .ptr id v 0, .ptr ix vx 0] S (fun _ S' => S' = (S.set ib (.cells (w + 1) 3 ((l ++ [qq x p]).flatMap Enc.enc))).set id (.cells v 45 [.sl ib (w + 1) 1 0 (l.length + 1)])) := by
 have hc := hG.cost
 generalize qq x p = z at *
 refine yT Tryz.func83 Tryz.ntmps83 Tryz.results83 fun nx hd => ?_
 have hlt : id < nx := yA hd hS (by simp)
 have hltB : ib < nx := yA hd hB (by simp)
 have hltX : ix < nx := yA hd hX (by simp)
 have xw := fun obs => (zH (S := S) (obs := obs) hlt).trans hS
 have xb := fun obs => (zH (S := S) (obs := obs) hltB).trans hB
 have xx := fun obs => (zH (S := S) (obs := obs) hltX).trans hX
 have yw := fun (o : Ob) obs => (zH (S := S.set ib o) (obs := obs) hlt).trans ((Store.set_other _ _ _ _ d1).trans hS)
 have g1 : ¬ nx ≤ id := by omega
 have g2 : ¬ nx ≤ ib := by omega
 have g3 : ¬ nx ≤ ix := by omega
 refine za (zb ?_)
 intro v0
 refine zB (some [nx, ix]) (Row.pures [1, 2, 3, 4] (.alt 0 (.alt 5 (.alt 6 (.done) .stop) .stop) .stop)) mixed (yg xw xb xx yw g1 (zm g2 g3)) ?_
 refine zI (hc) (yg xw xb xx yw g1 (zm g2 g3)) ?_
 refine ⟨by omega, ?_⟩
 refine ⟨by rw [zH hltX, Store.set_other _ _ _ _ d3]; exact hX, by rw [zH hltX, Store.set_other _ _ _ _ d2, Store.set_other _ _ _ _ d3]; exact hX, ?_⟩
 exact ⟨_, _, rfl, by simp, yb (wF (wF hd hltB _) hlt _)⟩
def wW (x : Inst) (n : Nat) (seed : Int) (r : Nat) (b : Int) : List Int :=
 if (yr x b).2 = 0 then (xS x n b (yr x b).1 (IntKind.u64.wrap seed) r).map (qq x) else []
theorem Zfi {x : Inst} {n : Nat} (hA : InstA x n) (hn0 : 0 < n) (hmay : ∀ b, (yr x b).2 = 0 → PlanG x n (yr x b).1) (seed : Int) (r : Nat) (hr : r ≤ 1000) (b : Int) (hb : b ≤ 9223372036854775807) (cl : Int) :
  Pure Tryz.prog 43 [.agg (zA x), .agg (uE seed r b cl)] (L (wW x n seed r b)) := by
 have hw := fun (S : Store) fn cs St h1 h2 h3 => Zfg hA hn0 hmay seed r hr b hb cl fn cs (S := S) St h1 h2 h3
 have hcz : (if (yr x b).2 = 0 then xS x n b (yr x b).1 (IntKind.u64.wrap seed) r else []).map (qq x) = wW x n seed r b := by unfold wW; split <;> rfl
 have hcl : (if (yr x b).2 = 0 then xS x n b (yr x b).1 (IntKind.u64.wrap seed) r else []).length = (wW x n seed r b).length := by rw [← hcz, List.length_map]
 generalize (if (yr x b).2 = 0 then xS x n b (yr x b).1 (IntKind.u64.wrap seed) r else []) = H at *
 generalize wW x n seed r b = cz at *
 generalize (yr x b).2 = e at *
 refine zv Tryz.func43 Tryz.ntmps43 Tryz.results43 fun S nx hd => ?_
 refine za (zb ?_)
 intro v0 v1
 refine za (zb ?_)
 intro v2
 refine qM 2 0 3 1 rfl rfl fun v3 => ?_
 obtain ⟨S1, hS1⟩ : ∃ S1, S1 = ext S nx [.cells v0 25 (zA x), .cells v1 74 (uE seed r b cl), .cells v2 45 [.sl (nx + 3) v3 1 0 0], .cells v3 3 []] := ⟨_, rfl⟩
 have h0 : S1 nx = .cells v0 25 (zA x) := by
  have : S1 (nx + 0) = .cells v0 25 (zA x) := by rw [hS1, yP]; rfl
  exact this
 have h2 : S1 (nx + 2) = .cells v2 45 [.sl (nx + 3) v3 1 0 0] := by rw [hS1, yP]; rfl
 have h3 : S1 (nx + 3) = .cells v3 3 [] := by rw [hS1, yP]; rfl
 have hwk := hw S1 83 [.ptr (nx + 2) v2 0, .ptr nx v0 0] (fun h => (S1.set (nx + 3) (.cells (v3 + h.length) 3 ((h.map (qq x)).flatMap Enc.enc))).set (nx + 2) (.cells v2 45 [.sl (nx + 3) (v3 + h.length) 1 0 h.length])) (by
   funext i
   by_cases hi : i = nx + 2
   ·subst hi; rw [Store.set_same]; exact h2.symm
   ·rw [Store.set_other _ _ _ _ hi]
    by_cases hi3 : i = nx + 3
    ·subst hi3; rw [Store.set_same]; exact h3.symm
    ·exact Store.set_other _ _ _ _ hi3) (fun nx' hd' h => wF (wF hd' (yA hd' h3 (by simp)) _) (yA hd' h2 (by simp)) _) (fun nx' hd' h p obs hhl hG => by
   have hlt2 : nx + 2 < nx' := yA hd' h2 (by simp)
   have hlt3 : nx + 3 < nx' := yA hd' h3 (by simp)
   refine (ZnW hG (h.map (qq x)) (by rw [List.length_map]; omega) (id := nx + 2) (v := v2) (ib := nx + 3) (w := v3 + h.length) (ix := nx) (vx := v0) (by rw [zH hlt2, Store.set_same, List.length_map]) (by rw [zH hlt3, Store.set_other _ _ _ _ (by omega), Store.set_same]) (by rw [zH (by omega), Store.set_other _ _ _ _ (by omega), Store.set_other _ _ _ _ (by omega)]; exact h0) (by omega) (by omega) (by omega)).mono ?_
   rintro _ _ rfl
   rw [jX _ hlt3, jX _ hlt2]
   congr 1
   funext i
   simp only [Store.set, List.length_map, List.length_append, List.length_singleton, List.map_append, List.map_cons, List.map_nil, Nat.add_assoc]
   by_cases hi : i = nx + 2
   ·simp [hi]
   ·by_cases hi3 : i = nx + 3
    ·simp [hi3]
    ·simp [hi, hi3])
 rw [hS1] at hwk
 refine za (zT [] (by rfl) (by rfl) fun K Gc Gh hK hGc hGh X hX0 hX => ?_)
 simp -implicitDefEqProofs [hX0, hX]
 try clear hX0 hX X
 refine hGc _ _ _ _ _ _ _ fun hsuf => (hwk.mono ?_).v
 rintro _ _ ⟨rfl, rfl⟩
 refine ⟨S, _, by rw [yY _ (by omega) (by simp), yY _ (by omega) (by simp)], ?_⟩
 clear hGc hGh
 clear Gc Gh
 refine zQ hsuf (D := []) (by rfl) fun Gc Gh hGc hGh X hX0 hX => ?_
 simp -implicitDefEqProofs [hX0, hX]
 clear hX0 hX X
 try simp only [Nat.add_sub_cancel_left, List.set_cons_succ, List.set_cons_zero]
 refine hK _ _ _ ?_
 clear hK hGc hGh
 clear K Gc Gh
 rw [hcz, hcl]
 refine yc 3 rfl ?_
 refine za (zb ?_)
 exact zg (zk hd (by simp; rfl) (by simp [zq]))
open Go Go.Proofs Hp
def yB (l : List Int) (i : Nat) : Int := if 1000 < l.getD i 0 then 1000 else if l.getD i 0 < 0 then 0 else l.getD i 0
theorem XV (l : List Int) (i : Nat) : 0 ≤ yB l i ∧ yB l i ≤ 1000 := by unfold yB; split; omega; split <;> omega
theorem Zan (l : List Int) (i : Nat) (hi : i ≤ 100) : Pure Tryz.prog 80 [L l, I i] (I (yB l i)) := by
 refine zv Tryz.func80 Tryz.ntmps80 Tryz.results80 fun S nx hd => ?_
 refine za (zb ?_)
 by_cases h1 : i < l.length
 ·obtain ⟨z, tl, a1, a2, a3, e0⟩ := zE rfl l i h1
  have hz : l.getD i 0 = z := by rw [List.getD_eq_getElem?_getD, a1]; rfl
  have hz1 : 1 ≤ l.length - i := by omega
  have h1' : ¬ l.length ≤ i := by omega
  unfold yB
  rw [hz]
  by_cases h2 : z < 0
  ·rw [if_neg (by omega), if_pos h2]
   repeat apply za
   refine ze [(4, 9)] (yZ e0 h1 h1' hz1 h2) ?_
   refine zo rfl (za (zb ?_))
   exact zg (zk hd rfl rfl)
  ·by_cases h3 : 1000 < z
   ·rw [if_pos h3]
    repeat apply za
    refine ze [(4, 9)] (yZ e0 h1 h1' hz1 h2) ?_
    refine zn rfl (zh ?_)
    repeat apply za
    refine ze [] (zF e0 h1 hz1) ?_
    refine zo (by simp [h3]) ?_
    refine za (zb ?_)
    exact zg (zk hd rfl rfl)
   ·rw [if_neg h3, if_neg h2]
    repeat apply za
    refine ze [(4, 9)] (yZ e0 h1 h1' hz1 h2) ?_
    refine zn rfl (zh ?_)
    repeat apply za
    refine ze [] (zF e0 h1 hz1) ?_
    refine zn (by simp; omega) ?_
    refine zh (za (ze [] (zF e0 h1 hz1) ?_))
    exact zg (zk hd rfl rfl)
 ·have hz : l.getD i 0 = 0 := by rw [List.getD_eq_getElem?_getD, List.getElem?_eq_none (by omega)]; rfl
  unfold yB
  rw [hz, if_neg (by decide), if_neg (by decide)]
  have h1' : l.length ≤ i := by omega
  repeat apply za
  refine ze [(4, 9)] (zm h1' zL) ?_
  refine zo rfl (za (zb ?_))
  exact zg (zk hd rfl rfl)
def vr (l : List Int) : Int := l.getD 0 0
theorem ZnX (l : List Int) : Pure Tryz.prog 39 [L l] (.agg (uE (vr l) (yB l 1) (yB l 2) (yB l 3))) := by
 have t1 := Zan l 1 (by omega)
 have t2 := Zan l 2 (by omega)
 have t3 := Zan l 3 (by omega)
 generalize yB l 1 = r at *
 generalize yB l 2 = b at *
 generalize yB l 3 = c at *
 refine zv Tryz.func39 Tryz.ntmps39 Tryz.results39 fun S nx hd => ?_
 refine za (zb ?_)
 intro v0
 refine za (zb ?_)
 refine zz t1 ?_
 refine zz t2 ?_
 refine zz t3 ?_
 intro v1
 by_cases h : 0 < l.length
 ·obtain ⟨z, tl, a1, a2, a3, e0⟩ := zE rfl l 0 h
  have hz : vr l = z := by unfold vr; rw [List.getD_eq_getElem?_getD, a1]; rfl
  have hz1 : 1 ≤ l.length := h
  rw [List.drop_zero] at e0
  rw [hz]
  repeat apply za
  refine zb ?_
  refine zo (by simp [h]) ?_
  refine ze [] (zF e0 h hz1) ?_
  refine za (zb ?_)
  exact zg (zk hd (by simp; rfl) rfl)
 ·have hz : vr l = 0 := by unfold vr; rw [List.getD_eq_getElem?_getD, List.getElem?_eq_none (by omega)]; rfl
  rw [hz]
  have hl : l = [] := List.length_eq_zero_iff.1 (by omega)
  subst hl
  repeat apply za
  refine zb ?_
  refine zn (by simp) ?_
  refine zh (za (zb ?_))
  exact zg (zk hd (by simp; rfl) rfl)
theorem ZnY (l : List Int) : Pure Tryz.prog 41 [L l] (.agg (uE (vr l) (yB l 1 % 9) (yB l 2 % 21) (yB l 3 % 13))) := by
 have hr := ZnX l
 have b1 := XV l 1
 have b2 := XV l 2
 have b3 := XV l 3
 have w1 : (yB l 1).tmod 9 = yB l 1 % 9 := Int.tmod_eq_emod_of_nonneg (by omega)
 have w2 : (yB l 2).tmod 21 = yB l 2 % 21 := Int.tmod_eq_emod_of_nonneg (by omega)
 have w3 : (yB l 3).tmod 13 = yB l 3 % 13 := Int.tmod_eq_emod_of_nonneg (by omega)
 generalize yB l 1 = r at *
 generalize yB l 2 = b at *
 generalize yB l 3 = c at *
 generalize vr l = s at *
 refine zv Tryz.func41 Tryz.ntmps41 Tryz.results41 fun S nx hd => ?_
 refine za (zb ?_)
 intro v0
 refine za (zb ?_)
 refine zz hr ?_
 intro v1
 refine za (ze [] w1 ?_)
 refine za (ze [] w2 ?_)
 refine za (ze [] w3 ?_)
 refine za (zb ?_)
 exact zg (zk hd (by simp; rfl) rfl)
open Go Go.Proofs Hp
theorem ZnZ (x : Inst) {n : Nat} (hn : (zN x).days.toNat = n) (b : Int) (h0 : (yr (zN x) b).2 = 0) : PlanG (zN x) n (yr (zN x) b).1 := by
 have hA := XT x
 obtain ⟨h1, h2⟩ := ZnR x b h0
 obtain ⟨q1, q2, q3, -⟩ := ZmZ h1
 have := Ya x
 rw [hn] at hA
 exact ⟨hA, W8 x, by omega, q3⟩
theorem PlanG.refCost {x : Inst} {n : Nat} {p : zx} (h : PlanG x n p) : Pure Tryz.prog 30 [.agg (zA x), .agg [L p]] (I (qq x p)) :=
 Zmk x p h.serves (by have := h.six; omega) (fun c hc => (h.a.made c hc).fits) fun d hd => (h.s.ok d hd).1
theorem PlanG.same {x : Inst} {n : Nat} {p : zx} (h : PlanG x n p) : Pure Tryz.prog 19 [.agg [L p], .agg [L p]] (B true) := by
 obtain ⟨h1, h2, h3⟩ := h.s.sizes (by have := h.a.n60; omega) (by omega)
 have := ZdY p p (by omega) (fun d hd => by have := h2 d hd; omega) (fun d hd t ht => by have := h3 d hd t ht; omega)
 simpa using this
theorem Zn0 {x : Inst} {n : Nat} {seed : Int} {r : Nat} {b : Int} (h0 : (yr x b).2 = 0) : (wW x n seed r b).length = r + 1 ∧ (wW x n seed r b)[r]? = some (qq x (vY x n seed r b).1) := by
 unfold wW vY
 rw [if_pos h0, if_pos h0]
 refine ⟨by rw [List.length_map, Zff], ?_⟩
 unfold xS
 rw [List.map_map, List.getElem?_map, List.getElem?_range (by omega)]; rfl
theorem Zn1 (x : Inst) (l : List Int) (hx : InstOk x) (hlv : Pure Tryz.prog 40 [] (B true)) : Pure Tryz.prog 11 [.agg (zA x), L l] (B true) := by
 have hgd := Ya x
 have hG := Zhb x hx
 obtain ⟨n, hn⟩ : ∃ n : Nat, (zN x).days.toNat = n := ⟨_, rfl⟩
 have hA := XT x
 rw [hn] at hA
 have hmay := ZnZ x hn
 have hSm := ZnY l
 obtain ⟨r, hr⟩ : ∃ r : Nat, yB l 1 % 9 = r := ⟨(yB l 1 % 9).toNat, by have := XV l 1; omega⟩
 have hr9 : r < 9 := by omega
 have hb : yB l 2 % 21 ≤ 9223372036854775807 := by omega
 rw [hr] at hSm
 generalize yB l 2 % 21 = b at *
 generalize yB l 3 % 13 = c at *
 generalize vr l = s at *
 have hR := ZnV hA (by omega) hmay s r (by omega) b hb c
 have hC := Zfi hA (by omega) hmay s r (by omega) b hb c
 have hlast := fun h0 => Zn0 (x := zN x) (n := n) (seed := s) (r := r) (b := b) h0
 have hrz : (yr (zN x) b).2 = 0 → PlanG (zN x) n (vY (zN x) n s r b).1 ∧ (vY (zN x) n s r b).2 = 0 := fun h0 => by
  unfold vY; rw [if_pos h0]; exact ⟨Zam (hmay b h0) _ _ _, rfl⟩
 have hrn : (yr (zN x) b).2 ≠ 0 → vY (zN x) n s r b = ([], (yr (zN x) b).2) ∧ wW (zN x) n s r b = [] := fun h0 => by
  unfold vY wW; rw [if_neg h0, if_neg h0]; exact ⟨rfl, rfl⟩
 generalize (yr (zN x) b).2 = e at *
 generalize zN x = y at *
 refine zv Tryz.func11 Tryz.ntmps11 Tryz.results11 fun S nx hd => ?_
 refine za (zb ?_)
 intro v0
 refine za (zb ?_)
 refine zz hG ?_
 intro v1
 refine za (zb ?_)
 refine zz hSm ?_
 intro v2
 by_cases he : e = 0
 ·obtain ⟨g1, g2⟩ := hrz he
  obtain ⟨k1, k2⟩ := hlast he
  have hcost := g1.refCost
  have hsame := g1.same
  generalize vY y n s r b = rz at *
  obtain ⟨p, e'⟩ := rz
  simp only at g1 g2 hR hcost hsame k2
  subst g2
  generalize wW y n s r b = cz at *
  generalize qq y p = z at *
  obtain ⟨z', tl, a1, a2, a3, e0⟩ := zE rfl cz r (by omega)
  obtain rfl : z' = z := by rw [k2] at a1; exact (Option.some.inj a1).symm
  have hrl : r < cz.length := by omega
  have hrl2 : 1 ≤ cz.length - r := by omega
  have hi : IntKind.i64.wrap ((cz.length : Int) - 1) = r := by rw [wr _ (by omega) (by omega)]; omega
  have hpos : 0 < cz.length := by omega
  refine za (zb ?_)
  refine zz hR ?_
  intro v3
  refine za (zb ?_)
  refine zz hR ?_
  intro v4
  refine za (zb ?_)
  refine zz hC ?_
  repeat apply za
  refine ze [(3, 34)] trivial ?_
  refine jP [(3, 34)] hsame trivial ?_
  refine zn rfl (zh ?_)
  repeat apply za
  refine zb ?_
  refine zn (by simp) ?_
  refine zh (za (zB (some [nx + 1, nx + 3]) (Row.pures [0, 1, 2, 3, 4, 5, 6, 7, 8, 9, 10, 11, 12, 13, 14, 15, 16, 17, 18] .done) mixed (yZ e0 hrl hrl2 hi hpos) ?_))
  refine zI (hcost) (yZ e0 hrl hrl2 hi hpos) ?_
  refine zI (hlv) (yZ e0 hrl hrl2 hi hpos) ?_
  exact zg (zk hd (by simp; rfl) rfl)
 ·obtain ⟨g1, g2⟩ := hrn he
  rw [g1] at hR
  rw [g2] at hC
  have hsame : Pure Tryz.prog 19 [.agg [L ([] : zx)], .agg [L ([] : zx)]] (B true) := by
   have := ZdY [] [] (by simp) (by simp) (by simp)
   simpa using this
  refine za (zb ?_)
  refine zz hR ?_
  intro v3
  refine za (zb ?_)
  refine zz hR ?_
  intro v4
  refine za (zb ?_)
  refine zz hC ?_
  repeat apply za
  refine ze [(3, 34)] trivial ?_
  refine jP [(3, 34)] hsame trivial ?_
  refine zn rfl (zh ?_)
  repeat apply za
  refine zb ?_
  refine zo (by simp [he]) ?_
  refine za (ze [(3, 45)] trivial ?_)
  refine jP [(3, 45)] hlv trivial ?_
  exact zg (zk hd (by simp; rfl) rfl)
open Go Go.Proofs Hp
theorem Zfj : InstA yu 1 := by
 refine ⟨Zaf, rfl, by decide, fun c hc => ?_, fun c hc => ?_⟩
 ·have : c = vX := by simpa [yu] using hc
  subst this
  exact ⟨⟨by decide, by decide, by decide⟩, by decide, by decide, fun _ => ⟨by decide, by decide, by decide⟩⟩
 ·have : c = vX := by simpa [yu] using hc
  subst this; decide
theorem Zn2 {x : Inst} {n : Nat} (h : InstA x n) (h6 : x.cust.length ≤ 6) (b : Int) (h0 : (yr x b).2 = 0) : PlanG x n (yr x b).1 := by
 obtain ⟨v, pr, hv, hp, e, hd, hc⟩ := Zal h h0
 rw [e]
 refine ⟨h, h6, Q5 x v b n, fun d hd' => ?_⟩
 obtain ⟨r, hr, rfl⟩ := List.mem_map.1 hd'
 obtain ⟨k, hk, rfl⟩ := List.mem_map.1 hr
 exact (Xt (Y5 h.h hv k) h.h.diag b (hd k (List.mem_range.1 hk))).2.1
theorem Zn3 (pr : List (List Int)) : y8 yu (y9 1 9) pr = ([[⟨0, 1⟩]], 0) := by
 have h : wU yu (y9 1 9) pr yu.cust.length = [([⟨0, 1⟩], true)] := by
  show [y9 1 9 vX (pr.getD 0 [])] = _
  unfold y9
  rw [if_pos (show vX.kind = 1 from rfl), ZeR]
 unfold y8
 rw [h]; rfl
theorem Zn4 : yr yu 0 = ([[[⟨0, 1⟩]]], 0) := by
 have hs : qp [[⟨0, 1⟩]] (0 : Nat) 1 = [⟨0, 1⟩] := by decide
 have hk := Y5 Zaf Znm 0
 have hb : Z8 yu [[⟨0, 1⟩]] 0 1 = [([[⟨0, 1⟩]], 0)] := by
  show [qL yu 0 (qp [[⟨0, 1⟩]] (0 : Nat) 1)] = _
  rw [hs]
  rw [show qp [[(⟨0, 1⟩ : Visit)]] 0 yu.cust.length = [⟨0, 1⟩] from hs] at hk
  rw [Znn hk Zaf.diag (by decide) (by decide) 0]
 have h1 : qz yu [[⟨0, 1⟩]] 0 1 = [0] := by unfold qz; rw [hb]; rfl
 have h2 : q9 yu [[⟨0, 1⟩]] 0 1 = [[[⟨0, 1⟩]]] := by unfold q9; rw [hb]; rfl
 show Yg yu (y9 1 9) 0 1 = _
 unfold Yg vp
 rw [Zn3]
 simp only [h1, h2]
 rfl
def xv : zx := [[[⟨0, 1⟩]]]
theorem Zn5 : qq yu xv = 7 := by decide
theorem Zn6 : jK yu 1 [[]] 0 = (xv, true) ∨ (jK yu 1 [[]] 0).2 = false := by
 unfold jK
 have e : y9 1 yu.cap (yu.cust.getD 0 default) (([[]] : zx).map (xq yu (xR yu 0))) = ([⟨0, 1⟩], true) := by
  show y9 1 9 vX _ = _
  unfold y9
  rw [if_pos (show vX.kind = 1 from rfl), ZeR]
 rw [e, if_pos rfl]
 show ([⟨0, 1⟩] : List Visit).foldl (wg yu 0) ([[]], true) = _ ∨ _
 have e2 : ([⟨0, 1⟩] : List Visit).foldl (wg yu 0) ([[]], true) = wg yu 0 ([[]], true) ⟨0, 1⟩ := rfl
 rw [e2]
 unfold wg
 rw [if_pos rfl]
 split
 ·rename_i hi
  left
  have hp := Xi hi
  have hm := (RgOk.step (x := yu) (d := []) (l := [⟨0, 0⟩]) (by decide) (Vl (by decide) (by decide)) (i := 0) (by decide) hi).may
  have : (yC yu [] ⟨0, 1⟩).1 = [[⟨0, 1⟩]] := ZeS hp (Xl hm)
  show ([[]].set 0 (yC yu [] ⟨0, 1⟩).1, true) = _
  rw [this]; rfl
 ·exact .inr rfl
theorem Zn7 : (jV yu 1 xv [0]).1 = xv := by
 unfold jV
 have e : wE [0] xv = [[]] := by decide
 rw [e]
 have e2 : wh yu 1 [0] [[]] = jK yu 1 [[]] 0 := rfl
 rw [e2]
 rcases Zn6 with q | q
 ·rw [q, if_pos rfl]
  split
  ·rename_i h; exact absurd (Int.le_refl _) h.2
  ·rfl
 ·rw [if_neg (by rw [q]; decide)]
theorem Zn8 (s : Int) : vq yu 1 xv s 0 = xv := by
 unfold vq
 rw [if_neg (by decide)]
 have b0 : ∀ s, jz s yu.cust.length = 0 := fun s => by have := ZD s (n := yu.cust.length) (by decide); have e : yu.cust.length = 1 := rfl; omega
 have b1 : ∀ s, jz s 1 = 0 := fun s => by have := ZD s (n := 1) (by decide); omega
 rw [b0, b0, b1, Zn7]
 unfold wV
 rw [if_pos rfl]
 show (xu yu xv 0 0).1 = xv
 have hi : ∀ d, j7 yu 0 d = d := fun d => rfl
 unfold xu
 rw [if_neg (by decide), hi, if_pos (Int.le_refl _)]
theorem XW (s : Int) : ∀ k, (qQ yu 1 0 xv s k).1 = xv
 | 0 => rfl
 | k + 1 => by
  show vq yu 1 (qQ yu 1 0 xv s k).1 (qQ yu 1 0 xv s k).2 0 = xv
  rw [XW s k, Zn8]
theorem Zn9 : wW yu 1 0 2 0 = [7, 7, 7] := by
 unfold wW
 rw [Zn4, if_pos rfl]
 unfold xS
 show [qq yu (qQ yu 1 0 xv _ 0).1, qq yu (qQ yu 1 0 xv _ 1).1, qq yu (qQ yu 1 0 xv _ 2).1] = _
 rw [XW, XW, XW, Zn5]
theorem Zoa (hread : ∀ l : List Int, Pure Tryz.prog 38 [L l] (.agg (uE (vr l) (yB l 1) (yB l 2) (yB l 3)))) : Pure Tryz.prog 40 [] (B true) := by
 have h1 := hread [7, -1, 2000]
 rw [show vr [7, -1, 2000] = 7 from by decide, show yB [7, -1, 2000] 1 = 0 from by decide, show yB [7, -1, 2000] 2 = 1000 from by decide, show yB [7, -1, 2000] 3 = 0 from by decide] at h1
 have h2 := Zfi Zfj (by decide) (Zn2 Zfj (by decide)) 0 2 (by decide) 0 (by decide) 0
 rw [Zn9] at h2
 refine zv Tryz.func40 Tryz.ntmps40 Tryz.results40 fun S nx hd => ?_
 refine za (zb ?_)
 refine za (zb ?_)
 intro v0
 refine za (zb ?_)
 refine zz h1 ?_
 intro v1
 refine za (zb ?_)
 refine zz h2 ?_
 refine za (ze [(3, 19), (8, 24), (14, 30)] trivial ?_)
 exact zg (zk hd (by simp; rfl) rfl)
open Go Go.Proofs Hp
def XX (id ver b : Nat) : Rd := ⟨none, fun C S w => Rel C S w (.ptr id ver 0) (.pointer (some ⟨b, 0, none⟩)), fun st h => Rel.mono st h⟩
theorem Zob {P : Program} {n N : Nat} {c : Code} {Q : Exit → (Nat → PV) → Store → Prop} {F : Nat → PV} {S : Store} {x id ver e : Nat} {cs : List PV} (hF : F x = .ptr id ver 0) (hs : S id = .cells ver e cs)
  (h : ∀ b, PW P (XX id ver b) n N c Q F S) : PW P wZ n N c Q F S := by
 intro C w a st
 have e1 := st.fr x
 rw [hF] at e1
 generalize hv : a.tmps.getD x undef = v at e1
 cases e1 with
 | ptr h1 h2 h3 =>
  obtain ⟨b, k, hl, rfl⟩ := (h3 ver (by rw [hs]; rfl)).2 rfl
  have := h b C w a ⟨st.sim, st.size, st.fr, .ptr h1 h2 h3⟩
  exact wpIn_mono this fun e a' w' ⟨F', S', C', q1, q2, q3, q4⟩ => ⟨F', S', C', q1, ⟨q2.sim, q2.size, q2.fr, trivial⟩, q3, q4⟩
theorem Zoc {P : Program} {n : Nat} {F : Nat → PV} {S : Store} {o : Oper} {t e m id ver b et : Nat} {x : Operand} {cs : List PV} {K : PV → Store → Prop} (ho : o.op = .slice t x none none none) (ht : P.underlying t = some (.array m e)) (hc : P.cellsOf e ≠ 0) (hx : ev F x = .ptr id ver 0) (hs : S id = .cells ver et cs)
  (hK : K (.sc (.slice (some ⟨b, 0, none⟩) m m)) S) : PO P (XX id ver b) n o F S K := by
 intro G hG C w a N st next Q' hnext
 have e1 := st.ev x
 rw [(hG x (by simp [ho, Op.operands])).trans hx] at e1
 have e2 : Rel C S w (.ptr id ver 0) (.pointer (some ⟨b, 0, none⟩)) := st.v
 have hnd : ∀ c, o.op ≠ .defer c := by intro c hc; rw [ho] at hc; cases hc
 generalize hv : a.eval x = v at e1
 cases e1 with
 | ptr h1 h2 h3 =>
  obtain ⟨b1, k1, hl, rfl⟩ := (h3 ver (by rw [hs]; rfl)).2 rfl
  cases e2 with
  | ptr i1 i2 i3 =>
   obtain ⟨b2, k2, hl2, hb⟩ := (i3 ver (by rw [hs]; rfl)).2 rfl
   rw [hl] at hl2
   cases hl2
   cases hb
   have hrun : (execOp a.eval o).run P w = .ok (.value (.slice (some ⟨b, 0, none⟩) m m)) w := by
    unfold execOp
    simp [ho, hv, Instr.sliceAt, run_underlying ht, Instr.sureAddr, Instr.sliceBounds, xT hc]
    intro _; rfl
   exact qt hnd hrun (hnext _ _ _ _ _ hK (.sc _) st.sim (Step.refl _ _ _))
theorem Zfk {P : Program} {o : Oper} {s x : Operand} {t : TypeId} {a : Act} {w w' : World} {v : Value} (ho : o.op = .call { callee := .builtin .copy, args := #[s, x], argTypes := #[t, t] })
  (h : (Builtin.copy_ #[t, t] o.type #[a.eval s, a.eval x]).run P w = .ok v w') : (execOp a.eval o).run P w = .ok (.value v) w' := by
 unfold execOp
 simp only [ho, resolve, invoke, builtin, Sem.run_bind, Sem.run_pure, Result.andThen_ok, List.map_toArray, List.map_cons, List.map_nil, h]
theorem Zod {P : Program} {n : Nat} {F : Nat → PV} {S : Store} {o : Oper} {s x : Operand} {t e b m id ver et : Nat} {cs l : List PV} {K : PV → Store → Prop} (ho : o.op = .call { callee := .builtin .copy, args := #[s, x], argTypes := #[t, t] }) (ht : P.underlying t = some (.slice e)) (hz : (P.info? e).map (·.size) = some 1)
  (hs : ev F s = .sc (.slice (some ⟨b, 0, none⟩) m m)) (hx : ev F x = .lst l.length l) (hid : S id = .cells ver et cs) (hm : cs.length = m)
  (hK : K (I (min l.length m : Nat)) (S.set id (.cells ver et (l.take m ++ cs.drop (min l.length m))))) : PO P (XX id ver b) n o F S K := by
 intro G hG C w a N st next Q' hnext
 have e1 := st.ev s
 rw [(hG s (by simp [ho, Op.operands, Call.operands])).trans hs] at e1
 have e2 := st.ev x
 rw [(hG x (by simp [ho, Op.operands, Call.operands])).trans hx] at e2
 have e3 : Rel C S w (.ptr id ver 0) (.pointer (some ⟨b, 0, none⟩)) := st.v
 have hnd : ∀ c, o.op ≠ .defer c := by intro c hc; rw [ho] at hc; cases hc
 generalize hv : a.eval s = v at e1
 cases e1
 generalize hu : a.eval x = u at e2
 cases e3 with
 | ptr i1 i2 i3 =>
  obtain ⟨b2, k, hl, hb⟩ := (i3 ver (by rw [hid]; rfl)).2 rfl
  cases hb
  rcases st.sim.cells id ver et cs hid with ⟨hn, _⟩ | ⟨b', k', c, g1, g2, g3, g4, g5, g6⟩
  ·rw [hn] at hl; cases hl
  rw [hl] at g1; cases g1
  have main : ∀ (vs : List Value) (a' : Addr) (cap : Nat), u = .slice (some a') l.length cap → vs.length = min l.length m → (∀ j v, vs[j]? = some v → w.cell? (a'.add j) = some v) → (∀ v ∈ vs, v.oneCell' = true) → (∀ (i : Nat) (p : PV) (v : Value), (l.take m)[i]? = some p → vs[i]? = some v → Rel C S w p v) → o.wpIn (Fe (XX id ver b)) n P a w next Q' := by
   intro vs a' cap hu' hvl hcell hone hrel
   have hrun0 := run_copy_row P w t t o.type e b 0 m m a' l.length cap c et vs ht hz g2 (by rw [hvl]) hcell (by omega) hone
   have hrun := Zfk (P := P) (a := a) (w := w) ho (by rw [hv, hu, hu']; exact hrun0)
   simp only [List.take_zero, List.nil_append, Nat.zero_add] at hrun
   generalize hw' : w.setRow b (vs ++ c.toList.drop vs.length).toArray = w' at hrun
   have hheap : w'.heap[b]? = some (.cells (vs ++ c.toList.drop vs.length).toArray et (0, 0)) := by rw [← hw']; exact setRow_heap w b c _ et _ g2
   have hgr : w.grownBy w' (some b) ∧ w.drawn ≤ w'.drawn := by
    rw [← hw']
    exact ⟨⟨rfl, rfl, rfl, by simp [World.setRow], fun j hj hne => setRow_other w b j _ (fun e => hne (by rw [e]))⟩, Nat.le_refl _⟩
   have hsize : (vs ++ c.toList.drop vs.length).toArray.size = k := by simp; omega
   have htl : (l.take m).length = vs.length := by rw [List.length_take, hvl]; omega
   obtain ⟨t1, t2⟩ := st.sim.turn (l := C.loc id) (ver' := ver) (cs' := l.take m ++ cs.drop (min l.length m)) hid (Nat.le_refl _) (fun _ => rfl) (by rw [hl]; exact hgr)
    (.inr ⟨b, k, _, hl, .inr (by rw [hl]; rfl), hheap, hsize, by rw [List.length_append, List.length_drop, htl]; omega, fun i z hi hz => by
      rw [List.getElem?_toArray] at hz
      by_cases q1 : i < vs.length
      ·rw [List.getElem?_append_left q1] at hz
       exact hone z (List.mem_of_getElem? hz)
      ·rw [List.getElem?_append_right (by omega), List.getElem?_drop] at hz
       rw [List.length_append, List.length_drop, htl] at hi
       have e9 : vs.length + (i - vs.length) = i := by omega
       rw [e9] at hz
       exact g5 i z (by omega) (by rw [← Array.getElem?_toList]; exact hz),
     fun i p z hp hz => by
      rw [List.getElem?_toArray] at hz
      by_cases q1 : i < vs.length
      ·rw [List.getElem?_append_left q1] at hz
       rw [List.getElem?_append_left (by omega)] at hp
       exact hrel i p z hp hz
      ·rw [List.getElem?_append_right (by omega), List.getElem?_drop] at hz
       rw [List.getElem?_append_right (by omega), List.getElem?_drop, htl, ← hvl] at hp
       have e9 : vs.length + (i - vs.length) = i := by omega
       rw [e9] at hz hp
       exact g6 i p z hp (by rw [← Array.getElem?_toList]; exact hz)⟩)
   have hres : goInt vs.length = Value.int .i64 ((min l.length m : Nat) : Int) := by rw [hvl]; rfl
   exact qt hnd hrun (hnext _ _ _ _ _ hK (by rw [hres]; exact .sc _) t1 t2)
  generalize hk : l.length = kk at e2
  cases e2 with
  | lst0 =>
   rename_i cap a'
   have hrun0 : (Builtin.copy_ #[t, t] o.type #[a.eval s, a.eval x]).run P w = .ok (goInt 0) w := by
    rw [hv, hu]
    cases hq : P.info? e with
    | none => simp [hq] at hz
    | some i =>
     cases a' <;> simp [Builtin.copy_, run_underlying ht, Builtin.lenOf, Builtin.firstCells, sizeOf, typeInfo, hq, storeCells, loadCells, loadCellsFrom]
   have hrun := Zfk (P := P) (a := a) (w := w) ho hrun0
   have eS : S.set id (.cells ver et cs) = S := by
    funext i
    by_cases hi : i = id
    ·subst hi; rw [Store.set_same]; exact hid.symm
    ·exact Store.set_other _ _ _ _ hi
   simp only [List.length_nil, Nat.zero_min, List.take_nil, List.drop_zero, List.nil_append, eS] at hK
   exact qt hnd hrun (hnext _ _ _ _ _ hK (.sc _) st.sim (Step.refl _ _ _))
  | lst1 hn hmx hb hM hs1 h1 h2 =>
   rename_i cap b' o' c' e' fz
   subst hk
   have hadd : ∀ j, (⟨b', o', none⟩ : Addr).add j = ⟨b', o' + j, none⟩ := by intro j; unfold Addr.add; split <;> simp_all
   have hat : ∀ (j : Nat) (v : Value), ((c'.toList.drop o').take (min l.length m))[j]? = some v → j < min l.length m ∧ c'[o' + j]? = some v := fun j v hj => by
    rw [List.getElem?_take] at hj
    split at hj
    ·rename_i hlt
     rw [List.getElem?_drop, Array.getElem?_toList] at hj
     exact ⟨hlt, hj⟩
    ·cases hj
   refine main ((c'.toList.drop o').take (min l.length m)) ⟨b', o', none⟩ cap rfl ?_ ?_ ?_ ?_
   ·rw [List.length_take, List.length_drop]
    have e9 : c'.toList.length = c'.size := Array.length_toList
    by_cases hl0 : l = []
    ·subst hl0; simp
    ·have := hs1 hl0; omega
   ·intro j v hj
    obtain ⟨q1, q2⟩ := hat j v hj
    rw [hadd]
    simp [World.cell?, hb, q2]
   ·intro v hv'
    obtain ⟨j, hj⟩ := List.getElem?_of_mem hv'
    obtain ⟨q1, q2⟩ := hat j v hj
    exact h1 j v (by omega) q2
   ·intro i p v hp hvi
    obtain ⟨q1, q2⟩ := hat i v hvi
    rw [List.getElem?_take_of_lt (by omega)] at hp
    exact h2 i p v hp q2
open Go Go.Proofs Hp
theorem Zoe (l : List Int) (i : Nat) : min (max (l.getD i 0) 0) 1000 = yB l i := by
 unfold yB; split
 ·omega
 ·split <;> omega
theorem Zof (l : List Int) : (l.flatMap Enc.enc : List PV).take 4 ++ [I 0, I 0, I 0, I 0].drop (min (l.flatMap Enc.enc : List PV).length 4) = [I (l.getD 0 0), I (l.getD 1 0), I (l.getD 2 0), I (l.getD 3 0)] := by
 match l with
 | [] => rfl
 | [a] => simp
 | [a, b] => simp
 | [a, b, c] => simp
 | a :: b :: c :: d :: r =>
  have : min (((a :: b :: c :: d :: r).flatMap Enc.enc : List PV).length) 4 = 4 := by rw [jO]; simp [Enc.sz]
  rw [this]; simp
theorem Zog (l : List Int) : Pure Tryz.prog 38 [L l] (.agg (uE (vr l) (yB l 1) (yB l 2) (yB l 3))) := by
 have c1 := Xu (l.getD 1 0) 0 1000
 have c2 := Xu (l.getD 2 0) 0 1000
 have c3 := Xu (l.getD 3 0) 0 1000
 rw [Zoe] at c1 c2 c3
 have ha := Zof l
 have hL : L l = .lst (l.flatMap Enc.enc : List PV).length (l.flatMap Enc.enc) := by
  show PV.lst l.length _ = _
  congr 1
  rw [jO]; simp [Enc.sz]
 have hsd : vr l = l.getD 0 0 := rfl
 rw [hsd, hL]
 generalize l.getD 0 0 = z0 at *
 generalize l.getD 1 0 = z1 at *
 generalize l.getD 2 0 = z2 at *
 generalize l.getD 3 0 = z3 at *
 generalize yB l 1 = t1 at *
 generalize yB l 2 = t2 at *
 generalize yB l 3 = t3 at *
 generalize (l.flatMap Enc.enc : List PV) = cs at *
 refine zv Tryz.func38 Tryz.ntmps38 Tryz.results38 fun S nx hd => ?_
 refine za (zb ?_)
 intro v0
 refine za (zb ?_)
 intro v1
 refine Zob (x := 3) (id := nx + 1) (ver := v1) rfl (by rw [yP]; rfl) fun b => ?_
 refine za (zT [] (by rfl) (by rfl) fun K Gc Gh hK hGc hGh X hX0 hX => ?_)
 simp -implicitDefEqProofs [hX0, hX]
 try clear hX0 hX X
 refine hGh _ _ _ _ _ fun hsuf => Zoc rfl Tryz.underlying120 (by simp) rfl (by rw [yP]; rfl) ?_
 refine ⟨_, _, rfl, ?_⟩
 clear hGc hGh
 clear Gc Gh
 refine zQ hsuf (D := []) (by rfl) fun Gc Gh hGc hGh X hX0 hX => ?_
 simp -implicitDefEqProofs [hX0, hX]
 clear hX0 hX X
 refine hGh _ _ _ _ _ fun hsuf => Zod (id := nx + 1) (ver := v1) rfl Tryz.underlying45 (by kernel_rfl) rfl rfl (by rw [yP]; rfl) rfl ?_
 rw [ha]
 refine ⟨_, _, yY _ (by omega) (by simp), ?_⟩
 clear hGc hGh
 clear Gc Gh
 refine zQ hsuf (D := []) (by rfl) fun Gc Gh hGc hGh X hX0 hX => ?_
 simp -implicitDefEqProofs [hX0, hX]
 clear hX0 hX X
 try simp only [Nat.add_sub_cancel_left, List.set_cons_succ, List.set_cons_zero]
 refine hK _ _ _ ?_
 clear hK hGc hGh
 clear K Gc Gh
 repeat apply za
 refine zb ?_
 refine zj (zG (fun k : Nat => 1 ≤ k ∧ k ≤ 4) (fun k => [(2, .ptr nx v0 0), (3, .ptr (nx + 1) v1 0), (4, I k)]) (fun k => [.cells v0 74 [I 0, I 0, I 0, I 0], .cells v1 120 [I z0, I (if 1 < k then t1 else z1), I (if 2 < k then t2 else z2), I (if 3 < k then t3 else z3)]]) (fun k => 4 - k) 1 [] (by simp) (by simp) (by simp) ?_)
 rintro k ⟨hk1, hk⟩
 repeat apply za
 refine zb ?_
 refine zr rfl (fun hc => ?_) (fun hc => ?_)
 ·simp at hc
  refine zh (za (zj ?_))
  obtain rfl | rfl | rfl : k = 1 ∨ k = 2 ∨ k = 3 := by omega
  ·repeat apply za
   refine zb ?_
   refine zz c1 ?_
   refine zb ?_
   exact zp 2 [] (by omega) (by omega) (by simp; exact wr 2 (by omega) (by omega)) rfl (by simp)
  ·repeat apply za
   refine zb ?_
   refine zz c2 ?_
   refine zb ?_
   exact zp 3 [] (by omega) (by omega) (by simp; exact wr 3 (by omega) (by omega)) rfl (by simp)
  ·repeat apply za
   refine zb ?_
   refine zz c3 ?_
   refine zb ?_
   exact zp 4 [] (by omega) (by omega) (by simp; exact wr 4 (by omega) (by omega)) rfl (by simp)
 ·simp at hc
  obtain rfl : k = 4 := by omega
  refine zy (za (zb ?_))
  exact zg (zk hd (by simp; rfl) rfl)
open Go Go.Proofs Hp
theorem Zoh (x : Inst) (l : List Int) (hx : InstOk x) : Pure Tryz.prog 11 [.agg (zA x), L l] (B true) := Zn1 x l hx (Zoa Zog)
end Go.Proofs.YtcnbiofjmioaiaaGreat.Pv
namespace Go.Proofs.YtcnbiofjmioaiaaGreat
open Go Go.ChangeShapes Go.WideShapes Go.ChangeAt Go.RowKit Pv
theorem Zoi (os : Os) (started : os.Started) (H : Type) (enc : TypeId × Value → H) :
  ReturnsInHanded {} Tryz.checked os 11 .any (Rows.searchAgainSpec.pre6 enc Tryz.prog Tryz.f11 Rows.searchAgainRow.domain false) (Rows.searchAgainSpec.post enc Tryz.prog Tryz.f11 false true false false) := by
 refine returnsInHanded_of_change (C := Tryz.checked) ZgA started (by kernel_rfl) Tryz.func11
  (ChangeSpec.witness6 (enc := enc) (C := Tryz.checked) false ⟨#[], #[.agg #[.int .i64 0, .int .i64 0, .int .i64 0, .int .i64 0, .slice none 0 0, .slice none 0 0], .slice none 0 0], []⟩ 8 (by kernel_rfl) (by kernel_rfl) (by kernel_rfl) (by kernel_rfl)) ?_
 intro W base args ds gs before hval0 hW hcnd _
 have hval : ∀ (j : Nat) t v, Tryz.f11.params[j]? = some t → args[j]? = some v → Value.okWide Tryz.prog W .any base t v := hval0
 have hW' := hW
 obtain ⟨p, q, hA0, hV, rfl, hfz, hnd⟩ := hW
 have hA : DataW.TrodAll enc Tryz.prog W 0 (fun _ => true) true Tryz.f11.params.toList args.toList ds p := hA0
 rw [Tryz.params11] at hA hval
 obtain ⟨v0, v1, d0, d1, p0, p1, rfl, rfl, rfl, h0, h1⟩ := trodAll_two hA
 obtain ⟨rfl, rfl⟩ := trodVars_none hV
 obtain ⟨c0, rfl, _⟩ := okWide_struct Tryz.underlying25 (hval 0 _ v0 rfl rfl)
 obtain ⟨a0, k0, r0⟩ := Zgy (Zhd W) h0
 obtain ⟨b1, n1, m1, rfl⟩ := okWide_slice Tryz.underlying45 (hval 1 _ v1 rfl rfl)
 obtain ⟨a1, k1, r1⟩ := Zgz (Zhe W) rfl h1
 have r1 := r1 _ rfl
 refine (ZgC ((Zoh a0 a1 k0)) rfl (fun i c v hc hv => ?_)).mono fun e W' hq => ?_
 ·match i with
  | 0 => cases hc; cases hv; exact r0
  | 1 => cases hc; cases hv; exact r1
  | i + 2 => cases hc
 exact ⟨_, hq.1, ZgD rfl rfl (of_decide_eq_true (by kernel_rfl)) hW' rfl rfl rfl hq.2⟩
theorem Zoj : Rows.searchAgainRow.wf (OpenSpec.ofChange Rows.searchAgainSpec) = true := by kernel_rfl
theorem Zok : Tryz.f11.params.all (Tryz.pinned.checked.prog.readableRec ·) = true := by kernel_rfl
theorem Zol : namedTie Tryz.pinned.checked.prog Rows.searchAgainRow.named Rows.searchAgainSpec.vars = true := by kernel_rfl
theorem Zom : (Rows.searchAgainRow.inPlace == Tryz.pinned.checked.prog.inPlace 11) = true := by kernel_rfl
theorem Zon : (Rows.searchAgainRow.unfollowed == Tryz.pinned.checked.prog.unfollowed 11) = true := by kernel_rfl
theorem Zoo : (Rows.searchAgainRow.recurses == Tryz.pinned.checked.prog.recurses 11) = true := by kernel_rfl
theorem Zop : (Rows.searchAgainRow.named == Tryz.pinned.checked.prog.varsNamed 11) = true := by kernel_rfl
theorem Zoq : (Rows.searchAgainRow.maps == (Tryz.f11.params.toList ++ Rows.searchAgainSpec.plain.varTypes Tryz.pinned.checked.prog).any (Tryz.pinned.checked.prog.mapsRec ·)) = true := by kernel_rfl
theorem Zor : (Rows.searchAgainRow.ifaces == (Tryz.f11.params.toList ++ Rows.searchAgainSpec.plain.varTypes Tryz.pinned.checked.prog).any (Tryz.pinned.checked.prog.ifacesRec ·)) = true := by kernel_rfl
theorem Zos : (Rows.searchAgainRow.mapsOut == Tryz.pinned.checked.prog.mapsAmong Tryz.f11.resultTypes.toList) = true := by kernel_rfl
theorem Zot : (Rows.searchAgainRow.loops == (Tryz.f11.params.toList ++ Rows.searchAgainSpec.plain.varTypes Tryz.pinned.checked.prog).any (Tryz.pinned.checked.prog.loopsFrom ·)) = true := by kernel_rfl
theorem Zou : (Rows.searchAgainRow.wideKeys == (Tryz.f11.params.toList ++ Rows.searchAgainSpec.plain.varTypes Tryz.pinned.checked.prog ++ Tryz.f11.resultTypes.toList).any (Tryz.pinned.checked.prog.wideKeysFrom ·)) = true := by kernel_rfl
theorem Zov : Rows.searchAgainSpec.vars.all (Tryz.pinned.checked.prog.varReadable ·) = true := by kernel_rfl
theorem Zow : Tryz.f11.resultTypes.all (fun t => Tryz.pinned.checked.prog.readableRec t && decide (t < Tryz.pinned.checked.prog.types.size)) = true := by kernel_rfl
theorem Zox : (Rows.searchAgainRow.ifacesOut == Tryz.f11.resultTypes.toList.any (Tryz.pinned.checked.prog.ifacesRec ·)) = true := by kernel_rfl
theorem Zoy : (Rows.searchAgainRow.loopsOut == Tryz.f11.resultTypes.toList.any (Tryz.pinned.checked.prog.loopsFrom ·)) = true := by kernel_rfl
theorem Zoz : (Rows.searchAgainRow.plainKeys == Tryz.pinned.checked.prog.plainKeys) = true := by kernel_rfl
theorem ZoA : (Rows.searchAgainRow.lifted == Tryz.pinned.checked.prog.liftsFinal) = true := by kernel_rfl
theorem ZoB : (Tryz.pinned.checked.prog.make == some Rows.searchAgainRow.make) = true := by kernel_rfl
theorem ZoC : (Rows.searchAgainRow.kinds == (if Rows.searchAgainRow.domain.isEmpty then [] else Tryz.f11.params.toList.map fun t => match Tryz.pinned.checked.prog.underlying t with | some (.int k) => some k | _ => none)) = true := by kernel_rfl
theorem ZoD : (Rows.searchAgainRow.veiled == (Tryz.f11.params.toList ++ Rows.searchAgainSpec.plain.varTypes Tryz.pinned.checked.prog ++ Tryz.f11.resultTypes.toList).any (Tryz.pinned.checked.prog.veiledRec ·)) = true := by kernel_rfl
theorem ZoE : Rows.searchAgainRow.veiledFits Tryz.pinned.checked.prog Tryz.f11.params.toList (Tryz.f11.params.toList ++ Rows.searchAgainSpec.plain.varTypes Tryz.pinned.checked.prog ++ Tryz.f11.resultTypes.toList) = true := by kernel_rfl
theorem ZoF : Tryz.pinned.checked.prog.funcNamed Rows.searchAgainRow.func = some 11 := by kernel_rfl
theorem ZoG : Tryz.f11.isInstance Tryz.pinned.checked.prog Rows.searchAgainRow.origin Rows.searchAgainRow.targs := of_decide_eq_true (by kernel_rfl)
theorem ZoH : Tryz.f11.isWrapper Tryz.pinned.checked.prog Rows.searchAgainRow.wrapper Rows.searchAgainRow.mainSum := by unfold Func.isWrapper; first | (rw [if_pos (by decide +kernel)]; kernel_rfl) | (rw [if_neg (by decide +kernel)]; exact ⟨rfl, rfl⟩)
theorem searchAgain_holds : Rows.SearchAgainSaid :=
 OpenClaim.holds_of_wide 11 Tryz.f11 rfl rfl rfl rfl rfl rfl rfl ⟨rfl, rfl, rfl, rfl, rfl⟩ rfl rfl rfl rfl rfl ZoF Tryz.func11 (ZgE Zoj ZgF ZgG Zok Zol rfl ZgH rfl ZgI Zom Zon Zoo Zop Zoq Zor Zos Zot Zou Zov Zow Zox Zoy Zoz rfl ZgJ ZgK ZoA ZoB ZoC rfl ZoD ZoE)
  ZoG ZoH
  (fun os started H enc _ => Zoi os started H enc)
end Go.Proofs.YtcnbiofjmioaiaaGreat
