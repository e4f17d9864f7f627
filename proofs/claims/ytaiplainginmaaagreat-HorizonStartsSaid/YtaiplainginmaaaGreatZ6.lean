/- Part of a proof, packed. -/
import Derived.Test.YtaiplainginmaaaGreatZ5
namespace Go.Proofs.YtaiplainginmaaaGreat.Pv
open Go
set_option maxRecDepth 20000 in
theorem ZbU (n : Nat) (hn : n < 2 ^ 64) : Pure Tryz.prog 99 [U n] (L (zS n 0 64)) := by
 have hl := uv n
 refine pwe Tryz.func99 Tryz.ntmps99 Tryz.results99 fun S nx hd => ?_
 (repeat apply za); refine pwn ?_; intros
 (repeat apply za); refine pwn ?_; intros
 refine za (yK 3 3 1 rfl fun v1 => ?_)
 repeat apply za
 refine pwn ?_
 refine pwc (Vw n hn) ?_
 intros
 (repeat apply za); refine pwn ?_; intros
 repeat apply za
 refine zh (zr (fun s : Nat × List Int × Nat => s.1 ≤ 64 ∧ s.2.1 = zS n 0 s.1) (fun (k, out, v1) => [(3, .sl nx v1 1 0 out.length), (4, L (qr n)), (5, I k)]) (fun (k, out, v1) => [.cells v1 3 (out.flatMap Enc.enc)]) (fun s => 64 - s.1) (0, [], v1) [] (by simp [zS]) (by simp) (by simp) ?_)
 rintro ⟨k, out, v1⟩ ⟨hk, ho⟩
 simp only at hk ho ⊢
 have hol : out.length ≤ k := by rw [ho]; exact vW _ _ _
 have hs := ZbT n 0 k (by omega)
 (repeat apply za); refine pwn ?_; intros
 repeat apply za
 refine zn rfl (fun hc => ?_) (fun hc => ?_)
 ·simp at hc
  have hc' : k < 64 := by omega
  obtain ⟨b, tl, a1, a2, a3, e0⟩ := el1 rfl (qr n) k (by omega)
  rw [JO n k hc'] at a1; cases a1
  have g1 : (k : Int) < 64 := by omega
  refine ze (za (zh ?_))
  repeat apply za
  refine pwN [] (jn3 e0 hl g1) ?_
  intros
  repeat apply za
  refine zn rfl (fun hb => ?_) (fun hb => ?_)
  ·have hb' : yb n k = 1 := by simp at hb; omega
   repeat apply za
   refine pwn ?_
   refine ⟨by omega, ?_⟩
   intros
   (repeat apply za); refine pwn ?_; intros
   exact zm (k + 1, out ++ [(k : Int)], v1 + 1) [] ⟨by omega, by rw [hs, if_pos hb', ho]⟩ (by simp; omega) (by simp [wrN k (by omega)]) rfl (by simp)
  ·have hb' : ¬ yb n k = 1 := by simp at hb; omega
   refine ze ?_
   (repeat apply za); refine pwn ?_; intros
   exact zm (k + 1, out, v1) [] ⟨by omega, by rw [hs, if_neg hb', ho]; simp⟩ (by simp; omega) (by simp [wrN k (by omega)]) rfl (by simp)
 ·simp at hc
  obtain rfl : k = 64 := by omega
  refine zo ?_
  (repeat apply za); refine pwn ?_; intros
  refine zL 0 rfl ?_
  repeat apply za
  exact zb (zg hd (by simp; rfl) (by simp [ho, zj]))
theorem ZbV (n : Nat) (d : Int) : zS n d.toNat 64 = (zS n 0 64).filter fun x => decide (d ≤ x) := by
 simp only [zS, List.filter_map, List.filter_filter, Nat.zero_le, decide_true, Bool.true_and]
 congr 1
 apply List.filter_congr
 intro i _
 have : (d.toNat ≤ i) = (d ≤ (i : Int)) := propext ⟨fun h => by omega, fun h => by omega⟩
 simp only [Function.comp, this]
set_option maxRecDepth 20000 in
theorem ZjF (n : Nat) (d : Int) (hn : n < 2 ^ 64) : Pure Tryz.prog 133 [U n, I d] (I (vq n d)) := by
 have hln := vW n 0 64
 have hnx : vq n d = ((zS n 0 64).filter fun x => decide (d ≤ x)).headD (-1) := by rw [vq, ZbV]
 have hall := ZbU n hn
 generalize zS n 0 64 = l at hln hnx hall
 refine pwe Tryz.func133 Tryz.ntmps133 Tryz.results133 fun S nx hd => ?_
 (repeat apply za); refine pwn ?_; intros
 repeat apply za
 refine pwn ?_
 refine pwc hall ?_
 intros
 (repeat apply za); refine pwn ?_; intros
 repeat apply za
 refine zh (zr (fun s : Nat => s ≤ l.length ∧ vq n d = ((l.drop s).filter fun x => decide (d ≤ x)).headD (-1)) (fun k => [(1, I d), (5, L l), (6, I k)]) (fun _ => []) (fun s => l.length - s) 0 [] (by simp [hnx]) (by simp) (by simp) ?_)
 rintro k ⟨hk, ho⟩
 (repeat apply za); refine pwn ?_; intros
 repeat apply za
 refine zn rfl (fun hc => ?_) (fun hc => ?_)
 ·simp at hc
  obtain ⟨e, tl, a1, a2, a3, e0⟩ := el1 rfl l k hc
  rw [a2] at ho
  refine ze (za (zh ?_))
  repeat apply za
  refine pwN [] (jn2 e0 hc) ?_
  intros
  repeat apply za
  refine zn rfl (fun h => ?_) (fun h => ?_)
  ·simp at h
   repeat apply za
   refine pwN [] (jn2 e0 hc) ?_
   intros
   repeat apply za
   exact zb (zg hd (by simp; rfl) (by rw [ho]; simp [h, zj]))
  ·simp at h
   refine ze ?_
   (repeat apply za); refine pwn ?_; intros
   exact zm (k + 1) [] ⟨hc, by rw [ho]; simp [h]⟩ (by omega) (by simp [wrN k (by omega)]) rfl (by simp)
 ·simp at hc
  obtain rfl : k = l.length := by omega
  rw [List.drop_length] at ho
  refine zo ?_
  (repeat apply za); refine pwn ?_; intros
  repeat apply za
  exact zb (zg hd (by simp; rfl) (by rw [ho]; rfl))
theorem X3 (c : Cust) (d : Int) (h : c.kind = 1) : jT c d = (zD c.demand 1 2147483648 && vX c d && xK c) := by simp [jT, h]
theorem X4 (c : Cust) (d : Int) (h : c.kind = 2) : jT c d = (zD c.rate 0 2147483648 && zD c.size 1 2147483648 && zD c.start 0 c.size && wL c && zD c.hold 0 1024 && vr c) := by simp [jT, h]
theorem ZbW (c : Cust) (d : Int) (h : ¬ c.kind = 1) (h2 : ¬ c.kind = 2) : jT c d = false := by simp [jT, h, h2]
set_option maxRecDepth 20000 in
theorem ZjG (c : Cust) (d : Int) (hp : ∀ p ∈ c.pats, p < 2 ^ 64) (hl : c.pats.length ≤ 9223372036854775807) : Pure Tryz.prog 95 [.agg (zv c), I d] (B (jT c d)) := by
 refine pwe Tryz.func95 Tryz.ntmps95 Tryz.results95 fun S nx hd => ?_
 repeat apply za
 refine pwn ?_
 intro v0
 (repeat apply za); refine pwn ?_; intros
 repeat apply za
 refine zn rfl (fun hk1 => ?_) (fun hk1 => ?_)
 ·simp at hk1
  rw [X3 c d hk1]
  by_cases h1 : c.demand < 1
  ·repeat apply za
   refine pwN [(3, 12), (8, 17), (14, 23), (20, 29), (25, 34), (30, 39), (35, 44), (40, 49)] (jn2 h1 zp) ?_
   intros
   repeat apply za
   refine zi rfl ?_
   (repeat apply za); refine pwn ?_; intros
   repeat apply za
   exact zb (zg hd rfl (by simp only [zD, show ¬ (1 ≤ c.demand ∧ c.demand ≤ 2147483648) by omega]; rfl))
  by_cases h2 : (2147483648 : Int) < c.demand
  ·repeat apply za
   refine pwN [(3, 12), (8, 17), (14, 23), (20, 29), (25, 34), (30, 39), (35, 44), (40, 49)] (jn3 h2 h1 zp) ?_
   intros
   repeat apply za
   refine zi rfl ?_
   (repeat apply za); refine pwn ?_; intros
   repeat apply za
   exact zb (zg hd rfl (by simp only [zD, show ¬ (1 ≤ c.demand ∧ c.demand ≤ 2147483648) by omega]; rfl))
  by_cases h3 : c.pats = []
  ·repeat apply za
   refine pwN [(3, 12), (8, 17), (14, 23), (20, 29), (25, 34), (30, 39), (35, 44), (40, 49)] (jn4 h3 h1 h2 zp) ?_
   intros
   repeat apply za
   refine zi rfl ?_
   (repeat apply za); refine pwn ?_; intros
   repeat apply za
   exact zb (zg hd rfl (by simp [vX, h3, zD, zj]))
  have h3' : ¬ (c.pats.length : Int) < 1 := by have := List.length_pos_iff.2 h3; omega
  by_cases h4 : (64 : Int) < (c.pats.length : Int)
  ·repeat apply za
   refine pwN [(3, 12), (8, 17), (14, 23), (20, 29), (25, 34), (30, 39), (35, 44), (40, 49)] (jn6 h4 h1 h2 h3 h3' zp) ?_
   intros
   repeat apply za
   refine zi rfl ?_
   (repeat apply za); refine pwn ?_; intros
   repeat apply za
   exact zb (zg hd rfl (by simp [vX, zD, zj, show ¬ ((c.pats.length : Int) ≤ 64) by omega]))
  by_cases h5 : c.rate = 0
  case neg =>
   repeat apply za
   refine pwN [(3, 12), (8, 17), (14, 23), (20, 29), (25, 34), (30, 39), (35, 44), (40, 49)] (jn6 h5 h1 h2 h3 h3' (jn2 h4 zp)) ?_
   intros
   repeat apply za
   refine zi rfl ?_
   (repeat apply za); refine pwn ?_; intros
   repeat apply za
   exact zb (zg hd rfl (by simp [xK, h5, zj]))
  by_cases h6 : c.size = 0
  case neg =>
   repeat apply za
   refine pwN [(3, 12), (8, 17), (14, 23), (20, 29), (25, 34), (30, 39), (35, 44), (40, 49)] (jn6 h6 h1 h2 h3 h3' (jn3 h4 h5 zp)) ?_
   intros
   repeat apply za
   refine zi rfl ?_
   (repeat apply za); refine pwn ?_; intros
   repeat apply za
   exact zb (zg hd rfl (by simp [xK, h6, zj]))
  by_cases h7 : c.start = 0
  case neg =>
   repeat apply za
   refine pwN [(3, 12), (8, 17), (14, 23), (20, 29), (25, 34), (30, 39), (35, 44), (40, 49)] (jn6 h7 h1 h2 h3 h3' (jn4 h4 h5 h6 zp)) ?_
   intros
   repeat apply za
   refine zi rfl ?_
   (repeat apply za); refine pwn ?_; intros
   repeat apply za
   exact zb (zg hd rfl (by simp [xK, h7, zj]))
  by_cases h8 : c.rule = 0
  case neg =>
   repeat apply za
   refine pwN [(3, 12), (8, 17), (14, 23), (20, 29), (25, 34), (30, 39), (35, 44), (40, 49)] (jn6 h8 h1 h2 h3 h3' (jn5 h4 h5 h6 h7 zp)) ?_
   intros
   repeat apply za
   refine zi rfl ?_
   (repeat apply za); refine pwn ?_; intros
   repeat apply za
   exact zb (zg hd rfl (by simp [xK, h8, zj]))
  by_cases h9 : c.hold = 0
  case neg =>
   repeat apply za
   refine pwN [(3, 12), (8, 17), (14, 23), (20, 29), (25, 34), (30, 39), (35, 44), (40, 49)] (jn6 h9 h1 h2 h3 h3' (jn6 h4 h5 h6 h7 h8 zp)) ?_
   intros
   repeat apply za
   refine zi rfl ?_
   (repeat apply za); refine pwn ?_; intros
   repeat apply za
   exact zb (zg hd rfl (by simp [xK, h9, zj]))
  repeat apply za
  refine pwN [(3, 12), (8, 17), (14, 23), (20, 29), (25, 34), (30, 39), (35, 44), (40, 49)] (jn6 h1 h2 h3 h3' h4 (jn5 h5 h6 h7 h8 h9)) ?_
  intros
  repeat apply za
  refine zk rfl ?_
  refine ze ?_
  have hres : (zD c.demand 1 2147483648 && vX c d && xK c) = c.pats.all fun p => decide (vq p d < 0) := by
   have e1 : zD c.demand 1 2147483648 = true := by simp [zD]; omega
   have e2 : zD c.pats.length 1 64 = true := by simp [zD]; omega
   have e3 : xK c = true := by simp [xK, h5, h6, h7, h8, h9]
   rw [e1, e3, vX, e2]; simp
  rw [hres]
  (repeat apply za); refine pwn ?_; intros
  repeat apply za
  refine zh (zr (fun s : Nat => s ≤ c.pats.length ∧ (c.pats.take s).all (fun p => decide (vq p d < 0)) = true) (fun k => [(1, I d), (2, .ptr nx v0 0), (5, I k)]) (fun _ => [.cells v0 41 (zv c)]) (fun s => c.pats.length - s) 0 [] (by simp) (by simp) (by simp) ?_)
  rintro k ⟨hk, ho⟩
  (repeat apply za); refine pwn ?_; intros
  repeat apply za
  refine zn rfl (fun hc => ?_) (fun hc => ?_)
  ·simp at hc
   obtain ⟨p, tl, a1, a2, a3, e0⟩ := el1 rfl c.pats k hc
   have hpm := List.mem_of_getElem? a1
   refine ze (za (zh ?_))
   repeat apply za
   refine pwN [] (jn2 e0 hc) ?_
   refine pwc (ZjF p d (hp p hpm)) ?_
   intros
   repeat apply za
   refine zn rfl (fun h => ?_) (fun h => ?_)
   ·simp at h
    have hr2 : (c.pats.all fun p => decide (vq p d < 0)) = false := by rw [List.all_eq_false]; exact ⟨p, hpm, by simp; omega⟩
    (repeat apply za); refine pwn ?_; intros
    repeat apply za
    exact zb (zg hd (by simp; rfl) (by simp only [hr2, zj]))
   ·simp at h
    refine ze ?_
    (repeat apply za); refine pwn ?_; intros
    exact zm (k + 1) [] ⟨hc, by rw [a3, List.all_append, ho]; simp [h]⟩ (by omega) (by simp [wrN k (by omega)]) rfl (by simp)
  ·simp at hc
   obtain rfl : k = c.pats.length := by omega
   rw [List.take_length] at ho
   refine zo ?_
   (repeat apply za); refine pwn ?_; intros
   repeat apply za
   exact zb (zg hd (by simp; rfl) (by rw [ho]; rfl))
 ·simp at hk1
  refine ze ?_
  by_cases hk2 : c.kind = 2
  ·rw [X4 c d hk2]
   by_cases h1 : 0 < c.pats.length
   ·repeat apply za
    refine pwN [(3, 72), (9, 78)] (jn3 h1 hk2 zp) ?_
    intros
    repeat apply za
    refine zi rfl ?_
    (repeat apply za); refine pwn ?_; intros
    repeat apply za
    exact zb (zg hd rfl (by simp [vr, List.ne_nil_of_length_pos h1, zj]))
   have h1' : c.pats = [] := List.eq_nil_of_length_eq_zero (by omega)
   by_cases h2 : c.demand = 0
   case neg =>
    repeat apply za
    refine pwN [(3, 72), (9, 78)] (jn4 h2 hk2 h1 zp) ?_
    intros
    repeat apply za
    refine zi rfl ?_
    (repeat apply za); refine pwn ?_; intros
    repeat apply za
    exact zb (zg hd rfl (by simp [vr, h2, zj]))
   repeat apply za
   refine pwN [(3, 72), (9, 78)] (jn3 hk2 h1 h2) ?_
   intros
   repeat apply za
   refine zk rfl ?_
   refine ze ?_
   by_cases h3 : c.rate < 0
   ·repeat apply za
    refine pwN [(3, 86), (8, 91), (13, 96), (18, 101), (23, 106)] (jn2 h3 zp) ?_
    intros
    repeat apply za
    refine zi rfl ?_
    (repeat apply za); refine pwn ?_; intros
    repeat apply za
    exact zb (zg hd rfl (by simp only [zD, show ¬ (0 ≤ c.rate ∧ c.rate ≤ 2147483648) by omega]; rfl))
   by_cases h4 : (2147483648 : Int) < c.rate
   ·repeat apply za
    refine pwN [(3, 86), (8, 91), (13, 96), (18, 101), (23, 106)] (jn3 h4 h3 zp) ?_
    intros
    repeat apply za
    refine zi rfl ?_
    (repeat apply za); refine pwn ?_; intros
    repeat apply za
    exact zb (zg hd rfl (by simp only [zD, show ¬ (0 ≤ c.rate ∧ c.rate ≤ 2147483648) by omega]; rfl))
   by_cases h5 : c.size < 1
   ·repeat apply za
    refine pwN [(3, 86), (8, 91), (13, 96), (18, 101), (23, 106)] (jn4 h5 h3 h4 zp) ?_
    intros
    repeat apply za
    refine zi rfl ?_
    (repeat apply za); refine pwn ?_; intros
    repeat apply za
    exact zb (zg hd rfl (by simp [zD, zj, show ¬ 1 ≤ c.size by omega]))
   by_cases h6 : (2147483648 : Int) < c.size
   ·repeat apply za
    refine pwN [(3, 86), (8, 91), (13, 96), (18, 101), (23, 106)] (jn5 h6 h3 h4 h5 zp) ?_
    intros
    repeat apply za
    refine zi rfl ?_
    (repeat apply za); refine pwn ?_; intros
    repeat apply za
    exact zb (zg hd rfl (by simp [zD, zj, show ¬ c.size ≤ 2147483648 by omega]))
   by_cases h7 : c.start < 0
   ·repeat apply za
    refine pwN [(3, 86), (8, 91), (13, 96), (18, 101), (23, 106)] (jn6 h7 h3 h4 h5 h6 zp) ?_
    intros
    repeat apply za
    refine zi rfl ?_
    (repeat apply za); refine pwn ?_; intros
    repeat apply za
    exact zb (zg hd rfl (by simp [zD, zj, show ¬ 0 ≤ c.start by omega]))
   by_cases h8 : c.size < c.start
   ·repeat apply za
    refine pwN [(3, 86), (8, 91), (13, 96), (18, 101), (23, 106)] (jn6 h8 h3 h4 h5 h6 (jn2 h7 zp)) ?_
    intros
    repeat apply za
    refine zi rfl ?_
    (repeat apply za); refine pwn ?_; intros
    repeat apply za
    exact zb (zg hd rfl (by simp [zD, zj, show ¬ c.start ≤ c.size by omega]))
   repeat apply za
   refine pwN [(3, 86), (8, 91), (13, 96), (18, 101), (23, 106)] (jn6 h3 h4 h5 h6 h7 h8) ?_
   intros
   repeat apply za
   refine zk rfl ?_
   refine ze ?_
   have hres : (zD c.rate 0 2147483648 && zD c.size 1 2147483648 && zD c.start 0 c.size && wL c && zD c.hold 0 1024 && vr c) = (wL c && zD c.hold 0 1024) := by
    have e1 : zD c.rate 0 2147483648 = true := by simp [zD]; omega
    have e2 : zD c.size 1 2147483648 = true := by simp [zD]; omega
    have e3 : zD c.start 0 c.size = true := by simp [zD]; omega
    have e4 : vr c = true := by simp [vr, h1', h2]
    rw [e1, e2, e3, e4]; simp
   rw [hres]
   by_cases r1 : c.rule = 1
   ·by_cases r3 : 0 ≤ c.hold
    ·repeat apply za
     refine pwN [(3, 116), (8, 121), (13, 126)] (jn3 r1 r3 zp) ?_
     intros
     repeat apply za
     exact zb (zg hd (by simp; rfl) (by simp [wL, r1, zD, r3, zj]))
    ·repeat apply za
     refine pwN [(3, 116), (8, 121), (13, 126)] (jn3 r1 r3 zp) ?_
     intros
     repeat apply za
     exact zb (zg hd (by simp; rfl) (by simp [wL, r1, zD, r3, zj]))
   ·by_cases r2 : c.rule = 2
    ·by_cases r3 : 0 ≤ c.hold
     ·repeat apply za
      refine pwN [(3, 116), (8, 121), (13, 126)] (jn4 r1 r2 r3 zp) ?_
      intros
      repeat apply za
      exact zb (zg hd (by simp; rfl) (by simp [wL, r2, zD, r3, zj]))
     ·repeat apply za
      refine pwN [(3, 116), (8, 121), (13, 126)] (jn4 r1 r2 r3 zp) ?_
      intros
      repeat apply za
      exact zb (zg hd (by simp; rfl) (by simp [wL, r2, zD, r3, zj]))
    ·repeat apply za
     refine pwN [(3, 116), (8, 121), (13, 126)] (jn3 r1 r2 zp) ?_
     intros
     repeat apply za
     exact zb (zg hd (by simp; rfl) (by simp [wL, r1, r2, zj]))
  ·rw [ZbW c d hk1 hk2]
   have hk2' : (c.kind != 2) = true := by simpa using hk2
   repeat apply za
   refine pwN [(3, 72), (9, 78)] (jn2 hk2' zp) ?_
   intros
   repeat apply za
   refine zi rfl ?_
   (repeat apply za); refine pwn ?_; intros
   repeat apply za
   exact zb (zg hd (by simp; rfl) rfl)
open Go
set_option maxRecDepth 20000 in
theorem ZjH (x : Inst) (hx : InstOk x) : Pure Tryz.prog 57 [.agg (zt x)] (B (qC x)) := by
 have hnc := hx.ncust
 refine pwe Tryz.func57 Tryz.ntmps57 Tryz.results57 fun S nx hd => ?_
 repeat apply za
 refine pwn ?_
 intro v0
 (repeat apply za); refine pwn ?_; intros
 by_cases h1 : x.days < 1
 ·repeat apply za
  refine pwN [(3, 14), (8, 19), (13, 24), (18, 29), (23, 34), (28, 39), (33, 44), (38, 49), (42, 53)] (jn2 h1 zp) ?_
  intros
  repeat apply za
  refine zi rfl ?_
  (repeat apply za); refine pwn ?_; intros
  repeat apply za
  exact zb (zg hd rfl (by simp [qC, zD, zj, show ¬ 1 ≤ x.days by omega]))
 by_cases h2 : (64 : Int) < x.days
 ·repeat apply za
  refine pwN [(3, 14), (8, 19), (13, 24), (18, 29), (23, 34), (28, 39), (33, 44), (38, 49), (42, 53)] (jn3 h2 h1 zp) ?_
  intros
  repeat apply za
  refine zi rfl ?_
  (repeat apply za); refine pwn ?_; intros
  repeat apply za
  exact zb (zg hd rfl (by simp [qC, zD, zj, show ¬ x.days ≤ 64 by omega]))
 by_cases h3 : x.veh < 0
 ·repeat apply za
  refine pwN [(3, 14), (8, 19), (13, 24), (18, 29), (23, 34), (28, 39), (33, 44), (38, 49), (42, 53)] (jn4 h3 h1 h2 zp) ?_
  intros
  repeat apply za
  refine zi rfl ?_
  (repeat apply za); refine pwn ?_; intros
  repeat apply za
  exact zb (zg hd rfl (by simp [qC, zD, zj, show ¬ 0 ≤ x.veh by omega]))
 by_cases h4 : (2147483648 : Int) < x.veh
 ·repeat apply za
  refine pwN [(3, 14), (8, 19), (13, 24), (18, 29), (23, 34), (28, 39), (33, 44), (38, 49), (42, 53)] (jn5 h4 h1 h2 h3 zp) ?_
  intros
  repeat apply za
  refine zi rfl ?_
  (repeat apply za); refine pwn ?_; intros
  repeat apply za
  exact zb (zg hd rfl (by simp [qC, zD, zj, show ¬ x.veh ≤ 2147483648 by omega]))
 by_cases h5 : x.cap < 0
 ·repeat apply za
  refine pwN [(3, 14), (8, 19), (13, 24), (18, 29), (23, 34), (28, 39), (33, 44), (38, 49), (42, 53)] (jn6 h5 h1 h2 h3 h4 zp) ?_
  intros
  repeat apply za
  refine zi rfl ?_
  (repeat apply za); refine pwn ?_; intros
  repeat apply za
  exact zb (zg hd rfl (by simp [qC, zD, zj, show ¬ 0 ≤ x.cap by omega]))
 by_cases h6 : (2147483648 : Int) < x.cap
 ·repeat apply za
  refine pwN [(3, 14), (8, 19), (13, 24), (18, 29), (23, 34), (28, 39), (33, 44), (38, 49), (42, 53)] (jn6 h6 h1 h2 h3 h4 (jn2 h5 zp)) ?_
  intros
  repeat apply za
  refine zi rfl ?_
  (repeat apply za); refine pwn ?_; intros
  repeat apply za
  exact zb (zg hd rfl (by simp [qC, zD, zj, show ¬ x.cap ≤ 2147483648 by omega]))
 by_cases h7 : x.len < 0
 ·repeat apply za
  refine pwN [(3, 14), (8, 19), (13, 24), (18, 29), (23, 34), (28, 39), (33, 44), (38, 49), (42, 53)] (jn6 h7 h1 h2 h3 h4 (jn3 h5 h6 zp)) ?_
  intros
  repeat apply za
  refine zi rfl ?_
  (repeat apply za); refine pwn ?_; intros
  repeat apply za
  exact zb (zg hd rfl (by simp [qC, zD, zj, show ¬ 0 ≤ x.len by omega]))
 by_cases h8 : (2147483648 : Int) < x.len
 ·repeat apply za
  refine pwN [(3, 14), (8, 19), (13, 24), (18, 29), (23, 34), (28, 39), (33, 44), (38, 49), (42, 53)] (jn6 h8 h1 h2 h3 h4 (jn4 h5 h6 h7 zp)) ?_
  intros
  repeat apply za
  refine zi rfl ?_
  (repeat apply za); refine pwn ?_; intros
  repeat apply za
  exact zb (zg hd rfl (by simp [qC, zD, zj, show ¬ x.len ≤ 2147483648 by omega]))
 by_cases h9 : (2000 : Int) < (x.cust.length : Int)
 ·repeat apply za
  refine pwN [(3, 14), (8, 19), (13, 24), (18, 29), (23, 34), (28, 39), (33, 44), (38, 49), (42, 53)] (jn6 h9 h1 h2 h3 h4 (jn5 h5 h6 h7 h8 zp)) ?_
  intros
  repeat apply za
  refine zi rfl ?_
  (repeat apply za); refine pwn ?_; intros
  repeat apply za
  exact zb (zg hd rfl (by simp [qC, zj, show ¬ x.cust.length ≤ 2000 by omega]))
 have w1 := wrN x.cust.length (by omega)
 have w1' : IntKind.i64.wrap ((x.cust.length : Int) + 1) = (x.cust.length : Int) + 1 := by rw [w1]; omega
 by_cases h10 : (x.dist.length : Int) = (x.cust.length : Int) + 1
 case neg =>
  repeat apply za
  refine pwN [(3, 14), (8, 19), (13, 24), (18, 29), (23, 34), (28, 39), (33, 44), (38, 49), (42, 53)] (jn6 h1 h2 h3 h4 h5 (jn6 h6 h7 h8 h9 h10 w1')) ?_
  intros
  repeat apply za
  refine zi (by simp [h10]) ?_
  (repeat apply za); refine pwn ?_; intros
  repeat apply za
  exact zb (zg hd rfl (by simp [qC, QQ, zj, show ¬ x.dist.length = x.cust.length + 1 by omega]))
 have h10' : x.dist.length = x.cust.length + 1 := by omega
 repeat apply za
 refine pwN [(3, 14), (8, 19), (13, 24), (18, 29), (23, 34), (28, 39), (33, 44), (38, 49), (42, 53)] (jn6 h1 h2 h3 h4 h5 (jn6 h6 h7 h8 h9 h10 w1')) ?_
 intros
 repeat apply za
 refine zk (by simp [h10]) ?_
 refine ze ?_
 have hres : qC x = (x.cust.all (jT · x.days) && wM (x.cust.length + 1) 0 x.dist) := by
  have e1 : zD x.days 1 64 = true := by simp [zD]; omega
  have e2 : zD x.veh 0 2147483648 = true := by simp [zD]; omega
  have e3 : zD x.cap 0 2147483648 = true := by simp [zD]; omega
  have e4 : zD x.len 0 2147483648 = true := by simp [zD]; omega
  have e5 : x.cust.length ≤ 2000 := by omega
  simp [qC, e1, e2, e3, e4, e5, QQ, h10']
 rw [hres]
 clear hres
 (repeat apply za); refine pwn ?_; intros
 repeat apply za
 refine zh (zr (fun s : Nat => s ≤ x.cust.length ∧ (x.cust.take s).all (jT · x.days) = true) (fun k => [(1, .ptr nx v0 0), (3, I x.cust.length), (4, I k)]) (fun _ => [.cells v0 25 (zt x)]) (fun s => x.cust.length - s) 0 [] (by simp) (by simp) (by simp) ?_)
 rintro k ⟨hk, ho⟩
 (repeat apply za); refine pwn ?_; intros
 repeat apply za
 refine zn rfl (fun hc => ?_) (fun hc => ?_)
 ·simp at hc
  obtain ⟨c, tl, a1, a2, a3, _, e0⟩ := el 8 rfl x.cust k hc
  have hcm := List.mem_of_getElem? a1
  have hco := hx.cust c hcm
  refine ze (za (zh ?_))
  repeat apply za
  refine pwY none (Row.pures [0, 1, 2, 3, 4, 5, 6, 7, 8] .done) mixed (jn2 hc e0) ?_
  refine pwP (ZjG c x.days hco.pats hco.npats) trivial ?_
  intros
  (repeat apply za); refine pwn ?_; intros
  cases hb : jT c x.days with
  | false =>
   have hr2 : x.cust.all (jT · x.days) = false := by rw [List.all_eq_false]; exact ⟨c, hcm, by simp [hb]⟩
   repeat apply za
   refine zi rfl ?_
   (repeat apply za); refine pwn ?_; intros
   repeat apply za
   exact zb (zg hd (by simp; rfl) (by simp only [hr2, zj, Bool.false_and]))
  | true =>
   repeat apply za
   refine zk rfl ?_
   refine ze ?_
   (repeat apply za); refine pwn ?_; intros
   exact zm (k + 1) [] ⟨hc, by rw [a3, List.all_append, ho]; simp [hb]⟩ (by omega) (by simp [wrN k (by omega)]) rfl (by simp)
 ·simp at hc
  obtain rfl : k = x.cust.length := by omega
  rw [List.take_length] at ho
  rw [ho, Bool.true_and]
  refine zo ?_
  (repeat apply za); refine pwn ?_; intros
  generalize hn : x.cust.length = n at *
  repeat apply za
  refine zh (zr (fun s : Nat => s ≤ n + 1 ∧ wM (n + 1) 0 x.dist = wM (n + 1) s (x.dist.drop s)) (fun k => [(1, .ptr nx v0 0), (3, I n), (6, I k)]) (fun _ => [.cells v0 25 (zt x)]) (fun s => n + 1 - s) 0 [] (by simp) (by simp) (by simp) ?_)
  rintro a ⟨ha, hr⟩
  (repeat apply za); refine pwn ?_; intros
  repeat apply za
  refine zn rfl (fun hc2 => ?_) (fun hc2 => ?_)
  ·simp at hc2
   have hal : a < x.dist.length := by omega
   obtain ⟨row, tl, a1, a2, a3, e0⟩ := el1 rfl x.dist a hal
   have hrow := hx.dist row (List.mem_of_getElem? a1)
   rw [a2] at hr
   simp only [wM] at hr
   have bad : (row.length = n + 1 ∧ row.getD a 0 = 0 → row.all (zD · 0 2147483648) = false) → wM (n + 1) 0 x.dist = false := by
    intro q
    rw [hr]
    by_cases q1 : row.length = n + 1
    ·by_cases q2 : row.getD a 0 = 0
     ·rw [q ⟨q1, q2⟩]; simp
     ·simp only [q2, decide_false, Bool.and_false, Bool.false_and]
    ·simp only [q1, decide_false, Bool.and_false, Bool.false_and]
   refine ze (za (zh ?_))
   by_cases h2 : row.length = n + 1
   case neg =>
    have hres := bad (fun q => absurd q.1 h2)
    have h2' : ¬ ((row.length : Int) = (n : Int) + 1) := by omega
    repeat apply za
    refine pwN [] (jn4 hal e0 h2' w1') ?_
    intros
    repeat apply za
    refine zi (by simp [h2']) ?_
    (repeat apply za); refine pwn ?_; intros
    repeat apply za
    exact zb (zg hd (by simp; rfl) (by simp only [hres, zj]))
   have h2' : ((row.length : Int) = (n : Int) + 1) := by omega
   repeat apply za
   refine pwN [] (jn4 hal e0 h2' w1') ?_
   intros
   repeat apply za
   refine zk (by simp [h2']) ?_
   refine ze ?_
   (repeat apply za); refine pwn ?_; intros
   repeat apply za
   refine zh (zr (fun s : Nat => s ≤ n + 1 ∧ (row.take s).all (zD · 0 2147483648) = true ∧ (a < s → row.getD a 0 = 0)) (fun j => [(1, .ptr nx v0 0), (3, I n), (6, I a), (7, I j)]) (fun _ => [.cells v0 25 (zt x)]) (fun s => n + 1 - s) 0 [] (by simp) (by simp) (by simp) ?_)
   rintro b ⟨hb, hr1, hr2⟩
   (repeat apply za); refine pwn ?_; intros
   repeat apply za
   refine zn rfl (fun hc3 => ?_) (fun hc3 => ?_)
   ·simp at hc3
    have hbl : b < row.length := by omega
    obtain ⟨d, tl2, b1, b2, b3, e2⟩ := el1 rfl row b hbl
    have hdm := List.mem_of_getElem? b1
    have hbn : b < n + 1 := by omega
    refine ze (za (zh ?_))
    by_cases g1 : d < 0
    ·have hres := bad (fun _ => by rw [List.all_eq_false]; exact ⟨d, hdm, by simp [zD]; omega⟩)
     repeat apply za
     refine pwN [(9, 104), (20, 115), (24, 119)] (jn6 hal e0 hbl e2 g1 zp) ?_
     intros
     repeat apply za
     refine zi rfl ?_
     (repeat apply za); refine pwn ?_; intros
     repeat apply za
     exact zb (zg hd (by simp; rfl) (by simp only [hres, zj]))
    by_cases g2 : (2147483648 : Int) < d
    ·have hres := bad (fun _ => by rw [List.all_eq_false]; exact ⟨d, hdm, by simp [zD]; omega⟩)
     repeat apply za
     refine pwN [(9, 104), (20, 115), (24, 119)] (jn6 hal e0 hbl e2 g1 (jn2 g2 zp)) ?_
     intros
     repeat apply za
     refine zi rfl ?_
     (repeat apply za); refine pwn ?_; intros
     repeat apply za
     exact zb (zg hd (by simp; rfl) (by simp only [hres, zj]))
    have hfr : zD d 0 2147483648 = true := by simp [zD]; omega
    by_cases g3 : a = b
    ·subst g3
     have hd0 : row.getD a 0 = d := by rw [List.getD_eq_getElem?_getD, b1]; rfl
     by_cases g4 : d = 0
     ·repeat apply za
      refine pwN [(9, 104), (20, 115), (24, 119)] (jn6 hal e0 hbl e2 g1 (jn2 g2 g4)) ?_
      intros
      repeat apply za
      refine zk (by simp) ?_
      refine ze ?_
      (repeat apply za); refine pwn ?_; intros
      exact zm (a + 1) [] ⟨by omega, by rw [b3, List.all_append, hr1]; simp [hfr], fun _ => hd0.trans g4⟩ (by omega) (by simp [wrN a (by omega)]) rfl (by simp)
     ·have hres := bad (fun q => absurd (hd0.symm.trans q.2) g4)
      repeat apply za
      refine pwN [(9, 104), (20, 115), (24, 119)] (jn6 hal e0 hbl e2 g1 (jn2 g2 g4)) ?_
      intros
      repeat apply za
      refine zi (by simp [g4]) ?_
      (repeat apply za); refine pwn ?_; intros
      repeat apply za
      exact zb (zg hd (by simp; rfl) (by simp only [hres, zj]))
    ·have g3' : ¬ ((a : Int) = (b : Int)) := by omega
     repeat apply za
     refine pwN [(9, 104), (20, 115), (24, 119)] (jn6 hal e0 hbl e2 g1 (jn4 g2 g3 g3' zp)) ?_
     intros
     repeat apply za
     refine zk (by simp) ?_
     refine ze ?_
     (repeat apply za); refine pwn ?_; intros
     exact zm (b + 1) [] ⟨by omega, by rw [b3, List.all_append, hr1]; simp [hfr], fun q => hr2 (by omega)⟩ (by omega) (by simp [wrN b (by omega)]) rfl (by simp)
   ·simp at hc3
    obtain rfl : b = n + 1 := by omega
    rw [List.take_of_length_le (by omega)] at hr1
    have h0 := hr2 (by omega)
    refine zo ?_
    (repeat apply za); refine pwn ?_; intros
    exact zm (a + 1) [] ⟨by omega, by rw [hr, hr1, h0]; simp [h2]⟩ (by omega) (by simp [wrN a (by omega)]) rfl (by simp)
  ·simp at hc2
   obtain rfl : a = n + 1 := by omega
   rw [List.drop_of_length_le (by omega)] at hr
   simp only [wM] at hr
   refine zo ?_
   (repeat apply za); refine pwn ?_; intros
   repeat apply za
   exact zb (zg hd (by simp; rfl) (by simp [hr, zj]))
open Go
def Yw (c : Cust) (v : List Visit) : Int := if (v.any fun s => decide (s.q ≠ c.demand)) = true then 9 else if ofD (v.map (·.d)) ∈ c.pats then 0 else 10
def x9 (x : Inst) (p : yA) (i : Nat) : Int :=
 match x.cust[i]? with
 | none => 5
 | some c => if c.kind = 2 then qB c (zK (yr i (told 0 p)) x.days) else Yw c (yr i (told 0 p))
structure Serves (x : Inst) (p : yA) : Prop where
 sz : PlanOk p
 q : ∀ s ∈ told 0 p, 0 ≤ s.1.q ∧ s.1.q ≤ 2147483648
 days : p.length ≤ 64
theorem ZbX : ∀ (p : yA) (i : Nat) (x : Stop × Nat), x ∈ told i p → i ≤ x.2 ∧ x.2 < i + p.length
 | [], _, _, h => by cases h
 | d :: p, i, x, h => by
  simp only [told, List.mem_append, List.mem_map] at h
  simp only [List.length_cons]
  rcases h with ⟨s, _, rfl⟩ | h
  ·simp only; omega
  ·have := ZbX p (i + 1) x h; omega
theorem ZjI {x : Inst} {p : yA} (h : Serves x p) (c : Int) : VisOk (yr c (told 0 p)) ∧ ∀ s ∈ yr c (told 0 p), 0 ≤ s.d ∧ s.d ≤ 63 := by
 have hd : ∀ s ∈ yr c (told 0 p), (0 ≤ s.q ∧ s.q ≤ 2147483648) ∧ 0 ≤ s.d ∧ s.d ≤ 63 := by
  intro s hs
  simp only [yr, List.mem_map, List.mem_filter] at hs
  obtain ⟨y, ⟨hy, _⟩, rfl⟩ := hs
  have h1 := h.q y hy
  have h2 := ZbX p 0 y hy
  have h3 := h.days
  simp only; omega
 exact ⟨⟨Nat.le_trans (ZbI _ _) h.sz.told, fun s hs => (hd s hs).1, fun s hs => by have := (hd s hs).2; unfold I64; omega⟩, fun s hs => (hd s hs).2⟩
structure CustsOk (x : Inst) : Prop where
 n : x.cust.length ≤ 1048576
 kind : ∀ c ∈ x.cust, c.kind = 1 ∨ c.kind = 2
 fits : ∀ c ∈ x.cust, CustFits c
 pats : ∀ c ∈ x.cust, c.pats.length ≤ 1048576
 plt : ∀ c ∈ x.cust, ∀ p ∈ c.pats, p < 2 ^ 64
open Go
theorem ZbY : ∀ (l : List Int), (∀ b ∈ l, b = 0 ∨ b = 1) → ∀ i : Nat, (qU l).toNat.testBit i = decide (l[i]? = some 1)
 | [], _, i => by simp [qU]
 | b :: l, h, i => by
  have hl : ∀ b ∈ l, b = 0 ∨ b = 1 := fun x hx => h x (by simp [hx])
  have h0 := (JM l hl).1
  have hb := h b (by simp)
  have hn : qU (b :: l) = 2 * qU l + b := rfl
  cases i with
  | zero =>
   rw [Nat.testBit_zero, hn]
   simp only [List.getElem?_cons_zero, Option.some.injEq]
   apply decide_eq_decide.2
   omega
  | succ i =>
   rw [Nat.testBit_succ, hn]
   have : (2 * qU l + b).toNat / 2 = (qU l).toNat := by omega
   rw [this, ZbY l hl i]
   simp
theorem ZB (n i : Nat) : n.testBit i = decide (yb n i = 1) := by rw [Nat.testBit_eq_decide_div_mod_eq]; rfl
theorem ZbZ (n d : Nat) (hn : n < 2 ^ 64) (hd : d < 64) : Zg n d = qO n d := by
 have h01 : ∀ b ∈ (qr n).set d 1, b = 0 ∨ b = 1 := fun b hb => by
  rcases JP hb with h | h
  ·exact JL n b h
  ·exact .inr h
 apply Nat.eq_of_testBit_eq
 intro i
 unfold Zg Z6 qO
 rw [ZbY _ h01, if_pos (by omega), Nat.testBit_or, Int.toNat_natCast, Nat.testBit_two_pow, List.getElem?_set]
 have hl := uv n
 by_cases h : d = i
 ·subst h; simp [hl, hd]
 ·rw [if_neg h]
  by_cases hi : i < 64
  ·rw [JO n i hi, ZB]
   simp [h]; omega
  ·rw [List.getElem?_eq_none (by omega)]
   have : n.testBit i = false := Nat.testBit_lt_two_pow (Nat.lt_of_lt_of_le hn (Nat.pow_le_pow_right (by decide) (by omega)))
   simp [this, h]
set_option maxRecDepth 20000 in
theorem ZjJ (x : Inst) (p : yA) (i : Nat) (h : Serves x p) (hx : CustsOk x) (hi : i < x.cust.length) : Pure Tryz.prog 59 [.agg (zt x), .agg [L p], I i] (I (x9 x p i)) := by
 obtain ⟨c, tl, a1, a2, a3, _, e0⟩ := el 8 rfl x.cust i hi
 have hcm := List.mem_of_getElem? a1
 have hres : x9 x p i = if c.kind = 2 then qB c (zK (yr i (told 0 p)) x.days) else Yw c (yr i (told 0 p)) := by simp only [x9, a1]
 rw [hres]
 have g0 : ¬ (i : Int) < 0 := by omega
 have g1 : ¬ (x.cust.length : Int) ≤ (i : Int) := by omega
 have hvi := ZjB p i h.sz
 obtain ⟨hv1, hv2⟩ := ZjI h i
 generalize yr (i : Int) (told 0 p) = v at hvi hv1 hv2
 have hvl := hv1.n
 refine pwe Tryz.func59 Tryz.ntmps59 Tryz.results59 fun S nx hd => ?_
 repeat apply za
 refine pwn ?_
 intro v0 v1
 repeat apply za
 refine pwN [(2, 14)] (jn3 g0 g1 hi) ?_
 intros
 repeat apply za
 refine zk (by simp) ?_
 refine ze ?_
 repeat apply za
 refine pwN [] (jn2 hi e0) ?_
 intro v2
 repeat apply za
 refine pwn ?_
 refine pwc hvi ?_
 intros
 (repeat apply za); refine pwn ?_; intros
 by_cases hk : c.kind = 2
 ·have hb := ZbS v x.days hv1
  have hh := X1 c (zK v x.days) (hx.fits c hcm) (by rw [ZA]; omega)
  generalize zK v x.days = q at hb hh ⊢
  repeat apply za
  refine zi (by simp [hk]) ?_
  repeat apply za
  refine pwY (some [nx, nx + 2]) (Row.pures [0, 1, 2, 3, 4, 5, 6] .done) mixed trivial ?_
  refine pwP (hb) trivial ?_
  refine pwP (hh) trivial ?_
  intros
  repeat apply za
  exact zb (zg hd (by simp; rfl) (by simp [hk, zj]))
 ·have hpl := hx.pats c hcm
  rw [if_neg hk]
  unfold Yw
  repeat apply za
  refine zk (by simp [hk]) ?_
  refine ze ?_
  (repeat apply za); refine pwn ?_; intros
  (repeat apply za); refine pwn ?_; intros
  repeat apply za
  refine zX (nx := nx) (σ := Unit) (fun _ => (v.any fun s => decide (s.q ≠ c.demand)) = false) (fun _ => [(7, .ptr (nx + 2) v2 0), (9, U (ofD (v.map (·.d))))]) (fun _ => S) (fun _ => [.cells v0 25 (zt x), .cells v1 29 [L p], .cells v2 41 (zv c)]) ?_ ?_
  ·refine zh (zr (fun s : Nat => s ≤ v.length ∧ ((v.take s).any fun s => decide (s.q ≠ c.demand)) = false) (fun k => [(7, .ptr (nx + 2) v2 0), (8, L v), (9, U (ofD ((v.map (·.d)).take k))), (10, I k)]) (fun _ => [.cells v0 25 (zt x), .cells v1 29 [L p], .cells v2 41 (zv c)]) (fun s => v.length - s) 0 [] (by simp) (by simp [ofD]) (by simp) ?_)
   rintro k ⟨hk2, ho⟩
   (repeat apply za); refine pwn ?_; intros
   repeat apply za
   refine zn rfl (fun hc1 => ?_) (fun hc1 => ?_)
   ·simp at hc1
    obtain ⟨s, tl2, b1, b2, b3, e1, e2⟩ := el 2 rfl v k hc1
    have e21 := e1 1 (by omega)
    have hs := hv2 s (List.mem_of_getElem? b1)
    have hol := Zjb ((v.map (·.d)).take k)
    refine ze (za (zh ?_))
    by_cases hq : s.q = c.demand
    ·repeat apply za
     refine pwY (some [nx + 2]) (Row.pures [0, 1, 2, 3, 4, 5, 6, 7] .done) mixed (jn3 hc1 e21 hq) ?_
     intros
     repeat apply za
     refine zk (by simp) ?_
     refine ze ?_
     obtain ⟨dn, hdn⟩ := Int.eq_ofNat_of_zero_le hs.1
     have hpt := Vy (ofD ((v.map (·.d)).take k)) s.d hol hs.1 hs.2
     rw [(JQ _ _).1, hdn, Int.toNat_natCast, ZbZ _ dn hol (by omega)] at hpt
     have hnx : qO (ofD ((v.map (·.d)).take k)) dn = ofD ((v.map (·.d)).take (k + 1)) := by rw [← List.map_take, ← List.map_take, b3]; simp [ofD, hdn]
     rw [hnx] at hpt
     repeat apply za
     refine pwN [] (jn3 hc1 e2 hdn) ?_
     refine pwc hpt ?_
     intros
     (repeat apply za); refine pwn ?_; intros
     exact zm (k + 1) [] ⟨hc1, by rw [b3, List.any_append, ho]; simp [hq]⟩ (by omega) (by simp [wrN k (by omega)]) rfl (by simp)
    ·have hany : (v.any fun s => decide (s.q ≠ c.demand)) = true := by rw [List.any_eq_true]; exact ⟨s, List.mem_of_getElem? b1, by simpa using hq⟩
     repeat apply za
     refine pwY (some [nx + 2]) (Row.pures [0, 1, 2, 3, 4, 5, 6, 7] .done) mixed (jn3 hc1 e21 hq) ?_
     intros
     repeat apply za
     refine zi (by simp [hq]) ?_
     (repeat apply za); refine pwn ?_; intros
     repeat apply za
     exact zb (zg hd (by simp; rfl) (by rw [if_pos hany]; rfl))
   ·simp at hc1
    obtain rfl : k = v.length := by omega
    rw [List.take_length] at ho
    have htl : (v.map (·.d)).take v.length = v.map (·.d) := List.take_of_length_le (by simp)
    exact zo (zy () [] ho (by simp [htl]) rfl (by simp))
  intro _ ho
  rw [ho]
  generalize ofD (v.map (·.d)) = set
  (repeat apply za); refine pwn ?_; intros
  repeat apply za
  refine zh (zr (fun s : Nat => s ≤ c.pats.length ∧ set ∉ c.pats.take s) (fun k => [(7, .ptr (nx + 2) v2 0), (9, U set), (11, I k)]) (fun _ => [.cells v0 25 (zt x), .cells v1 29 [L p], .cells v2 41 (zv c)]) (fun s => c.pats.length - s) 0 [] (by simp) (by simp) (by simp) ?_)
  rintro k ⟨hk2, hno⟩
  (repeat apply za); refine pwn ?_; intros
  repeat apply za
  refine zn rfl (fun hc1 => ?_) (fun hc1 => ?_)
  ·simp at hc1
   obtain ⟨q, tl2, b1, b2, b3, e2⟩ := el1 rfl c.pats k hc1
   refine ze (za (zh ?_))
   by_cases hq : q = set
   ·subst hq
    repeat apply za
    refine pwN [] (jn2 hc1 e2) ?_
    intros
    repeat apply za
    refine zi (by simp) ?_
    (repeat apply za); refine pwn ?_; intros
    repeat apply za
    exact zb (zg hd (by simp; rfl) (by simp [List.mem_of_getElem? b1, zj]))
   ·have hq' : ¬ ((q : Int) = (set : Int)) := by omega
    repeat apply za
    refine pwN [] (jn4 hc1 e2 hq hq') ?_
    intros
    repeat apply za
    refine zk (by simp) ?_
    refine ze ?_
    (repeat apply za); refine pwn ?_; intros
    exact zm (k + 1) [] ⟨hc1, by rw [b3]; simp; exact ⟨hno, fun e => hq e.symm⟩⟩ (by omega) (by simp [wrN k (by omega)]) rfl (by simp)
  ·simp at hc1
   obtain rfl : k = c.pats.length := by omega
   rw [List.take_length] at hno
   refine zo ?_
   (repeat apply za); refine pwn ?_; intros
   repeat apply za
   exact zb (zg hd (by simp; rfl) (by simp [hno, zj]))
open Go
def y9 : List Int → Int
 | [] => 0
 | e :: l => if e ≠ 0 then e else y9 l
theorem uL {l : List Int} (h : ∀ e ∈ l, e = 0) : y9 l = 0 := by
 induction l with
 | nil => rfl
 | cons e l ih => simp only [y9, h e (by simp), ne_eq, not_true, if_false]; exact ih fun x hx => h x (by simp [hx])
theorem X5 {l : List Int} {k : Nat} {e : Int} (h : ∀ e ∈ l.take k, e = 0) (hk : l[k]? = some e) (he : e ≠ 0) : y9 l = e := by
 induction l generalizing k with
 | nil => cases hk
 | cons a l ih =>
  cases k with
  | zero => simp at hk; subst hk; simp [y9, he]
  | succ k =>
   simp only [y9, h a (by simp), ne_eq, not_true, if_false]
   exact ih (k := k) (fun x hx => h x (by rw [List.take_succ_cons]; simp [hx])) (by simpa using hk)
theorem ZjK (l : List Int) : y9 l = 0 ↔ ∀ e ∈ l, e = 0 := by
 refine ⟨fun h => ?_, uL⟩
 induction l with
 | nil => intro e he; cases he
 | cons a l ih =>
  simp only [y9] at h
  split at h
  ·rename_i hne; exact absurd h hne
  ·rename_i hne
   intro e he
   rcases List.mem_cons.1 he with rfl | he
   ·simpa using hne
   ·exact ih h e he
def vY (x : Inst) (p : yA) : Int :=
 if qC x = false then 3 else if (p.length : Int) ≠ x.days then 1 else if y9 (p.map (zT x)) ≠ 0 then y9 (p.map (zT x)) else y9 ((List.range x.cust.length).map (x9 x p))
structure PlanSz (p : yA) : Prop where
 ok : PlanOk p
 f : ∀ d ∈ p, d.flatten.length ≤ 1048576
theorem Zb0 : ∀ (p : yA) (i : Nat) (x : Stop × Nat), x ∈ told i p → ∃ d ∈ p, x.1 ∈ d.flatten
 | [], _, _, h => by cases h
 | d :: p, i, x, h => by
  simp only [told, List.mem_append, List.mem_map] at h
  rcases h with ⟨s, hs, rfl⟩ | h
  ·exact ⟨d, by simp, hs⟩
  ·obtain ⟨d', h1, h2⟩ := Zb0 p (i + 1) x h; exact ⟨d', by simp [h1], h2⟩
theorem ZjL {x : Inst} {d : Day} (h : zT x d = 0) : ∀ s ∈ d.flatten, qf x s = true := by
 intro s hs
 obtain ⟨t, ht, hst⟩ := List.mem_flatten.1 hs
 have hm : zu x t = 0 := by
  unfold zT at h
  split at h
  ·rename_i u hu
   have := List.find?_some hu
   simp [h] at this
  ·rename_i hn
   rw [List.find?_eq_none] at hn
   simpa using hn t ht
 have : yt x t = true := by
  by_cases q : yt x t = true
  ·exact q
  ·simp [zu, q] at hm
 unfold yt at this
 simp only [Bool.and_eq_true, List.all_eq_true] at this
 exact this.1 s hst
theorem ZjM {x : Inst} {p : yA} (hp : PlanSz p) (hx : InstOk x) (hm : qC x = true) (hd : (p.length : Int) = x.days) (h0 : ∀ d ∈ p, zT x d = 0) : Serves x p := by
 have hdays : 1 ≤ x.days ∧ x.days ≤ 64 := by
  unfold qC at hm; simp only [Bool.and_eq_true] at hm
  have := hm.1.1.1.1.1.1; simpa [zD] using this
 refine ⟨hp.ok, fun s hs => ?_, by omega⟩
 obtain ⟨d, hd, hsd⟩ := Zb0 p 0 s hs
 have := ZjL (h0 d hd) s.1 hsd
 simp [qf] at this
 omega
theorem ZjN {x : Inst} (hx : InstOk x) (hm : qC x = true) : CustsOk x := by
 unfold qC at hm
 simp only [Bool.and_eq_true, decide_eq_true_eq, List.all_eq_true] at hm
 obtain ⟨⟨⟨⟨⟨⟨_, h1⟩, _⟩, _⟩, _⟩, h2⟩, _⟩ := hm
 have hk : ∀ c ∈ x.cust, c.kind = 1 ∨ c.kind = 2 := fun c hc => by
  have := h2 c hc
  by_cases k1 : c.kind = 1
  ·exact .inl k1
  ·by_cases k2 : c.kind = 2
   ·exact .inr k2
   ·rw [ZbW c _ k1 k2] at this; cases this
 refine ⟨by omega, hk, fun c hc => ?_, fun c hc => ?_, fun c hc => (hx.cust c hc).pats⟩
 ·have hb := h2 c hc
  rcases hk c hc with k | k
  ·rw [X3 c _ k] at hb
   simp only [Bool.and_eq_true, xK, decide_eq_true_eq] at hb
   obtain ⟨_, a, b, c, _⟩ := hb
   exact ⟨by omega, by omega, by omega⟩
  ·rw [X4 c _ k] at hb
   simp only [Bool.and_eq_true, zD, decide_eq_true_eq] at hb
   obtain ⟨⟨⟨⟨⟨a, b⟩, c⟩, _⟩, _⟩, _⟩ := hb
   exact ⟨by omega, by omega, by omega⟩
 ·have hb := h2 c hc
  rcases hk c hc with k | k
  ·rw [X3 c _ k] at hb
   simp only [Bool.and_eq_true, vX, zD, decide_eq_true_eq] at hb
   omega
  ·rw [X4 c _ k] at hb
   simp only [Bool.and_eq_true, vr, decide_eq_true_eq] at hb
   omega
set_option maxRecDepth 20000 in
theorem ZjO (x : Inst) (p : yA) (hx : InstOk x) (hp : PlanSz p) : Pure Tryz.prog 18 [.agg (zt x), .agg [L p]] (I (vY x p)) := by
 have hpn := hp.ok.n
 refine pwe Tryz.func18 Tryz.ntmps18 Tryz.results18 fun S nx hd => ?_
 repeat apply za
 refine pwn ?_
 intro v0 v1
 repeat apply za
 refine pwn ?_
 refine pwc (ZjH x hx) ?_
 intros
 cases hm : qC x with
 | false =>
  (repeat apply za); refine pwn ?_; intros
  repeat apply za
  refine zi rfl ?_
  (repeat apply za); refine pwn ?_; intros
  repeat apply za
  exact zb (zg hd (by simp; rfl) (by simp [vY, hm, zj]))
 | true =>
  have hcs := ZjN hx hm
  have hcn := hcs.n
  (repeat apply za); refine pwn ?_; intros
  repeat apply za
  refine zk rfl ?_
  refine ze ?_
  by_cases hpd : (p.length : Int) = x.days
  case neg =>
   repeat apply za
   refine pwN [] hpd ?_
   intros
   repeat apply za
   refine zi (by simp [hpd]) ?_
   (repeat apply za); refine pwn ?_; intros
   repeat apply za
   exact zb (zg hd (by simp; rfl) (by simp [vY, hm, hpd, zj]))
  have hres : vY x p = if y9 (p.map (zT x)) ≠ 0 then y9 (p.map (zT x)) else y9 ((List.range x.cust.length).map (x9 x p)) := by simp [vY, hm, hpd]
  repeat apply za
  refine pwN [] hpd ?_
  intros
  repeat apply za
  refine zk (by simp [hpd]) ?_
  refine ze ?_
  (repeat apply za); refine pwn ?_; intros
  repeat apply za
  refine zX (nx := nx) (σ := Unit) (fun _ => ∀ d ∈ p, zT x d = 0) (fun _ => [(2, .ptr nx v0 0), (3, .ptr (nx + 1) v1 0)]) (fun _ => S) (fun _ => [.cells v0 25 (zt x), .cells v1 29 [L p]]) ?_ ?_
  ·refine zh (zr (fun s : Nat => s ≤ p.length ∧ ∀ d ∈ p.take s, zT x d = 0) (fun k => [(2, .ptr nx v0 0), (3, .ptr (nx + 1) v1 0), (6, I k)]) (fun _ => [.cells v0 25 (zt x), .cells v1 29 [L p]]) (fun s => p.length - s) 0 [] (by simp) (by simp) (by simp) ?_)
   rintro k ⟨hk, ho⟩
   (repeat apply za); refine pwn ?_; intros
   repeat apply za
   refine zn rfl (fun hc => ?_) (fun hc => ?_)
   ·simp at hc
    obtain ⟨d, tl, a1, a2, a3, e0⟩ := el1 rfl p k hc
    have hdm := List.mem_of_getElem? a1
    refine ze (za (zh ?_))
    repeat apply za
    refine pwY (some [nx, nx + 1]) (Row.pures [0, 1, 2, 3, 4, 5, 6, 7] .done) mixed (jn2 hc e0) ?_
    refine pwP (Zfq x d hcn (hp.ok.d d hdm) (hp.ok.t d hdm) (hp.f d hdm)) trivial ?_
    intros
    by_cases h0 : zT x d = 0
    ·repeat apply za
     refine pwN [] h0 ?_
     intros
     repeat apply za
     refine zk (by simp [h0]) ?_
     refine ze ?_
     (repeat apply za); refine pwn ?_; intros
     exact zm (k + 1) [] ⟨hc, fun e he => by rw [a3] at he; rcases List.mem_append.1 he with he | he; exact ho e he; rw [List.mem_singleton.1 he]; exact h0⟩ (by omega) (by simp [wrN k (by omega)]) rfl (by simp)
    ·have hf : y9 (p.map (zT x)) = zT x d := X5 (k := k) (fun e he => by rw [← List.map_take] at he; obtain ⟨u, hu, rfl⟩ := List.mem_map.1 he; exact ho u hu) (by rw [List.getElem?_map, a1]; rfl) h0
     repeat apply za
     refine pwN [] h0 ?_
     intros
     repeat apply za
     refine zi (by simp [h0]) ?_
     (repeat apply za); refine pwn ?_; intros
     repeat apply za
     exact zb (zg hd (by simp; rfl) (by rw [hres, hf]; simp [h0, zj]))
   ·simp at hc
    obtain rfl : k = p.length := by omega
    rw [List.take_length] at ho
    exact zo (zy () [] ho (by simp) rfl (by simp))
  intro _ hall
  have hsv := ZjM hp hx hm hpd hall
  have hf0 : y9 (p.map (zT x)) = 0 := uL fun e he => by obtain ⟨u, hu, rfl⟩ := List.mem_map.1 he; exact hall u hu
  rw [hf0] at hres
  simp only [ne_eq, not_true, if_false] at hres
  rw [hres]
  (repeat apply za); refine pwn ?_; intros
  repeat apply za
  refine zh (zr (fun s : Nat => s ≤ x.cust.length ∧ ∀ i < s, x9 x p i = 0) (fun k => [(2, .ptr nx v0 0), (3, .ptr (nx + 1) v1 0), (8, I k)]) (fun _ => [.cells v0 25 (zt x), .cells v1 29 [L p]]) (fun s => x.cust.length - s) 0 [] (by simp) (by simp) (by simp) ?_)
  rintro k ⟨hk, ho⟩
  (repeat apply za); refine pwn ?_; intros
  repeat apply za
  refine zn rfl (fun hc => ?_) (fun hc => ?_)
  ·simp at hc
   refine ze (za (zh ?_))
   repeat apply za
   refine pwn ?_
   refine pwc (ZjJ x p k hsv hcs hc) ?_
   intros
   by_cases h0 : x9 x p k = 0
   ·repeat apply za
    refine pwN [] h0 ?_
    intros
    repeat apply za
    refine zk (by simp [h0]) ?_
    refine ze ?_
    (repeat apply za); refine pwn ?_; intros
    exact zm (k + 1) [] ⟨hc, fun i hi => by by_cases q : i = k; rw [q]; exact h0; exact ho i (by omega)⟩ (by omega) (by simp [wrN k (by omega)]) rfl (by simp)
   ·have hf : y9 ((List.range x.cust.length).map (x9 x p)) = x9 x p k := X5 (k := k) (fun e he => by rw [← List.map_take] at he; obtain ⟨u, hu, rfl⟩ := List.mem_map.1 he; rw [List.take_range] at hu; have := List.mem_range.1 hu; exact ho u (by omega)) (by rw [List.getElem?_map, List.getElem?_range hc]; rfl) h0
    repeat apply za
    refine pwN [] h0 ?_
    intros
    repeat apply za
    refine zi (by simp [h0]) ?_
    (repeat apply za); refine pwn ?_; intros
    repeat apply za
    exact zb (zg hd (by simp; rfl) (by rw [hf]; rfl))
  ·simp at hc
   obtain rfl : k = x.cust.length := by omega
   refine zo ?_
   (repeat apply za); refine pwn ?_; intros
   repeat apply za
   exact zb (zg hd (by simp; rfl) (by rw [uL fun e he => by obtain ⟨u, hu, rfl⟩ := List.mem_map.1 he; exact ho u (List.mem_range.1 hu)]; rfl))
open Go Go.Proofs Hp
def uM (l : List Visit) (day : Int) (i k : Nat) : List Stop := ((l.take k).filter (fun w => w.d = day)).map fun w => ⟨i, w.q⟩
def j9 (v : List (List Visit)) (day : Int) (i : Nat) : List Stop := ((v.getD i []).filter (fun w => w.d = day)).map fun w => ⟨i, w.q⟩
def yo (v : List (List Visit)) (day : Int) (n : Nat) : List Stop := (List.range n).flatMap (j9 v day)
theorem QR (v : List (List Visit)) (day : Int) (n : Nat) : yo v day (n + 1) = yo v day n ++ j9 v day n := by simp [yo, List.range_succ]
theorem ZjP (l : List Visit) (day : Int) (i : Nat) : uM l day i 0 = [] := rfl
theorem ZjQ (v : List (List Visit)) (day : Int) (i : Nat) (l : List Visit) (h : v[i]? = some l) : uM l day i l.length = j9 v day i := by
 unfold uM j9; rw [List.take_length, List.getD_eq_getElem?_getD, h]; rfl
theorem Zb1 {l : List Visit} {k : Nat} {w : Visit} (h : l[k]? = some w) (day : Int) (i : Nat) : uM l day i (k + 1) = uM l day i k ++ (if w.d = day then [⟨i, w.q⟩] else []) := by
 unfold uM
 rw [List.take_add_one, h]
 simp only [Option.toList_some, List.filter_append, List.map_append]
 split
 ·rename_i e; simp [e]
 ·rename_i e; simp [e]
structure VsOk (m n : Nat) (v : List (List Visit)) : Prop where
 len : v.length = m
 ok : ∀ l ∈ v, ∀ w ∈ l, (0 ≤ w.d ∧ w.d < n) ∧ 1 ≤ w.q ∧ w.q ≤ 2147483648
 nd : ∀ l ∈ v, (l.map (·.d)).Nodup
 few : ∀ l ∈ v, l.length ≤ 1000
theorem VsOk.at {m n : Nat} {v : List (List Visit)} (h : VsOk m n v) (i : Nat) : (∀ w ∈ v.getD i [], (0 ≤ w.d ∧ w.d < n) ∧ 1 ≤ w.q ∧ w.q ≤ 2147483648) ∧ ((v.getD i []).map (·.d)).Nodup := by
 rw [List.getD_eq_getElem?_getD]
 cases e : v[i]? with
 | none => exact ⟨by simp, by simp⟩
 | some l => exact ⟨h.ok l (List.mem_of_getElem? e), h.nd l (List.mem_of_getElem? e)⟩
theorem Zb2 {l : List Visit} (h : (l.map (·.d)).Nodup) (day : Int) : (l.filter (fun w => w.d = day)).length ≤ 1 := by
 have h1 := (List.filter_sublist (p := fun w : Visit => decide (w.d = day)) (l := l)).map (·.d)
 have h2 := h.sublist h1
 have h3 : ∀ w ∈ l.filter (fun w => w.d = day), w.d = day := fun w hw => by simpa using (List.mem_filter.1 hw).2
 generalize l.filter (fun w => decide (w.d = day)) = m at h2 h3
 match m, h2, h3 with
 | [], _, _ => simp
 | [_], _, _ => simp
 | a :: b :: m, h2, h3 =>
  exfalso
  have ea := h3 a (by simp)
  have eb := h3 b (by simp)
  simp only [List.map_cons, List.nodup_cons, List.mem_cons] at h2
  exact h2.1 (.inl (by rw [ea, eb]))
theorem Zb3 {m n : Nat} {v : List (List Visit)} (h : VsOk m n v) (day : Int) (i : Nat) : (j9 v day i).length ≤ 1 := by
 unfold j9; rw [List.length_map]; exact Zb2 (h.at i).2 day
theorem X6 {m n : Nat} {v : List (List Visit)} (h : VsOk m n v) {day : Int} {i : Nat} {s : Stop} (hs : s ∈ j9 v day i) : s.c = i ∧ 1 ≤ s.q ∧ s.q ≤ 2147483648 := by
 obtain ⟨w, hw, rfl⟩ := List.mem_map.1 hs
 exact ⟨rfl, ((h.at i).1 w (List.mem_filter.1 hw).1).2⟩
theorem QS {m n : Nat} {v : List (List Visit)} (h : VsOk m n v) (day : Int) : ∀ k : Nat, (yo v day k).length ≤ k ∧ (∀ s ∈ yo v day k, (0 ≤ s.c ∧ s.c < k) ∧ 1 ≤ s.q ∧ s.q ≤ 2147483648) ∧ ((yo v day k).map (·.c)).Nodup
 | 0 => ⟨by simp [yo], by simp [yo], by simp [yo]⟩
 | k + 1 => by
  obtain ⟨h1, h2, h3⟩ := QS h day k
  have h4 := Zb3 h day k
  have h5 : ∀ s ∈ j9 v day k, s.c = k ∧ 1 ≤ s.q ∧ s.q ≤ 2147483648 := fun s hs => X6 h hs
  rw [QR]
  refine ⟨by rw [List.length_append]; omega, fun s hs => ?_, ?_⟩
  ·rcases List.mem_append.1 hs with hs | hs
   ·have := h2 s hs; omega
   ·have := h5 s hs; omega
  ·rw [List.map_append]
   generalize j9 v day k = e at h4 h5
   match e, h4, h5 with
   | [], _, _ => simpa using h3
   | [s], _, h5 =>
    refine Z9 _ _ h3 fun hm => ?_
    obtain ⟨u, hu, e⟩ := List.mem_map.1 hm
    have q1 := h2 u hu
    have q2 := h5 s (by simp)
    have q3 : u.c = s.c := e
    omega
   | _ :: _ :: _, h4, _ => simp at h4
structure InstH (x : Inst) : Prop where
 cust : x.cust.length ≤ 1000
 diag : arc x 0 0 = 0
 arc : qJ x
 veh : 0 ≤ x.veh
theorem ZC {x : Inst} (hx : InstH x) {n : Nat} {v : List (List Visit)} (h : VsOk x.cust.length n v) (day : Int) : SOk x (yo v day x.cust.length) := by
 obtain ⟨h1, h2, h3⟩ := QS h day x.cust.length
 have := hx.cust
 exact ⟨by omega, hx.arc, hx.veh, by omega, fun s hs => by have := h2 s hs; unfold small; omega, h3⟩
def uN (x : Inst) (v : List (List Visit)) (b : Int) (n : Nat) : List (Day × Int) := (List.range n).map fun d : Nat => yT x b (yo v d x.cust.length)
def qw (x : Inst) (v : List (List Visit)) (b : Int) (n : Nat) : yA := (uN x v b n).map (·.1)
def yP (x : Inst) (v : List (List Visit)) (b : Int) (n : Nat) : List Int := (uN x v b n).map (·.2)
theorem QT (x : Inst) (v : List (List Visit)) (b : Int) (n : Nat) : (qw x v b n).length = n := by simp [qw, uN]
theorem Zb4 (x : Inst) (v : List (List Visit)) (b : Int) (n : Nat) : (yP x v b n).length = n := by simp [yP, uN]
theorem Zb5 (x : Inst) (v : List (List Visit)) (b : Int) (n : Nat) : qw x v b (n + 1) = qw x v b n ++ [(yT x b (yo v n x.cust.length)).1] := by simp [qw, uN, List.range_succ]
theorem ZjR (x : Inst) (v : List (List Visit)) (b : Int) (n : Nat) : yP x v b (n + 1) = yP x v b n ++ [(yT x b (yo v n x.cust.length)).2] := by simp [yP, uN, List.range_succ]
open Go Go.Proofs Hp
def vt (b : Int) : Int := if 20 < b then b % 21 else b
set_option maxRecDepth 20000 in
theorem ZjS (b : Int) : Pure Tryz.prog 14 [I b] (I (vt b)) := by
 unfold vt
 refine pwe Tryz.func14 Tryz.ntmps14 Tryz.results14 fun S nx hd => ?_
 (repeat apply za); refine pwn ?_; intros
 (repeat apply za); refine pwn ?_; intros
 by_cases h : 20 < b
 ·rw [if_pos h]
  have w : b.tmod 21 = b % 21 := Int.tmod_eq_emod_of_nonneg (by omega)
  repeat apply za
  refine zi (by simp [h]) ?_
  repeat apply za
  refine pwN [] w ?_
  intros
  repeat apply za
  exact zb (zg hd rfl rfl)
 ·rw [if_neg h]
  repeat apply za
  refine zk (by simp; omega) ?_
  refine ze ?_
  (repeat apply za); refine pwn ?_; intros
  repeat apply za
  exact zb (zg hd rfl rfl)
set_option maxRecDepth 20000 in
theorem ZjT (x : Inst) (v : List (List Visit)) (day : Int) (n : Nat) (hx : x.cust.length ≤ 1000) (hv : VsOk x.cust.length n v) : Pure Tryz.prog 22 [.agg (zt x), L v, I day] (L (yo v day x.cust.length)) := by
 have hvl := hv.len
 have hso := fun k => (QS hv day k).1
 have hmi : xO (x.cust.length : Int) (x.cust.length : Int) = x.cust.length := by unfold xO; simp
 refine pwe Tryz.func22 Tryz.ntmps22 Tryz.results22 fun S nx hd => ?_
 repeat apply za
 refine pwn ?_
 intro v0
 (repeat apply za); refine pwn ?_; intros
 refine za (yK 7 50 2 rfl fun v1 => ?_)
 (repeat apply za); refine pwn ?_; intros
 repeat apply za
 refine zh (zr (fun s : Nat × List Stop × Nat => s.1 ≤ x.cust.length ∧ s.2.1 = yo v day s.1) (fun (i, out, w) => [(1, L v), (2, I day), (7, .sl (nx + 1) w 2 0 out.length), (16, I x.cust.length), (17, I i)]) (fun (i, out, w) => [.cells v0 25 (zt x), .cells w 50 (out.flatMap Enc.enc)]) (fun s => x.cust.length - s.1) (0, [], v1) [] (by simp [yo]) (by simp [hvl, hmi]) (by simp) ?_)
 rintro ⟨i, out, w⟩ ⟨hi, ho⟩
 simp only at hi ho ⊢
 (repeat apply za); refine pwn ?_; intros
 repeat apply za
 refine zn rfl (fun hc => ?_) (fun hc => ?_)
 ·simp at hc
  have hiv : i < v.length := by omega
  obtain ⟨l, tl, a1, a2, a3, e0⟩ := el1 rfl v i hiv
  have hll := hv.few l (List.mem_of_getElem? a1)
  have hoi := hso i
  refine ze (za (zh ?_))
  (repeat apply za); refine pwn ?_; intros
  repeat apply za
  refine pwN [] (jn2 e0 hiv) ?_
  intros
  repeat apply za
  refine zh (zr (fun s : Nat × List Stop × Nat => s.1 ≤ l.length ∧ s.2.1 = yo v day i ++ uM l day i s.1 ∧ s.2.1.length ≤ i + s.1) (fun (k, out, w) => [(1, L v), (2, I day), (7, .sl (nx + 1) w 2 0 out.length), (8, I i), (16, I x.cust.length), (17, I i), (23, L l), (24, I l.length), (25, I k)]) (fun (k, out, w) => [.cells v0 25 (zt x), .cells w 50 (out.flatMap Enc.enc)]) (fun s => l.length - s.1) (0, out, w) [] ⟨by simp, by simp [ZjP, ho], by simp [ho]; omega⟩ (by simp) (by simp) ?_)
  clear ho
  rintro ⟨k, out, w⟩ ⟨hk, ho, hol⟩
  simp only at hk ho hol ⊢
  (repeat apply za); refine pwn ?_; intros
  repeat apply za
  refine zn rfl (fun hc2 => ?_) (fun hc2 => ?_)
  ·simp at hc2
   obtain ⟨s, tl2, b1, b2, b3, e1, e2⟩ := el 2 rfl l k hc2
   refine ze (za (zh ?_))
   repeat apply za
   refine pwN [] (jn3 e1 e2 hc2) ?_
   intro v2
   (repeat apply za); refine pwn ?_; intros
   by_cases hd : s.d = day
   ·repeat apply za
    refine zi (by simp [hd]) ?_
    repeat apply za
    refine pwn ?_
    refine ⟨by omega, ?_⟩
    intros
    (repeat apply za); refine pwn ?_; intros
    exact zm (k + 1, out ++ [⟨i, s.q⟩], w + 1) [_] ⟨hc2, by rw [Zb1 b1, if_pos hd, ho]; simp, by simp; omega⟩ (by simp; omega) (by simp [wrN k (by omega)]) rfl (by simp; rfl)
   ·repeat apply za
    refine zk (by simp [hd]) ?_
    refine ze ?_
    (repeat apply za); refine pwn ?_; intros
    exact zm (k + 1, out, w) [_] ⟨hc2, by rw [Zb1 b1, if_neg hd, ho]; simp, by dsimp only; omega⟩ (by simp; omega) (by simp [wrN k (by omega)]) rfl (by simp; rfl)
  ·simp at hc2
   obtain rfl : k = l.length := by omega
   rw [ZjQ v day i l a1, ← QR] at ho
   refine zo ?_
   (repeat apply za); refine pwn ?_; intros
   exact zm (i + 1, out, w) [] ⟨hc, ho⟩ (by simp; omega) (by simp [wrN i (by omega)]) rfl (by simp)
 ·simp at hc
  obtain rfl : i = x.cust.length := by omega
  refine zo ?_
  refine zL 1 rfl ?_
  (repeat apply za); refine pwn ?_; intros
  repeat apply za
  exact zb (zg hd (by simp; rfl) (by simp [zj, ho]))
open Go
section
variable {P : Program} {r : Rd} {n N : Nat} {Q : Exit → (Nat → PV) → Store → Prop} {F : Nat → PV} {c : Code}
theorem ZjU {S1 T : Store} {G : Nat → PV} {id ver e : Nat} {cs : List PV} (hid : S1 id = .cells ver e cs) (hT : T id = .dead) (hat : ∀ o, T o = .dead ∨ T o = S1 o ∨ T o = jo id ver cs (S1 o))
  (hG : ∀ i, G i = F i ∨ G i = yL id ver cs (F i)) (h : PW P r n N c Q G T) : PW P r n N c Q F S1 := by
 refine wX (F' := G) (S' := T) (fun C w a st => ?_) h
 have hver : ∀ o v, (T o).ver = some v → (S1 o).ver = some v := by
  intro o v hv
  rcases hat o with q | q | q
  ·rw [q] at hv; cases hv
  ·rw [q] at hv; exact hv
  ·rw [q, Vh] at hv; exact hv
 have hne : ∀ o, T o ≠ .dead → S1 o ≠ .dead := by
  intro o ho hd
  rcases hat o with q | q | q
  ·exact ho q
  ·exact ho (q.trans hd)
  ·rw [hd] at q; exact ho q
 have hM : ∀ b, C.M T b → C.M S1 b := fun b ⟨o, k, ho, hl⟩ => ⟨o, k, hne o ho, hl⟩
 have hstep : Step C S1 w C T w := ⟨rfl, ⟨rfl, Nat.le_refl _⟩, rfl, Nat.le_refl _, Nat.le_refl _, Nat.le_refl _, fun b _ hb => ⟨rfl, fun h => hb (hM b h)⟩, fun o v1 hv => .inr ⟨v1, hver o v1 hv, Nat.le_refl _, fun _ => rfl⟩⟩
 have hrel : ∀ {p u}, Rel C S1 w p u → Rel C T w (yL id ver cs p) u := fun h => Qd st.sim hid hT hne hstep h
 refine ⟨C, ⟨⟨fun o ho => st.sim.lt o (hne o ho), fun o v hv => st.sim.clk o v (hver o v hv), fun o o' b k k' ho ho' => st.sim.dist o o' b k k' (hne o ho) (hne o' ho'), ?_, ?_⟩, st.size, fun i => ?_, r.keep hstep st.v⟩, hstep⟩
 ·intro o v e' ds ho
  rcases hat o with q | q | q
  ·rw [q] at ho; cases ho
  ·rw [q] at ho
   rcases st.sim.cells o v e' ds ho with hn | ⟨b, k, c, h1, h2, h3, h4, h5, h6⟩
   ·exact .inl hn
   ·exact .inr ⟨b, k, c, h1, h2, h3, h4, h5, fun i p u hp hu => (h6 i p u hp hu).mono hstep⟩
  ·rw [q] at ho
   cases hs : S1 o with
   | dead => rw [hs] at ho; cases ho
   | map v es => rw [hs] at ho; cases ho
   | cells v2 e2 ds2 =>
    rw [hs] at ho
    cases ho
    rcases st.sim.cells o _ _ ds2 hs with ⟨h1, h2⟩ | ⟨b, k, c, h1, h2, h3, h4, h5, h6⟩
    ·exact .inl ⟨h1, by rw [h2]; rfl⟩
    ·refine .inr ⟨b, k, c, h1, h2, h3, by simpa using h4, fun i v hi hv => h5 i v (by simpa using hi) hv, fun i p u hp hu => ?_⟩
     rw [List.getElem?_map] at hp
     obtain ⟨p0, hp0, rfl⟩ := Option.map_eq_some_iff.1 hp
     exact hrel (h6 i p0 u hp0 hu)
 ·intro o v es ho
  have hs : S1 o = .map v es := by
   rcases hat o with q | q | q
   ·rw [q] at ho; cases ho
   ·rw [q] at ho; exact ho
   ·rw [q] at ho
    cases hs : S1 o with
    | dead => rw [hs] at ho; cases ho
    | map v es => rw [hs] at ho; exact ho
    | cells v2 e2 ds2 => rw [hs] at ho; cases ho
  obtain ⟨b, k, ms, cl, h1, h2, h3, h4⟩ := st.sim.maps o v es hs
  exact ⟨b, k, ms, cl, h1, h2, h3, fun i x m hx hm => ⟨(h4 i x m hx hm).1, (h4 i x m hx hm).2.mono hstep⟩⟩
 ·rcases hG i with q | q
  ·rw [q]; exact (st.fr i).mono hstep
  ·rw [q]; exact hrel (st.fr i)
def rwC {α : Type} (base sz : Nat) (ws : Nat → Nat) (rows : List (List α)) : List PV := (List.range rows.length).map fun i => .sl (base + i) (ws i) sz 0 (rows.getD i []).length
theorem ZD {α : Type} (base sz : Nat) (ws : Nat → Nat) (rows : List (List α)) : (rwC base sz ws rows).length = rows.length := by simp [rwC]
theorem Yx {α : Type} (base sz : Nat) (ws : Nat → Nat) (rows : List (List α)) (i : Nat) (h : i < rows.length) : (rwC base sz ws rows)[i]? = some (.sl (base + i) (ws i) sz 0 (rows.getD i []).length) := by
 simp [rwC, h]
theorem X7 {α : Type} (base sz : Nat) (ws : Nat → Nat) (rows : List (List α)) (i : Nat) (h : i < rows.length) : ∃ tl, (rwC base sz ws rows).drop i = .sl (base + i) (ws i) sz 0 (rows.getD i []).length :: tl := by
 refine ⟨(rwC base sz ws rows).drop (i + 1), ?_⟩
 have hl : i < (rwC base sz ws rows).length := by rw [ZD]; exact h
 rw [List.drop_eq_getElem_cons hl]
 have := Yx base sz ws rows i h
 rw [List.getElem?_eq_getElem hl] at this
 rw [Option.some.inj this]
structure RowsAt {α : Type} [Enc α] (T : Store) (A va tA base e sz : Nat) (ws : Nat → Nat) (rows : List (List α)) : Prop where
 arr : T A = .cells va tA (rwC base sz ws rows)
 row : ∀ i, i < rows.length → T (base + i) = .cells (ws i) e ((rows.getD i []).flatMap Enc.enc)
 out : A < base
theorem RowsAt.other {α : Type} [Enc α] {T T' : Store} {A va tA base e sz : Nat} {ws : Nat → Nat} {rows : List (List α)} (h : RowsAt T A va tA base e sz ws rows) (hT : ∀ o, o = A ∨ (base ≤ o ∧ o < base + rows.length) → T' o = T o) : RowsAt T' A va tA base e sz ws rows :=
 ⟨(hT A (.inl rfl)).trans h.arr, fun i hi => (hT _ (.inr ⟨by omega, by omega⟩)).trans (h.row i hi), h.out⟩
theorem RowsAt.turn {α : Type} [Enc α] {T T' : Store} {A va tA base e sz : Nat} {ws : Nat → Nat} {rows : List (List α)} (h : RowsAt T A va tA base e sz ws rows) {i : Nat} (hi : i < rows.length) (w : Nat) (l : List α)
  (hA : T' A = .cells va tA ((rwC base sz ws rows).set i (.sl (base + i) w sz 0 l.length))) (hB : T' (base + i) = .cells w e (l.flatMap Enc.enc)) (hT : ∀ o, o ≠ A → o ≠ base + i → T' o = T o) : RowsAt T' A va tA base e sz (fun k => if k = i then w else ws k) (rows.set i l) := by
 have hout := h.out
 refine ⟨?_, fun k hk => ?_, h.out⟩
 ·rw [hA]
  congr 1
  apply List.ext_getElem?
  intro k
  rw [List.getElem?_set, ZD]
  by_cases hki : i = k
  ·subst hki
   rw [if_pos rfl, if_pos hi, Yx _ _ _ _ _ (by simpa using hi)]
   simp [hi]
  ·rw [if_neg hki]
   by_cases hk : k < rows.length
   ·rw [Yx _ _ _ _ _ hk, Yx _ _ _ _ _ (by simpa using hk)]
    simp only [List.getD_eq_getElem?_getD, List.getElem?_set_ne hki, if_neg (fun e : k = i => hki e.symm)]
   ·rw [List.getElem?_eq_none (by rw [ZD]; omega), List.getElem?_eq_none (by rw [ZD]; simp; omega)]
 ·rw [List.length_set] at hk
  by_cases hki : k = i
  ·subst hki
   rw [hB, if_pos rfl]
   simp [hi]
  ·rw [hT _ (by omega) (by omega), h.row k hk, if_neg hki]
   simp only [List.getD_eq_getElem?_getD, List.getElem?_set_ne (fun e : i = k => hki e.symm)]
theorem ZjV {α : Type} (base sz : Nat) (ws : Nat → Nat) (m : Nat) : rwC (α := α) base sz ws (List.replicate m []) = (List.range m).map fun i => .sl (base + i) (ws i) sz 0 0 := by
 unfold rwC
 rw [List.length_replicate]
 refine List.map_congr_left fun i hi => ?_
 have := List.mem_range.1 hi
 simp [this]
theorem Zb6 {α : Type} [Enc α] (A va tA base e sz m : Nat) (hAb : A < base) : ∀ (j k : Nat) (T : Store) (ws : Nat → Nat), k + j = m → T A = .cells va tA ((List.range k).map (fun i => .sl (base + i) (ws i) sz 0 0) ++ List.replicate j (.sc (.slice none 0 0))) →
  (∀ i, i < k → T (base + i) = .cells (ws i) e []) → zO (base + k) T →
  (∀ (T' : Store) (ws' : Nat → Nat), RowsAt T' A va tA base e sz ws' (List.replicate m ([] : List α)) → (∀ o, o ≠ A → o < base → T' o = T o) → zO (base + m) T' → PW P r n N c Q F T') → PW P r n N c Q F T
 | 0, k, T, ws, hk, hA, hrow, hd, h => by
  obtain rfl : k = m := by omega
  refine h T ws ⟨by rw [hA, ZjV]; simp, fun i hi => ?_, hAb⟩ (fun _ _ _ => rfl) hd
  rw [List.length_replicate] at hi
  rw [hrow i hi]; simp [hi]
 | j + 1, k, T, ws, hk, hA, hrow, hd, h => by
  have hget : ((List.range k).map (fun i => PV.sl (base + i) (ws i) sz 0 0) ++ List.replicate (j + 1) (.sc (.slice none 0 0)))[k]? = some (.sc (.slice none 0 0)) := by
   rw [List.getElem?_append_right (by simp)]; simp
  refine Jv (o := A) k e sz hA hget (wh (X := fun id v => PW P r n N c Q F ((T.set id (.cells v e [])).set A (.cells va tA (((List.range k).map (fun i => PV.sl (base + i) (ws i) sz 0 0) ++ List.replicate (j + 1) (PV.sc (.slice none 0 0))).set k (.sl id v sz 0 0))))) (base + k) (hd _ (Nat.le_refl _)) fun v => ?_)
  refine Zb6 A va tA base e sz m hAb j (k + 1) _ (fun i => if i = k then v else ws i) (by omega) ?_ ?_ ?_ fun T' ws' hR hT' hd' => h T' ws' hR (fun o ho hob => ?_) hd'
  ·rw [Store.set_same]
   congr 1
   rw [List.set_append_right _ _ (by simp), List.range_succ, List.map_append]
   simp only [List.length_map, List.length_range, Nat.sub_self, List.replicate_succ, List.set_cons_zero, List.map_cons, List.map_nil, if_true]
   rw [List.append_assoc]
   congr 1
   refine List.map_congr_left fun i hi => ?_
   have := List.mem_range.1 hi
   rw [if_neg (by omega)]
  ·intro i hi
   rw [Store.set_other _ _ _ _ (by omega)]
   by_cases hik : i = k
   ·subst hik; rw [Store.set_same, if_pos rfl]
   ·rw [Store.set_other _ _ _ _ (by omega), if_neg hik]
    exact hrow i (by omega)
  ·intro i hi
   rw [Store.set_other _ _ _ _ (by omega), Store.set_other _ _ _ _ (by omega)]
   exact hd i (by omega)
  ·rw [hT' o ho hob, Store.set_other _ _ _ _ ho, Store.set_other _ _ _ _ (by omega)]
theorem ZjW {α : Type} [Enc α] (A va tA base e sz m : Nat) {T : Store} (hA : T A = .cells va tA (List.replicate m (.sc (.slice none 0 0)))) (hd : zO base T)
  (h : ∀ (T' : Store) (ws : Nat → Nat), RowsAt T' A va tA base e sz ws (List.replicate m ([] : List α)) → (∀ o, o ≠ A → o < base → T' o = T o) → zO (base + m) T' → PW P r n N c Q F T') : PW P r n N c Q F T := by
 have hAb : A < base := by
  rcases Nat.lt_or_ge A base with q | q
  ·exact q
  ·rw [hd A q] at hA; cases hA
 exact Zb6 A va tA base e sz m hAb m 0 T (fun _ => 0) (by omega) (by simpa using hA) (fun i hi => by omega) (by simpa using hd) h
theorem Zb7 {nx : Nat} {S : Store} {obs : List Ob} {id ver e0 : Nat} {cs : List PV} (i e sz : Nat) (hlt : id < nx) (hs : S id = .cells ver e0 cs) (hi : cs[i]? = some (.sc (.slice none 0 0)))
  (h : ∀ v, PW P r n N c Q F (ext (S.set id (.cells ver e0 (cs.set i (.sl (nx + obs.length) v sz 0 0)))) nx (obs ++ [.cells v e []]))) : PW P r n N c Q F (ext S nx obs) :=
 Jv (o := id) i e sz (by rw [zB hlt]; exact hs) hi (wh (X := fun id' v => PW P r n N c Q F (((ext S nx obs).set id' (.cells v e [])).set id (.cells ver e0 (cs.set i (.sl id' v sz 0 0))))) _ wv fun v => by
  rw [qE, xQ _ hlt]; exact h v)
end
open Go Go.Proofs
instance : Enc Mv := ⟨fun m => mvL m, 5, fun _ => rfl, fun _ => rfl⟩
@[simp] theorem ZnX (m : Mv) : Enc.enc m = mvL m := rfl
@[simp high] theorem ZnY (l : List Mv) : (l.flatMap Enc.enc).length = l.length * 5 := jp l
@[simp high] theorem ZnZ (l : List Mv) : (l.flatMap Enc.enc).take (l.length * 5) = l.flatMap Enc.enc := w8 l
open Go Go.Proofs Hp
abbrev plL (x : Inst) (v : PV) (b : Int) (p f pr : PV) : List PV := [I x.days, I x.veh, I x.cap, I x.len, L x.cust, L x.dist, v, I b, p, f, pr]
set_option maxRecDepth 20000 in
theorem ZjX {S : Store} {id ver idF vF : Nat} (x : Inst) (v p pr : PV) (b : Int) (fs : List Int) (hS : S id = .cells ver 87 (plL x v b p (.sl idF vF 1 0 fs.length) pr)) (hF : S idF = .cells vF 30 (fs.flatMap Enc.enc)) (hl : fs.length ≤ 1000) :
  Spec Tryz.prog 90 [.ptr id ver 0] S (fun q S' => q = I (y9 fs) ∧ S' = S) := by
 refine qp Tryz.func90 Tryz.ntmps90 Tryz.results90 fun nx hd => ?_
 have hlt : id < nx := yZ hd hS (by simp)
 have hltF : idF < nx := yZ hd hF (by simp)
 have xw := fun obs => zB (S := S) (obs := obs) hlt
 have xf := fun obs => zB (S := S) (obs := obs) hltF
 (repeat apply za); refine pwn ?_; intros
 repeat apply za
 refine pwN [] (jn2 xw hS) ?_
 intros
 repeat apply za
 refine zh (zr (fun k : Nat => k ≤ fs.length ∧ ∀ e ∈ fs.take k, e = 0) (fun k => [(8, .sl idF vF 1 0 fs.length), (9, I fs.length), (10, I k)]) (fun _ => []) (fun k => fs.length - k) 0 [] (by simp) (by simp) (by simp) ?_)
 rintro k ⟨hk, h0⟩
 (repeat apply za); refine pwn ?_; intros
 repeat apply za
 refine zn rfl (fun hc => ?_) (fun hc => ?_)
 ·simp at hc
  obtain ⟨e, tl, a1, a2, a3, e0⟩ := el1 rfl fs k hc
  refine ze (za (zh ?_))
  repeat apply za
  refine pwN [] (jn4 xf hF e0 hc) ?_
  intros
  (repeat apply za); refine pwn ?_; intros
  by_cases he : e = 0
  ·repeat apply za
   refine zk (by simp [he]) ?_
   refine ze ?_
   (repeat apply za); refine pwn ?_; intros
   exact zm (k + 1) [] ⟨hc, fun y hy => by rw [a3] at hy; rcases List.mem_append.1 hy with h | h; exact h0 y h; rw [List.mem_singleton.1 h]; exact he⟩ (by omega) (by simp [wrN k (by omega)]) rfl (by simp)
  ·repeat apply za
   refine zi (by simp [he]) ?_
   (repeat apply za); refine pwn ?_; intros
   repeat apply za
   exact zb ⟨_, S, rfl, ⟨by simp [zj, X5 h0 a1 he], rfl⟩, zE hd⟩
 ·simp at hc
  obtain rfl : k = fs.length := by omega
  rw [List.take_length] at h0
  refine zo ?_
  (repeat apply za); refine pwn ?_; intros
  repeat apply za
  exact zb ⟨_, S, rfl, ⟨by simp [zj, uL h0], rfl⟩, zE hd⟩
set_option maxRecDepth 20000 in
theorem ZjY {S : Store} {id ver idD vD idF vF : Nat} {x : Inst} {v : List (List Visit)} {b : Int} {pr : PV} {ds : yA} {fs : List Int} {n : Nat} (k : Nat) (hS : S id = .cells ver 87 (plL x (L v) b (.sl idD vD 1 0 ds.length) (.sl idF vF 1 0 fs.length) pr))
  (hD : S idD = .cells vD 66 (ds.flatMap Enc.enc)) (hF : S idF = .cells vF 30 (fs.flatMap Enc.enc)) (d1 : id ≠ idD) (d2 : id ≠ idF) (d3 : idD ≠ idF) (hx : InstH x) (hv : VsOk x.cust.length n v) (hb : b ≤ 9223372036854775807) (hdl : ds.length ≤ 1000) (hfl : fs.length ≤ 1000) :
  Spec Tryz.prog 89 [.ptr id ver 0, I k] S (fun _ S' => S' = ((S.set id (.cells ver 87 (plL x (L v) b (.sl idD (vD + 1) 1 0 (ds.length + 1)) (.sl idF (vF + 1) 1 0 (fs.length + 1)) pr))).set idD (.cells (vD + 1) 66 ((ds ++ [(yT x b (yo v k x.cust.length)).1]).flatMap Enc.enc))).set idF
   (.cells (vF + 1) 30 ((fs ++ [(yT x b (yo v k x.cust.length)).2]).flatMap Enc.enc))) := by
 have hst := ZjT x v k n hx.cust hv
 have hso := Zi9 (ZC hx hv k) hx.diag hb
 generalize yo v k x.cust.length = st at hst hso ⊢
 generalize yT x b st = r at hso ⊢
 obtain ⟨d, e⟩ := r
 simp only at hso ⊢
 refine qp Tryz.func89 Tryz.ntmps89 Tryz.results89 fun nx hd => ?_
 have hlt : id < nx := yZ hd hS (by simp)
 have hltD : idD < nx := yZ hd hD (by simp)
 have hltF : idF < nx := yZ hd hF (by simp)
 have xw := fun obs => (zB (S := S) (obs := obs) hlt).trans hS
 have xd := fun obs => (zB (S := S) (obs := obs) hltD).trans hD
 have xf := fun obs => (zB (S := S) (obs := obs) hltF).trans hF
 have g1 : ¬ nx ≤ id := by omega
 have g2 : ¬ nx ≤ idD := by omega
 have g3 : ¬ nx ≤ idF := by omega
 have yw := fun (o : Ob) obs => (zB (S := S.set idD o) (obs := obs) hlt).trans ((Store.set_other _ _ _ _ d1).trans hS)
 have zw := fun (o o' : Ob) obs => (zB (S := (S.set idD o).set id o') (obs := obs) hlt).trans (Store.set_same _ _ _)
 have zf := fun (o o' : Ob) obs => (zB (S := (S.set idD o).set id o') (obs := obs) hltF).trans ((Store.set_other _ _ _ _ d2.symm).trans ((Store.set_other _ _ _ _ d3.symm).trans hF))
 have uw := fun (o o' o'' : Ob) obs => (zB (S := ((S.set idD o).set id o').set idF o'') (obs := obs) hlt).trans ((Store.set_other _ _ _ _ d2).trans (Store.set_same _ _ _))
 repeat apply za
 refine pwY (some [id]) (Row.pures [0, 1, 2, 3, 4, 5, 6, 7, 8, 9, 10, 11, 12, 13, 14, 15, 16, 17, 18, 19, 20, 21] (.alt 22 (.alt 23 (Row.pures [24] .done) .stop) .stop)) mixed xw ?_
 refine pwP (hst) xw ?_
 refine pwP (hso) xw ?_
 intro v2
 intros
 repeat apply za
 refine pwY (some [nx]) (Row.pures [0, 1, 2, 3, 4, 6, 7] (.alt 5 (.alt 8 (Row.pures [9, 10, 11] (.alt 12 (.done) .stop)) .stop) .stop)) mixed (jn5 xw xd yw g1 g2) ?_
 refine ⟨by omega, ?_⟩
 intros
 repeat apply za
 refine pwN [] (jn5 zw zf uw g1 g3) ?_
 refine ⟨by omega, ?_⟩
 intros
 have e1 : ∀ (a b c d : Ob), (((S.set idD a).set id b).set idF c).set id d = ((S.set id d).set idD a).set idF c := by
  intro a b c d
  funext i
  simp only [Store.set]
  by_cases h1 : i = id
  ·subst h1; simp [d1, d2]
  ·simp only [h1, if_false]
 have hdd : ∀ (a b c : Ob), zO nx (((S.set id a).set idD b).set idF c) := by
  intro a b c i hi
  rw [Store.set_other _ _ _ _ (by omega), Store.set_other _ _ _ _ (by omega), Store.set_other _ _ _ _ (by omega)]
  exact hd i hi
 rw [e1]
 exact ⟨_, _, rfl, by simp, zE (hdd _ _ _)⟩
set_option maxRecDepth 20000 in
theorem ZjZ {S : Store} {id ver : Nat} (x : Inst) (v p f pr : PV) (b : Int) (fn : FuncId) (fs : List PV) (n : Nat) (hn : x.days = n) (hn2 : n ≤ 1000) (hS : S id = .cells ver 87 (plL x v b p f pr)) (St : Nat → Store) (h0 : St 0 = S)
  (hSt : ∀ nx, zO nx S → ∀ k, k ≤ n → zO nx (St k)) (hstep : ∀ k, k < n → Spec Tryz.prog fn (fs ++ [I k]) (St k) (fun _ S' => S' = St (k + 1))) :
  Spec Tryz.prog 47 [.ptr id ver 0, .fn (.func fn) fs []] S (fun _ S' => S' = St n) := by
 refine qp Tryz.func47 Tryz.ntmps47 Tryz.results47 fun nx hd => ?_
 have hlt : id < nx := yZ hd hS (by simp)
 have xw := fun obs => (zB (S := S) (obs := obs) hlt).trans hS
 have hSt := hSt nx hd
 repeat apply za
 refine pwN [] (jn2 xw hn) ?_
 intros
 repeat apply za
 refine zh (jn (σ := Nat) (fun k => k ≤ n) (fun k => [(1, .fn (.func fn) fs []), (9, I n), (10, I k)]) (fun k => St k) (fun _ => []) (fun k => n - k) (zy 0 [] (by simp) (by simp) h0 (by simp)) ?_)
 rintro k hk
 (repeat apply za); refine pwn ?_; intros
 repeat apply za
 refine zn rfl (fun hc => ?_) (fun hc => ?_)
 ·simp at hc
  refine ze (za (zh ?_))
  (repeat apply za); refine pwn ?_; intros
  repeat apply za
  refine zQ [] (by rfl) (by rfl) fun K Gc Gh hK hGc hGh X hX0 hX => ?_
  simp -implicitDefEqProofs [hX0, hX]
  try clear hX0 hX X
  refine hGc _ _ _ _ _ _ _ fun hsuf => (Spec.mono (by rw [yE (hSt k hk)]; simpa using hstep k hc) ?_).v
  rintro _ _ rfl
  refine ⟨St (k + 1), [], (yE (hSt (k + 1) hc)).symm, ?_⟩
  clear hGc hGh
  clear Gc Gh
  refine zH hsuf (D := []) (by rfl) fun Gc Gh hGc hGh X hX0 hX => ?_
  simp -implicitDefEqProofs [hX0, hX]
  clear hX0 hX X
  intros
  refine hK _ _ _ ?_
  clear hK hGc hGh
  clear K Gc Gh
  (repeat apply za); refine pwn ?_; intros
  exact zm (k + 1) [] hc (by omega) (by simp [wrN k (by omega)]) rfl (by simp)
 ·simp at hc
  obtain rfl : k = n := by omega
  refine zo ?_
  exact ⟨_, _, rfl, rfl, zE (hSt k (Nat.le_refl _))⟩
set_option maxRecDepth 20000 in
theorem Zj0 {S : Store} {nx id ver : Nat} (hd : zO nx S) {x : Inst} {v : List (List Visit)} {v0 p0 f0 pr : PV} {b : Int} {n : Nat} (hS : S id = .cells ver 87 (plL x v0 b p0 f0 pr)) (hx : InstH x) (hn : x.days = n) (hn2 : n ≤ 1000) (hv : VsOk x.cust.length n v) (hb : b ≤ 9223372036854775807) :
  Spec Tryz.prog 50 [.ptr id ver 0, L v] S (fun q S' => q = I (y9 (yP x v b n)) ∧ ∃ vD vF, S' = ext (S.set id (.cells ver 87 (plL x (L v) b (.sl nx vD 1 0 (qw x v b n).length) (.sl (nx + 1) vF 1 0 (yP x v b n).length) pr))) nx
   [.cells vD 66 ((qw x v b n).flatMap Enc.enc), .cells vF 30 ((yP x v b n).flatMap Enc.enc)]) := by
 have hpl := QT x v b
 have hfl := Zb4 x v b
 refine ut hd Tryz.func50 Tryz.ntmps50 Tryz.results50 ?_
 have hlt : id < nx := yZ hd hS (by simp)
 have g1 : ¬ nx ≤ id := by omega
 have xw := fun obs => (zB (S := S) (obs := obs) hlt).trans hS
 have yw := fun (o : Ob) obs => (zB (S := S.set id o) (obs := obs) hlt).trans (Store.set_same _ _ _)
 (repeat apply za); refine pwn ?_; intros
 repeat apply za
 refine pwN [] (jn4 xw yw g1 Store.set_set) ?_
 intros
 refine Zb7 (id := id) 8 66 1 hlt (Store.set_same _ _ _) rfl fun vD => ?_
 rw [Store.set_set]
 refine Zb7 (id := id) 9 30 1 hlt (Store.set_same _ _ _) rfl fun vF => ?_
 rw [Store.set_set]
 simp only [List.set_cons_succ, List.set_cons_zero, List.length_cons, List.length_nil, List.cons_append, List.nil_append, Nat.add_zero, Nat.zero_add]
 generalize hSt : (fun k : Nat => ext (S.set id (.cells ver 87 (plL x (L v) b (.sl nx (vD + k) 1 0 (qw x v b k).length) (.sl (nx + 1) (vF + k) 1 0 (yP x v b k).length) pr))) nx
   [.cells (vD + k) 66 ((qw x v b k).flatMap Enc.enc), .cells (vF + k) 30 ((yP x v b k).flatMap Enc.enc)]) = St
 have hSk : ∀ k, St k = ext (S.set id (.cells ver 87 (plL x (L v) b (.sl nx (vD + k) 1 0 (qw x v b k).length) (.sl (nx + 1) (vF + k) 1 0 (yP x v b k).length) pr))) nx
   [.cells (vD + k) 66 ((qw x v b k).flatMap Enc.enc), .cells (vF + k) 30 ((yP x v b k).flatMap Enc.enc)] := fun k => by rw [← hSt]
 have h0 : St 0 = ext (S.set id (.cells ver 87 (plL x (L v) b (.sl nx vD 1 0 0) (.sl (nx + 1) vF 1 0 0) pr))) nx [.cells vD 66 [], .cells vF 30 []] := hSk 0
 have hid : ∀ k, St k id = .cells ver 87 (plL x (L v) b (.sl nx (vD + k) 1 0 (qw x v b k).length) (.sl (nx + 1) (vF + k) 1 0 (yP x v b k).length) pr) := fun k => by rw [hSk k, zB hlt, Store.set_same]
 have hstep : ∀ k, k < n → Spec Tryz.prog 89 ([.ptr id ver 0] ++ [I k]) (St k) (fun _ S' => S' = St (k + 1)) := by
  intro k hk
  have h1 := hpl k
  have h2 := hfl k
  refine (ZjY (idD := nx) (idF := nx + 1) (n := n) k (hid k) (by rw [hSk k]; simp) (by rw [hSk k]; simp) (by omega) (by omega) (by omega) hx hv hb (by omega) (by omega)).mono ?_
  rintro _ _ rfl
  rw [hSk k, hSk (k + 1), xQ _ hlt, Store.set_set, qn _ (by omega) (by simp), qn _ (by omega) (by simp), Zb5, ZjR]
  simp [Nat.add_assoc]
 have hdead : ∀ m, zO m (St 0) → ∀ k, k ≤ n → zO m (St k) := by
  intro m hm k _ i hi
  have hge : nx + 1 < m := by
   rcases Nat.lt_or_ge (nx + 1) m with q | q
   ·exact q
   ·have := hm (nx + 1) q; rw [hSk 0] at this; simp at this
  rw [hSk k]
  simp only [ext]
  rw [if_neg (by omega), List.getD_eq_getElem?_getD, List.getElem?_eq_none (by simp; omega)]; rfl
 rw [← h0]
 have hn0 := hid 0
 have hnx2 : nx + 2 = nx + [Ob.cells (vD + 0) 66 ((qw x v b 0).flatMap Enc.enc), .cells (vF + 0) 30 ((yP x v b 0).flatMap Enc.enc)].length := rfl
 have hb0 : ∀ k, St k = ext (St k) (nx + 2) [] := fun k => by
  refine (yE ?_).symm
  rw [hSk k]; exact jD (obs := [_, _])
 rw [hb0 0]
 repeat apply za
 refine zQ [] (by rfl) (by rfl) fun K Gc Gh hK hGc hGh X hX0 hX => ?_
 simp -implicitDefEqProofs [hX0, hX]
 try clear hX0 hX X
 refine hGc _ _ _ _ _ _ _ fun hsuf => ((ZjZ x (L v) _ _ pr b _ _ n hn hn2 (by rw [← hb0 0]; exact hn0) St (hb0 0) (fun m hm k hk => hdead m (by rw [hb0 0]; exact hm) k hk) hstep).mono ?_).v
 rintro _ _ rfl
 refine ⟨_, _, hb0 n, ?_⟩
 clear hGc hGh
 clear Gc Gh
 refine zH hsuf (D := []) (by rfl) fun Gc Gh hGc hGh X hX0 hX => ?_
 simp -implicitDefEqProofs [hX0, hX]
 clear hX0 hX X
 intros
 refine hK _ _ _ ?_
 clear hK hGc hGh
 clear K Gc Gh
 repeat apply za
 refine zQ [] (by rfl) (by rfl) fun K Gc Gh hK hGc hGh X hX0 hX => ?_
 simp -implicitDefEqProofs [hX0, hX]
 try clear hX0 hX X
 refine hGc _ _ _ _ _ _ _ fun hsuf => ((ZjX (idF := nx + 1) x _ _ _ _ (yP x v b n) (by rw [← hb0 n]; exact hid n) (by rw [← hb0 n, hSk n]; simp) (by rw [hfl]; exact hn2)).mono ?_).v
 rintro _ _ ⟨rfl, rfl⟩
 refine ⟨_, _, rfl, ?_⟩
 clear hGc hGh
 clear Gc Gh
 refine zH hsuf (D := []) (by rfl) fun Gc Gh hGc hGh X hX0 hX => ?_
 simp -implicitDefEqProofs [hX0, hX]
 clear hX0 hX X
 intros
 refine hK _ _ _ ?_
 clear hK hGc hGh
 clear K Gc Gh
 repeat apply za
 refine zb ⟨_, St n, rfl, ⟨by simp [zj], vD + n, vF + n, hSk n⟩, fun o => .inl ?_⟩
 rw [← hb0 n]
open Go Go.Proofs Hp
theorem Zj1 (n : Nat) : qx n (.slice none 0 0) = List.replicate n (.sc (.slice none 0 0)) := by
 induction n with
 | zero => simp
 | succ n ih => rw [vA, ih]; rfl
structure RowsV (m n i : Nat) (v : List (List Visit)) : Prop where
 len : v.length = m
 ok : ∀ l ∈ v, ∀ w ∈ l, (0 ≤ w.d ∧ w.d < n) ∧ 1 ≤ w.q ∧ w.q ≤ 12
 nd : ∀ l ∈ v, (l.map (·.d)).Nodup
 few : ∀ l ∈ v, l.length ≤ i
theorem RowsV.vs {m n i : Nat} {v : List (List Visit)} (h : RowsV m n i v) (hi : i ≤ 12) : VsOk m n v :=
 ⟨h.len, fun l hl w hw => by have := h.ok l hl w hw; omega, h.nd, fun l hl => by have := h.few l hl; omega⟩
theorem RowsV.more {m n i : Nat} {v : List (List Visit)} (h : RowsV m n i v) : RowsV m n (i + 1) v := ⟨h.len, h.ok, h.nd, fun l hl => Nat.le_succ_of_le (h.few l hl)⟩
theorem RowsV.put {m n i : Nat} {v : List (List Visit)} (h : RowsV m n i v) {c : Nat} {l : List Visit} (hc : v[c]? = some l) (w : Visit) (hw : (0 ≤ w.d ∧ w.d < n) ∧ 1 ≤ w.q ∧ w.q ≤ 12) (hno : w.d ∉ l.map (·.d)) : RowsV m n (i + 1) (v.set c (l ++ [w])) := by
 have hlm := List.mem_of_getElem? hc
 refine ⟨by simp [h.len], fun k hk u hu => ?_, fun k hk => ?_, fun k hk => ?_⟩
 ·rcases List.mem_or_eq_of_mem_set hk with hk | rfl
  ·exact h.ok k hk u hu
  ·rcases List.mem_append.1 hu with hu | hu
   ·exact h.ok l hlm u hu
   ·rw [List.mem_singleton.1 hu]; exact hw
 ·rcases List.mem_or_eq_of_mem_set hk with hk | rfl
  ·exact h.nd k hk
  ·rw [List.map_append]; exact Z9 _ _ (h.nd l hlm) hno
 ·rcases List.mem_or_eq_of_mem_set hk with hk | rfl
  ·exact Nat.le_succ_of_le (h.few k hk)
  ·have := h.few l hlm; simp; omega
open Go
def Qs (q : List Int) : Prop := ∀ z ∈ q, 0 ≤ z ∧ z ≤ 2147483648
structure GoodV (n : Nat) (v : List Visit) : Prop where
 len : v.length ≤ 64
 ok : ∀ s ∈ v, (0 ≤ s.d ∧ s.d < n) ∧ 1 ≤ s.q ∧ s.q ≤ 2147483648
 nd : (v.map (·.d)).Nodup
def zG : Nat → List Int → List Visit
 | _, [] => []
 | i, z :: l => if 0 < z then ⟨i, z⟩ :: zG (i + 1) l else zG (i + 1) l
theorem QU : ∀ (l : List Int) (i : Nat), (zG i l).length ≤ l.length
 | [], _ => by simp [zG]
 | z :: l, i => by
  have := QU l (i + 1)
  simp only [zG]; split <;> simp <;> omega
theorem QV : ∀ (l : List Int) (i : Nat), Qs l → ∀ s ∈ zG i l, ((i : Int) ≤ s.d ∧ s.d < (i + l.length : Nat)) ∧ 1 ≤ s.q ∧ s.q ≤ 2147483648
 | [], _, _ => by intro s hs; cases hs
 | z :: l, i, h => by
  have ih := QV l (i + 1) fun x hx => h x (by simp [hx])
  have hz := h z (by simp)
  intro s hs
  simp only [zG] at hs
  split at hs
  ·rcases List.mem_cons.1 hs with rfl | hs
   ·simp only [List.length_cons]; omega
   ·have := ih s hs; simp only [List.length_cons]; omega
  ·have := ih s hs; simp only [List.length_cons]; omega
theorem QW : ∀ (l : List Int) (i : Nat), ∀ s ∈ zG i l, (i : Int) ≤ s.d
 | [], _ => by intro s hs; cases hs
 | z :: l, i => by
  have ih := QW l (i + 1)
  intro s hs
  simp only [zG] at hs
  split at hs
  ·rcases List.mem_cons.1 hs with rfl | hs
   ·exact Int.le_refl _
   ·have := ih s hs; omega
  ·have := ih s hs; omega
theorem Zb8 : ∀ (l : List Int) (i : Nat), ((zG i l).map (·.d)).Nodup
 | [], _ => by simp [zG]
 | z :: l, i => by
  have ih := Zb8 l (i + 1)
  simp only [zG]
  split
  ·rw [List.map_cons, List.nodup_cons]
   refine ⟨fun h => ?_, ih⟩
   obtain ⟨s, hs, e⟩ := List.mem_map.1 h
   have := QW l (i + 1) s hs
   simp only at e; omega
  ·exact ih
theorem Zj2 (n a k : Nat) : (zS n a k).Nodup := by
 unfold zS
 refine List.Pairwise.map _ (fun x y (h : x ≠ y) => ?_) (List.Pairwise.filter _ List.nodup_range)
 intro e; apply h; omega
theorem QX {q : List Int} {n : Nat} (hq : Qs q) (hl : q.length ≤ n) (hn : n ≤ 64) : GoodV n (zG 0 q) := by
 refine ⟨Nat.le_trans (QU q 0) (by omega), fun s hs => ?_, Zb8 q 0⟩
 have := QV q 0 hq s hs
 omega
set_option maxRecDepth 20000 in
theorem X8 (q : List Int) (hq : q.length ≤ 1048576) : Pure Tryz.prog 63 [L q] (L (zG 0 q)) := by
 refine pwe Tryz.func63 Tryz.ntmps63 Tryz.results63 fun S nx hd => ?_
 (repeat apply za); refine pwn ?_; intros
 (repeat apply za); refine pwn ?_; intros
 refine za (yK 3 103 2 rfl fun v1 => ?_)
 (repeat apply za); refine pwn ?_; intros
 repeat apply za
 refine zh (zr (fun s : Nat × List Visit × Nat => s.1 ≤ q.length ∧ s.2.1.length ≤ s.1 ∧ zG 0 q = s.2.1 ++ zG s.1 (q.drop s.1)) (fun (k, out, v1) => [(0, L q), (3, .sl nx v1 2 0 out.length), (4, I k)]) (fun (k, out, v1) => [.cells v1 103 (out.flatMap Enc.enc)]) (fun s => q.length - s.1) (0, [], v1) [] (by simp) (by simp) (by simp) ?_)
 rintro ⟨k, out, v1⟩ ⟨hk, hol, ho⟩
 simp only at hk hol ho ⊢
 (repeat apply za); refine pwn ?_; intros
 repeat apply za
 refine zn rfl (fun hc => ?_) (fun hc => ?_)
 ·simp at hc
  obtain ⟨z, tl, a1, a2, a3, e0⟩ := el1 rfl q k hc
  rw [a2] at ho
  simp only [zG] at ho
  refine ze (za (zh ?_))
  by_cases h : 0 < z
  ·rw [if_pos h] at ho
   repeat apply za
   refine pwN [] (jn2 e0 hc) ?_
   intros
   repeat apply za
   refine zi (by simp [h]) ?_
   repeat apply za
   refine pwN [] (jn2 e0 hc) ?_
   refine ⟨by omega, ?_⟩
   intros
   (repeat apply za); refine pwn ?_; intros
   exact zm (k + 1, out ++ [⟨k, z⟩], v1 + 1) [] ⟨hc, by simp; omega, by rw [ho]; simp⟩ (by simp; omega) (by simp [wrN k (by omega)]) rfl (by simp)
  ·rw [if_neg h] at ho
   repeat apply za
   refine pwN [] (jn2 e0 hc) ?_
   intros
   repeat apply za
   refine zk (by simp; omega) ?_
   refine ze ?_
   (repeat apply za); refine pwn ?_; intros
   exact zm (k + 1, out, v1) [] ⟨hc, Nat.le_succ_of_le hol, ho⟩ (by simp; omega) (by simp [wrN k (by omega)]) rfl (by simp)
 ·simp at hc
  obtain rfl : k = q.length := by omega
  rw [List.drop_length] at ho
  simp only [zG, List.append_nil] at ho
  refine zo ?_
  (repeat apply za); refine pwn ?_; intros
  refine zL 0 rfl ?_
  repeat apply za
  exact zb (zg hd (by simp; rfl) (by rw [ho]; simp [zj]))
set_option maxRecDepth 20000 in
theorem Zj3 (l : List Int) (d : Int) : RSpec Tryz.prog 132 [L l, I d] (fun p => ∃ z, p = I z) := by
 refine vG Tryz.func132 Tryz.ntmps132 Tryz.results132 fun S nx hd => ?_
 (repeat apply za); refine pwn ?_; intros
 by_cases h1 : d < 0
 ·repeat apply za
  refine pwN [(2, 7)] (jn2 h1 zp) ?_
  intros
  repeat apply za
  refine zi rfl ?_
  (repeat apply za); refine pwn ?_; intros
  repeat apply za
  exact zb ⟨_, S, (by simp; rfl), ⟨⟨0, rfl⟩, rfl⟩, zE hd⟩
 by_cases h2 : (l.length : Int) ≤ d
 ·repeat apply za
  refine pwN [(2, 7)] (jn2 h1 h2) ?_
  intros
  repeat apply za
  refine zi rfl ?_
  (repeat apply za); refine pwn ?_; intros
  repeat apply za
  exact zb ⟨_, S, (by simp; rfl), ⟨⟨0, rfl⟩, rfl⟩, zE hd⟩
 obtain ⟨k, rfl⟩ := Int.eq_ofNat_of_zero_le (show 0 ≤ d by omega)
 obtain ⟨z, tl, a1, a2, a3, e0⟩ := el1 rfl l k (by omega)
 have hk : k < l.length := by omega
 repeat apply za
 refine pwN [(2, 7)] (jn2 h1 h2) ?_
 intros
 repeat apply za
 refine zk rfl ?_
 refine ze ?_
 repeat apply za
 refine pwN [] (jn2 hk e0) ?_
 intros
 repeat apply za
 exact zb ⟨_, S, (by simp; rfl), ⟨⟨z, rfl⟩, rfl⟩, zE hd⟩
set_option maxRecDepth 20000 in
theorem Zb9 (c : Cust) (n : Int) (l : List Int) (v : List Visit) (hc : CustFits c) (hv : VisOk v) : RSpec Tryz.prog 93 [.agg (zv c), I n, L l, L v] (fun p => ∃ z, p = I z) := by
 have hvn := hv.n
 have hb := ZbS v n hv
 have hbn : (zK v n).length ≤ 1048576 := by rw [ZA]; omega
 generalize zK v n = q at hb hbn
 have hni := ZbR c q hc hbn
 have hnl : (yd c q).1.length ≤ 1048576 := by
  unfold yd
  split
  ·simp
  ·cases h : zR c.size c.rate c.start q with
   | none => simp
   | some l => simp [X0 h]; exact hbn
 have hhe := Zjz c (yd c q).1 hnl
 generalize Zz c (yd c q).1 = hz at hhe
 generalize yd c q = ne at hni hhe
 obtain ⟨ns, er⟩ := ne
 simp only at hni hhe
 refine vG Tryz.func93 Tryz.ntmps93 Tryz.results93 fun S nx hd => ?_
 repeat apply za
 refine pwn ?_
 intro v0
 (repeat apply za); refine pwn ?_; intros
 (repeat apply za); refine pwn ?_; intros
 repeat apply za
 refine zX (nx := nx) (σ := Int) (fun _ => True) (fun z => [(1, I n), (3, L v), (4, .ptr nx v0 0), (9, I z)]) (fun _ => S) (fun _ => [.cells v0 41 (zv c)]) ?_ ?_
 ·refine zh (zr (fun s : Nat × Int => s.1 ≤ v.length) (fun (k, z) => [(1, I n), (2, L l), (3, L v), (4, .ptr nx v0 0), (9, I z), (10, I k)]) (fun _ => [.cells v0 41 (zv c)]) (fun s => v.length - s.1) (0, 0) [] (by simp) (by simp) (by simp) ?_)
  rintro ⟨k, z⟩ hk
  simp only at hk ⊢
  (repeat apply za); refine pwn ?_; intros
  repeat apply za
  refine zn rfl (fun hc1 => ?_) (fun hc1 => ?_)
  ·simp at hc1
   obtain ⟨s, tl, a1, a2, a3, _, e0⟩ := el 2 rfl v k hc1
   refine ze (za (zh ?_))
   repeat apply za
   refine zQ [] (by rfl) (by rfl) fun K Gc Gh hK hGc hGh X hX0 hX => ?_
   simp -implicitDefEqProofs [hX0, hX, hc1, e0]
   try clear hX0 hX X
   refine hGc _ _ _ _ _ _ _ fun hsuf => ((Zj3 l s.d _).mono ?_).v
   rintro _ _ ⟨⟨y, rfl⟩, rfl⟩
   refine ⟨_, _, rfl, ?_⟩
   clear hGc hGh
   clear Gc Gh
   refine zH hsuf (D := []) (by rfl) fun Gc Gh hGc hGh X hX0 hX => ?_
   simp -implicitDefEqProofs [hX0, hX]
   try clear hX0 hX X
   intros
   refine hK _ _ _ ?_
   clear hK hGc hGh
   clear K Gc Gh
   (repeat apply za); refine pwn ?_; intros
   exact zm (k + 1, IntKind.i64.wrap (z + y)) [] hc1 (by simp; omega) (by simp [wrN k (by omega)]) rfl (by simp)
  ·simp at hc1
   exact zo (zy z [] trivial (by simp) rfl (by simp))
 intro z _
 (repeat apply za); refine pwn ?_; intros
 refine zX (nx := nx) (σ := Int) (fun _ => True) (fun z => [(9, I z)]) (fun _ => S) (fun _ => []) ?_ ?_
 ·repeat apply za
  refine zn rfl (fun hk => ?_) (fun hk => ?_)
  ·repeat apply za
   refine pwY (some [nx]) (Row.pures [0, 1, 2, 3, 4, 5, 6, 7, 8, 9] .done) mixed trivial ?_
   refine pwP (hb) trivial ?_
   refine pwP (hni) trivial ?_
   intros
   repeat apply za
   refine pwn ?_
   refine pwc hhe ?_
   intros
   exact zy (IntKind.i64.wrap (z + hz)) [_] trivial (by simp) rfl rfl
  ·refine ze ?_
   exact zy z [_] trivial (by simp) rfl rfl
 intro z _
 (repeat apply za); refine pwn ?_; intros
 repeat apply za
 exact zb ⟨_, S, (by simp; rfl), ⟨⟨z, rfl⟩, rfl⟩, zE hd⟩
def yV (c : Cust) (p : Nat) : List Visit := (zS p 0 64).map fun d => ⟨d, c.demand⟩
set_option maxRecDepth 20000 in
theorem Zj4 (c : Cust) (p : Nat) (hp : p < 2 ^ 64) : Pure Tryz.prog 61 [.agg (zv c), U p] (L (yV c p)) := by
 have hall := ZbU p hp
 have hln := vW p 0 64
 unfold yV
 generalize zS p 0 64 = l at hall hln
 refine pwe Tryz.func61 Tryz.ntmps61 Tryz.results61 fun S nx hd => ?_
 repeat apply za
 refine pwn ?_
 intro v0
 (repeat apply za); refine pwn ?_; intros
 refine za (yK 5 103 2 rfl fun v1 => ?_)
 repeat apply za
 refine pwn ?_
 refine pwc hall ?_
 intros
 (repeat apply za); refine pwn ?_; intros
 repeat apply za
 refine zh (zr (fun s : Nat × List Visit × Nat => s.1 ≤ l.length ∧ s.2.1 = (l.take s.1).map fun d => ⟨d, c.demand⟩) (fun (k, out, v1) => [(2, .ptr nx v0 0), (5, .sl (nx + 1) v1 2 0 out.length), (6, L l), (7, I k)]) (fun (k, out, v1) => [.cells v0 41 (zv c), .cells v1 103 (out.flatMap Enc.enc)]) (fun s => l.length - s.1) (0, [], v1) [] (by simp) (by simp) (by simp) ?_)
 rintro ⟨k, out, v1⟩ ⟨hk, ho⟩
 simp only at hk ho ⊢
 have hol : out.length = k := by rw [ho]; simp; omega
 (repeat apply za); refine pwn ?_; intros
 repeat apply za
 refine zn rfl (fun hc => ?_) (fun hc => ?_)
 ·simp at hc
  obtain ⟨d, tl, a1, a2, a3, e0⟩ := el1 rfl l k hc
  refine ze (za (zh ?_))
  repeat apply za
  refine pwY (some [nx]) (Row.pures [0, 1, 2, 3, 4, 5, 6, 7, 8] (.alt 9 (Row.pures [10] .done) .stop)) mixed (jn2 e0 hc) ?_
  refine ⟨by omega, ?_⟩
  intros
  (repeat apply za); refine pwn ?_; intros
  exact zm (k + 1, out ++ [⟨d, c.demand⟩], v1 + 1) [] ⟨hc, by rw [a3, ho]; simp⟩ (by simp; omega) (by simp [wrN k (by omega)]) rfl (by simp)
 ·simp at hc
  obtain rfl : k = l.length := by omega
  rw [List.take_length] at ho
  refine zo ?_
  (repeat apply za); refine pwn ?_; intros
  refine zL 1 rfl ?_
  repeat apply za
  exact zb (zg hd (by simp; rfl) (by rw [ho]; simp [zj]))
open Go
structure CustMade (c : Cust) (n : Nat) : Prop where
 fits : CustFits c
 pats : ∀ p ∈ c.pats, p < 2 ^ 64
 npats : c.pats.length ≤ 1048576
 per : c.kind = 1 → (∀ p ∈ c.pats, ∀ d ∈ zS p 0 64, d < n) ∧ 1 ≤ c.demand ∧ c.demand ≤ 2147483648
open Go
theorem Zca {α : Type} (l : List α) : l = [] ∨ ∃ m x, l = m ++ [x] := by
 rcases List.eq_nil_or_concat l with h | ⟨m, x, h⟩
 ·exact .inl h
 ·exact .inr ⟨m, x, by rw [h, List.concat_eq_append]⟩
def ZE (x : Inst) (d : Day) (s : Stop) (join : Bool) : Day :=
 match d.reverse with
 | t :: r => if join = true ∧ zu x (t ++ [s]) = 0 then r.reverse ++ [t ++ [s]] else d ++ [[s]]
 | [] => [[s]]
theorem Zcb (x : Inst) (s : Stop) (j : Bool) : ZE x [] s j = [[s]] := rfl
theorem Zcc (x : Inst) (d : Day) (t : zq) (s : Stop) (j : Bool) : ZE x (d ++ [t]) s j = if j = true ∧ zu x (t ++ [s]) = 0 then d ++ [t ++ [s]] else (d ++ [t]) ++ [[s]] := by simp [ZE]
theorem Zcd (x : Inst) (d : Day) (s : Stop) (j : Bool) : (ZE x d s j).flatten = d.flatten ++ [s] := by
 rcases Zca d with rfl | ⟨d', t, rfl⟩
 ·simp [Zcb]
 ·rw [Zcc]; split <;> simp
theorem Zj5 (x : Inst) (d : Day) (s : Stop) (j : Bool) (h : ∀ t ∈ d, t ≠ []) : ∀ t ∈ ZE x d s j, t ≠ [] := by
 rcases Zca d with rfl | ⟨d', t, rfl⟩
 ·simp [Zcb]
 ·rw [Zcc]
  split
  ·intro u hu
   rcases List.mem_append.1 hu with hu | hu
   ·exact h u (by simp [hu])
   ·rw [List.mem_singleton.1 hu]; simp
  ·intro u hu
   rcases List.mem_append.1 hu with hu | hu
   ·exact h u hu
   ·rw [List.mem_singleton.1 hu]; simp
theorem Zj6 {α : Type} [Enc α] (h1 : Enc.sz α = 1) (l : List α) (k : Nat) (v : α) (h : k < l.length) : zP (l.flatMap Enc.enc) k (Enc.enc v) = (l.set k v).flatMap Enc.enc := by
 have e1 : (l.flatMap Enc.enc).take k = (l.take k).flatMap Enc.enc := by
  have := vB (α := α) Enc.enc (Enc.sz α) Enc.len l k; rwa [h1, Nat.mul_one] at this
 have e2 : (l.flatMap Enc.enc).drop (k + 1) = (l.drop (k + 1)).flatMap Enc.enc := by
  have := u6 (α := α) Enc.enc (Enc.sz α) Enc.len l (k + 1); rwa [h1, Nat.mul_one] at this
 rw [zP, Enc.len, h1, e1, e2, List.set_eq_take_append_cons_drop, if_pos h]
 simp
open Go Go.Proofs Hp
def RowOf (S : Store) (pl : PV) (l : List Int) : Prop := pl = L l ∨ ∃ id ver, pl = .sl id ver 1 0 l.length ∧ S id = .cells ver 3 (l.flatMap Enc.enc)
theorem RowOf.ext {S : Store} {pl : PV} {l : List Int} (h : RowOf S pl l) {nx : Nat} (hd : zO nx S) (obs : List Ob) : RowOf (ext S nx obs) pl l := by
 rcases h with h | ⟨id, ver, h1, h2⟩
 ·exact .inl h
 ·exact .inr ⟨id, ver, h1, (zB (yZ hd h2 (by simp))).trans h2⟩
set_option maxRecDepth 20000 in
theorem Zce {S : Store} {nx id ver : Nat} (hd : zO nx S) (x : Inst) (v p f pr : PV) (b : Int) (fn : FuncId) (fs : List PV) (n : Nat) (hn : x.days = n) (hn2 : n ≤ 1000) (hS : S id = .cells ver 87 (plL x v b p f pr)) (Pk : Nat → Store → Prop) (h0 : Pk 0 S)
  (hPd : ∀ k T, Pk k T → zO nx T) (hstep : ∀ k, k < n → ∀ T, Pk k T → Spec Tryz.prog fn (fs ++ [I k]) T (fun _ S' => Pk (k + 1) S')) :
  Spec Tryz.prog 47 [.ptr id ver 0, .fn (.func fn) fs []] S (fun _ S' => Pk n S') := by
 refine ut hd Tryz.func47 Tryz.ntmps47 Tryz.results47 ?_
 have hlt : id < nx := yZ hd hS (by simp)
 have xw := fun obs => (zB (S := S) (obs := obs) hlt).trans hS
 repeat apply za
 refine pwN [] (jn2 xw hn) ?_
 intros
 repeat apply za
 refine zh (jn (σ := Nat × Store) (fun s => s.1 ≤ n ∧ Pk s.1 s.2) (fun s => [(1, .fn (.func fn) fs []), (9, I n), (10, I s.1)]) (fun s => s.2) (fun _ => []) (fun s => n - s.1) (zy (0, S) [] ⟨by simp, h0⟩ (by simp) rfl (by simp)) ?_)
 rintro ⟨k, T⟩ ⟨hk, hP⟩
 simp only at hk hP ⊢
 (repeat apply za); refine pwn ?_; intros
 repeat apply za
 refine zn rfl (fun hc => ?_) (fun hc => ?_)
 ·simp at hc
  refine ze (za (zh ?_))
  (repeat apply za); refine pwn ?_; intros
  repeat apply za
  refine zQ [] (by rfl) (by rfl) fun K Gc Gh hK hGc hGh X hX0 hX => ?_
  simp -implicitDefEqProofs [hX0, hX]
  try clear hX0 hX X
  refine hGc _ _ _ _ _ _ _ fun hsuf => (Spec.mono (by rw [yE (hPd k T hP)]; simpa using hstep k hc T hP) ?_).v
  rintro _ T' hP'
  refine ⟨T', [], (yE (hPd _ _ hP')).symm, ?_⟩
  clear hGc hGh
  clear Gc Gh
  refine zH hsuf (D := []) (by rfl) fun Gc Gh hGc hGh X hX0 hX => ?_
  simp -implicitDefEqProofs [hX0, hX]
  clear hX0 hX X
  intros
  refine hK _ _ _ ?_
  clear hK hGc hGh
  clear K Gc Gh
  (repeat apply za); refine pwn ?_; intros
  exact zm (k + 1, T') [] ⟨hc, hP'⟩ (by simp; omega) (by simp [wrN k (by omega)]) rfl (by simp)
 ·simp at hc
  obtain rfl : k = n := by omega
  refine zo ?_
  exact ⟨_, T, rfl, hP, zE (hPd _ _ hP)⟩
def wd (x : Inst) (j : Nat) : Int := W (zF x [(j : Int)])
def qk (x : Inst) (k i : Nat) : List (List Int) := (List.range x.cust.length).map fun j => List.replicate (if j < i then k + 1 else k) (wd x j)
theorem wN (x : Inst) (k i : Nat) : (qk x k i).length = x.cust.length := by simp [qk]
theorem Zcf (x : Inst) (k i j : Nat) (h : j < x.cust.length) : (qk x k i).getD j [] = List.replicate (if j < i then k + 1 else k) (wd x j) := by
 rw [List.getD_eq_getElem?_getD]; simp [qk, h]
theorem Zj7 (x : Inst) (k : Nat) : qk x k x.cust.length = qk x (k + 1) 0 := by
 unfold qk
 refine List.map_congr_left fun j hj => ?_
 rw [if_pos (List.mem_range.1 hj), if_neg (by omega)]
theorem Zj8 (x : Inst) (k i : Nat) (h : i < x.cust.length) : (qk x k i).set i (List.replicate (k + 1) (wd x i)) = qk x k (i + 1) := by
 apply List.ext_getElem?
 intro j
 rw [List.getElem?_set, wN]
 by_cases hij : i = j
 ·subst hij; rw [if_pos rfl, if_pos h]; simp [qk, h]
 ·rw [if_neg hij]
  by_cases hj : j < x.cust.length
  ·simp only [qk, List.getElem?_map, List.getElem?_range hj, Option.map_some]
   congr 2
   by_cases h1 : j < i
   ·rw [if_pos h1, if_pos (by omega)]
   ·rw [if_neg h1, if_neg (by omega)]
  ·rw [List.getElem?_eq_none (by rw [wN]; omega), List.getElem?_eq_none (by rw [wN]; omega)]
set_option maxRecDepth 20000 in
theorem Zj9 {S : Store} {id ver A va base : Nat} {ws : Nat → Nat} {x : Inst} {v p f : PV} {b : Int} (k : Nat) (hx : x.cust.length ≤ 1000) (hk : k ≤ 1000) (hid : id < base) (hidA : id ≠ A) (hS : S id = .cells ver 87 (plL x v b p f (.sl A va 1 0 x.cust.length)))
  (hR : RowsAt S A va 54 base 3 1 ws (qk x k 0)) :
  Spec Tryz.prog 48 [.ptr id ver 0, I k] S (fun _ S' => (∃ ws', RowsAt S' A va 54 base 3 1 ws' (qk x (k + 1) 0)) ∧ ∀ o, o ≠ A → (o < base ∨ base + x.cust.length ≤ o) → S' o = S o) := by
 refine qp Tryz.func48 Tryz.ntmps48 Tryz.results48 fun nx hd => ?_
 have hlt : id < nx := yZ hd hS (by simp)
 have hltA : A < nx := yZ hd hR.arr (by simp)
 have hltR : ∀ i, i < x.cust.length → base + i < nx := fun i hi => yZ hd (hR.row i (by rw [wN]; exact hi)) (by simp)
 have xw := fun obs => (zB (S := S) (obs := obs) hlt).trans hS
 repeat apply za
 refine pwN [] xw ?_
 intros
 repeat apply za
 refine zh (jn (σ := Nat × Store × (Nat → Nat)) (fun s => s.1 ≤ x.cust.length ∧ RowsAt s.2.1 A va 54 base 3 1 s.2.2 (qk x k s.1) ∧ ∀ o, o ≠ A → (o < base ∨ base + x.cust.length ≤ o) → s.2.1 o = S o)
  (fun s => [(0, .ptr id ver 0), (10, I x.cust.length), (11, I s.1)]) (fun s => s.2.1) (fun _ => []) (fun s => x.cust.length - s.1) (zy (0, S, ws) [] ⟨by simp, hR, fun _ _ _ => rfl⟩ (by simp) rfl (by simp)) ?_)
 clear hR
 rintro ⟨i, T, ws⟩ ⟨hi, hR, hT⟩
 simp only at hi hR hT ⊢
 (repeat apply za); refine pwn ?_; intros
 repeat apply za
 refine zn rfl (fun hc => ?_) (fun hc => ?_)
 ·simp at hc
  have hTw : T id = .cells ver 87 (plL x v b p f (.sl A va 1 0 x.cust.length)) := (hT id hidA (.inl hid)).trans hS
  have hAb := hR.out
  have hri := hR.row i (by rw [wN]; exact hc)
  rw [Zcf x k i i hc, if_neg (Nat.lt_irrefl i)] at hri
  have hlti := hltR i hc
  have xw := fun obs => (zB (S := T) (obs := obs) hlt).trans hTw
  have xa := fun obs => (zB (S := T) (obs := obs) hltA).trans hR.arr
  have xr := fun obs => (zB (S := T) (obs := obs) hlti).trans hri
  have ya := fun (o : Ob) obs => (zB (S := T.set (base + i) o) (obs := obs) hltA).trans ((Store.set_other _ _ _ _ (by omega)).trans hR.arr)
  have yw := fun (o : Ob) obs => (zB (S := T.set (base + i) o) (obs := obs) hlt).trans ((Store.set_other _ _ _ _ (by omega)).trans hTw)
  have zw := fun (o o' : Ob) obs => (zB (S := (T.set (base + i) o).set A o') (obs := obs) hlt).trans ((Store.set_other _ _ _ _ hidA).trans ((Store.set_other _ _ _ _ (by omega)).trans hTw))
  have g1 : ¬ nx ≤ base + i := by omega
  have g2 : ¬ nx ≤ A := by omega
  obtain ⟨tl, hdr⟩ := X7 base 1 ws (qk x k i) i (by rw [wN]; exact hc)
  rw [Zcf x k i i hc, if_neg (Nat.lt_irrefl i), List.length_replicate] at hdr
  have hcl : (rwC base 1 ws (qk x k i)).length = x.cust.length := by rw [ZD, wN]
  have hsp := Xd (rwC base 1 ws (qk x k i)) i (.sl (base + i) (ws i + 1) 1 0 (k + 1)) (by omega)
  have hway := VE x [(i : Int)] (by simp) (fun c hc => by rw [List.mem_singleton.1 hc]; unfold small; omega)
  have hfe : ∀ m : Nat, ((List.replicate m (wd x i)).flatMap Enc.enc).length = m := fun m => by rw [jp]; simp [Enc.sz]
  refine ze (za (zh ?_))
  (repeat apply za); refine pwn ?_; intros
  repeat apply za
  refine pwY (some [id]) (Row.pures [0, 1, 2, 3, 4, 5, 6, 7, 8, 9, 10, 12, 13, 14, 15, 16, 17, 18, 19] (.alt 11 (.alt 20 (Row.pures [21] (.alt 22 (.done) .stop)) .stop) .stop)) mixed (jn6 xw xa xr ya yw (jn2 (jn6 zw hdr g1 g2 hsp hcl) hc)) ?_
  refine pwP (hway) (jn6 xw xa xr ya yw (jn2 (jn6 zw hdr g1 g2 hsp hcl) hc)) ?_
  refine ⟨by omega, by omega, ?_⟩
  intros
  obtain ⟨T', hT'⟩ : ∃ T', T' = (T.set (base + i) (.cells (ws i + 1) 3 ((List.replicate (k + 1) (wd x i)).flatMap Enc.enc))).set A (.cells va 54 ((rwC base 1 ws (qk x k i)).set i (.sl (base + i) (ws i + 1) 1 0 (List.replicate (k + 1) (wd x i)).length))) := ⟨_, rfl⟩
  have hnew := hR.turn (i := i) (by rw [wN]; exact hc) (T' := T') (ws i + 1) (List.replicate (k + 1) (wd x i)) (by rw [hT']; exact Store.set_same _ _ _) (by rw [hT', Store.set_other _ _ _ _ (by omega), Store.set_same]) (fun o o1 o2 => by rw [hT', Store.set_other _ _ _ _ o1, Store.set_other _ _ _ _ o2])
  rw [Zj8 x k i hc] at hnew
  (repeat apply za); refine pwn ?_; intros
  refine zm (i + 1, T', _) [] ⟨hc, hnew, fun o ho hob => ?_⟩ (by simp; omega) (by simp [wrN i (by omega)]) ?_ (by simp)
  ·dsimp only; rw [hT', Store.set_other _ _ _ _ ho, Store.set_other _ _ _ _ (by omega)]; exact hT o ho hob
  ·dsimp only; rw [hT']
   have htk : ((List.replicate k (wd x i)).flatMap Enc.enc).take k = (List.replicate k (wd x i)).flatMap Enc.enc := List.take_of_length_le (by rw [hfe]; exact Nat.le_refl _)
   simp only [List.length_replicate, List.replicate_succ', List.flatMap_append]
   unfold wd at htk
   simp [wd, htk]
 ·simp at hc
  obtain rfl : i = x.cust.length := by omega
  rw [Zj7] at hR
  refine zo ?_
  have hdT : zO nx T := fun o ho => by
   have h1 : o ≠ A := by omega
   by_cases h2 : o < base ∨ base + x.cust.length ≤ o
   ·rw [hT o h1 h2]; exact hd o ho
   ·have := hltR (o - base) (by omega); omega
  exact ⟨_, T, rfl, ⟨⟨ws, hR⟩, hT⟩, zE hdT⟩
def wO (k : Nat) (l : List Int) : List Int := l.set k (W (W (2 * l.getD k 0) + 1))
def jU (pr : List (List Int)) (k i : Nat) : List (List Int) := (List.range pr.length).map fun j => if j < i then wO k (pr.getD j []) else pr.getD j []
def ZF (fs : List Int) (pr : List (List Int)) (k : Nat) : List (List Int) := if fs.getD k 0 = 14 then pr.map (wO k) else pr
def ZG (fs : List Int) (pr : List (List Int)) : Nat → List (List Int)
 | 0 => pr
 | k + 1 => ZF fs (ZG fs pr k) k
theorem Zcg (k : Nat) (l : List Int) : (wO k l).length = l.length := by simp [wO]
theorem vZ (pr : List (List Int)) (k i : Nat) : (jU pr k i).length = pr.length := by simp [jU]
theorem X9 (pr : List (List Int)) (k i j : Nat) (h : j < pr.length) : (jU pr k i).getD j [] = if j < i then wO k (pr.getD j []) else pr.getD j [] := by
 rw [List.getD_eq_getElem?_getD, jU]; simp [h]
theorem Zka (pr : List (List Int)) (k : Nat) : jU pr k 0 = pr := by
 apply List.ext_getElem?
 intro j
 simp only [jU, Nat.not_lt_zero, if_false, List.getElem?_map]
 by_cases h : j < pr.length
 ·rw [List.getElem?_range h]; simp [h]
 ·rw [List.getElem?_eq_none (by simp; omega), List.getElem?_eq_none (by omega)]; rfl
theorem Zkb (pr : List (List Int)) (k : Nat) : jU pr k pr.length = pr.map (wO k) := by
 apply List.ext_getElem?
 intro j
 simp only [jU, List.getElem?_map]
 by_cases h : j < pr.length
 ·rw [List.getElem?_range h]; simp [h]
 ·rw [List.getElem?_eq_none (by simp; omega), List.getElem?_eq_none (by omega)]; rfl
theorem Zkc (pr : List (List Int)) (k i : Nat) (h : i < pr.length) : (jU pr k i).set i (wO k (pr.getD i [])) = jU pr k (i + 1) := by
 apply List.ext_getElem?
 intro j
 rw [List.getElem?_set, vZ]
 by_cases hij : i = j
 ·subst hij; rw [if_pos rfl, if_pos h]; simp [jU, h]
 ·rw [if_neg hij]
  by_cases hj : j < pr.length
  ·simp only [jU, List.getElem?_map, List.getElem?_range hj, Option.map_some]
   congr 1
   by_cases h1 : j < i
   ·rw [if_pos h1, if_pos (by omega)]
   ·rw [if_neg h1, if_neg (by omega)]
  ·rw [List.getElem?_eq_none (by rw [vZ]; omega), List.getElem?_eq_none (by rw [vZ]; omega)]
def xA (m n : Nat) (pr : List (List Int)) : Prop := pr.length = m ∧ ∀ l ∈ pr, l.length = n ∧ ∀ z ∈ l, I64 z
theorem Zch (x : Int) : I64 (W x) := by
 have key : ∀ m : Int, 0 ≤ m → m < 2 ^ 64 → I64 (if (true && decide (m ≥ 2 ^ (64 - 1))) = true then m - 2 ^ 64 else m) := by
  intro m h1 h2
  unfold I64
  by_cases h : m ≥ 2 ^ (64 - 1)
  ·simp [h]; omega
  ·simp [h]; omega
 exact key _ (Int.emod_nonneg x (by decide)) (Int.emod_lt_of_pos x (by decide))
theorem Zkd {m n : Nat} {pr : List (List Int)} (fs : List Int) (k : Nat) (h : xA m n pr) : xA m n (ZF fs pr k) := by
 unfold ZF
 split
 ·refine ⟨by simp [h.1], fun l hl => ?_⟩
  obtain ⟨l', hl', rfl⟩ := List.mem_map.1 hl
  rw [Zcg]
  refine ⟨(h.2 l' hl').1, fun z hz => ?_⟩
  rcases List.mem_or_eq_of_mem_set hz with hz | rfl
  ·exact (h.2 l' hl').2 z hz
  ·exact Zch _
 ·exact h
theorem Yy {m n : Nat} {pr : List (List Int)} (fs : List Int) (h : xA m n pr) : ∀ k, xA m n (ZG fs pr k)
 | 0 => h
 | k + 1 => Zkd fs k (Yy fs h k)
theorem Wa (x : Inst) (n : Nat) : xA x.cust.length n (qk x n 0) := by
 refine ⟨wN x n 0, fun l hl => ?_⟩
 obtain ⟨j, _, rfl⟩ := List.mem_map.1 hl
 refine ⟨by simp, fun z hz => ?_⟩
 rw [(List.mem_replicate.1 hz).2]; exact Zch _
set_option maxRecDepth 20000 in
theorem Zke {S : Store} {id ver A va base idF vF : Nat} {ws : Nat → Nat} {x : Inst} {v p : PV} {b : Int} {m n : Nat} {pr : List (List Int)} {fs : List Int} (k : Nat) (hm : m ≤ 1000) (hn : n ≤ 1000) (hkn : k < n) (hid : id < base) (hidA : id ≠ A) (hF : S idF = .cells vF 30 (fs.flatMap Enc.enc)) (hfl : fs.length = n)
  (hS : S id = .cells ver 87 (plL x v b p (.sl idF vF 1 0 fs.length) (.sl A va 1 0 m))) (hP : xA m n pr) (hR : RowsAt S A va 54 base 3 1 ws pr) :
  Spec Tryz.prog 53 [.ptr id ver 0, I k] S (fun _ S' => RowsAt S' A va 54 base 3 1 ws (ZF fs pr k) ∧ ∀ o, (o < base ∨ base + m ≤ o) → S' o = S o) := by
 obtain ⟨hPl, hPr⟩ := hP
 refine qp Tryz.func53 Tryz.ntmps53 Tryz.results53 fun nx hd => ?_
 have hlt : id < nx := yZ hd hS (by simp)
 have hltF : idF < nx := yZ hd hF (by simp)
 have hltA : A < nx := yZ hd hR.arr (by simp)
 have hltR : ∀ i, i < m → base + i < nx := fun i hi => yZ hd (hR.row i (by omega)) (by simp)
 have xw := fun obs => (zB (S := S) (obs := obs) hlt).trans hS
 have xf := fun obs => (zB (S := S) (obs := obs) hltF).trans hF
 obtain ⟨e, tl0, e1, -, -, e0⟩ := el1 rfl fs k (by omega)
 have hkf : k < fs.length := by omega
 have hge : fs.getD k 0 = e := by rw [List.getD_eq_getElem?_getD, e1]; rfl
 repeat apply za
 refine pwN [] (jn4 xw xf e0 hkf) ?_
 intros
 by_cases he : e = 14
 case neg =>
  repeat apply za
  refine zi (by simp [he]) ?_
  repeat apply za
  exact zb ⟨_, S, rfl, ⟨by unfold ZF; rw [hge, if_neg he]; exact hR, fun _ _ => rfl⟩, zE hd⟩
 repeat apply za
 refine zk (by simp [he]) ?_
 refine ze ?_
 repeat apply za
 refine pwN [] xw ?_
 intros
 have hkill : ∀ T : Store, (∀ o, (o < base ∨ base + m ≤ o) → T o = S o) → zO nx T := fun T hT o ho => by
  by_cases h2 : o < base ∨ base + m ≤ o
  ·rw [hT o h2]; exact hd o ho
  ·have := hltR (o - base) (by omega); omega
 repeat apply za
 refine zh (jn (σ := Nat × Store) (fun s => s.1 ≤ m ∧ RowsAt s.2 A va 54 base 3 1 ws (jU pr k s.1) ∧ ∀ o, (o < base ∨ base + m ≤ o) → s.2 o = S o)
  (fun s => [(0, .ptr id ver 0), (1, I k), (17, I m), (18, I s.1)]) (fun s => s.2) (fun _ => []) (fun s => m - s.1) (zy (0, S) [] ⟨by simp, by simpa only [Zka] using hR, fun _ _ => rfl⟩ (by simp) rfl (by simp)) ?_)
 have hAb0 := hR.out
 clear hR
 rintro ⟨i, T⟩ ⟨hi, hR, hT⟩
 simp only at hi hR hT ⊢
 (repeat apply za); refine pwn ?_; intros
 repeat apply za
 refine zn rfl (fun hc => ?_) (fun hc => ?_)
 ·simp at hc
  have hil : i < pr.length := by omega
  have hTw : T id = .cells ver 87 (plL x v b p (.sl idF vF 1 0 fs.length) (.sl A va 1 0 m)) := (hT id (.inl hid)).trans hS
  have hri := hR.row i (by rw [vZ]; exact hil)
  rw [X9 pr k i i hil, if_neg (Nat.lt_irrefl i)] at hri
  obtain ⟨tl, hdr⟩ := X7 base 1 ws (jU pr k i) i (by rw [vZ]; exact hil)
  rw [X9 pr k i i hil, if_neg (Nat.lt_irrefl i)] at hdr
  have hcl : (rwC base 1 ws (jU pr k i)).length = m := by rw [ZD, vZ, hPl]
  have hgl : (pr.getD i []).length = n := by
   rw [List.getD_eq_getElem?_getD, List.getElem?_eq_getElem hil]; exact (hPr _ (List.getElem_mem hil)).1
  generalize hrow : pr.getD i [] = row at hri hdr hgl
  obtain ⟨z, tl2, z1, -, -, z0⟩ := el1 rfl row k (by omega)
  have hgz : row.getD k 0 = z := by rw [List.getD_eq_getElem?_getD, z1]; rfl
  have hkr : k < row.length := by omega
  have hlti := hltR i hc
  have xw := fun obs => (zB (S := T) (obs := obs) hlt).trans hTw
  have xa := fun obs => (zB (S := T) (obs := obs) hltA).trans hR.arr
  have xr := fun obs => (zB (S := T) (obs := obs) hlti).trans hri
  have yw := fun (o : Ob) obs => (zB (S := T.set (base + i) o) (obs := obs) hlt).trans ((Store.set_other _ _ _ _ (by omega)).trans hTw)
  have ya := fun (o : Ob) obs => (zB (S := T.set (base + i) o) (obs := obs) hltA).trans ((Store.set_other _ _ _ _ (by omega)).trans hR.arr)
  have g1 : ¬ nx ≤ base + i := by omega
  have hsp := Zj6 (α := Int) rfl row k (W (W (2 * z) + 1)) hkr
  have hsp' : zP (row.flatMap Enc.enc) k [I (W (W (2 * z) + 1))] = (row.set k (W (W (2 * z) + 1))).flatMap Enc.enc := by simpa using hsp
  have hrl : (row.flatMap Enc.enc).length = n := by rw [jp, hgl]; simp [Enc.sz]
  refine ze (za (zh ?_))
  (repeat apply za); refine pwn ?_; intros
  repeat apply za
  refine pwY (some [id, A]) (Row.pures [0, 1, 2, 3, 4, 5, 6, 7, 8, 9, 10, 11, 12, 13, 15] (.alt 14 (Row.pures [16] (.alt 17 (Row.pures [18, 19, 20] (.alt 21 (.done) .stop)) .stop)) .stop)) mixed (jn6 xw xa xr yw ya (jn2 (jn6 hdr g1 hcl hc z0 hkr) (jn4 hsp' hrl hgl hkn))) ?_
  refine ⟨by omega, ?_⟩
  intros
  obtain ⟨T', hT'⟩ : ∃ T', T' = T.set (base + i) (.cells (ws i) 3 ((wO k row).flatMap Enc.enc)) := ⟨_, rfl⟩
  have hnew := hR.turn (i := i) (by rw [vZ]; exact hil) (T' := T') (ws i) (wO k row) (by
   rw [hT', Store.set_other _ _ _ _ (by omega), hR.arr]
   congr 1
   refine (List.ext_getElem? fun j => ?_).symm
   rw [List.getElem?_set]
   split
   ·rename_i hij
    subst hij
    rw [if_pos (by omega), Yx _ _ _ _ _ (by rw [vZ]; exact hil), X9 pr k i i hil, if_neg (Nat.lt_irrefl i), hrow, Zcg]
   ·rfl) (by rw [hT']; exact Store.set_same _ _ _) (fun o o1 o2 => by rw [hT']; exact Store.set_other _ _ _ _ o2)
  have hws : (fun k => if k = i then ws i else ws k) = ws := by funext j; split <;> simp_all
  rw [hws, ← hrow, Zkc pr k i hil] at hnew
  (repeat apply za); refine pwn ?_; intros
  refine zm (i + 1, T') [] ⟨hc, hnew, fun o hob => ?_⟩ (by simp; omega) (by simp [wrN i (by omega)]) ?_ (by simp)
  ·dsimp only; rw [hT', Store.set_other _ _ _ _ (by omega)]; exact hT o hob
  ·dsimp only; rw [hT']
   simp only [wO, hgz]
 ·simp at hc
  obtain rfl : i = m := by omega
  rw [← hPl, Zkb] at hR
  refine zo ?_
  exact ⟨_, T, rfl, ⟨by unfold ZF; rw [hge, if_pos he]; exact hR, hT⟩, zE (hkill T hT)⟩
def wP (e : Int) : Bool := decide (e ≠ 0) && decide (e ≠ 14)
set_option maxRecDepth 20000 in
theorem Zkf (e : Int) : Pure Tryz.prog 52 [I e] (B (wP e)) := by
 unfold wP
 refine pwe Tryz.func52 Tryz.ntmps52 Tryz.results52 fun S nx hd => ?_
 (repeat apply za); refine pwn ?_; intros
 by_cases h1 : e = 0
 ·repeat apply za
  refine pwN [(2, 5)] (jn2 h1 zp) ?_
  intros
  repeat apply za
  exact zb (zg hd rfl (by simp [zj, h1]))
 ·by_cases h2 : e = 14
  ·repeat apply za
   refine pwN [(2, 5)] (jn3 h1 h2 zp) ?_
   intros
   repeat apply za
   exact zb (zg hd rfl (by simp [zj, h2]))
  ·repeat apply za
   refine pwN [(2, 5)] (jn3 h1 h2 zp) ?_
   intros
   repeat apply za
   exact zb (zg hd rfl (by simp [zj, h1, h2]))
set_option maxRecDepth 20000 in
theorem Zkg {S : Store} {idF vF : Nat} (fs : List Int) (hF : S idF = .cells vF 30 (fs.flatMap Enc.enc)) (hl : fs.length ≤ 1000) :
  Spec Tryz.prog 91 [.sl idF vF 1 0 fs.length, .fn (.func 52) [] []] S (fun q S' => (∃ z : Int, q = I z ∧ (fs.any wP = decide (0 ≤ z))) ∧ S' = S) := by
 refine qp Tryz.func91 Tryz.ntmps91 Tryz.results91 fun nx hd => ?_
 have hltF : idF < nx := yZ hd hF (by simp)
 have xf := fun obs => (zB (S := S) (obs := obs) hltF).trans hF
 (repeat apply za); refine pwn ?_; intros
 (repeat apply za); refine pwn ?_; intros
 repeat apply za
 refine zh (zr (fun k : Nat => k ≤ fs.length ∧ ∀ e ∈ fs.take k, wP e = false) (fun k => [(0, .sl idF vF 1 0 fs.length), (1, .fn (.func 52) [] []), (7, I fs.length), (8, I k)]) (fun _ => []) (fun k => fs.length - k) 0 [] (by simp) (by simp) (by simp) ?_)
 rintro k ⟨hk, h0⟩
 (repeat apply za); refine pwn ?_; intros
 repeat apply za
 refine zn rfl (fun hc => ?_) (fun hc => ?_)
 ·simp at hc
  obtain ⟨e, tl, a1, a2, a3, e0⟩ := el1 rfl fs k hc
  refine ze (za (zh ?_))
  (repeat apply za); refine pwn ?_; intros
  repeat apply za
  refine pwN [] (jn3 xf e0 hc) ?_
  refine pwc (Zkf e) ?_
  intros
  cases hb : wP e with
  | true =>
   repeat apply za
   refine zi rfl ?_
   (repeat apply za); refine pwn ?_; intros
   repeat apply za
   exact zb ⟨_, S, rfl, ⟨⟨k, by simp [zj], by rw [List.any_eq_true.2 ⟨e, List.mem_of_getElem? a1, hb⟩]; simp⟩, rfl⟩, zE hd⟩
  | false =>
   repeat apply za
   refine zk rfl ?_
   refine ze ?_
   (repeat apply za); refine pwn ?_; intros
   exact zm (k + 1) [] ⟨hc, fun y hy => by rw [a3] at hy; rcases List.mem_append.1 hy with h | h; exact h0 y h; rw [List.mem_singleton.1 h]; exact hb⟩ (by omega) (by simp [wrN k (by omega)]) rfl (by simp)
 ·simp at hc
  obtain rfl : k = fs.length := by omega
  rw [List.take_length] at h0
  refine zo ?_
  (repeat apply za); refine pwn ?_; intros
  repeat apply za
  exact zb ⟨_, S, rfl, ⟨⟨-1, by simp [zj], by rw [List.any_eq_false.2 fun e he => by rw [h0 e he]; simp]; rfl⟩, rfl⟩, zE hd⟩
set_option maxRecDepth 20000 in
theorem Zkh {S : Store} {idF vF : Nat} (fs : List Int) (hF : S idF = .cells vF 30 (fs.flatMap Enc.enc)) (hl : fs.length ≤ 1000) :
  Spec Tryz.prog 51 [.sl idF vF 1 0 fs.length, .fn (.func 52) [] []] S (fun q S' => q = B (fs.any wP) ∧ S' = S) := by
 refine qp Tryz.func51 Tryz.ntmps51 Tryz.results51 fun nx hd => ?_
 have hltF : idF < nx := yZ hd hF (by simp)
 (repeat apply za); refine pwn ?_; intros
 repeat apply za
 refine zQ [] (by rfl) (by rfl) fun K Gc Gh hK hGc hGh X hX0 hX => ?_
 simp -implicitDefEqProofs [hX0, hX]
 try clear hX0 hX X
 refine hGc _ _ _ _ _ _ _ fun hsuf => ((Zkg fs ((zB hltF).trans hF) hl).mono ?_).v
 rintro _ _ ⟨⟨z, rfl, hz⟩, rfl⟩
 refine ⟨_, _, rfl, ?_⟩
 clear hGc hGh
 clear Gc Gh
 refine zH hsuf (D := []) (by rfl) fun Gc Gh hGc hGh X hX0 hX => ?_
 simp -implicitDefEqProofs [hX0, hX]
 clear hX0 hX X
 intros
 refine hK _ _ _ ?_
 clear hK hGc hGh
 clear K Gc Gh
 repeat apply za
 exact zb ⟨_, S, rfl, ⟨by simp [zj, hz], rfl⟩, zE hd⟩
def xB (x : Inst) (sol : Cust → List Int → List Visit × Bool) (pr : List (List Int)) (k : Nat) : List (List Visit × Bool) := (List.range k).map fun i => sol (x.cust.getD i default) (pr.getD i [])
def yk (x : Inst) (sol : Cust → List Int → List Visit × Bool) (pr : List (List Int)) : List (List Visit) × Int := if (xB x sol pr x.cust.length).all (·.2) = true then ((xB x sol pr x.cust.length).map (·.1), 0) else ([], 15)
theorem Zki (x : Inst) (sol : Cust → List Int → List Visit × Bool) (pr : List (List Int)) (k : Nat) : xB x sol pr (k + 1) = xB x sol pr k ++ [sol (x.cust.getD k default) (pr.getD k [])] := by simp [xB, List.range_succ]
theorem Zci (x : Inst) (sol : Cust → List Int → List Visit × Bool) (pr : List (List Int)) {k m : Nat} (h : k < m) : sol (x.cust.getD k default) (pr.getD k []) ∈ xB x sol pr m := List.mem_map.2 ⟨k, List.mem_range.2 h, rfl⟩
def QY (x : Inst) (n : Nat) (sol : Cust → List Int → List Visit × Bool) : Prop :=
 ∀ c ∈ x.cust, ∀ (l : List Int), l.length = n → (∀ z ∈ l, I64 z) → ∀ (S : Store) (pl : PV), RowOf S pl l → Spec Tryz.prog 88 [.agg (zv c), I x.days, I x.cap, pl] S (fun q S' => q = .tup [L (sol c l).1, B (sol c l).2] ∧ S' = S)
set_option maxRecDepth 20000 in
theorem Zkj {S : Store} {A va base : Nat} {ws : Nat → Nat} {x : Inst} {n : Nat} {pr : List (List Int)} {sol : Cust → List Int → List Visit × Bool} (hx : x.cust.length ≤ 1000) (hP : xA x.cust.length n pr) (hR : RowsAt S A va 54 base 3 1 ws pr) (hs : QY x n sol) :
  Spec Tryz.prog 49 [.agg (zt x), .sl A va 1 0 x.cust.length] S (fun q S' => q = .tup [L (yk x sol pr).1, I (yk x sol pr).2] ∧ S' = S) := by
 obtain ⟨hPl, hPr⟩ := hP
 refine qp Tryz.func49 Tryz.ntmps49 Tryz.results49 fun nx hd => ?_
 have hltA : A < nx := yZ hd hR.arr (by simp)
 have xa := fun obs => (zB (S := S) (obs := obs) hltA).trans hR.arr
 repeat apply za
 refine pwn ?_
 intro v0
 (repeat apply za); refine pwn ?_; intros
 refine za (yK 6 42 1 rfl fun v1 => ?_)
 (repeat apply za); refine pwn ?_; intros
 repeat apply za
 refine zh (zr (fun s : Nat × List (List Visit) × Nat => s.1 ≤ x.cust.length ∧ s.2.1 = (xB x sol pr s.1).map (·.1) ∧ (xB x sol pr s.1).all (·.2) = true) (fun (i, out, w) => [(1, .sl A va 1 0 x.cust.length), (2, .ptr nx v0 0), (4, .sc (.slice none 0 0)), (6, .sl (nx + 1) w 1 0 out.length), (13, L x.cust), (14, I x.cust.length), (15, I i)]) (fun (i, out, w) => [.cells v0 25 (zt x), .cells w 42 (out.flatMap Enc.enc)]) (fun s => x.cust.length - s.1) (0, [], v1) [] (by simp [xB]) (by simp) (by simp) ?_)
 rintro ⟨i, out, w⟩ ⟨hi, ho, hall⟩
 simp only at hi ho hall ⊢
 have hol : out.length = i := by rw [ho]; simp [xB]
 (repeat apply za); refine pwn ?_; intros
 repeat apply za
 refine zn rfl (fun hc => ?_) (fun hc => ?_)
 ·simp at hc
  obtain ⟨c, tl, a1, a2, a3, e1, e0⟩ := el 8 rfl x.cust i hc
  have hcm := List.mem_of_getElem? a1
  have hgc : x.cust.getD i default = c := by rw [List.getD_eq_getElem?_getD, a1]; rfl
  have hil : i < pr.length := by omega
  obtain ⟨tl2, hdr⟩ := X7 base 1 ws pr i hil
  obtain ⟨hgl, hgi⟩ : (pr.getD i []).length = n ∧ ∀ z ∈ pr.getD i [], I64 z := by
   rw [List.getD_eq_getElem?_getD, List.getElem?_eq_getElem hil]; exact hPr _ (List.getElem_mem hil)
  have hrow : RowOf S (.sl (base + i) (ws i) 1 0 (pr.getD i []).length) (pr.getD i []) := .inr ⟨_, _, rfl, hR.row i hil⟩
  have hsol := hs c hcm (pr.getD i []) hgl hgi
  have hch := Zki x sol pr i
  have hcm2 := Zci x sol pr (k := i) hc
  rw [hgc] at hch hcm2
  generalize pr.getD i [] = row at hdr hgl hgi hrow hsol hch hcm2
  generalize hr : sol c row = r at hsol hch hcm2
  obtain ⟨vv, ok⟩ := r
  simp only at hsol hch
  refine ze (za (zh ?_))
  repeat apply za
  refine pwN [] (jn2 e0 hc) ?_
  intro v2
  (repeat apply za); refine pwn ?_; intros
  (repeat apply za); refine pwn ?_; intros
  repeat apply za
  refine zi (by simp [hc]) ?_
  repeat apply za
  refine pwN [] (jn3 xa hdr hc) ?_
  intros
  repeat apply za
  refine zQ [] (by rfl) (by rfl) fun K Gc Gh hK hGc hGh X hX0 hX => ?_
  simp -implicitDefEqProofs [hX0, hX]
  try clear hX0 hX X
  refine hGc _ _ _ _ _ _ _ fun hsuf => ((hsol _ _ (hrow.ext hd _)).mono ?_).v
  rintro _ _ ⟨rfl, rfl⟩
  refine ⟨_, _, rfl, ?_⟩
  clear hGc hGh
  clear Gc Gh
  refine zH hsuf (D := []) (by rfl) fun Gc Gh hGc hGh X hX0 hX => ?_
  simp -implicitDefEqProofs [hX0, hX]
  clear hX0 hX X
  intros
  refine hK _ _ _ ?_
  clear hK hGc hGh
  clear K Gc Gh
  (repeat apply za); refine pwn ?_; intros
  cases ok with
  | false =>
   have hno : yk x sol pr = ([], 15) := by
    unfold yk
    rw [if_neg]
    intro q
    have := List.all_eq_true.1 q _ hcm2
    cases this
   rw [hno]
   repeat apply za
   refine zi rfl ?_
   (repeat apply za); refine pwn ?_; intros
   refine jP 4 rfl ?_
   repeat apply za
   exact zb ⟨_, S, rfl, ⟨by simp [zj], rfl⟩, zE hd⟩
  | true =>
   repeat apply za
   refine zk rfl ?_
   refine ze ?_
   repeat apply za
   refine pwn ?_
   refine ⟨by omega, ?_⟩
   intros
   (repeat apply za); refine pwn ?_; intros
   exact zm (i + 1, out ++ [vv], w + 1) [_] ⟨hc, by rw [hch, List.map_append, ho]; rfl, by rw [hch, List.all_append, hall]; rfl⟩ (by simp; omega) (by simp [wrN i (by omega)]) rfl (by simp; rfl)
 ·simp at hc
  obtain rfl : i = x.cust.length := by omega
  have hyes : yk x sol pr = (out, 0) := by unfold yk; rw [if_pos hall, ← ho]
  rw [hyes]
  refine zo ?_
  refine zL 1 rfl ?_
  (repeat apply za); refine pwn ?_; intros
  repeat apply za
  exact zb ⟨_, S, (by simp; rfl), ⟨by simp [zj], rfl⟩, zE hd⟩
open Go
theorem Zkk (c : Cust) (q : List Int) (hq : q.length ≤ 1048576) : (yd c q).1.length ≤ 1048576 := by
 unfold yd
 split
 ·simp
 ·cases h : zR c.size c.rate c.start q with
  | none => simp
  | some l => simp [X0 h]; exact hq
theorem Zcj (v : List Visit) (n : Int) : (zK v n).length ≤ 1048576 := by rw [ZA]; omega
open Go
def Yz (p : yA) : Nat := (p.map fun d => d.flatten.length).sum
theorem Zck : ∀ (p : yA) (i : Nat), (told i p).length = Yz p
 | [], _ => rfl
 | d :: p, i => by
  have := Zck p (i + 1)
  simp only [told, List.length_append, List.length_map, Yz, List.map_cons, List.sum_cons] at this ⊢; omega
structure MadeP (m : Nat) (n : Nat) (p : yA) : Prop where
 len : p.length = n
 ne : ∀ d ∈ p, ∀ t ∈ d, t ≠ []
 ok : ∀ d ∈ p, ∀ s ∈ d.flatten, (0 ≤ s.c ∧ s.c < m) ∧ 1 ≤ s.q ∧ s.q ≤ 2147483648
 nd : ∀ d ∈ p, (d.flatten.map (·.c)).Nodup
theorem MadeP.set {m n : Nat} {p : yA} (h : MadeP m n p) {k : Nat} {d : Day} (hd : p[k]? = some d) (x : Inst) (s : Stop) (j : Bool) (hs : (0 ≤ s.c ∧ s.c < m) ∧ 1 ≤ s.q ∧ s.q ≤ 2147483648) (hno : ∀ u ∈ d.flatten, u.c ≠ s.c) : MadeP m n (p.set k (ZE x d s j)) := by
 have hdm := List.mem_of_getElem? hd
 refine ⟨by simp [h.len], fun e he t ht => ?_, fun e he u hu => ?_, fun e he => ?_⟩
 ·rcases List.mem_or_eq_of_mem_set he with he | rfl
  ·exact h.ne e he t ht
  ·exact Zj5 x d s j (h.ne d hdm) t ht
 ·rcases List.mem_or_eq_of_mem_set he with he | rfl
  ·exact h.ok e he u hu
  ·rw [Zcd] at hu
   rcases List.mem_append.1 hu with hu | hu
   ·exact h.ok d hdm u hu
   ·rw [List.mem_singleton.1 hu]; exact hs
 ·rcases List.mem_or_eq_of_mem_set he with he | rfl
  ·exact h.nd e he
  ·rw [Zcd, List.map_append]
   exact Z9 _ _ (h.nd d hdm) (fun hm => by obtain ⟨u, hu, e⟩ := List.mem_map.1 hm; exact hno u hu e)
open Go
def lx : Inst := ⟨1, 1, 9, 9, [], [[0]]⟩
def ly : Inst := ⟨1, 1, 9, 9, [⟨1, 1, [1], 0, 0, 0, 0, 0⟩], [[0, 3], [4, 0]]⟩
def lp : yA := [[]]
theorem Zkl : ∀ i : Nat, yb 1 i = 1 ↔ i = 0 := by
 intro i
 cases i with
 | zero => simp [yb]
 | succ i => simp [yb, Nat.div_eq_of_lt (show 1 < 2 ^ (i + 1) from Nat.one_lt_two_pow (by omega))]
open Go
theorem Zcl (p : Nat) : ∀ k : Nat, k ≤ 64 → ∀ i : Nat, yb (qG p k) i = 1 → i < k
 | 0, _, i, h => by simp [qG, yb] at h
 | k + 1, hk, i, h => by
  have ih := Zcl p k (by omega) i
  unfold qG at h
  split at h
  ·rw [ZbZ _ _ (Z7 p k) (by omega)] at h
   have h2 : ((qG p k ||| 2 ^ k).testBit i) = true := by
    rw [ZB]; unfold qO at h; rw [if_pos (by omega), Int.toNat_natCast] at h; simp [h]
   rw [Nat.testBit_or, Nat.testBit_two_pow, Bool.or_eq_true] at h2
   rcases h2 with h2 | h2
   ·rw [ZB] at h2
    have := ih (by simpa using h2); omega
   ·have : k = i := by simpa using h2
    omega
  ·have := ih h; omega
theorem uO {p a k : Nat} {d : Int} (h : d ∈ zS p a k) : ∃ i : Nat, d = i ∧ i < k ∧ yb p i = 1 := by
 simp only [zS, List.mem_map, List.mem_filter, List.mem_range, Bool.and_eq_true, decide_eq_true_eq] at h
 obtain ⟨i, ⟨h1, _, h3⟩, rfl⟩ := h
 exact ⟨i, rfl, h1, h3⟩
theorem Zcm (c : Cust) (days : Int) (h1 : 1 ≤ days) (h7 : days ≤ 7) : CustMade (yM c days) days.toNat := by
 unfold yM
 split
 ·have a := yB c.rate 0 9 (by omega)
  have b := yB c.size 1 30 (by omega)
  have d := yB c.start 0 (rnd c.size 1 30) (by omega)
  exact ⟨⟨by dsimp only; omega, by dsimp only; omega, by dsimp only; omega⟩, by simp, by simp, fun h => by simp at h⟩
 ·have a := yB c.demand 1 15 (by omega)
  refine ⟨⟨by simp, by simp, by simp⟩, ?_, ?_, fun _ => ⟨?_, by dsimp only; omega, by dsimp only; omega⟩⟩
  ·intro p hp
   simp only [xk] at hp
   split at hp
   ·simp only [List.mem_singleton] at hp; omega
   ·obtain ⟨q, _, rfl⟩ := List.mem_map.1 hp; exact Z7 q _
  ·simp only [xk]; split
   ·simp
   ·simp; omega
  ·intro p hp d hd
   obtain ⟨i, rfl, _, hb⟩ := uO hd
   simp only [xk] at hp
   split at hp
   ·simp only [List.mem_singleton] at hp; subst hp
    have := (Zkl i).1 hb; omega
   ·obtain ⟨q, _, rfl⟩ := List.mem_map.1 hp
    have := Zcl q days.toNat (by omega) i hb; omega
theorem Zkm (c : Cust) (days : Int) : CustOk (yM c days) := by
 unfold yM
 split
 ·have a := yB c.rate 0 9 (by omega)
  have b := yB c.size 1 30 (by omega)
  have d := yB c.start 0 (rnd c.size 1 30) (by omega)
  have e := yB c.rule 1 2 (by omega)
  have f := yB c.hold 0 4 (by omega)
  refine ⟨?_, ?_, by simp, by simp, ?_, ?_, ?_, ?_, ?_⟩ <;> (unfold I64; dsimp only; omega)
 ·have a := yB c.demand 1 15 (by omega)
  refine ⟨?_, ?_, ?_, ?_, ?_, ?_, ?_, ?_, ?_⟩
  ·unfold I64; dsimp only; omega
  ·unfold I64; dsimp only; omega
  ·intro p hp
   simp only [xk] at hp
   split at hp
   ·simp only [List.mem_singleton] at hp; omega
   ·obtain ⟨q, _, rfl⟩ := List.mem_map.1 hp; exact Z7 q _
  ·simp only [xk]; split
   ·simp
   ·simp; omega
  all_goals (unfold I64; dsimp only; omega)
theorem uP (x : Inst) : 1 ≤ (zz x).days ∧ (zz x).days ≤ 7 := yB x.days 1 7 (by omega)
theorem Zcn (x : Inst) : 0 ≤ (zz x).cap ∧ (zz x).cap ≤ 40 := yB x.cap 0 40 (by omega)
theorem Zco (x : Inst) : 0 ≤ (zz x).veh ∧ (zz x).veh ≤ 5 := yB x.veh 0 5 (by omega)
theorem Zcp (x : Inst) : 0 ≤ (zz x).len ∧ (zz x).len ≤ 300 := yB x.len 0 300 (by omega)
theorem Zcq (x : Inst) : (zz x).cust.length ≤ 6 := by simp [zz]; omega
theorem ZH (x : Inst) {c : Cust} (h : c ∈ (zz x).cust) : ∃ c0, c = yM c0 (zz x).days := by
 simp only [zz, List.mem_map] at h
 obtain ⟨c0, _, rfl⟩ := h
 exact ⟨c0, rfl⟩
def Zcr (x : Inst) (v c l : Int) : Inst := ⟨(zz x).days, v, c, l, (zz x).cust, (zz x).dist⟩
theorem Zkn (x : Inst) (v c l : Int) (hv : I64 v) (hc : I64 c) (hl : I64 l) : InstOk (Zcr x v c l) := by
 have h := uP x
 refine ⟨by unfold I64; show -9223372036854775808 ≤ (zz x).days ∧ (zz x).days ≤ _; omega, hv, hc, hl, ?_, ?_, ?_, ?_⟩
 ·have := Zcq x; show (zz x).cust.length ≤ _; omega
 ·intro d hd
  obtain ⟨c0, rfl⟩ := ZH x hd
  exact Zkm c0 _
 ·show (zz x).dist.length ≤ _; simp [zz]; omega
 ·intro r hr
  have hr : r ∈ (zz x).dist := hr
  simp only [zz, List.mem_map] at hr
  obtain ⟨a, _, rfl⟩ := hr
  refine ⟨by simp [q8]; omega, fun d hd => ?_⟩
  simp only [q8, List.mem_map] at hd
  obtain ⟨b, _, rfl⟩ := hd
  split
  ·have := yB (arc x a b) 0 60 (by omega); unfold I64; omega
  ·unfold I64; omega
theorem Zko {m : Nat} : ∀ (l : List Int), l.Nodup → (∀ c ∈ l, 0 ≤ c ∧ c < m) → l.length ≤ m := by
 intro l hn hl
 have h1 : (l.map Int.toNat).Nodup := by
  refine List.Pairwise.map _ ?_ (List.Pairwise.and_mem.1 hn)
  rintro a b ⟨ha, hb, hab⟩ e
  have := hl a ha; have := hl b hb
  exact hab (by omega)
 have h2 : ∀ c ∈ l.map Int.toNat, c ∈ List.range m := by
  intro c hc
  obtain ⟨z, hz, rfl⟩ := List.mem_map.1 hc
  have := hl z hz
  exact List.mem_range.2 (by omega)
 have := h1.length_le_of_subset h2
 simpa using this
open Go Go.Proofs Hp
set_option maxRecDepth 20000 in
theorem Wb (p : Nat) (hp : p < 2 ^ 64) : Pure Tryz.prog 208 [U p] (L (zS p 0 64)) := by
 have h := ZjE p 0 hp (by decide)
 refine pwe Tryz.func208 Tryz.ntmps208 Tryz.results208 fun S nx hd => ?_
 (repeat apply za); refine pwn ?_; intros
 repeat apply za
 refine pwn ?_
 refine pwc h ?_
 intros
 repeat apply za
 exact zb (zg hd rfl rfl)
set_option maxRecDepth 20000 in
theorem Zkp (c : Cust) (p : Nat) (hp : p < 2 ^ 64) : Pure Tryz.prog 169 [.agg (zv c), U p] (L (yV c p)) := by
 have hall := Wb p hp
 have hln := vW p 0 64
 unfold yV
 generalize zS p 0 64 = l at hall hln
 refine pwe Tryz.func169 Tryz.ntmps169 Tryz.results169 fun S nx hd => ?_
 repeat apply za
 refine pwn ?_
 intro v0
 (repeat apply za); refine pwn ?_; intros
 refine za (yK 5 103 2 rfl fun v1 => ?_)
 repeat apply za
 refine pwn ?_
 refine pwc hall ?_
 intros
 repeat apply za
 refine zh (zr (fun s : Nat × List Visit × Nat => s.1 ≤ l.length ∧ s.2.1 = (l.take s.1).map fun d => ⟨d, c.demand⟩) (fun (k, out, v1) => [(2, .ptr nx v0 0), (5, .sl (nx + 1) v1 2 0 out.length), (9, L l), (10, I l.length), (11, I k)]) (fun (k, out, v1) => [.cells v0 41 (zv c), .cells v1 103 (out.flatMap Enc.enc)]) (fun s => l.length - s.1) (0, [], v1) [] (by simp) (by simp) (by simp) ?_)
 rintro ⟨k, out, v1⟩ ⟨hk, ho⟩
 simp only at hk ho ⊢
 have hol : out.length = k := by rw [ho]; simp; omega
 (repeat apply za); refine pwn ?_; intros
 repeat apply za
 refine zn rfl (fun hc => ?_) (fun hc => ?_)
 ·simp at hc
  obtain ⟨d, tl, a1, a2, a3, e0⟩ := el1 rfl l k hc
  refine ze (za (zh ?_))
  repeat apply za
  refine pwN [] (jn2 e0 hc) ?_
  intros
  repeat apply za
  refine pwn ?_
  refine ⟨by omega, ?_⟩
  intros
  (repeat apply za); refine pwn ?_; intros
  exact zm (k + 1, out ++ [⟨d, c.demand⟩], v1 + 1) [] ⟨hc, by rw [a3, ho]; simp⟩ (by simp; omega) (by simp [wrN k (by omega)]) rfl (by simp)
 ·simp at hc
  obtain rfl : k = l.length := by omega
  rw [List.take_length] at ho
  refine zo ?_
  refine zL 1 rfl ?_
  (repeat apply za); refine pwn ?_; intros
  repeat apply za
  exact zb (zg hd (by simp; rfl) (by simp [zj, ho]))
def jV (price : List Int) (ds : List Int) : Int := ds.foldl (fun (s d : Int) => if d < price.length then x8 s (price.getD d.toNat 0) else s) 0
def YA (price : List Int) (p : Nat) : Int := jV price (zS p 0 64)
def qa (price : List Int) (l : List Nat) : Nat → Int × Int
 | 0 => (-1, 0)
 | k + 1 => if (qa price l k).1 < 0 ∨ YA price (l.getD k 0) < (qa price l k).2 then (k, YA price (l.getD k 0)) else qa price l k
theorem QZ (price : List Int) (l : List Nat) : ∀ k : Nat, (qa price l k).1 < k ∧ -1 ≤ (qa price l k).1 ∧ (0 < k → 0 ≤ (qa price l k).1)
 | 0 => by simp [qa]
 | k + 1 => by
  have := QZ price l k
  unfold qa
  split
  ·dsimp only; omega
  ·rename_i h; omega
theorem Zkq (a b : Int) (ha : I64 a) (hb : I64 b) : I64 (x8 a b) := by
 unfold I64 x8 at *
 split
 ·omega
 ·split <;> omega
theorem Zkr (price ds : List Int) (d : Int) : jV price (ds ++ [d]) = if d < price.length then x8 (jV price ds) (price.getD d.toNat 0) else jV price ds := by simp [jV]
theorem Zks (price : List Int) (hp : ∀ z ∈ price, I64 z) (ds : List Int) : I64 (jV price ds) := by
 unfold jV
 have : ∀ (ds : List Int) (s : Int), I64 s → I64 (ds.foldl (fun (s d : Int) => if d < price.length then x8 s (price.getD d.toNat 0) else s) s) := by
  intro ds
  induction ds with
  | nil => intro s h; exact h
  | cons d ds ih =>
   intro s h
   rw [List.foldl_cons]
   apply ih
   split
   ·refine Zkq _ _ h ?_
    rw [List.getD_eq_getElem?_getD]
    cases hq : price[d.toNat]? with
    | none => unfold I64; simp
    | some z => exact hp z (List.mem_of_getElem? hq)
   ·exact h
 exact this ds 0 (by unfold I64; omega)
set_option maxRecDepth 20000 in
theorem Zkt {S : Store} {pl : PV} {price : List Int} (l : List Nat) (hR : RowOf S pl price) (hp : ∀ z ∈ price, I64 z) (hpl : price.length ≤ 1000) (hl : l.length ≤ 1000) (h64 : ∀ p ∈ l, p < 2 ^ 64) :
  Spec Tryz.prog 168 [L l, pl] S (fun q S' => q = .tup [I (qa price l l.length).1, I (qa price l l.length).2] ∧ S' = S) := by
 refine qp Tryz.func168 Tryz.ntmps168 Tryz.results168 fun nx hd => ?_
 (repeat apply za); refine pwn ?_; intros
 (repeat apply za); refine pwn ?_; intros
 (repeat apply za); refine pwn ?_; intros
 repeat apply za
 refine zh (zr (fun k : Nat => k ≤ l.length) (fun k => [(1, pl), (6, I (qa price l k).1), (7, I (qa price l k).2), (13, L l), (14, I l.length), (15, I k)]) (fun _ => []) (fun k => l.length - k) 0 [] (by simp) (by simp [qa]) (by simp) ?_)
 rintro k hk
 have hb : qa price l (k + 1) = if (qa price l k).1 < 0 ∨ YA price (l.getD k 0) < (qa price l k).2 then (↑k, YA price (l.getD k 0)) else qa price l k := rfl
 generalize hst : qa price l k = st at hb ⊢
 obtain ⟨place, least⟩ := st
 simp only at hb ⊢
 (repeat apply za); refine pwn ?_; intros
 repeat apply za
 refine zn rfl (fun hc => ?_) (fun hc => ?_)
 ·simp at hc
  obtain ⟨p, tl, a1, a2, a3, e0⟩ := el1 rfl l k hc
  have hall := Wb p (h64 p (List.mem_of_getElem? a1))
  have hgp : l.getD k 0 = p := by rw [List.getD_eq_getElem?_getD, a1]; rfl
  rw [hgp] at hb
  have hds : ∀ d ∈ zS p 0 64, ∃ i : Nat, d = i := fun d hd => by obtain ⟨i, h, _⟩ := uO hd; exact ⟨i, h⟩
  have hdl := vW p 0 64
  rw [show YA price p = jV price (zS p 0 64) from rfl] at hb
  generalize zS p 0 64 = ds at hall hds hdl hb
  refine ze (za (zh ?_))
  repeat apply za
  refine pwN [] (jn2 e0 hc) ?_
  intros
  (repeat apply za); refine pwn ?_; intros
  repeat apply za
  refine pwn ?_
  refine pwc hall ?_
  intros
  repeat apply za
  refine zh (zr (fun j : Nat => j ≤ ds.length) (fun j => [(1, pl), (6, I place), (7, I least), (8, I k), (10, I (jV price (ds.take j))), (13, L l), (14, I l.length), (15, I k), (21, L ds), (22, I ds.length), (23, I j)]) (fun _ => []) (fun j => ds.length - j) 0 [] (by simp) (by simp [jV]) (by simp) ?_)
  rintro j hj
  (repeat apply za); refine pwn ?_; intros
  repeat apply za
  refine zn rfl (fun hc2 => ?_) (fun hc2 => ?_)
  ·simp at hc2
   obtain ⟨d, tl2, b1, b2, b3, f0⟩ := el1 rfl ds j hc2
   obtain ⟨i, rfl⟩ := hds d (List.mem_of_getElem? b1)
   have hsn := Zkr price (ds.take j) (i : Int)
   rw [← b3, Int.toNat_natCast] at hsn
   have hsi := Zks price hp (ds.take j)
   refine ze (za (zh ?_))
   repeat apply za
   refine pwN [] (jn2 f0 hc2) ?_
   intros
   by_cases hi : i < price.length
   ·obtain ⟨z, tl3, c1, -, -, g0⟩ := el1 rfl price i hi
    have hgz : price.getD i 0 = z := by rw [List.getD_eq_getElem?_getD, c1]; rfl
    rw [if_pos (by omega), hgz] at hsn
    have hsat := ZbO (jV price (ds.take j)) z hsi (hp z (List.mem_of_getElem? c1))
    rw [← hsn] at hsat
    rcases hR with rfl | ⟨id, ver, rfl, hS⟩
    ·repeat apply za
     refine pwN [] hi ?_
     intros
     repeat apply za
     refine zi rfl ?_
     repeat apply za
     refine pwN [] (jn2 g0 hi) ?_
     refine pwc hsat ?_
     intros
     (repeat apply za); refine pwn ?_; intros
     exact zm (j + 1) [] hc2 (by omega) (by simp [wrN j (by omega)]) rfl (by simp)
    ·have hlt : id < nx := yZ hd hS (by simp)
     have xr := fun obs => (zB (S := S) (obs := obs) hlt).trans hS
     repeat apply za
     refine pwN [] hi ?_
     intros
     repeat apply za
     refine zi rfl ?_
     repeat apply za
     refine pwN [] (jn3 xr g0 hi) ?_
     refine pwc hsat ?_
     intros
     (repeat apply za); refine pwn ?_; intros
     exact zm (j + 1) [] hc2 (by omega) (by simp [wrN j (by omega)]) rfl (by simp)
   ·rw [if_neg (by omega)] at hsn
    rcases hR with rfl | ⟨id, ver, rfl, hS⟩
    ·repeat apply za
     refine pwN [] hi ?_
     intros
     repeat apply za
     refine zk rfl ?_
     refine ze ?_
     (repeat apply za); refine pwn ?_; intros
     exact zm (j + 1) [] hc2 (by omega) (by simp [wrN j (by omega), hsn]) rfl (by simp)
    ·repeat apply za
     refine pwN [] hi ?_
     intros
     repeat apply za
     refine zk rfl ?_
     refine ze ?_
     (repeat apply za); refine pwn ?_; intros
     exact zm (j + 1) [] hc2 (by omega) (by simp [wrN j (by omega), hsn]) rfl (by simp)
  ·simp at hc2
   obtain rfl : j = ds.length := by omega
   rw [List.take_length]
   refine zo ?_
   repeat apply za
   refine zX (nx := nx) (σ := Bool) (fun t => t = decide (place < 0 ∨ jV price ds < least)) (fun t => [(1, pl), (6, I place), (7, I least), (8, I k), (10, I (jV price ds)), (13, L l), (14, I l.length), (15, I k), (44, B t)]) (fun _ => S) (fun _ => []) ?_ ?_
   ·by_cases h1 : place < 0
    ·repeat apply za
     refine pwN [(2, 40)] (jn2 h1 zp) ?_
     intros
     exact zy true [] (by simp [h1]) (by simp) rfl (by simp)
    ·repeat apply za
     refine pwN [(2, 40)] h1 ?_
     intros
     exact zy (decide (jV price ds < least)) [] (by simp [h1]) (by simp) rfl (by simp)
   rintro t rfl
   by_cases h : place < 0 ∨ jV price ds < least
   ·rw [decide_eq_true h]
    rw [if_pos h] at hb
    repeat apply za
    refine zi rfl ?_
    (repeat apply za); refine pwn ?_; intros
    (repeat apply za); refine pwn ?_; intros
    exact zm (k + 1) [] hc (by omega) (by simp [wrN k (by omega), hb]) rfl (by simp)
   ·rw [decide_eq_false h]
    rw [if_neg h] at hb
    repeat apply za
    refine zk rfl ?_
    refine ze ?_
    (repeat apply za); refine pwn ?_; intros
    exact zm (k + 1) [] hc (by omega) (by simp [wrN k (by omega), hb]) rfl (by simp)
 ·simp at hc
  obtain rfl : k = l.length := by omega
  refine zo ?_
  (repeat apply za); refine pwn ?_; intros
  repeat apply za
  exact zb ⟨_, S, rfl, ⟨by simp [zj, hst], rfl⟩, zE hd⟩
def yQ (c : Cust) (cap : Int) : List Nat := c.pats.filter fun p => decide (p = 0) || decide (c.demand ≤ cap)
set_option maxRecDepth 20000 in
theorem Zku (c : Cust) (cap : Int) (hl : c.pats.length ≤ 1000) : Pure Tryz.prog 167 [.agg (zv c), I cap] (L (yQ c cap)) := by
 unfold yQ
 refine pwe Tryz.func167 Tryz.ntmps167 Tryz.results167 fun S nx hd => ?_
 repeat apply za
 refine pwn ?_
 intro v0
 (repeat apply za); refine pwn ?_; intros
 refine za (yK 5 99 1 rfl fun v1 => ?_)
 (repeat apply za); refine pwn ?_; intros
 repeat apply za
 refine zh (zr (fun s : Nat × List Nat × Nat => s.1 ≤ c.pats.length ∧ s.2.1 = (c.pats.take s.1).filter (fun p => decide (p = 0) || decide (c.demand ≤ cap)) ∧ s.2.1.length ≤ s.1) (fun (k, out, w) => [(1, I cap), (2, .ptr nx v0 0), (5, .sl (nx + 1) w 1 0 out.length), (9, L c.pats), (10, I c.pats.length), (11, I k)]) (fun (k, out, w) => [.cells v0 41 (zv c), .cells w 99 (out.flatMap Enc.enc)]) (fun s => c.pats.length - s.1) (0, [], v1) [] (by simp) (by simp) (by simp) ?_)
 rintro ⟨k, out, w⟩ ⟨hk, ho, hol⟩
 simp only at hk ho hol ⊢
 (repeat apply za); refine pwn ?_; intros
 repeat apply za
 refine zn rfl (fun hc => ?_) (fun hc => ?_)
 ·simp at hc
  obtain ⟨p, tl, a1, a2, a3, e0⟩ := el1 rfl c.pats k hc
  refine ze (za (zh ?_))
  repeat apply za
  refine pwN [] (jn2 e0 hc) ?_
  intros
  repeat apply za
  refine zX (nx := nx) (σ := Bool × Nat) (fun s => s.1 = (decide (p = 0) || decide (c.demand ≤ cap))) (fun (t, w) => [(1, I cap), (2, .ptr nx v0 0), (5, .sl (nx + 1) w 1 0 out.length), (7, U p), (9, L c.pats), (10, I c.pats.length), (11, I k), (22, B t)]) (fun _ => S) (fun (t, w) => [.cells v0 41 (zv c), .cells w 99 (out.flatMap Enc.enc)]) ?_ ?_
  ·by_cases h1 : p = 0
   ·repeat apply za
    refine pwN [(2, 17)] (jn2 h1 zp) ?_
    intros
    exact zy (true, w) [] (by simp [h1]) (by simp [h1]) rfl (by simp)
   ·repeat apply za
    refine pwN [(2, 17)] h1 ?_
    intros
    exact zy (decide (c.demand ≤ cap), w) [] (by simp [h1]) (by simp) rfl (by simp)
  rintro ⟨t, w⟩ ht
  simp only at ht ⊢
  subst ht
  have hstep : (c.pats.take (k + 1)).filter (fun p => decide (p = 0) || decide (c.demand ≤ cap)) = out ++ (if (decide (p = 0) || decide (c.demand ≤ cap)) = true then [p] else []) := by
   rw [a3, List.filter_append, ho]
   congr 1
   simp only [List.filter_cons, List.filter_nil]
  cases ht : (decide (p = 0) || decide (c.demand ≤ cap)) with
  | true =>
   rw [ht, if_pos rfl] at hstep
   repeat apply za
   refine zi rfl ?_
   repeat apply za
   refine pwn ?_
   refine ⟨by omega, ?_⟩
   intros
   (repeat apply za); refine pwn ?_; intros
   exact zm (k + 1, out ++ [p], w + 1) [] ⟨hc, hstep.symm, by simp; omega⟩ (by simp; omega) (by simp [wrN k (by omega)]) rfl (by simp)
  | false =>
   rw [ht, if_neg (by decide), List.append_nil] at hstep
   repeat apply za
   refine zk rfl ?_
   refine ze ?_
   (repeat apply za); refine pwn ?_; intros
   exact zm (k + 1, out, w) [] ⟨hc, hstep.symm, by dsimp only; omega⟩ (by simp; omega) (by simp [wrN k (by omega)]) rfl (by simp)
 ·simp at hc
  obtain rfl : k = c.pats.length := by omega
  rw [List.take_length] at ho
  refine zo ?_
  refine zL 1 rfl ?_
  (repeat apply za); refine pwn ?_; intros
  repeat apply za
  exact zb (zg hd (by simp; rfl) (by simp [zj, ho]))
def jy (c : Cust) (cap : Int) (price : List Int) : List Visit × Bool :=
 if (qa price (yQ c cap) (yQ c cap).length).1 < 0 then ([], false) else (yV c ((yQ c cap).getD (qa price (yQ c cap) (yQ c cap).length).1.toNat 0), true)
set_option maxRecDepth 20000 in
theorem Zkv {S : Store} {pl : PV} {price : List Int} (c : Cust) (cap : Int) (hR : RowOf S pl price) (hp : ∀ z ∈ price, I64 z) (hpl : price.length ≤ 1000) (hl : c.pats.length ≤ 1000) (h64 : ∀ p ∈ c.pats, p < 2 ^ 64) :
  Spec Tryz.prog 127 [.agg (zv c), I cap, pl] S (fun q S' => q = .tup [L (jy c cap price).1, B (jy c cap price).2] ∧ S' = S) := by
 have hca := Zku c cap hl
 have hsub : ∀ p ∈ yQ c cap, p < 2 ^ 64 := fun p hp => h64 p (List.mem_filter.1 hp).1
 have hcl : (yQ c cap).length ≤ 1000 := Nat.le_trans (List.length_filter_le _ _) hl
 unfold jy
 generalize yQ c cap = l at *
 have hb := fun S (hR : RowOf S pl price) => Zkt l hR hp hpl hcl hsub
 obtain ⟨b1, b2, b3⟩ := QZ price l l.length
 generalize qa price l l.length = r at *
 obtain ⟨place, least⟩ := r
 simp only at hb b1 b2 b3 ⊢
 refine qp Tryz.func127 Tryz.ntmps127 Tryz.results127 fun nx hd => ?_
 repeat apply za
 refine pwn ?_
 intro v0
 repeat apply za
 refine pwn ?_
 refine pwc hca ?_
 intros
 repeat apply za
 refine zQ [] (by rfl) (by rfl) fun K Gc Gh hK hGc hGh X hX0 hX => ?_
 simp -implicitDefEqProofs [hX0, hX]
 try clear hX0 hX X
 refine hGc _ _ _ _ _ _ _ fun hsuf => ((hb _ (hR.ext hd _)).mono ?_).v
 rintro _ _ ⟨rfl, rfl⟩
 refine ⟨_, _, rfl, ?_⟩
 clear hGc hGh
 clear Gc Gh
 refine zH hsuf (D := []) (by rfl) fun Gc Gh hGc hGh X hX0 hX => ?_
 simp -implicitDefEqProofs [hX0, hX]
 clear hX0 hX X
 intros
 refine hK _ _ _ ?_
 clear hK hGc hGh
 clear K Gc Gh
 (repeat apply za); refine pwn ?_; intros
 by_cases h : place < 0
 ·rw [if_pos h]
  repeat apply za
  refine zi (by simp [h]) ?_
  (repeat apply za); refine pwn ?_; intros
  refine jP 6 rfl ?_
  repeat apply za
  exact zb ⟨_, S, rfl, ⟨by simp [zj], rfl⟩, zE hd⟩
 ·rw [if_neg h]
  obtain ⟨i, rfl⟩ := Int.eq_ofNat_of_zero_le (show 0 ≤ place by omega)
  have hil : i < l.length := by omega
  obtain ⟨p, tl, a1, a2, a3, e0⟩ := el1 rfl l i hil
  have hgp : l.getD (i : Int).toNat 0 = p := by rw [Int.toNat_natCast, List.getD_eq_getElem?_getD, a1]; rfl
  rw [hgp]
  have hon := Zkp c p (hsub p (List.mem_of_getElem? a1))
  repeat apply za
  refine zk (by simp) ?_
  refine ze ?_
  repeat apply za
  refine pwY (some [nx]) (Row.pures [0, 1, 2, 3, 4, 5, 6, 7] .done) mixed (jn2 e0 hil) ?_
  refine pwP (hon) (jn2 e0 hil) ?_
  intros
  repeat apply za
  exact zb ⟨_, S, (by simp; rfl), ⟨by simp [zj], rfl⟩, zE hd⟩
set_option maxRecDepth 20000 in
theorem Zcs {S : Store} {pl : PV} {price : List Int} (c : Cust) (n cap : Int) (hk : c.kind = 1) (hR : RowOf S pl price) (hp : ∀ z ∈ price, I64 z) (hpl : price.length ≤ 1000) (hl : c.pats.length ≤ 1000) (h64 : ∀ p ∈ c.pats, p < 2 ^ 64) :
  Spec Tryz.prog 88 [.agg (zv c), I n, I cap, pl] S (fun q S' => q = .tup [L (jy c cap price).1, B (jy c cap price).2] ∧ S' = S) := by
 have hs := fun S (hR : RowOf S pl price) => Zkv c cap hR hp hpl hl h64
 generalize jy c cap price = r at *
 obtain ⟨v, ok⟩ := r
 simp only at hs ⊢
 refine qp Tryz.func88 Tryz.ntmps88 Tryz.results88 fun nx hd => ?_
 repeat apply za
 refine pwn ?_
 intro v0
 repeat apply za
 refine zh ?_
 repeat apply za
 refine pwN [] hk ?_
 intros
 repeat apply za
 refine zi rfl ?_
 repeat apply za
 refine zQ [] (by rfl) (by rfl) fun K Gc Gh hK hGc hGh X hX0 hX => ?_
 simp -implicitDefEqProofs [hX0, hX]
 try clear hX0 hX X
 refine hGc _ _ _ _ _ _ _ fun hsuf => ((hs _ (hR.ext hd _)).mono ?_).v
 rintro _ _ ⟨rfl, rfl⟩
 refine ⟨_, _, rfl, ?_⟩
 clear hGc hGh
 clear Gc Gh
 refine zH hsuf (D := []) (by rfl) fun Gc Gh hGc hGh X hX0 hX => ?_
 simp -implicitDefEqProofs [hX0, hX]
 clear hX0 hX X
 intros
 refine hK _ _ _ ?_
 clear hK hGc hGh
 clear K Gc Gh
 repeat apply za
 exact zb ⟨_, S, (by simp; rfl), ⟨by simp [zj], rfl⟩, zE hd⟩
open Go Go.Proofs Hp
def qm (c : Cust) (there cap : Int) : Int := if c.size - there < 1 ∨ cap < 0 then 0 else if c.size - there ≤ cap then c.size - there else if c.rule = 1 then 0 else cap
theorem Q0 {c : Cust} {there cap : Int} (hc : 0 ≤ c.size ∧ c.size ≤ 2147483648) (ht : 0 ≤ there) : 0 ≤ qm c there cap ∧ qm c there cap ≤ 2147483648 := by
 unfold qm
 split
 ·omega
 ·split
  ·omega
  ·split <;> omega
set_option maxRecDepth 20000 in
theorem Wc (c : Cust) (there cap : Int) (hc : 0 ≤ c.size ∧ c.size ≤ 2147483648) (ht : -4611686018427387904 ≤ there ∧ there ≤ 4611686018427387904) : Pure Tryz.prog 171 [.agg (zv c), I there, I cap] (I (qm c there cap)) := by
 have w1 : IntKind.i64.wrap (c.size - there) = c.size - there := wr _ (by omega) (by omega)
 unfold qm
 generalize hf : c.size - there = f at w1 ⊢
 refine pwe Tryz.func171 Tryz.ntmps171 Tryz.results171 fun S nx hd => ?_
 repeat apply za
 refine pwn ?_
 intro v0
 repeat apply za
 refine pwN [] (jn2 hf w1) ?_
 intros
 repeat apply za
 refine zh ?_
 by_cases h : f < 1 ∨ cap < 0
 ·rw [if_pos h]
  by_cases h1 : f < 1
  ·repeat apply za
   refine pwN [(2, 15)] (jn2 h1 zp) ?_
   intros
   repeat apply za
   refine zi rfl ?_
   (repeat apply za); refine pwn ?_; intros
   repeat apply za
   exact zb (zg hd rfl rfl)
  ·have h2 : cap < 0 := by omega
   repeat apply za
   refine pwN [(2, 15)] (jn2 h1 h2) ?_
   intros
   repeat apply za
   refine zi rfl ?_
   (repeat apply za); refine pwn ?_; intros
   repeat apply za
   exact zb (zg hd rfl rfl)
 ·rw [if_neg h]
  have h1 : ¬ f < 1 := by omega
  have h2 : ¬ cap < 0 := by omega
  repeat apply za
  refine pwN [(2, 15)] (jn2 h1 h2) ?_
  intros
  repeat apply za
  refine zk rfl ?_
  (repeat apply za); refine pwn ?_; intros
  by_cases h3 : f ≤ cap
  ·rw [if_pos h3]
   repeat apply za
   refine zi (by simp [h3]) ?_
   (repeat apply za); refine pwn ?_; intros
   repeat apply za
   exact zb (zg hd rfl rfl)
  ·rw [if_neg h3]
   repeat apply za
   refine zk (by simp; omega) ?_
   (repeat apply za); refine pwn ?_; intros
   by_cases h4 : c.rule = 1
   ·rw [if_pos h4]
    repeat apply za
    refine zi (by simp [h4]) ?_
    (repeat apply za); refine pwn ?_; intros
    repeat apply za
    exact zb (zg hd rfl rfl)
   ·rw [if_neg h4]
    repeat apply za
    refine zk (by simp [h4]) ?_
    refine ze ?_
    (repeat apply za); refine pwn ?_; intros
    repeat apply za
    exact zb (zg hd rfl rfl)
def prD (price : List Int) (d : Int) : Int := if d < 0 ∨ (price.length : Int) ≤ d then 0 else price.getD d.toNat 0
set_option maxRecDepth 20000 in
theorem Zct {S : Store} {pl : PV} {price : List Int} (d : Int) (hR : RowOf S pl price) :
  Spec Tryz.prog 172 [pl, I d] S (fun q S' => q = I (prD price d) ∧ S' = S) := by
 unfold prD
 rcases hR with rfl | ⟨id, ver, rfl, hS⟩
 ·refine qp Tryz.func172 Tryz.ntmps172 Tryz.results172 fun nx hd => ?_
  (repeat apply za); refine pwn ?_; intros
  by_cases h : d < 0
  ·rw [if_pos (.inl h)]
   repeat apply za
   refine pwN [(2, 7)] (jn2 h zp) ?_
   intros
   repeat apply za
   refine zi rfl ?_
   (repeat apply za); refine pwn ?_; intros
   repeat apply za
   exact zb ⟨_, S, rfl, ⟨by simp [zj], rfl⟩, zE hd⟩
  by_cases h2 : (price.length : Int) ≤ d
  ·rw [if_pos (.inr h2)]
   repeat apply za
   refine pwN [(2, 7)] (jn2 h h2) ?_
   intros
   repeat apply za
   refine zi rfl ?_
   (repeat apply za); refine pwn ?_; intros
   repeat apply za
   exact zb ⟨_, S, rfl, ⟨by simp [zj], rfl⟩, zE hd⟩
  rw [if_neg (by omega)]
  obtain ⟨i, rfl⟩ := Int.eq_ofNat_of_zero_le (show 0 ≤ d by omega)
  have hi : i < price.length := by omega
  obtain ⟨z, tl, a1, -, -, e0⟩ := el1 rfl price i hi
  have hg : price.getD (i : Int).toNat 0 = z := by rw [Int.toNat_natCast, List.getD_eq_getElem?_getD, a1]; rfl
  rw [hg]
  have h2' : ¬ price.length ≤ i := by omega
  repeat apply za
  refine pwN [(2, 7)] (jn3 h h2 h2') ?_
  intros
  repeat apply za
  refine zk rfl ?_
  refine ze ?_
  repeat apply za
  refine pwN [] (jn2 e0 hi) ?_
  intros
  repeat apply za
  exact zb ⟨_, S, rfl, ⟨by simp [zj], rfl⟩, zE hd⟩
 ·refine qp Tryz.func172 Tryz.ntmps172 Tryz.results172 fun nx hd => ?_
  have hlt : id < nx := yZ hd hS (by simp)
  have xr := fun obs => (zB (S := S) (obs := obs) hlt).trans hS
  (repeat apply za); refine pwn ?_; intros
  by_cases h : d < 0
  ·rw [if_pos (.inl h)]
   repeat apply za
   refine pwN [(2, 7)] (jn2 h zp) ?_
   intros
   repeat apply za
   refine zi rfl ?_
   (repeat apply za); refine pwn ?_; intros
   repeat apply za
   exact zb ⟨_, S, rfl, ⟨by simp [zj], rfl⟩, zE hd⟩
  by_cases h2 : (price.length : Int) ≤ d
  ·rw [if_pos (.inr h2)]
   repeat apply za
   refine pwN [(2, 7)] (jn2 h h2) ?_
   intros
   repeat apply za
   refine zi rfl ?_
   (repeat apply za); refine pwn ?_; intros
   repeat apply za
   exact zb ⟨_, S, rfl, ⟨by simp [zj], rfl⟩, zE hd⟩
  rw [if_neg (by omega)]
  obtain ⟨i, rfl⟩ := Int.eq_ofNat_of_zero_le (show 0 ≤ d by omega)
  have hi : i < price.length := by omega
  obtain ⟨z, tl, a1, -, -, e0⟩ := el1 rfl price i hi
  have hg : price.getD (i : Int).toNat 0 = z := by rw [Int.toNat_natCast, List.getD_eq_getElem?_getD, a1]; rfl
  rw [hg]
  have h2' : ¬ price.length ≤ i := by omega
  repeat apply za
  refine pwN [(2, 7)] (jn3 h h2 h2') ?_
  intros
  repeat apply za
  refine zk rfl ?_
  refine ze ?_
  repeat apply za
  refine pwN [] (jn3 xr e0 hi) ?_
  intros
  repeat apply za
  exact zb ⟨_, S, rfl, ⟨by simp [zj], rfl⟩, zE hd⟩
theorem Zcu : ∀ (l m : List Int) (i : Nat), zG i (l ++ m) = zG i l ++ zG (i + l.length) m
 | [], m, i => by simp [zG]
 | z :: l, m, i => by
  have ih := Zcu l m (i + 1)
  simp only [List.cons_append, zG, List.length_cons, ih, show i + 1 + l.length = i + (l.length + 1) from by omega]
  split <;> simp
set_option maxRecDepth 20000 in
theorem Zcv (q : List Int) (hq : q.length ≤ 1048576) : Pure Tryz.prog 176 [L q] (L (zG 0 q)) := by
 refine pwe Tryz.func176 Tryz.ntmps176 Tryz.results176 fun S nx hd => ?_
 (repeat apply za); refine pwn ?_; intros
 (repeat apply za); refine pwn ?_; intros
 refine za (yK 3 103 2 rfl fun v1 => ?_)
 (repeat apply za); refine pwn ?_; intros
 repeat apply za
 refine zh (zr (fun s : Nat × List Visit × Nat => s.1 ≤ q.length ∧ s.2.1 = zG 0 (q.take s.1)) (fun (k, out, w) => [(3, .sl nx w 2 0 out.length), (6, L q), (7, I q.length), (8, I k)]) (fun (k, out, w) => [.cells w 103 (out.flatMap Enc.enc)]) (fun s => q.length - s.1) (0, [], v1) [] (by simp [zG]) (by simp) (by simp) ?_)
 rintro ⟨k, out, w⟩ ⟨hk, ho⟩
 simp only at hk ho ⊢
 have hol : out.length ≤ k := by rw [ho]; exact Nat.le_trans (QU _ _) (by simp; omega)
 (repeat apply za); refine pwn ?_; intros
 repeat apply za
 refine zn rfl (fun hc => ?_) (fun hc => ?_)
 ·simp at hc
  obtain ⟨z, tl, a1, a2, a3, e0⟩ := el1 rfl q k hc
  have hst : zG 0 (q.take (k + 1)) = out ++ (if 0 < z then [⟨k, z⟩] else []) := by
   rw [a3, Zcu, ← ho, List.length_take, Nat.min_eq_left hk]
   simp only [zG, Nat.zero_add]
  refine ze (za (zh ?_))
  repeat apply za
  refine pwN [] (jn2 e0 hc) ?_
  intros
  (repeat apply za); refine pwn ?_; intros
  by_cases h : 0 < z
  ·rw [if_pos h] at hst
   repeat apply za
   refine zi (by simp [h]) ?_
   repeat apply za
   refine pwn ?_
   refine ⟨by omega, ?_⟩
   intros
   (repeat apply za); refine pwn ?_; intros
   exact zm (k + 1, out ++ [⟨k, z⟩], w + 1) [] ⟨hc, hst.symm⟩ (by simp; omega) (by simp [wrN k (by omega)]) rfl (by simp)
  ·rw [if_neg h, List.append_nil] at hst
   repeat apply za
   refine zk (by simp; omega) ?_
   refine ze ?_
   (repeat apply za); refine pwn ?_; intros
   exact zm (k + 1, out, w) [] ⟨hc, hst.symm⟩ (by simp; omega) (by simp [wrN k (by omega)]) rfl (by simp)
 ·simp at hc
  obtain rfl : k = q.length := by omega
  rw [List.take_length] at ho
  refine zo ?_
  refine zL 0 rfl ?_
  (repeat apply za); refine pwn ?_; intros
  repeat apply za
  exact zb (zg hd (by simp; rfl) (by simp [zj, ho]))
def ye (c : Cust) (f : Int → Int) : Nat → List Int × Int
 | 0 => ([], c.start)
 | k + 1 => ((ye c f k).1 ++ [f (ye c f k).2], (ye c f k).2 + (f (ye c f k).2 - c.rate))
def xL (c : Cust) (cap : Int) (t : Int) : Int := qm c (max t 0) cap
def wQ (c : Cust) (cap : Int) (t : Int) : Int := if c.rate ≤ t then 0 else qm c (max t 0) cap
theorem uQ (c : Cust) (f : Int → Int) : ∀ k, (ye c f k).1.length = k
 | 0 => rfl
 | k + 1 => by simp [ye, uQ c f k]
theorem Q1 {c : Cust} (hc : CustFits c) (cap t : Int) : 0 ≤ xL c cap t ∧ xL c cap t ≤ 2147483648 := Q0 hc.size (by omega)
theorem Q3 {c : Cust} (hc : CustFits c) (cap t : Int) : 0 ≤ wQ c cap t ∧ wQ c cap t ≤ 2147483648 := by
 unfold wQ
 split
 ·omega
 ·exact Q0 hc.size (by omega)
theorem uR {c : Cust} (hc : CustFits c) {f : Int → Int} (hf : ∀ t, 0 ≤ f t ∧ f t ≤ 2147483648) : ∀ k : Nat, (-4294967296 * ((k : Int) + 1) ≤ (ye c f k).2 ∧ (ye c f k).2 ≤ 4294967296 * ((k : Int) + 1)) ∧ Qs (ye c f k).1
 | 0 => by
  have := hc.start
  refine ⟨by simp only [ye]; omega, by intro z hz; cases hz⟩
 | k + 1 => by
  obtain ⟨h1, h2⟩ := uR hc hf k
  have h3 := hf (ye c f k).2
  have h4 := hc.rate
  refine ⟨by simp only [ye]; push_cast; omega, fun z hz => ?_⟩
  simp only [ye] at hz
  rcases List.mem_append.1 hz with hz | hz
  ·exact h2 z hz
  ·rw [List.mem_singleton.1 hz]; exact h3
set_option maxRecDepth 20000 in
theorem Zkw (c : Cust) (cap t : Int) (hc : CustFits c) (ht : -4611686018427387904 ≤ t ∧ t ≤ 4611686018427387904) : Pure Tryz.prog 212 [I t, .ip (zv c), .ip [I cap]] (I (xL c cap t)) := by
 have hm : jX t 0 = max t 0 := by unfold jX; split <;> omega
 have hmo := Wc c (max t 0) cap hc.size (by omega)
 unfold xL
 generalize max t 0 = m at hm hmo ⊢
 generalize qm c m cap = z at hmo ⊢
 refine pwe Tryz.func212 Tryz.ntmps212 Tryz.results212 fun S nx hd => ?_
 (repeat apply za); refine pwn ?_; intros
 repeat apply za
 refine pwN [] hm ?_
 refine pwC [] hmo hm ?_
 intros
 repeat apply za
 exact zb (zg hd rfl rfl)
set_option maxRecDepth 20000 in
theorem Zkx (c : Cust) (cap t : Int) (hc : CustFits c) (ht : -4611686018427387904 ≤ t ∧ t ≤ 4611686018427387904) : Pure Tryz.prog 213 [I t, .ip (zv c), .ip [I cap]] (I (wQ c cap t)) := by
 have hm : jX t 0 = max t 0 := by unfold jX; split <;> omega
 have hmo := Wc c (max t 0) cap hc.size (by omega)
 unfold wQ
 generalize max t 0 = m at hm hmo ⊢
 generalize qm c m cap = z at hmo ⊢
 refine pwe Tryz.func213 Tryz.ntmps213 Tryz.results213 fun S nx hd => ?_
 (repeat apply za); refine pwn ?_; intros
 (repeat apply za); refine pwn ?_; intros
 by_cases h : c.rate ≤ t
 ·rw [if_pos h]
  repeat apply za
  refine zi (by simp [h]) ?_
  (repeat apply za); refine pwn ?_; intros
  repeat apply za
  exact zb (zg hd rfl rfl)
 ·rw [if_neg h]
  repeat apply za
  refine zk (by simp; omega) ?_
  refine ze ?_
  repeat apply za
  refine pwN [] hm ?_
  refine pwC [] hmo hm ?_
  intros
  repeat apply za
  exact zb (zg hd rfl rfl)
set_option maxRecDepth 20000 in
theorem Zcw (c : Cust) (n : Nat) (fn : FuncId) (caps : List PV) (f : Int → Int) (hc : CustFits c) (hn : n ≤ 1000) (hf : ∀ t, 0 ≤ f t ∧ f t ≤ 2147483648) (hfn : ∀ t, (-4611686018427387904 ≤ t ∧ t ≤ 4611686018427387904) → Pure Tryz.prog fn ([I t] ++ caps) (I (f t))) :
  Pure Tryz.prog 211 [.agg (zv c), I n, .fn (.func fn) [] caps] (.tup [L (ye c f n).1, B (decide (qB c (ye c f n).1 = 0))]) := by
 have hr := hc.rate
 refine pwe Tryz.func211 Tryz.ntmps211 Tryz.results211 fun S nx hd => ?_
 repeat apply za
 refine pwn ?_
 intro v0
 (repeat apply za); refine pwn ?_; intros
 refine za (yK 8 3 1 rfl fun v1 => ?_)
 (repeat apply za); refine pwn ?_; intros
 (repeat apply za); refine pwn ?_; intros
 repeat apply za
 refine zh (zr (fun s : Nat × Nat => s.1 ≤ n) (fun (k, w) => [(2, .fn (.func fn) [] caps), (3, .ptr nx v0 0), (8, .sl (nx + 1) w 1 0 (ye c f k).1.length), (9, I (ye c f k).2), (13, I n), (14, I k)]) (fun (k, w) => [.cells v0 41 (zv c), .cells w 3 ((ye c f k).1.flatMap Enc.enc)]) (fun s => n - s.1) (0, v1) [] (by simp) (by simp [ye]) (by simp [ye]) ?_)
 rintro ⟨k, w⟩ hk
 simp only at hk ⊢
 obtain ⟨hbd, -⟩ := uR hc hf k
 have hl := uQ c f k
 have hsucc : ye c f (k + 1) = ((ye c f k).1 ++ [f (ye c f k).2], (ye c f k).2 + (f (ye c f k).2 - c.rate)) := rfl
 generalize hst : ye c f k = st at hbd hl hsucc ⊢
 obtain ⟨q, t⟩ := st
 simp only at hbd hl hsucc ⊢
 (repeat apply za); refine pwn ?_; intros
 repeat apply za
 refine zn rfl (fun hc1 => ?_) (fun hc1 => ?_)
 ·simp at hc1
  have hft := hf t
  have hcall := hfn t (by omega)
  have w1 : IntKind.i64.wrap (f t - c.rate) = f t - c.rate := wr _ (by omega) (by omega)
  have w2 : IntKind.i64.wrap (t + (f t - c.rate)) = t + (f t - c.rate) := wr _ (by omega) (by omega)
  generalize f t = z at *
  refine ze (za (zh ?_))
  repeat apply za
  refine pwn ?_
  refine pwc hcall ?_
  intros
  repeat apply za
  refine pwn ?_
  refine ⟨by omega, ?_⟩
  intros
  repeat apply za
  refine pwN [] (jn2 w1 w2) ?_
  intros
  (repeat apply za); refine pwn ?_; intros
  exact zm (k + 1, w + 1) [] (by omega) (by simp; omega) (by simp [wrN k (by omega), hsucc]) rfl (by simp [hsucc])
 ·simp at hc1
  obtain rfl : k = n := by omega
  refine zo ?_
  refine zL 1 rfl ?_
  have hh := Zje c q hc (by omega)
  repeat apply za
  refine pwn ?_
  refine pwc hh ?_
  intros
  repeat apply za
  exact zb (zg hd (by simp; rfl) (by simp [zj, hst]))
def jz (c : Cust) (n : Nat) (cap : Int) : List Int × Bool := ((ye c (xL c cap) n).1, decide (qB c (ye c (xL c cap) n).1 = 0))
def we (c : Cust) (n : Nat) (cap : Int) : List Int × Bool := ((ye c (wQ c cap) n).1, decide (qB c (ye c (wQ c cap) n).1 = 0))
set_option maxRecDepth 20000 in
theorem Zky (c : Cust) (n : Nat) (cap : Int) (hc : CustFits c) (hn : n ≤ 1000) : Pure Tryz.prog 175 [.agg (zv c), I n, I cap] (.tup [L (jz c n cap).1, B (jz c n cap).2]) := by
 have h := Zcw c n 212 [.ip (zv c), .ip [I cap]] (xL c cap) hc hn (Q1 hc cap) (fun t ht => Zkw c cap t hc ht)
 unfold jz
 generalize ye c (xL c cap) n = r at h ⊢
 refine pwe Tryz.func175 Tryz.ntmps175 Tryz.results175 fun S nx hd => ?_
 repeat apply za
 refine pwn ?_
 intro v0 v1
 refine jq 0 rfl ?_
 refine jq 1 rfl ?_
 repeat apply za
 refine pwn ?_
 refine pwc h ?_
 intros
 repeat apply za
 exact zb (zg hd (by simp; rfl) rfl)
set_option maxRecDepth 20000 in
theorem Zkz (c : Cust) (n : Nat) (cap : Int) (hc : CustFits c) (hn : n ≤ 1000) : Pure Tryz.prog 177 [.agg (zv c), I n, I cap] (.tup [L (we c n cap).1, B (we c n cap).2]) := by
 have h := Zcw c n 213 [.ip (zv c), .ip [I cap]] (wQ c cap) hc hn (Q3 hc cap) (fun t ht => Zkx c cap t hc ht)
 unfold we
 generalize ye c (wQ c cap) n = r at h ⊢
 refine pwe Tryz.func177 Tryz.ntmps177 Tryz.results177 fun S nx hd => ?_
 repeat apply za
 refine pwn ?_
 intro v0 v1
 refine jq 0 rfl ?_
 refine jq 1 rfl ?_
 repeat apply za
 refine pwn ?_
 refine pwc h ?_
 intros
 repeat apply za
 exact zb (zg hd (by simp; rfl) rfl)
def uS (price : List Int) (v : List Visit) : Int := v.foldl (fun s w => W (s + prD price w.d)) 0
theorem ZkA (price : List Int) (v : List Visit) (w : Visit) : uS price (v ++ [w]) = W (uS price v + prD price w.d) := by simp [uS]
def ZI (c : Cust) (n : Int) (price : List Int) (v : List Visit) : Int := if c.kind = 1 then uS price v else W (uS price v + Zz c (yd c (zK v n)).1)
set_option maxRecDepth 20000 in
theorem Zcx {S : Store} {pl : PV} {price : List Int} (c : Cust) (n : Int) (v : List Visit) (hR : RowOf S pl price) (hc : CustFits c) (hv : VisOk v) :
  Spec Tryz.prog 178 [.agg (zv c), I n, pl, L v] S (fun q S' => q = I (ZI c n price v) ∧ S' = S) := by
 have hvn := hv.n
 have hp := fun S (h : RowOf S pl price) d => Zct d h
 unfold ZI
 refine qp Tryz.func178 Tryz.ntmps178 Tryz.results178 fun nx hd => ?_
 repeat apply za
 refine pwn ?_
 intro v0
 (repeat apply za); refine pwn ?_; intros
 (repeat apply za); refine pwn ?_; intros
 repeat apply za
 refine zh (zr (fun k : Nat => k ≤ v.length) (fun k => [(1, I n), (3, L v), (4, .ptr nx v0 0), (9, I (uS price (v.take k))), (2, pl), (14, L v), (15, I v.length), (16, I k)]) (fun _ => [.cells v0 41 (zv c)]) (fun k => v.length - k) 0 [] (by simp) (by simp [uS]) (by simp) ?_)
 rintro k hk
 (repeat apply za); refine pwn ?_; intros
 repeat apply za
 refine zn rfl (fun hc1 => ?_) (fun hc1 => ?_)
 ·simp at hc1
  obtain ⟨w, tl, a1, a2, a3, e1, e0⟩ := el 2 rfl v k hc1
  have hsn := ZkA price (v.take k) w
  rw [← a3] at hsn
  refine ze (za (zh ?_))
  repeat apply za
  refine pwN [] (jn2 e0 hc1) ?_
  intro v2
  repeat apply za
  refine zQ [] (by rfl) (by rfl) fun K Gc Gh hK hGc hGh X hX0 hX => ?_
  simp -implicitDefEqProofs [hX0, hX]
  try clear hX0 hX X
  refine hGc _ _ _ _ _ _ _ fun hsuf => ((hp _ (hR.ext hd _) _).mono ?_).v
  rintro _ _ ⟨rfl, rfl⟩
  refine ⟨_, _, rfl, ?_⟩
  clear hGc hGh
  clear Gc Gh
  refine zH hsuf (D := []) (by rfl) fun Gc Gh hGc hGh X hX0 hX => ?_
  simp -implicitDefEqProofs [hX0, hX]
  clear hX0 hX X
  intros
  refine hK _ _ _ ?_
  clear hK hGc hGh
  clear K Gc Gh
  (repeat apply za); refine pwn ?_; intros
  exact zm (k + 1) [_] hc1 (by omega) (by simp [wrN k (by omega), hsn]) rfl (by simp; rfl)
 ·simp at hc1
  obtain rfl : k = v.length := by omega
  rw [List.take_length]
  refine zo ?_
  (repeat apply za); refine pwn ?_; intros
  by_cases hk1 : c.kind = 1
  ·rw [if_pos hk1]
   repeat apply za
   refine zi (by simp [hk1]) ?_
   (repeat apply za); refine pwn ?_; intros
   repeat apply za
   exact zb ⟨_, S, rfl, ⟨by simp [zj], rfl⟩, zE hd⟩
  ·rw [if_neg hk1]
   have hb := Zjk v n hv
   have hn := ZbM c (zK v n) hc (Zcj _ _)
   have hh := ZbN c _ (Zkk c (zK v n) (Zcj _ _))
   generalize yd c (zK v n) = ns at hn hh ⊢
   obtain ⟨nl, ne⟩ := ns
   simp only at hn hh ⊢
   repeat apply za
   refine zk (by simp [hk1]) ?_
   refine ze ?_
   repeat apply za
   refine pwY (some [nx]) (Row.pures [0, 1, 2, 3, 4, 5, 6, 7, 8, 9] .done) mixed trivial ?_
   refine pwP (hb) trivial ?_
   refine pwP (hn) trivial ?_
   intros
   repeat apply za
   refine pwn ?_
   refine pwc hh ?_
   intros
   repeat apply za
   exact zb ⟨_, S, rfl, ⟨by simp [zj], rfl⟩, zE hd⟩
def uc (c : Cust) (n : Nat) (cap : Int) (price : List Int) : List Visit × Bool :=
 if (we c n cap).2 = true ∧ ((jz c n cap).2 = false ∨ ZI c n price (zG 0 (we c n cap).1) ≤ ZI c n price (zG 0 (jz c n cap).1)) then (zG 0 (we c n cap).1, true)
 else if (jz c n cap).2 = true then (zG 0 (jz c n cap).1, true) else ([], false)
theorem Zcy {q : List Int} {n : Nat} (hq : Qs q) (hl : q.length = n) (hn : n ≤ 1000) : VisOk (zG 0 q) := by
 refine ⟨Nat.le_trans (QU _ _) (by omega), fun s hs => ?_, fun s hs => ?_⟩
 ·have := QV q 0 hq s hs; omega
 ·have := QV q 0 hq s hs; unfold I64; omega
set_option maxRecDepth 20000 in
theorem ZkB {S : Store} {pl : PV} {price : List Int} (c : Cust) (n : Nat) (cap : Int) (hR : RowOf S pl price) (hc : CustFits c) (hn : n ≤ 1000) :
  Spec Tryz.prog 129 [.agg (zv c), I n, I cap, pl] S (fun q S' => q = .tup [L (uc c n cap price).1, B (uc c n cap price).2] ∧ S' = S) := by
 have hD := Zky c n cap hc hn
 have hL := Zkz c n cap hc hn
 have lD : (jz c n cap).1.length = n := uQ _ _ _
 have lL : (we c n cap).1.length = n := uQ _ _ _
 have vD : VisOk (zG 0 (jz c n cap).1) := Zcy (uR hc (Q1 hc cap) n).2 lD hn
 have vL : VisOk (zG 0 (we c n cap).1) := Zcy (uR hc (Q3 hc cap) n).2 lL hn
 unfold uc
 generalize jz c n cap = rd at *
 generalize we c n cap = rl at *
 obtain ⟨qd, od⟩ := rd
 obtain ⟨ql, ol⟩ := rl
 simp only at hD hL lD lL vD vL ⊢
 have hVd := Zcv qd (by omega)
 have hVl := Zcv ql (by omega)
 have hcd := fun S (h : RowOf S pl price) => Zcx (S := S) c n (zG 0 qd) h hc vD
 have hcl := fun S (h : RowOf S pl price) => Zcx (S := S) c n (zG 0 ql) h hc vL
 generalize zG 0 qd = vd at *
 generalize zG 0 ql = vl at *
 generalize ZI c n price vd = zd at *
 generalize ZI c n price vl = zl at *
 refine qp Tryz.func129 Tryz.ntmps129 Tryz.results129 fun nx hd => ?_
 repeat apply za
 refine pwn ?_
 intro v0
 repeat apply za
 refine pwn ?_
 refine pwc hD ?_
 intros
 repeat apply za
 refine pwn ?_
 refine pwc hVd ?_
 intros
 repeat apply za
 refine pwn ?_
 refine pwc hL ?_
 intros
 (repeat apply za); refine pwn ?_; intros
 cases ol with
 | true =>
  repeat apply za
  refine zi rfl ?_
  repeat apply za
  refine pwn ?_
  refine pwc hVl ?_
  intros
  cases od with
  | false =>
   rw [if_pos ⟨rfl, .inl rfl⟩]
   repeat apply za
   refine pwY (some [nx]) (Row.pures [0, 1, 2, 3, 4, 5, 6, 7, 8, 9, 10, 11, 12, 13, 14] .done) mixed zp ?_
   intros
   repeat apply za
   refine zi rfl ?_
   (repeat apply za); refine pwn ?_; intros
   repeat apply za
   exact zb ⟨_, S, (by simp; rfl), ⟨by simp [zj], rfl⟩, zE hd⟩
  | true =>
   by_cases hle : zl ≤ zd
   ·rw [if_pos ⟨rfl, .inr hle⟩]
    repeat apply za
    refine xE (some [nx]) (Row.pures [0, 1, 2, 3, 4, 5, 6, 8, 9, 10, 11] (.alt 7 (.alt 12 (Row.pures [13, 14] .done) .stop) .stop)) mixed (by rfl) (by rfl) (by rfl) fun K Gp Gc Gh hK hGp hGc hGh X hX0 hX1 hX2 hX => ?_
    simp -implicitDefEqProofs [hX0, hX1, hX2, hX, undef]
    try clear hX0 hX1 hX2 hX X
    refine hGc _ _ _ _ _ _ _ (((hcl _ (hR.ext hd _)).mono ?_).v)
    rintro _ _ ⟨rfl, rfl⟩
    refine ⟨by simp [zW], ?_⟩
    clear hGp hGc hGh
    clear Gp Gc Gh
    refine qS fun Gp Gc Gh hGp hGc hGh X hX0 hX1 hX2 hX => ?_
    simp -implicitDefEqProofs [hX0, hX1, hX2, hX, undef]
    try clear hX0 hX1 hX2 hX X
    refine hGc _ _ _ _ _ _ _ (((hcd _ (hR.ext hd _)).mono ?_).v)
    rintro _ _ ⟨rfl, rfl⟩
    refine ⟨by simp [zW], ?_⟩
    clear hGp hGc hGh
    clear Gp Gc Gh
    refine qS fun Gp Gc Gh hGp hGc hGh X hX0 hX1 hX2 hX => ?_
    simp -implicitDefEqProofs [hX0, hX1, hX2, hX, undef]
    try clear hX0 hX1 hX2 hX X
    refine hK _ _ _ ?_
    clear hK hGp hGc hGh
    clear K Gp Gc Gh
    repeat apply za
    refine zi (by simp [hle]) ?_
    (repeat apply za); refine pwn ?_; intros
    repeat apply za
    exact zb ⟨_, S, (by simp; rfl), ⟨by simp [zj], rfl⟩, zE hd⟩
   ·rw [if_neg (by rintro ⟨-, q | q⟩; cases q; exact hle q), if_pos rfl]
    repeat apply za
    refine xE (some [nx]) (Row.pures [0, 1, 2, 3, 4, 5, 6, 8, 9, 10, 11] (.alt 7 (.alt 12 (Row.pures [13, 14] .done) .stop) .stop)) mixed (by rfl) (by rfl) (by rfl) fun K Gp Gc Gh hK hGp hGc hGh X hX0 hX1 hX2 hX => ?_
    simp -implicitDefEqProofs [hX0, hX1, hX2, hX, undef]
    try clear hX0 hX1 hX2 hX X
    refine hGc _ _ _ _ _ _ _ (((hcl _ (hR.ext hd _)).mono ?_).v)
    rintro _ _ ⟨rfl, rfl⟩
    refine ⟨by simp [zW], ?_⟩
    clear hGp hGc hGh
    clear Gp Gc Gh
    refine qS fun Gp Gc Gh hGp hGc hGh X hX0 hX1 hX2 hX => ?_
    simp -implicitDefEqProofs [hX0, hX1, hX2, hX, undef]
    try clear hX0 hX1 hX2 hX X
    refine hGc _ _ _ _ _ _ _ (((hcd _ (hR.ext hd _)).mono ?_).v)
    rintro _ _ ⟨rfl, rfl⟩
    refine ⟨by simp [zW], ?_⟩
    clear hGp hGc hGh
    clear Gp Gc Gh
    refine qS fun Gp Gc Gh hGp hGc hGh X hX0 hX1 hX2 hX => ?_
    simp -implicitDefEqProofs [hX0, hX1, hX2, hX, undef]
    try clear hX0 hX1 hX2 hX X
    refine hK _ _ _ ?_
    clear hK hGp hGc hGh
    clear K Gp Gc Gh
    repeat apply za
    refine zk (by simp; omega) ?_
    refine ze ?_
    (repeat apply za); refine pwn ?_; intros
    repeat apply za
    refine zk rfl ?_
    refine ze ?_
    (repeat apply za); refine pwn ?_; intros
    repeat apply za
    exact zb ⟨_, S, (by simp; rfl), ⟨by simp [zj], rfl⟩, zE hd⟩
 | false =>
  rw [if_neg (by rintro ⟨q, -⟩; cases q)]
  repeat apply za
  refine zk rfl ?_
  refine ze ?_
  (repeat apply za); refine pwn ?_; intros
  cases od with
  | false =>
   rw [if_neg (by decide)]
   repeat apply za
   refine zi rfl ?_
   (repeat apply za); refine pwn ?_; intros
   refine jP 8 rfl ?_
   repeat apply za
   exact zb ⟨_, S, rfl, ⟨by simp [zj], rfl⟩, zE hd⟩
  | true =>
   rw [if_pos rfl]
   repeat apply za
   refine zk rfl ?_
   refine ze ?_
   (repeat apply za); refine pwn ?_; intros
   repeat apply za
   exact zb ⟨_, S, (by simp; rfl), ⟨by simp [zj], rfl⟩, zE hd⟩
open Go Go.Proofs Hp
def zV (c : Cust) (last d : Int) : Int × Int :=
 ((if last < 0 then c.start else c.size) - c.rate * ((if last < 0 then d else d - last).toNat : Int),
  Zz c ((List.range (if last < 0 then d else d - last).toNat).map fun (i : Nat) => (if last < 0 then c.start else c.size) - c.rate * ((i : Int) + 1)))
set_option maxRecDepth 20000 in
theorem Zcz (c : Cust) (last d : Int) (hc : CustFits c) (hl : -1 ≤ last ∧ last ≤ 64) (hd0 : 0 ≤ d ∧ d ≤ 64) : Pure Tryz.prog 170 [.agg (zv c), I last, I d] (.tup [I (zV c last d).1, I (zV c last d).2]) := by
 have h1 := hc.rate
 have h2 := hc.size
 have h3 := hc.start
 have w0 : IntKind.i64.wrap (d - last) = d - last := wr _ (by omega) (by omega)
 have key : zV c last d = (let t0 := if last < 0 then c.start else c.size; let m := if last < 0 then d else d - last; (t0 - c.rate * (m.toNat : Int), Zz c ((List.range m.toNat).map fun (i : Nat) => t0 - c.rate * ((i : Int) + 1)))) := rfl
 rw [key]
 obtain ⟨t0, ht0⟩ : ∃ t0, t0 = if last < 0 then c.start else c.size := ⟨_, rfl⟩
 obtain ⟨m, hm⟩ : ∃ m, m = if last < 0 then d else d - last := ⟨_, rfl⟩
 have hb0 : 0 ≤ t0 ∧ t0 ≤ 2147483648 := by rw [ht0]; split <;> omega
 have hmb : -64 ≤ m ∧ m ≤ 65 := by rw [hm]; split <;> omega
 rw [← ht0, ← hm]
 clear key
 simp only
 refine pwe Tryz.func170 Tryz.ntmps170 Tryz.results170 fun S nx hd => ?_
 repeat apply za
 refine pwn ?_
 intro v0
 repeat apply za
 refine pwN [] w0 ?_
 intros
 refine za ?_
 refine zX (nx := nx) (σ := Unit) (fun _ => True) (fun _ => [(3, .ptr nx v0 0), (8, I t0), (9, I m)]) (fun _ => S) (fun _ => [.cells v0 41 (zv c)]) ?_ ?_
 ·(repeat apply za); refine pwn ?_; intros
  by_cases h : last < 0
  ·rw [if_pos h] at ht0 hm
   repeat apply za
   refine zi (by simp [h]) ?_
   (repeat apply za); refine pwn ?_; intros
   exact zy () [] trivial (by simp [ht0, hm]) rfl (by simp)
  ·rw [if_neg h] at ht0 hm
   repeat apply za
   refine zk (by simp; omega) ?_
   refine ze ?_
   exact zy () [] trivial (by simp [ht0, hm]) rfl (by simp)
 intro _ _
 (repeat apply za); refine pwn ?_; intros
 refine za (yK 10 3 1 rfl fun v1 => ?_)
 (repeat apply za); refine pwn ?_; intros
 have hprod : ∀ k : Nat, k ≤ 65 → 0 ≤ c.rate * (k : Int) ∧ c.rate * (k : Int) ≤ 2147483648 * 65 := fun k hk => ⟨Int.mul_nonneg h1.1 (by omega), Int.mul_le_mul h1.2 (by omega) (by omega) (by omega)⟩
 repeat apply za
 refine zh (zr (fun s : Nat × Nat => s.1 ≤ m.toNat) (fun (k, w) => [(3, .ptr nx v0 0), (8, I (t0 - c.rate * (k : Int))), (10, .sl (nx + 1) w 1 0 ((List.range k).map fun (i : Nat) => t0 - c.rate * ((i : Int) + 1)).length), (21, I m), (22, I k)]) (fun (k, w) => [.cells v0 41 (zv c), .cells w 3 (((List.range k).map fun (i : Nat) => t0 - c.rate * ((i : Int) + 1)).flatMap Enc.enc)]) (fun s => m.toNat - s.1) (0, v1) [] (by simp) (by simp) (by simp) ?_)
 rintro ⟨k, w⟩ hk
 simp only at hk ⊢
 have hp := hprod k (by omega)
 have hp1 := hprod (k + 1)
 have hmul : c.rate * ((k : Int) + 1) = c.rate * (k : Int) + c.rate := by rw [Int.mul_add, Int.mul_one]
 have hrs : ((List.range (k + 1)).map fun (i : Nat) => t0 - c.rate * ((i : Int) + 1)) = ((List.range k).map fun (i : Nat) => t0 - c.rate * ((i : Int) + 1)) ++ [t0 - c.rate * ((k : Int) + 1)] := by simp [List.range_succ]
 have hl0 : ((List.range k).map fun (i : Nat) => t0 - c.rate * ((i : Int) + 1)).length = k := by simp
 generalize hls : ((List.range k).map fun (i : Nat) => t0 - c.rate * ((i : Int) + 1)) = ls at *
 by_cases hc1 : (k : Int) < m
 ·have w1 : IntKind.i64.wrap (t0 - c.rate * (k : Int) - c.rate) = t0 - c.rate * ((k : Int) + 1) := by rw [wr _ (by omega) (by omega)]; omega
  (repeat apply za); refine pwn ?_; intros
  repeat apply za
  refine zi (by simp [hc1]) ?_
  refine ze (za (zh ?_))
  repeat apply za
  refine pwN [] w1 ?_
  intros
  repeat apply za
  refine pwn ?_
  refine ⟨by omega, ?_⟩
  intros
  (repeat apply za); refine pwn ?_; intros
  exact zm (k + 1, w + 1) [] (by simp; omega) (by simp; omega) (by simp [wrN k (by omega), hrs];) rfl (by simp [hrs])
 ·(repeat apply za); refine pwn ?_; intros
  repeat apply za
  refine zk (by simp; omega) ?_
  obtain rfl : k = m.toNat := by omega
  refine zo ?_
  refine zL 1 rfl ?_
  repeat apply za
  refine pwn ?_
  refine pwc (ZbN c ls (by omega)) ?_
  intros
  repeat apply za
  exact zb (zg hd (by simp; rfl) (by simp [zj, hls]))
def wg (c : Cust) (st : List Visit × Int) (d : Int) : List Visit × Int := (st.1 ++ [⟨d, W (c.size - (zV c st.2 d).1)⟩], d)
def zZ (c : Cust) (ds : List Int) : List Visit × Int := ds.foldl (wg c) ([], -1)
theorem ZJ (c : Cust) (ds : List Int) (d : Int) : zZ c (ds ++ [d]) = wg c (zZ c ds) d := by simp [zZ]
theorem ZcA (c : Cust) : ∀ ds : List Int, (zZ c ds).1.length = ds.length := by
 have : ∀ (ds : List Int) (st : List Visit × Int), (ds.foldl (wg c) st).1.length = st.1.length + ds.length := by
  intro ds
  induction ds with
  | nil => intro st; simp
  | cons d ds ih => intro st; rw [List.foldl_cons, ih]; simp [wg]; omega
 intro ds
 unfold zZ; rw [this]; simp
set_option maxRecDepth 20000 in
theorem ZkC (c : Cust) (p : Nat) (hp : p < 2 ^ 64) (hc : CustFits c) : Pure Tryz.prog 174 [.agg (zv c), U p] (L (zZ c (zS p 0 64)).1) := by
 have hall := Wb p hp
 have hln := vW p 0 64
 have hds : ∀ d ∈ zS p 0 64, 0 ≤ d ∧ d < 64 := fun d hd => by obtain ⟨i, h, h2, _⟩ := uO hd; omega
 generalize zS p 0 64 = ds at hall hln hds ⊢
 refine pwe Tryz.func174 Tryz.ntmps174 Tryz.results174 fun S nx hd => ?_
 repeat apply za
 refine pwn ?_
 intro v0
 (repeat apply za); refine pwn ?_; intros
 refine za (yK 5 103 2 rfl fun v1 => ?_)
 (repeat apply za); refine pwn ?_; intros
 repeat apply za
 refine pwn ?_
 refine pwc hall ?_
 intros
 have hlast : ∀ k, -1 ≤ (zZ c (ds.take k)).2 ∧ (zZ c (ds.take k)).2 ≤ 64 := by
  intro k
  induction k with
  | zero => simp [zZ]
  | succ k ih =>
   by_cases h : k < ds.length
   ·rw [List.take_succ_eq_append_getElem h, ZJ]
    have := hds ds[k] (List.getElem_mem h)
    simp only [wg]; omega
   ·rw [List.take_of_length_le (by omega)] at ih ⊢
    exact ih
 repeat apply za
 refine zh (zr (fun s : Nat × Nat => s.1 ≤ ds.length) (fun (k, w) => [(2, .ptr nx v0 0), (5, .sl (nx + 1) w 2 0 (zZ c (ds.take k)).1.length), (6, I (zZ c (ds.take k)).2), (12, L ds), (13, I ds.length), (14, I k)]) (fun (k, w) => [.cells v0 41 (zv c), .cells w 103 ((zZ c (ds.take k)).1.flatMap Enc.enc)]) (fun s => ds.length - s.1) (0, v1) [] (by simp) (by simp [zZ]) (by simp [zZ]) ?_)
 rintro ⟨k, w⟩ hk
 simp only at hk ⊢
 have hl1 := hlast k
 have hfl : (zZ c (ds.take k)).1.length = k := by rw [ZcA]; simp; omega
 (repeat apply za); refine pwn ?_; intros
 repeat apply za
 refine zn rfl (fun hc1 => ?_) (fun hc1 => ?_)
 ·simp at hc1
  obtain ⟨d, tl, a1, a2, a3, e0⟩ := el1 rfl ds k hc1
  have hd1 := hds d (List.mem_of_getElem? a1)
  have hsn := ZJ c (ds.take k) d
  rw [← a3] at hsn
  generalize zZ c (ds.take k) = st at *
  obtain ⟨out, last⟩ := st
  simp only [wg] at hl1 hfl hsn ⊢
  have hr := Zcz c last d hc hl1 (by omega)
  generalize zV c last d = r at hr hsn
  obtain ⟨th, he⟩ := r
  simp only at hr hsn
  refine ze (za (zh ?_))
  repeat apply za
  refine pwN [] (jn2 e0 hc1) ?_
  intros
  repeat apply za
  refine pwn ?_
  refine pwc hr ?_
  intros
  repeat apply za
  refine pwn ?_
  refine ⟨by omega, ?_⟩
  intros
  (repeat apply za); refine pwn ?_; intros
  (repeat apply za); refine pwn ?_; intros
  exact zm (k + 1, w + 1) [] hc1 (by simp; omega) (by simp [wrN k (by omega), hsn]) rfl (by simp [hsn])
 ·simp at hc1
  obtain rfl : k = ds.length := by omega
  rw [List.take_length]
  refine zo ?_
  refine zL 1 rfl ?_
  (repeat apply za); refine pwn ?_; intros
  repeat apply za
  exact zb (zg hd (by simp; rfl) rfl)
structure Stp where
 r : Bool
 k : Int
 l : Int
 deriving DecidableEq
instance : Inhabited Stp := ⟨⟨false, 0, 0⟩⟩
instance : Enc Stp := ⟨fun s => [B s.r, I s.k, I s.l], 3, fun _ => rfl, fun _ => rfl⟩
@[simp] theorem Zn0 (s : Stp) : Enc.enc s = [B s.r, I s.k, I s.l] := rfl
@[simp high] theorem ZkD (l : List Stp) : (l.flatMap Enc.enc).length = l.length * 3 := jp l
@[simp high] theorem Zn1 (l : List Stp) : (l.flatMap Enc.enc).take (l.length * 3) = l.flatMap Enc.enc := w8 l
def zs : Stp := ⟨false, 0, 0⟩
def cnK (c : Cust) (n : Nat) (cap : Int) (price : List Int) (tab : List Stp) (d : Nat) (last : Int) : Int :=
 let k1 := if 0 ≤ last then W ((zV c last d).2 + (tab.getD last.toNat zs).k) else (zV c last d).2
 if d < n then W (k1 + prD price d) else k1
def vu (c : Cust) (n : Nat) (cap : Int) (tab : List Stp) (d : Nat) (last : Int) : Prop :=
 ¬ (0 ≤ last ∧ tab.getD last.toNat zs = zs) ∧ ¬ ((zV c last d).1 < 0 ∨ (d < n ∧ qm c (zV c last d).1 cap = 0))
instance (c : Cust) (n : Nat) (cap : Int) (tab : List Stp) (d : Nat) (last : Int) : Decidable (vu c n cap tab d last) := by unfold vu; exact inferInstance
def cnS (c : Cust) (n : Nat) (cap : Int) (price : List Int) (tab : List Stp) (d : Nat) (best : Stp) (last : Int) : Stp :=
 if vu c n cap tab d last then (if best = zs ∨ cnK c n cap price tab d last < best.k then ⟨true, cnK c n cap price tab d last, last⟩ else best) else best
def qP (c : Cust) (n : Nat) (cap : Int) (price : List Int) (tab : List Stp) (d : Nat) (j : Nat) : Stp := (List.range j).foldl (fun b (i : Nat) => cnS c n cap price tab d b ((i : Int) - 1)) zs
theorem Wd (c : Cust) (n : Nat) (cap : Int) (price : List Int) (tab : List Stp) (d : Nat) (j : Nat) : qP c n cap price tab d (j + 1) = cnS c n cap price tab d (qP c n cap price tab d j) ((j : Int) - 1) := by simp [qP, List.range_succ]
def yD (c : Cust) (n : Nat) (cap : Int) (price : List Int) : Nat → List Stp
 | 0 => []
 | k + 1 => yD c n cap price k ++ [qP c n cap price (yD c n cap price k) k (k + 1)]
theorem ZK (c : Cust) (n : Nat) (cap : Int) (price : List Int) : ∀ k, (yD c n cap price k).length = k
 | 0 => rfl
 | k + 1 => by simp [yD, ZK c n cap price k]
def xc (tab : List Stp) : Nat → Nat → Int → Nat
 | 0, s, _ => s
 | f + 1, s, d => if d < 0 then s else xc tab f (qO s d) (tab.getD d.toNat zs).l
def wR (c : Cust) (n : Nat) (cap : Int) (price : List Int) : List Visit × Bool :=
 if (yD c n cap price (n + 1)).getD n zs = zs then ([], false)
 else ((zZ c (zS (xc (yD c n cap price (n + 1)) 65 0 ((yD c n cap price (n + 1)).getD n zs).l) 0 64)).1, true)
def ZkE (tab : List Stp) : Prop := ∀ (d : Nat) (e : Stp), tab[d]? = some e → e = zs ∨ (e.r = true ∧ -1 ≤ e.l ∧ e.l < d ∧ (0 ≤ e.l → tab.getD e.l.toNat zs ≠ zs))
theorem Q4 (c : Cust) (n : Nat) (cap : Int) (price : List Int) (tab : List Stp) (d : Nat) : ∀ j : Nat, qP c n cap price tab d j = zs ∨ ((qP c n cap price tab d j).r = true ∧ -1 ≤ (qP c n cap price tab d j).l ∧ (qP c n cap price tab d j).l + 1 < j ∧ vu c n cap tab d (qP c n cap price tab d j).l)
 | 0 => .inl rfl
 | j + 1 => by
  have ih := Q4 c n cap price tab d j
  rw [Wd]
  unfold cnS
  split
  ·rename_i hok
   split
   ·exact .inr ⟨rfl, by dsimp only; omega, by dsimp only; omega, hok⟩
   ·rcases ih with ih | ⟨h1, h2, h3, h4⟩
    ·exact .inl ih
    ·exact .inr ⟨h1, h2, by omega, h4⟩
  ·rcases ih with ih | ⟨h1, h2, h3, h4⟩
   ·exact .inl ih
   ·exact .inr ⟨h1, h2, by omega, h4⟩
theorem We (c : Cust) (n : Nat) (cap : Int) (price : List Int) : ∀ k, ZkE (yD c n cap price k)
 | 0 => by intro d e h; cases h
 | k + 1 => by
  have ih := We c n cap price k
  have hl := ZK c n cap price k
  have he := Q4 c n cap price (yD c n cap price k) k (k + 1)
  intro d e h
  simp only [yD] at h ⊢
  have hget : ∀ (i : Nat), i < k → (yD c n cap price k ++ [qP c n cap price (yD c n cap price k) k (k + 1)]).getD i zs = (yD c n cap price k).getD i zs := by
   intro i hi
   rw [List.getD_eq_getElem?_getD, List.getD_eq_getElem?_getD, List.getElem?_append_left (by omega)]
  by_cases hd : d < k
  ·rw [List.getElem?_append_left (by omega)] at h
   rcases ih d e h with q | ⟨q1, q2, q3, q4⟩
   ·exact .inl q
   ·refine .inr ⟨q1, q2, q3, fun q => ?_⟩
    rw [hget _ (by omega)]; exact q4 q
  ·rw [List.getElem?_append_right (by omega), hl] at h
   obtain rfl : d = k := by
    rcases Nat.lt_or_ge (d - k) 1 with q | q
    ·omega
    ·rw [List.getElem?_eq_none (by simpa using q)] at h; cases h
   rw [Nat.sub_self] at h
   simp only [List.getElem?_cons_zero, Option.some.injEq] at h
   subst h
   rcases he with q | ⟨q1, q2, q3, q4⟩
   ·exact .inl q
   ·refine .inr ⟨q1, q2, by omega, fun q => ?_⟩
    rw [hget _ (by omega)]
    exact fun hz => q4.1 ⟨q, hz⟩
open Go Go.Proofs Hp
def yx (tab : List Stp) (b : Stp) : List Stp := tab ++ b :: List.replicate (64 - tab.length) zs
theorem ZcB (tab : List Stp) (b : Stp) (h : tab.length ≤ 64) : (yx tab b).length = 65 := by simp [yx]; omega
theorem Q5 (tab : List Stp) (b : Stp) (i : Nat) (h : i < tab.length) : (yx tab b)[i]? = some (tab.getD i zs) := by
 unfold yx
 rw [List.getElem?_append_left h, List.getD_eq_getElem?_getD, List.getElem?_eq_getElem h]; rfl
theorem ZkF (tab : List Stp) (b : Stp) : (yx tab b)[tab.length]? = some b := by
 unfold yx
 rw [List.getElem?_append_right (Nat.le_refl _)]; simp
theorem ZkG (tab : List Stp) (b e : Stp) : (yx tab b).set tab.length e = yx tab e := by
 unfold yx
 rw [List.set_append_right _ _ (Nat.le_refl _)]; simp
theorem ZkH (tab : List Stp) (b : Stp) (h : tab.length < 64) : yx tab b = yx (tab ++ [b]) zs := by
 unfold yx
 rw [List.append_assoc, List.length_append, List.length_singleton, show 64 - tab.length = (64 - (tab.length + 1)) + 1 from by omega, List.replicate_succ]
 rfl
@[simp] theorem Zn2 : Program.zeroOf Tryz.prog 222 = some (.agg #[.bool false, .int .i64 0, .int .i64 0, .bool false, .int .i64 0, .int .i64 0, .bool false, .int .i64 0, .int .i64 0, .bool false, .int .i64 0, .int .i64 0, .bool false, .int .i64 0, .int .i64 0, .bool false, .int .i64 0, .int .i64 0, .bool false, .int .i64 0, .int .i64 0, .bool false, .int .i64 0, .int .i64 0, .bool false, .int .i64 0, .int .i64 0, .bool false, .int .i64 0, .int .i64 0, .bool false, .int .i64 0, .int .i64 0, .bool false, .int .i64 0, .int .i64 0, .bool false, .int .i64 0, .int .i64 0, .bool false, .int .i64 0, .int .i64 0, .bool false, .int .i64 0, .int .i64 0, .bool false, .int .i64 0, .int .i64 0, .bool false, .int .i64 0, .int .i64 0, .bool false, .int .i64 0, .int .i64 0, .bool false, .int .i64 0, .int .i64 0, .bool false, .int .i64 0, .int .i64 0, .bool false, .int .i64 0, .int .i64 0, .bool false, .int .i64 0, .int .i64 0, .bool false, .int .i64 0, .int .i64 0, .bool false, .int .i64 0, .int .i64 0, .bool false, .int .i64 0, .int .i64 0, .bool false, .int .i64 0, .int .i64 0, .bool false, .int .i64 0, .int .i64 0, .bool false, .int .i64 0, .int .i64 0, .bool false, .int .i64 0, .int .i64 0, .bool false, .int .i64 0, .int .i64 0, .bool false, .int .i64 0, .int .i64 0, .bool false, .int .i64 0, .int .i64 0, .bool false, .int .i64 0, .int .i64 0, .bool false, .int .i64 0, .int .i64 0, .bool false, .int .i64 0, .int .i64 0, .bool false, .int .i64 0, .int .i64 0, .bool false, .int .i64 0, .int .i64 0, .bool false, .int .i64 0, .int .i64 0, .bool false, .int .i64 0, .int .i64 0, .bool false, .int .i64 0, .int .i64 0, .bool false, .int .i64 0, .int .i64 0, .bool false, .int .i64 0, .int .i64 0, .bool false, .int .i64 0, .int .i64 0, .bool false, .int .i64 0, .int .i64 0, .bool false, .int .i64 0, .int .i64 0, .bool false, .int .i64 0, .int .i64 0, .bool false, .int .i64 0, .int .i64 0, .bool false, .int .i64 0, .int .i64 0, .bool false, .int .i64 0, .int .i64 0, .bool false, .int .i64 0, .int .i64 0, .bool false, .int .i64 0, .int .i64 0, .bool false, .int .i64 0, .int .i64 0, .bool false, .int .i64 0, .int .i64 0, .bool false, .int .i64 0, .int .i64 0, .bool false, .int .i64 0, .int .i64 0, .bool false, .int .i64 0, .int .i64 0, .bool false, .int .i64 0, .int .i64 0, .bool false, .int .i64 0, .int .i64 0, .bool false, .int .i64 0, .int .i64 0, .bool false, .int .i64 0, .int .i64 0, .bool false, .int .i64 0, .int .i64 0, .bool false, .int .i64 0, .int .i64 0, .bool false, .int .i64 0, .int .i64 0, .bool false, .int .i64 0, .int .i64 0, .bool false, .int .i64 0, .int .i64 0]) := by kernel_rfl
theorem ZcC {α : Type} [Enc α] : ∀ (l : List α) (k : Nat), (l.flatMap Enc.enc).take (k * Enc.sz α) = (l.take k).flatMap Enc.enc
 | [], k => by simp
 | a :: l, 0 => by simp
 | a :: l, k + 1 => by
  have ih := ZcC l k
  rw [List.flatMap_cons, List.take_succ_cons, List.flatMap_cons, Nat.add_mul, Nat.one_mul, List.take_append, Enc.len, ← ih, Nat.add_sub_cancel, List.take_of_length_le (by rw [Enc.len]; omega)]
theorem ZkI {α : Type} [Enc α] (n : Nat) (hn : Enc.sz α = n) (l : List α) (k : Nat) (v : α) (h : k < l.length) : zP (l.flatMap Enc.enc) (k * n) (Enc.enc v) = (l.set k v).flatMap Enc.enc := by
 subst hn
 have h1 := JC h
 have h2 : (l.flatMap Enc.enc).drop (k * Enc.sz α + Enc.sz α) = (l.drop (k + 1)).flatMap Enc.enc := by
  rw [← List.drop_drop, h1, List.drop_append, List.drop_of_length_le (by rw [Enc.len]; exact Nat.le_refl _), Enc.len, Nat.sub_self]
  simp
 rw [zP, Enc.len, ZcC, h2, List.set_eq_take_append_cons_drop, if_pos h]
 simp
theorem ZcD (tab : List Stp) : ∀ (f s : Nat) (d : Int), s < 2 ^ 64 → xc tab f s d < 2 ^ 64
 | 0, _, _, h => h
 | f + 1, s, d, h => by
  unfold xc
  split
  ·exact h
  ·exact ZcD tab f _ _ (XV _ _ h)
theorem ZkJ (tab : List Stp) (f s : Nat) {d : Int} (h : d < 0) : xc tab f s d = s := by
 cases f with
 | zero => rfl
 | succ f => unfold xc; rw [if_pos h]
set_option maxRecDepth 100000 in
set_option maxHeartbeats 12800000 in
theorem ZkK {S : Store} {pl : PV} {price : List Int} (c : Cust) (n : Nat) (cap : Int) (hR : RowOf S pl price) (hc : CustFits c) (hn : n ≤ 60) :
  Spec Tryz.prog 128 [.agg (zv c), I n, I cap, pl] S (fun q S' => q = .tup [L (wR c n cap price).1, B (wR c n cap price).2] ∧ S' = S) := by
 have hmin : xO (n : Int) 64 = n := by unfold xO; split <;> omega
 have hmax : jX (n : Int) 0 = n := by unfold jX; split <;> omega
 have hpr := fun S (h : RowOf S pl price) d => Zct d h
 have hrest := fun (last d : Int) (h1 : -1 ≤ last ∧ last ≤ 64) (h2 : 0 ≤ d ∧ d ≤ 64) => Zcz c last d hc h1 h2
 have hmost := fun (th : Int) (h : -4611686018427387904 ≤ th ∧ th ≤ 4611686018427387904) => Wc c th cap hc.size h
 unfold wR
 refine qp Tryz.func128 Tryz.ntmps128 Tryz.results128 fun nx hd => ?_
 repeat apply za
 refine pwn ?_
 intro v0
 repeat apply za
 refine pwN [] (jn2 hmin hmax) ?_
 intros
 repeat apply za
 refine pwn ?_
 intro v1
 have hw : IntKind.i64.wrap ((n : Int) + 1) = ((n + 1 : Nat) : Int) := wrN n (by omega)
 repeat apply za
 refine pwN [] hw ?_
 intros
 repeat apply za
 refine zh (zr (fun d : Nat => d ≤ n + 1) (fun d => [(1, I n), (2, I cap), (3, pl), (4, .ptr nx v0 0), (10, .ptr (nx + 1) v1 0), (22, I (n + 1 : Nat)), (23, I d)]) (fun d => [.cells v0 41 (zv c), .cells v1 222 ((yx (yD c n cap price d) zs).flatMap Enc.enc)]) (fun d => n + 1 - d) 0 [] (by simp) (by simp) (by simp [yD]; rfl) ?_)
 rintro d hd1
 have htl := ZK c n cap price d
 have htok := We c n cap price d
 have htn : yD c n cap price (d + 1) = yD c n cap price d ++ [qP c n cap price (yD c n cap price d) d (d + 1)] := rfl
 by_cases hdn : d < n + 1
 case neg =>
  obtain rfl : d = n + 1 := by omega
  clear htn
  generalize yD c n cap price (n + 1) = tab at *
  have hml := ZcB tab zs (by omega)
  obtain ⟨s, tl, a1, -, -, e1, e0⟩ := el 3 rfl (yx tab zs) n (by omega)
  have hs : tab.getD n zs = s := by have := Q5 tab zs n (by omega); rw [a1] at this; exact (Option.some.inj this).symm
  have hs2 : tab[n]? = some s := by rw [← hs, List.getD_eq_getElem?_getD, List.getElem?_eq_getElem (by omega)]; rfl
  have e12 := e1 2 (by omega)
  have hn65 : (n : Int) < 65 := by omega
  have z1 : 3 ≤ 195 - n * 3 := by omega
  have z2 : 1 ≤ 195 - (n * 3 + 2) := by omega
  rw [hs]
  (repeat apply za); refine pwn ?_; intros
  repeat apply za
  refine zk (by simp) ?_
  refine zo ?_
  rcases htok n s hs2 with q | ⟨hr, hl1, hl2, hl3⟩
  ·subst q
   rw [if_pos rfl]
   have e0' : ((yx tab zs).flatMap Enc.enc).drop (n * 3) = [B false, I 0, I 0] ++ tl := e0
   repeat apply za
   refine pwN [] (jn4 e0' hn65 hml z1) ?_
   intros
   repeat apply za
   refine zi rfl ?_
   (repeat apply za); refine pwn ?_; intros
   refine jP 8 rfl ?_
   repeat apply za
   exact zb ⟨_, S, rfl, ⟨by simp [zj], rfl⟩, zE hd⟩
  ·have hne : s ≠ zs := fun e => by rw [e] at hr; cases hr
   rw [if_neg hne]
   obtain ⟨sr, sk, sl⟩ := s
   simp only at hr hl1 hl2 hl3 ⊢
   subst hr
   repeat apply za
   refine pwN [] (jn4 e0 hn65 hml z1) ?_
   intros
   repeat apply za
   refine zk rfl ?_
   refine ze ?_
   (repeat apply za); refine pwn ?_; intros
   repeat apply za
   refine pwN [] (jn4 e12 hn65 hml z2) ?_
   intros
   generalize hres : xc tab 65 0 sl = res
   have hrlt : res < 2 ^ 64 := hres ▸ ZcD tab 65 0 sl (by decide)
   have hfil := ZkC c res hrlt hc
   generalize (zZ c (zS res 0 64)).1 = vv at hfil ⊢
   repeat apply za
   refine zh (zr (fun st : Nat × Nat × Int => xc tab st.1 st.2.1 st.2.2 = res ∧ -1 ≤ st.2.2 ∧ st.2.2 < st.1 ∧ st.2.2 < n ∧ st.2.1 < 2 ^ 64 ∧ (0 ≤ st.2.2 → tab.getD st.2.2.toNat zs ≠ zs)) (fun (f, s, l) => [(4, .ptr nx v0 0), (10, .ptr (nx + 1) v1 0), (16, U s), (17, I l)]) (fun _ => [.cells v0 41 (zv c), .cells v1 222 ((yx tab zs).flatMap Enc.enc)]) (fun st => st.1) (65, 0, sl) [] ⟨hres, hl1, by dsimp only; omega, by dsimp only; omega, by show (0 : Nat) < 2 ^ 64; decide, hl3⟩ (by simp) (by simp) ?_)
   rintro ⟨f, s, l⟩ ⟨p1, p2, p3, p4, p5, p6⟩
   simp only at p1 p2 p3 p4 p5 p6 ⊢
   by_cases hl : l < 0
   ·have hl' : ¬ 0 ≤ l := by omega
    rw [ZkJ tab f s hl] at p1
    subst p1
    repeat apply za
    refine pwN [] hl' ?_
    intros
    repeat apply za
    refine zk rfl ?_
    refine zo ?_
    repeat apply za
    refine pwn ?_
    refine pwc hfil ?_
    intros
    repeat apply za
    exact zb ⟨_, S, (by simp; rfl), ⟨by simp [zj], rfl⟩, zE hd⟩
   ·have hl' : 0 ≤ l := by omega
    obtain ⟨i, rfl⟩ := Int.eq_ofNat_of_zero_le hl'
    obtain ⟨f, rfl⟩ : ∃ g, f = g + 1 := ⟨f - 1, by omega⟩
    have p6 := p6 hl'
    rw [Int.toNat_natCast] at p6
    have hi : i < tab.length := by omega
    obtain ⟨e, tl2, b1, -, -, f1, f0⟩ := el 3 rfl (yx tab zs) i (by omega)
    have he : tab.getD i zs = e := by have := Q5 tab zs i hi; rw [b1] at this; exact (Option.some.inj this).symm
    have he2 : tab[i]? = some e := by rw [← he, List.getD_eq_getElem?_getD, List.getElem?_eq_getElem hi]; rfl
    have f12 := f1 2 (by omega)
    have hi65 : (i : Int) < 65 := by omega
    have y2 : 1 ≤ 195 - (i * 3 + 2) := by omega
    rw [he] at p6
    rcases htok i e he2 with q | ⟨er, el1', el2', el3'⟩
    ·exact absurd q p6
    have p1' : xc tab f (qO s i) e.l = res := by
     rw [← p1]; unfold xc; rw [if_neg (by omega), Int.toNat_natCast, he]
     cases f <;> rfl
    repeat apply za
    refine pwN [] hl' ?_
    intros
    repeat apply za
    refine zi rfl ?_
    refine ze (za (zh ?_))
    repeat apply za
    refine pwn ?_
    refine pwc (Zjd s i p5) ?_
    intros
    repeat apply za
    refine pwN [] (jn4 f12 hi65 hml y2) ?_
    intros
    exact zm (f, qO s i, e.l) [] ⟨p1', el1', by dsimp only; omega, by dsimp only; omega, XV _ _ p5, el3'⟩ (by simp) (by simp) rfl (by simp)
 generalize yD c n cap price d = tab at *
 (repeat apply za); refine pwn ?_; intros
 repeat apply za
 refine zi (by simp; omega) ?_
 refine ze (za (zh ?_))
 (repeat apply za); refine pwn ?_; intros
 (repeat apply za); refine pwn ?_; intros
 repeat apply za
 refine zh (zr (fun j : Nat => j ≤ d + 1) (fun j => [(1, I n), (2, I cap), (3, pl), (4, .ptr nx v0 0), (10, .ptr (nx + 1) v1 0), (11, I d), (12, I ((j : Int) - 1)), (22, I (n + 1 : Nat)), (23, I d)]) (fun j => [.cells v0 41 (zv c), .cells v1 222 ((yx tab (qP c n cap price tab d j)).flatMap Enc.enc)]) (fun j => d + 1 - j) 0 [] (by simp) (by simp) (by simp [qP]) ?_)
 rintro j hj
 have hesucc := Wd c n cap price tab d j
 have heok := Q4 c n cap price tab d j
 have hdd : qP c n cap price tab d (d + 1) = qP c n cap price tab d (d + 1) := rfl
 by_cases hjd : j < d + 1
 case neg =>
  obtain rfl : j = d + 1 := by omega
  (repeat apply za); refine pwn ?_; intros
  repeat apply za
  refine zk (by simp) ?_
  refine zo ?_
  (repeat apply za); refine pwn ?_; intros
  exact zm (d + 1) [] hdn (by omega) (by simp [wrN d (by omega)]) rfl (by rw [htn, ← ZkH tab _ (by omega)]; simp)
 clear hdd htn
 generalize qP c n cap price tab d j = b at *
 obtain ⟨last, hlast⟩ : ∃ last : Int, last = (j : Int) - 1 := ⟨_, rfl⟩
 rw [← hlast] at hesucc ⊢
 have hwl : IntKind.i64.wrap (last + 1) = ((j + 1 : Nat) : Int) - 1 := by rw [wr _ (by omega) (by omega)]; omega
 have hml := ZcB tab b (by omega)
 have hd65 : (d : Int) < 65 := by omega
 have zd3 : 3 ≤ 195 - d * 3 := by omega
 have zd1 : 1 ≤ 195 - (d * 3 + 1) := by omega
 have hr := hrest last d (by omega) (by omega)
 have hrbd : -4611686018427387904 ≤ (zV c last d).1 ∧ (zV c last d).1 ≤ 4611686018427387904 := by
  have h1 := hc.rate
  have h2 := hc.size
  have h3 := hc.start
  unfold zV
  simp only
  have hp : 0 ≤ c.rate * ((if last < 0 then (d : Int) else d - last).toNat : Int) ∧ c.rate * ((if last < 0 then (d : Int) else d - last).toNat : Int) ≤ 2147483648 * 65 :=
   ⟨Int.mul_nonneg h1.1 (by omega), Int.mul_le_mul h1.2 (by split <;> omega) (by omega) (by omega)⟩
  generalize c.rate * ((if last < 0 then (d : Int) else d - last).toNat : Int) = pp at hp ⊢
  split <;> omega
 have hm := hmost _ hrbd
 have hks : ∀ (k1 : Int), k1 = (if 0 ≤ last then W ((zV c last d).2 + (tab.getD last.toNat zs).k) else (zV c last d).2) → cnK c n cap price tab d last = if d < n then W (k1 + prD price d) else k1 := fun k1 h => by unfold cnK; rw [h]
 have hokd : vu c n cap tab d last = (¬ (0 ≤ last ∧ tab.getD last.toNat zs = zs) ∧ ¬ ((zV c last d).1 < 0 ∨ (d < n ∧ qm c (zV c last d).1 cap = 0))) := rfl
 have hstay : ¬ vu c n cap tab d last → qP c n cap price tab d (j + 1) = b := fun h => by rw [hesucc]; unfold cnS; rw [if_neg h]
 have hgo : vu c n cap tab d last → qP c n cap price tab d (j + 1) = if b = zs ∨ cnK c n cap price tab d last < b.k then ⟨true, cnK c n cap price tab d last, last⟩ else b := fun h => by rw [hesucc]; unfold cnS; rw [if_pos h]
 clear hesucc
 generalize zV c last d = rr at hr hm hks hokd
 obtain ⟨th, he⟩ := rr
 simp only at hr hm hks hokd
 generalize qm c th cap = mo at hm hokd
 generalize vu c n cap tab d last = OK at hokd hstay hgo
 generalize cnK c n cap price tab d last = kk at hks hgo
 generalize hb'e : qP c n cap price tab d (j + 1) = b' at hstay hgo
 subst hokd
 (repeat apply za); refine pwn ?_; intros
 repeat apply za
 refine zi (by simp; omega) ?_
 refine ze (za (zh ?_))
 refine za ?_
 refine zX (nx := nx) (σ := Unit) (fun _ => ¬ (0 ≤ last ∧ tab.getD last.toNat zs = zs)) (fun _ => [(1, I n), (2, I cap), (3, pl), (4, .ptr nx v0 0), (10, .ptr (nx + 1) v1 0), (11, I d), (12, I last), (22, I (n + 1 : Nat)), (23, I d)]) (fun _ => S) (fun _ => [.cells v0 41 (zv c), .cells v1 222 ((yx tab b).flatMap Enc.enc)]) ?_ ?_
 ·by_cases hl : 0 ≤ last
  ·obtain ⟨i, hi⟩ := Int.eq_ofNat_of_zero_le hl
   have hit : i < tab.length := by omega
   obtain ⟨e, tl2, b1, -, -, -, f0⟩ := el 3 rfl (yx tab b) i (by omega)
   have hee : tab.getD i zs = e := by have := Q5 tab b i hit; rw [b1] at this; exact (Option.some.inj this).symm
   have he2 : tab[i]? = some e := by rw [← hee, List.getD_eq_getElem?_getD, List.getElem?_eq_getElem hit]; rfl
   have hi65 : (i : Int) < 65 := by omega
   have y3 : 3 ≤ 195 - i * 3 := by omega
   have hlt : last.toNat = i := by omega
   rcases htok i e he2 with q | ⟨er, -, -, -⟩
   ·subst q
    have f0' : ((yx tab b).flatMap Enc.enc).drop (i * 3) = [B false, I 0, I 0] ++ tl2 := f0
    have hb' := hstay fun h => h.1 ⟨hl, by rw [hlt]; exact hee⟩
    subst hb'
    subst hi
    repeat apply za
    refine pwN [(2, 33)] (jn5 hl f0' hi65 hml y3) ?_
    intros
    repeat apply za
    refine zi rfl ?_
    refine zo ?_
    repeat apply za
    refine pwN [] hwl ?_
    intros
    exact zm (j + 1) [] (by omega) (by omega) (by simp) rfl (by simp [hb'e])
   ·obtain ⟨r1, r2, r3⟩ := e
    simp only at er
    subst er
    subst hi
    repeat apply za
    refine pwN [(2, 33)] (jn5 hl f0 hi65 hml y3) ?_
    intros
    repeat apply za
    refine zk rfl ?_
    refine ze ?_
    exact zy () [] (by rw [hlt, hee]; rintro ⟨-, q⟩; cases q) (by simp) rfl (by simp)
  ·repeat apply za
   refine pwN [(2, 33)] (jn2 hl zp) ?_
   intros
   repeat apply za
   refine zk rfl ?_
   refine ze ?_
   exact zy () [] (fun q => hl q.1) (by simp) rfl (by simp)
 intro _ hA
 repeat apply za
 refine pwn ?_
 refine pwc hr ?_
 intros
 refine za ?_
 refine zX (nx := nx) (σ := Unit) (fun _ => ¬ (th < 0 ∨ (d < n ∧ mo = 0))) (fun _ => [(1, I n), (2, I cap), (3, pl), (4, .ptr nx v0 0), (10, .ptr (nx + 1) v1 0), (11, I d), (12, I last), (14, I he), (22, I (n + 1 : Nat)), (23, I d)]) (fun _ => S) (fun _ => [.cells v0 41 (zv c), .cells v1 222 ((yx tab b).flatMap Enc.enc)]) ?_ ?_
 ·by_cases h1 : th < 0
  ·have hb' := hstay fun h => h.2 (.inl h1)
   subst hb'
   repeat apply za
   refine pwN [(2, 49), (6, 53)] (jn2 h1 zp) ?_
   intros
   repeat apply za
   refine zi rfl ?_
   refine zo ?_
   repeat apply za
   refine pwN [] hwl ?_
   intros
   exact zm (j + 1) [] (by omega) (by omega) (by simp) rfl (by simp [hb'e])
  ·by_cases h2 : d < n
   ·by_cases h3 : mo = 0
    ·have hb' := hstay fun h => h.2 (.inr ⟨h2, h3⟩)
     subst hb'
     repeat apply za
     refine pwN [(2, 49), (6, 53)] (jn3 h1 h2 h3) ?_
     refine pwC [(2, 49), (6, 53)] hm (jn3 h1 h2 h3) ?_
     intros
     repeat apply za
     refine zi rfl ?_
     refine zo ?_
     repeat apply za
     refine pwN [] hwl ?_
     intros
     exact zm (j + 1) [] (by omega) (by omega) (by simp) rfl (by simp [hb'e])
    ·repeat apply za
     refine pwN [(2, 49), (6, 53)] (jn3 h1 h2 h3) ?_
     refine pwC [(2, 49), (6, 53)] hm (jn3 h1 h2 h3) ?_
     intros
     repeat apply za
     refine zk rfl ?_
     refine ze ?_
     exact zy () [] (by omega) (by simp) rfl (by simp)
   ·repeat apply za
    refine pwN [(2, 49), (6, 53)] (jn3 h1 h2 zp) ?_
    intros
    repeat apply za
    refine zk rfl ?_
    refine ze ?_
    exact zy () [] (by omega) (by simp) rfl (by simp)
 intro _ hB
 have hgo := hgo ⟨hA, hB⟩
 clear hstay hm hr
 repeat apply za
 refine pwn ?_
 intro v2
 obtain ⟨k1, hk1⟩ : ∃ k1, k1 = (if 0 ≤ last then W (he + (tab.getD last.toNat zs).k) else he) := ⟨_, rfl⟩
 have hks := hks k1 hk1
 refine za ?_
 refine zX (nx := nx) (σ := Unit) (fun _ => True) (fun _ => [(1, I n), (2, I cap), (3, pl), (4, .ptr nx v0 0), (10, .ptr (nx + 1) v1 0), (11, I d), (12, I last), (15, .ptr (nx + 2) v2 0), (22, I (n + 1 : Nat)), (23, I d)]) (fun _ => S) (fun _ => [.cells v0 41 (zv c), .cells v1 222 ((yx tab b).flatMap Enc.enc), .cells v2 221 [B true, I k1, I last]]) ?_ ?_
 ·(repeat apply za); refine pwn ?_; intros
  by_cases hl : 0 ≤ last
  ·rw [if_pos hl] at hk1
   obtain ⟨i, hi⟩ := Int.eq_ofNat_of_zero_le hl
   have hit : i < tab.length := by omega
   obtain ⟨e, tl2, b1, -, -, f1, f0⟩ := el 3 rfl (yx tab b) i (by omega)
   have hee : tab.getD i zs = e := by have := Q5 tab b i hit; rw [b1] at this; exact (Option.some.inj this).symm
   have f11 := f1 1 (by omega)
   have hi65 : (i : Int) < 65 := by omega
   have y1 : 1 ≤ 195 - (i * 3 + 1) := by omega
   have hlt : last.toNat = i := by omega
   rw [hlt, hee] at hk1
   subst hi
   repeat apply za
   refine zi (by simp) ?_
   repeat apply za
   refine pwY (some [nx + 1]) (Row.pures [0, 2, 3, 4, 5] (.alt 1 (Row.pures [6, 7] (.alt 8 (.done) .stop)) .stop)) mixed (jn4 f11 hi65 hml y1) ?_
   intros
   exact zy () [] trivial (by simp) rfl (by simp [hk1])
  ·rw [if_neg hl] at hk1
   repeat apply za
   refine zk (by simp; omega) ?_
   refine ze ?_
   exact zy () [] trivial (by simp) rfl (by simp [hk1])
 intro _ _
 clear hk1
 refine za ?_
 refine zX (nx := nx) (σ := Unit) (fun _ => True) (fun _ => [(1, I n), (2, I cap), (3, pl), (4, .ptr nx v0 0), (10, .ptr (nx + 1) v1 0), (11, I d), (12, I last), (15, .ptr (nx + 2) v2 0), (22, I (n + 1 : Nat)), (23, I d)]) (fun _ => S) (fun _ => [.cells v0 41 (zv c), .cells v1 222 ((yx tab b).flatMap Enc.enc), .cells v2 221 [B true, I kk, I last]]) ?_ ?_
 ·(repeat apply za); refine pwn ?_; intros
  by_cases h2 : d < n
  ·rw [if_pos h2] at hks
   repeat apply za
   refine zi (by simp [h2]) ?_
   repeat apply za
   refine xE (some [nx + 1]) (Row.pures [0, 2, 3] (.alt 1 (.alt 4 (Row.pures [5, 6] (.alt 7 (.done) .stop)) .stop) (.alt 4 (.alt 1 (Row.pures [5, 6] (.alt 7 (.done) .stop)) .stop) .stop))) mixed (by rfl) (by rfl) (by rfl) fun K Gp Gc Gh hK hGp hGc hGh X hX0 hX1 hX2 hX => ?_
   simp -implicitDefEqProofs [hX0, hX1, hX2, hX]
   try clear hX0 hX1 hX2 hX X
   refine ⟨?_, ?_⟩
   ·refine hGc _ _ _ _ _ _ _ (((hpr _ (hR.ext hd _) _).mono ?_).v)
    rintro _ _ ⟨rfl, rfl⟩
    refine ⟨by simp [zW], ?_⟩
    clear hGp hGc hGh
    clear Gp Gc Gh
    refine qS fun Gp Gc Gh hGp hGc hGh X hX0 hX1 hX2 hX => ?_
    simp -implicitDefEqProofs [hX0, hX1, hX2, hX]
    try clear hX0 hX1 hX2 hX X
    refine hK _ _ _ ?_
    clear hK hGp hGc hGh
    clear K Gp Gc Gh
    exact zy () [] trivial (by simp) rfl (by simp [hks])
   ·refine hGc _ _ _ _ _ _ _ (((hpr _ (hR.ext hd _) _).mono ?_).v)
    rintro _ _ ⟨rfl, rfl⟩
    refine ⟨by simp [zW], ?_⟩
    clear hGp hGc hGh
    clear Gp Gc Gh
    refine qS fun Gp Gc Gh hGp hGc hGh X hX0 hX1 hX2 hX => ?_
    simp -implicitDefEqProofs [hX0, hX1, hX2, hX]
    try clear hX0 hX1 hX2 hX X
    refine hK _ _ _ ?_
    clear hK hGp hGc hGh
    clear K Gp Gc Gh
    exact zy () [] trivial (by simp) rfl (by simp [hks])
  ·rw [if_neg h2] at hks
   repeat apply za
   refine zk (by simp; omega) ?_
   refine ze ?_
   exact zy () [] trivial (by simp) rfl (by simp [hks])
 intro _ _
 clear hks
 obtain ⟨e, tl2, b1, -, -, f1, f0⟩ := el 3 rfl (yx tab b) d (by omega)
 have hee : b = e := by have := ZkF tab b; rw [htl, b1] at this; exact (Option.some.inj this).symm
 subst hee
 have f11 := f1 1 (by omega)
 have hsp := ZkI 3 rfl (yx tab b) d ⟨true, kk, last⟩ (by omega)
 have hms := ZkG tab b ⟨true, kk, last⟩
 rw [htl] at hms
 rw [hms] at hsp
 have hsp' : zP ((yx tab b).flatMap Enc.enc) (d * 3) [B true, I kk, I last] = (yx tab ⟨true, kk, last⟩).flatMap Enc.enc := hsp
 clear hsp hms
 have hmf : ((yx tab b).flatMap Enc.enc : List PV).length = 195 := by rw [ZkD, hml]
 rcases heok with q | ⟨hbr, -, -, -⟩
 ·subst q
  rw [if_pos (.inl rfl)] at hgo
  subst hgo
  have f0' : ((yx tab zs).flatMap Enc.enc).drop (d * 3) = [B false, I 0, I 0] ++ tl2 := f0
  repeat apply za
  refine pwY none (Row.pures [0, 1, 2, 3, 4, 5, 6, 7, 8, 9, 10, 11, 12, 13] .done) mixed (jn5 f0' hd65 hml zd3 zp) ?_
  intros
  repeat apply za
  refine zi rfl ?_
  repeat apply za
  refine pwN [] (jn4 hd65 hmf hsp' hml) ?_
  refine ⟨by omega, ?_⟩
  intros
  repeat apply za
  refine pwN [] hwl ?_
  intros
  exact zm (j + 1) [_] (by omega) (by omega) (by simp) rfl (by simp [hb'e]; rfl)
 ·obtain ⟨r1, r2, r3⟩ := b
  simp only at hbr
  subst hbr
  have hnz : ¬ ((⟨true, r2, r3⟩ : Stp) = zs) := fun e => by cases e
  by_cases hlt : kk < r2
  ·rw [if_pos (.inr hlt)] at hgo
   subst hgo
   repeat apply za
   refine pwY none (Row.pures [0, 1, 2, 3, 4, 5, 6, 7, 8, 9, 10, 11, 12, 13] .done) mixed (jn6 f0 f11 hd65 hml zd3 (jn2 zd1 hlt)) ?_
   intros
   repeat apply za
   refine zi rfl ?_
   repeat apply za
   refine pwN [] (jn4 hd65 hmf hsp' hml) ?_
   refine ⟨by omega, ?_⟩
   intros
   repeat apply za
   refine pwN [] hwl ?_
   intros
   exact zm (j + 1) [_] (by omega) (by omega) (by simp) rfl (by simp [hb'e]; rfl)
  ·rw [if_neg (by rintro (q | q); exact hnz q; exact hlt q)] at hgo
   subst hgo
   repeat apply za
   refine pwY none (Row.pures [0, 1, 2, 3, 4, 5, 6, 7, 8, 9, 10, 11, 12, 13] .done) mixed (jn6 f0 f11 hd65 hml zd3 (jn2 zd1 hlt)) ?_
   intros
   repeat apply za
   refine zk rfl ?_
   refine ze ?_
   repeat apply za
   refine pwN [] hwl ?_
   intros
   exact zm (j + 1) [_] (by omega) (by omega) (by simp) rfl (by simp [hb'e]; rfl)
open Go Go.Proofs Hp
section
variable {P : Program} {r : Rd} {n N : Nat} {Q : Exit → (Nat → PV) → Store → Prop} {F : Nat → PV} {c : Code}
theorem ZkL {S : Store} {nx : Nat} {obs : List Ob} (j : Nat) {ver e : Nat} {cs : List PV} (hj : obs[j]? = some (.cells ver e cs)) {id v e2 : Nat} {ds : List PV} (hlt : id < nx) (hs : S id = .cells v e2 ds)
  (h : PW P r n N c Q F (ext (S.set id (.cells v e2 (ds.map (yL (nx + j) ver cs)))) nx (obs.set j .dead))) : PW P r n N c Q F (ext S nx obs) := by
 have hjl : j < obs.length := (List.getElem?_eq_some_iff.1 hj).1
 refine ZjU (id := nx + j) (ver := ver) (e := e) (cs := cs) (G := F) (by rw [qe, List.getD_eq_getElem?_getD, hj]; rfl) (by rw [qe, List.getD_eq_getElem?_getD, List.getElem?_set_self hjl]; rfl) (fun o => ?_) (fun _ => .inl rfl) h
 by_cases ho : o < nx
 ·rw [zB ho, zB ho]
  by_cases hoi : o = id
  ·subst hoi; rw [Store.set_same, hs]; exact .inr (.inr rfl)
  ·rw [Store.set_other _ _ _ _ hoi]; exact .inr (.inl rfl)
 ·simp only [ext]
  rw [if_neg ho, if_neg ho, List.getD_eq_getElem?_getD, List.getD_eq_getElem?_getD, List.getElem?_set]
  split
  ·simp [hjl]
  ·exact .inr (.inl rfl)
theorem Q6 {S T : Store} {nx nz : Nat} {obs : List Ob} (hd : zO nx S) (hle : nx ≤ nz) (h : ∀ o, o < nx → T o = S o) (o : Nat) : S o = ext T nz obs o ∨ S o = .dead := by
 by_cases ho : o < nx
 ·rw [zB (by omega), h o ho]; exact .inl rfl
 ·exact .inr (hd o (by omega))
end
def jL (x : Inst) (sol : Cust → List Int → List Visit × Bool) (b : Int) (n : Nat) : Nat → List (List Int) → yA × Int
 | 0, _ => ([], 15)
 | k + 1, pr =>
  if (yk x sol pr).2 ≠ 0 then ([], 15)
  else if y9 (yP x (yk x sol pr).1 b n) = 0 then (qw x (yk x sol pr).1 b n, 0)
  else if (yP x (yk x sol pr).1 b n).any wP = true then ([], 15)
  else jL x sol b n k (ZG (yP x (yk x sol pr).1 b n) pr n)
def ud (x : Inst) (sol : Cust → List Int → List Visit × Bool) (b : Int) (n : Nat) : yA × Int := jL x sol b n 8 (qk x n 0)
def Wf (x : Inst) (n : Nat) (sol : Cust → List Int → List Visit × Bool) : Prop := ∀ pr, xA x.cust.length n pr → (yk x sol pr).2 = 0 → VsOk x.cust.length n (yk x sol pr).1
set_option maxHeartbeats 3200000 in
theorem ZcE {x : Inst} {sol : Cust → List Int → List Visit × Bool} {b : Int} {n : Nat} (hx : InstH x) (hn : x.days = n) (hn2 : n ≤ 1000) (hs : QY x n sol) (hv : Wf x n sol) (hb : b ≤ 9223372036854775807) :
  Pure Tryz.prog 13 [.agg (zt x), I b] (.tup [.agg [L (ud x sol b n).1], I (ud x sol b n).2]) := by
 have hm := hx.cust
 unfold ud
 have hPo := Wa x n
 refine pwe Tryz.func13 Tryz.ntmps13 Tryz.results13 fun S nx hd => ?_
 repeat apply za
 refine pwn ?_
 intro v0 v1
 repeat apply za
 refine pwY (some [nx]) (Row.pures [0, 1, 2, 3, 4] (.alt 5 (Row.pures [6] (.alt 7 (Row.pures [8] .done) .stop)) .stop)) mixed trivial ?_
 refine ⟨by omega, ?_⟩
 intro v2 v3
 intros
 rw [Zj1]
 refine ZjW (α := Int) (nx + 2) v2 54 (nx + 4) 3 1 x.cust.length (by simp) (jD (obs := [_, _, _, _])) fun T ws hR hT hdT => ?_
 have hT0 : T nx = .cells v0 25 (zt x) := by rw [hT nx (by omega) (by omega)]; simp
 have hT1 : T (nx + 1) = .cells v1 29 [.sc (.slice none 0 0)] := by rw [hT (nx + 1) (by omega) (by omega)]; simp
 have hT3 : T (nx + 3) = .cells v3 87 (plL x (.sc (.slice none 0 0)) b (.sc (.slice none 0 0)) (.sc (.slice none 0 0)) (.sl (nx + 2) v2 1 0 x.cust.length)) := by rw [hT (nx + 3) (by omega) (by omega)]; simp
 have hTS : ∀ o, o < nx → T o = S o := fun o ho => by rw [hT o (by omega) (by omega), zB ho]
 clear hT
 obtain ⟨nz, hnz⟩ : ∃ nz, nz = nx + 4 + x.cust.length := ⟨_, rfl⟩
 rw [← hnz] at hdT
 rw [show List.replicate x.cust.length ([] : List Int) = qk x 0 0 from (List.ext_getElem? fun j => by
  by_cases h : j < x.cust.length
  ·simp [qk, h]
  ·rw [List.getElem?_eq_none (by simp; omega), List.getElem?_eq_none (by rw [wN]; omega)])] at hR
 rw [← yE hdT]
 repeat apply za
 refine zQ [] (by rfl) (by rfl) fun K Gc Gh hK hGc hGh X hX0 hX => ?_
 simp -implicitDefEqProofs [hX0, hX]
 try clear hX0 hX X
 refine hGc _ _ _ _ _ _ _ fun hsuf => (Spec.mono (Zce (nx := nz) (by rw [yE hdT]; exact hdT) x _ _ _ _ _ _ _ n hn hn2 (by rw [yE hdT]; exact hT3)
  (fun k T' => (∃ ws', RowsAt T' (nx + 2) v2 54 (nx + 4) 3 1 ws' (qk x k 0)) ∧ (∀ o, o ≠ nx + 2 → (o < nx + 4 ∨ nx + 4 + x.cust.length ≤ o) → T' o = T o)) ⟨⟨ws, by rw [yE hdT]; exact hR⟩, fun o _ _ => by rw [yE hdT]⟩
  (fun k T' h o ho => by rw [h.2 o (by omega) (.inr (by omega))]; exact hdT o ho) (fun k hk T' h => ?_)) ?_).v
 ·obtain ⟨⟨ws', h1⟩, h2⟩ := h
  refine (Zj9 k hm (by omega) (by omega) (by omega) ((h2 (nx + 3) (by omega) (.inl (by omega))).trans hT3) h1).mono ?_
  rintro _ T2 ⟨g1, g2⟩
  exact ⟨g1, fun o o1 o2 => (g2 o o1 o2).trans (h2 o o1 o2)⟩
 rintro _ T' ⟨⟨ws', hR'⟩, hT'⟩
 have hdT' : zO nz T' := fun o ho => by rw [hT' o (by omega) (.inr (by omega))]; exact hdT o ho
 refine ⟨T', [], (yE hdT').symm, ?_⟩
 clear hGc hGh
 clear Gc Gh
 refine zH hsuf (D := []) (by rfl) fun Gc Gh hGc hGh X hX0 hX => ?_
 simp -implicitDefEqProofs [hX0, hX]
 clear hX0 hX X
 intros
 refine hK _ _ _ ?_
 clear hK hGc hGh
 clear K Gc Gh
 replace hT0 := (hT' nx (by omega) (.inl (by omega))).trans hT0
 replace hT1 := (hT' (nx + 1) (by omega) (.inl (by omega))).trans hT1
 replace hT3 := (hT' (nx + 3) (by omega) (.inl (by omega))).trans hT3
 replace hTS : ∀ o, o < nx → T' o = S o := fun o ho => (hT' o (by omega) (.inl (by omega))).trans (hTS o ho)
 clear hT' hR hdT
 generalize qk x n 0 = pr0 at *
 (repeat apply za); refine pwn ?_; intros
 repeat apply za
 refine zh (jn (σ := Nat × Store × List (List Int)) (fun s => s.1 ≤ 8 ∧ xA x.cust.length n s.2.2 ∧ jL x sol b n 8 pr0 = jL x sol b n (8 - s.1) s.2.2 ∧ (∃ ws', RowsAt s.2.1 (nx + 2) v2 54 (nx + 4) 3 1 ws' s.2.2) ∧ s.2.1 nx = .cells v0 25 (zt x) ∧ s.2.1 (nx + 1) = .cells v1 29 [.sc (.slice none 0 0)] ∧
  (∃ vP pP fP, s.2.1 (nx + 3) = .cells v3 87 (plL x vP b pP fP (.sl (nx + 2) v2 1 0 x.cust.length))) ∧ (∀ o, o < nx → s.2.1 o = S o) ∧ zO nz s.2.1)
  (fun s => [(2, .ptr nx v0 0), (4, .ptr (nx + 1) v1 0), (6, .ptr (nx + 3) v3 0), (21, I s.1)]) (fun s => s.2.1) (fun _ => []) (fun s => 8 - s.1) (zy (0, T', pr0) [] ⟨by simp, hPo, rfl, ⟨ws', hR'⟩, hT0, hT1, ⟨_, _, _, hT3⟩, hTS, hdT'⟩ (by simp) rfl (by simp)) ?_)
 clear hR' hT0 hT1 hT3 hTS hdT' hPo T'
 rintro ⟨k, T, pr⟩ ⟨hk, hP, hst, ⟨ws, hR⟩, hT0, hT1, ⟨vP, pP, fP, hT3⟩, hTS, hdT⟩
 simp only at hk hP hst hR hT0 hT1 hT3 hTS hdT ⊢
 have x0 := fun obs => (zB (S := T) (nx := nz) (obs := obs) (i := nx) (by omega)).trans hT0
 have x3 := fun obs => (zB (S := T) (nx := nz) (obs := obs) (i := nx + 3) (by omega)).trans hT3
 have g1 : ¬ nz ≤ nx + 1 := by omega
 have x1 := fun obs => (zB (S := T) (nx := nz) (obs := obs) (i := nx + 1) (by omega)).trans hT1
 (repeat apply za); refine pwn ?_; intros
 repeat apply za
 refine zn rfl (fun hc => ?_) (fun hc => ?_)
 ·simp at hc
  rw [show 8 - k = (7 - k) + 1 from by omega] at hst
  have hvs := hv pr hP
  have hch := Zkj (S := T) hm hP hR hs
  rw [show jL x sol b n (7 - k + 1) pr = (if (yk x sol pr).2 ≠ 0 then ([], 15) else if y9 (yP x (yk x sol pr).1 b n) = 0 then (qw x (yk x sol pr).1 b n, 0) else if (yP x (yk x sol pr).1 b n).any wP = true then ([], 15) else jL x sol b n (7 - k) (ZG (yP x (yk x sol pr).1 b n) pr n)) from rfl] at hst
  generalize yk x sol pr = cz at hst hvs hch
  obtain ⟨v, e⟩ := cz
  simp only at hst hvs hch
  refine ze (za (zh ?_))
  repeat apply za
  refine xE none (Row.pures [0, 1, 2, 3, 4] (.alt 5 (Row.pures [6, 7, 8, 9, 10] .done) .stop)) mixed (by rfl) (by rfl) (by rfl) fun K Gp Gc Gh hK hGp hGc hGh X hX0 hX1 hX2 hX => ?_
  simp -implicitDefEqProofs [hX0, hX1, hX2, hX, x0, x3]
  try clear hX0 hX1 hX2 hX X
  refine hGc _ _ _ _ _ _ _ (Spec.mono (by rw [yE hdT]; exact hch) ?_).v
  rintro _ S2 ⟨rfl, hS2⟩
  have hS3 : S2 = ext T nz [] := hS2.trans (yE hdT).symm
  subst hS3
  clear hS2
  refine ⟨by simp [zW], ?_⟩
  clear hGp hGc hGh
  clear Gp Gc Gh
  refine qS fun Gp Gc Gh hGp hGc hGh X hX0 hX1 hX2 hX => ?_
  simp -implicitDefEqProofs [hX0, hX1, hX2, hX]
  try clear hX0 hX1 hX2 hX X
  refine hK _ _ _ ?_
  clear hK hGp hGc hGh
  clear K Gp Gc Gh
  (repeat apply za); refine pwn ?_; intros
  by_cases he : e = 0
  case neg =>
   rw [if_pos he] at hst
   rw [hst]
   repeat apply za
   refine zi (by simp [he]) ?_
   repeat apply za
   refine pwN [] (jn3 x0 x1 g1) ?_
   intros
   show PW _ _ _ _ _ _ _ (ext _ _ _)
   refine Qw (o := nx + 1) 0 (by rw [zB (by omega)]; first | exact Store.set_same _ _ _ | exact hT1) rfl ?_
   rw [xQ _ (by omega)]
   try rw [Store.set_set]
   repeat apply za
   refine zb ⟨_, S, (by simp [zB (show nx + 1 < nz from by omega), Store.set_same]; rfl), ⟨by simp [zj], rfl⟩, ?_⟩
   exact Q6 hd (by omega) fun o ho => by rw [Store.set_other _ _ _ _ (by omega)]; exact hTS o ho
  rw [if_neg (by simpa using he)] at hst
  have hvs := hvs he
  repeat apply za
  refine zk (by simp [he]) ?_
  refine ze ?_
  repeat apply za
  refine zQ [] (by rfl) (by rfl) fun K Gc Gh hK hGc hGh X hX0 hX => ?_
  simp -implicitDefEqProofs [hX0, hX]
  try clear hX0 hX X
  refine hGc _ _ _ _ _ _ _ fun hsuf => (Spec.mono (Zj0 (nx := nz) (n := n) (by rw [yE hdT]; exact hdT) (by rw [yE hdT]; exact hT3) hx hn hn2 hvs hb) ?_).v
  rintro _ _ ⟨rfl, vD, vF, rfl⟩
  rw [yE hdT]
  refine ⟨_, _, rfl, ?_⟩
  clear hGc hGh
  clear Gc Gh
  refine zH hsuf (D := []) (by rfl) fun Gc Gh hGc hGh X hX0 hX => ?_
  simp -implicitDefEqProofs [hX0, hX]
  clear hX0 hX X
  intros
  refine hK _ _ _ ?_
  clear hK hGc hGh
  clear K Gc Gh
  have hfl := Zb4 x v b n
  have hpl := QT x v b n
  generalize yP x v b n = fs at *
  generalize qw x v b n = pl at *
  by_cases hf : y9 fs = 0
  ·rw [if_pos hf] at hst
   rw [hst]
   repeat apply za
   refine zi (by simp [hf]) ?_
   show PW _ _ _ _ _ _ _ (ext _ _ _)
   refine ZkL 0 (id := nx + 3) rfl (by omega) (Store.set_same _ _ _) ?_
   rw [Store.set_set]
   have hfz : ([I x.days, I x.veh, I x.cap, I x.len, L x.cust, L x.dist, L v, I b, .sl nz vD 1 0 pl.length, .sl (nz + 1) vF 1 0 fs.length, .sl (nx + 2) v2 1 0 x.cust.length] : List PV).map (yL (nz + 0) vD (pl.flatMap Enc.enc)) = plL x (L v) b (L pl) (.sl (nz + 1) vF 1 0 fs.length) (.sl (nx + 2) v2 1 0 x.cust.length) := by
    simp [yL]
    omega
   rw [hfz]
   have y3 := fun (o : Ob) obs => (zB (S := T.set (nx + 3) o) (nx := nz) (obs := obs) (i := nx + 3) (by omega)).trans (Store.set_same _ _ _)
   have y1 := fun (o : Ob) obs => (zB (S := T.set (nx + 3) o) (nx := nz) (obs := obs) (i := nx + 1) (by omega)).trans ((Store.set_other _ _ _ _ (by omega)).trans hT1)
   repeat apply za
   refine pwN [] (jn3 y3 y1 g1) ?_
   intros
   repeat apply za
   refine zb ⟨_, S, (by simp [zB (show nx + 1 < nz from by omega), Store.set_same]; rfl), ⟨by simp [zj], rfl⟩, ?_⟩
   exact Q6 hd (by omega) fun o ho => by rw [Store.set_other _ _ _ _ (by omega), Store.set_other _ _ _ _ (by omega)]; exact hTS o ho
  rw [if_neg hf] at hst
  repeat apply za
  refine zk (by simp [hf]) ?_
  refine ze ?_
  have y3 := fun (o : Ob) obs => (zB (S := T.set (nx + 3) o) (nx := nz) (obs := obs) (i := nx + 3) (by omega)).trans (Store.set_same _ _ _)
  have y1 := fun (o : Ob) obs => (zB (S := T.set (nx + 3) o) (nx := nz) (obs := obs) (i := nx + 1) (by omega)).trans ((Store.set_other _ _ _ _ (by omega)).trans hT1)
  repeat apply za
  refine zQ [] (by rfl) (by rfl) fun K Gc Gh hK hGc hGh X hX0 hX => ?_
  simp -implicitDefEqProofs [hX0, hX, y3]
  try clear hX0 hX X
  refine hGc _ _ _ _ _ _ _ fun hsuf => ((Zkh (idF := nz + 1) (vF := vF) fs (by rw [qe]; rfl) (by omega)).mono ?_).v
  rintro _ _ ⟨rfl, rfl⟩
  refine ⟨_, _, rfl, ?_⟩
  clear hGc hGh
  clear Gc Gh
  refine zH hsuf (D := []) (by rfl) fun Gc Gh hGc hGh X hX0 hX => ?_
  simp -implicitDefEqProofs [hX0, hX]
  clear hX0 hX X
  intros
  refine hK _ _ _ ?_
  clear hK hGc hGh
  clear K Gc Gh
  cases hbad : fs.any wP with
  | true =>
   rw [if_pos hbad] at hst
   rw [hst]
   repeat apply za
   refine zi rfl ?_
   repeat apply za
   refine pwN [] (jn2 y1 g1) ?_
   intros
   show PW _ _ _ _ _ _ _ (ext _ _ _)
   refine Qw (o := nx + 1) 0 (by rw [zB (by omega)]; first | exact Store.set_same _ _ _ | exact (Store.set_other _ _ _ _ (by omega)).trans hT1) rfl ?_
   rw [xQ _ (by omega)]
   try rw [Store.set_set]
   repeat apply za
   refine zb ⟨_, S, (by simp [zB (show nx + 1 < nz from by omega), Store.set_same]; rfl), ⟨by simp [zj], rfl⟩, ?_⟩
   exact Q6 hd (by omega) fun o ho => by rw [Store.set_other _ _ _ _ (by omega), Store.set_other _ _ _ _ (by omega)]; exact hTS o ho
  | false =>
   rw [if_neg (by rw [hbad]; decide)] at hst
   repeat apply za
   refine zk rfl ?_
   refine ze ?_
   generalize hT2 : ext (T.set (nx + 3) (.cells v3 87 (plL x (L v) b (.sl nz vD 1 0 pl.length) (.sl (nz + 1) vF 1 0 fs.length) (.sl (nx + 2) v2 1 0 x.cust.length)))) nz [.cells vD 66 (pl.flatMap Enc.enc), .cells vF 30 (fs.flatMap Enc.enc)] = T2
   have q3 : T2 (nx + 3) = .cells v3 87 (plL x (L v) b (.sl nz vD 1 0 pl.length) (.sl (nz + 1) vF 1 0 fs.length) (.sl (nx + 2) v2 1 0 x.cust.length)) := by rw [← hT2, zB (by omega), Store.set_same]
   have qF : T2 (nz + 1) = .cells vF 30 (fs.flatMap Enc.enc) := by rw [← hT2, qe]; rfl
   have qo : ∀ o, o < nz → o ≠ nx + 3 → T2 o = T o := fun o h1 h2 => by rw [← hT2, zB h1, Store.set_other _ _ _ _ h2]
   have qd : zO (nz + 2) T2 := by rw [← hT2]; exact jD (obs := [_, _])
   have qR : RowsAt T2 (nx + 2) v2 54 (nx + 4) 3 1 ws pr := hR.other fun o ho => by
    rw [hP.1] at ho
    exact qo o (by omega) (by omega)
   clear hT2
   rw [← yE qd]
   repeat apply za
   refine zQ [] (by rfl) (by rfl) fun K Gc Gh hK hGc hGh X hX0 hX => ?_
   simp -implicitDefEqProofs [hX0, hX]
   try clear hX0 hX X
   refine hGc _ _ _ _ _ _ _ fun hsuf => (Spec.mono (Zce (nx := nz + 2) (by rw [yE qd]; exact qd) x _ _ _ _ _ _ _ n hn hn2 (by rw [yE qd]; exact q3)
    (fun k T' => RowsAt T' (nx + 2) v2 54 (nx + 4) 3 1 ws (ZG fs pr k) ∧ (∀ o, (o < nx + 4 ∨ nx + 4 + x.cust.length ≤ o) → T' o = T2 o)) ⟨by rw [yE qd]; exact qR, fun o _ => by rw [yE qd]⟩
    (fun k T' h o ho => by rw [h.2 o (.inr (by omega))]; exact qd o ho) (fun j hj T' h => ?_)) ?_).v
   ·obtain ⟨h1, h2⟩ := h
    refine (Zke (n := n) j hm hn2 hj (by omega) (by omega) ((h2 (nz + 1) (.inr (by omega))).trans qF) hfl ((h2 (nx + 3) (.inl (by omega))).trans q3) (Yy fs hP j) h1).mono ?_
    rintro _ T3 ⟨r1, r2⟩
    exact ⟨r1, fun o o1 => (r2 o o1).trans (h2 o o1)⟩
   rintro _ T3 ⟨hR3, hT3'⟩
   have hd3 : zO (nz + 2) T3 := fun o ho => by rw [hT3' o (.inr (by omega))]; exact qd o ho
   refine ⟨T3, [], (yE hd3).symm, ?_⟩
   clear hGc hGh
   clear Gc Gh
   refine zH hsuf (D := []) (by rfl) fun Gc Gh hGc hGh X hX0 hX => ?_
   simp -implicitDefEqProofs [hX0, hX]
   clear hX0 hX X
   intros
   refine hK _ _ _ ?_
   clear hK hGc hGh
   clear K Gc Gh
   rw [yE hd3]
   refine Vf (T' := fun o => if o < nz then T3 o else .dead) (fun o => by by_cases ho : o < nz <;> simp [ho]) ?_
   generalize hT4 : (fun o => if o < nz then T3 o else Ob.dead) = T4
   have q4 : ∀ o, o < nz → T4 o = T3 o := fun o ho => by rw [← hT4]; simp [ho]
   have qd4 : zO nz T4 := fun o ho => by rw [← hT4]; simp; omega
   clear hT4
   rw [← yE qd4]
   (repeat apply za); refine pwn ?_; intros
   refine zm (k + 1, T4, ZG fs pr n) [] ⟨by dsimp only; omega, Yy fs hP n, by rw [hst, show 8 - (k + 1) = 7 - k from by omega], ⟨ws, hR3.other fun o ho => q4 o (by rw [(Yy fs hP n).1] at ho; omega)⟩, ?_, ?_, ⟨L v, .sl nz vD 1 0 pl.length, .sl (nz + 1) vF 1 0 fs.length, ?_⟩, fun o ho => ?_, qd4⟩ (by simp; omega) (by simp [wrN k (by omega)]) rfl (by simp)
   ·dsimp only; rw [q4 _ (by omega), hT3' _ (.inl (by omega)), qo _ (by omega) (by omega)]; exact hT0
   ·dsimp only; rw [q4 _ (by omega), hT3' _ (.inl (by omega)), qo _ (by omega) (by omega)]; exact hT1
   ·dsimp only; rw [q4 _ (by omega), hT3' _ (.inl (by omega))]; exact q3
   ·dsimp only; rw [q4 _ (by omega), hT3' _ (.inl (by omega)), qo _ (by omega) (by omega)]; exact hTS o ho
 ·simp at hc
  obtain rfl : k = 8 := by omega
  rw [hst]
  refine zo ?_
  repeat apply za
  refine pwN [] (jn2 x1 g1) ?_
  intros
  show PW _ _ _ _ _ _ _ (ext _ _ _)
  refine Qw (o := nx + 1) 0 (by rw [zB (by omega)]; first | exact Store.set_same _ _ _ | exact hT1) rfl ?_
  rw [xQ _ (by omega)]
  try rw [Store.set_set]
  repeat apply za
  refine zb ⟨_, S, (by simp [zB (show nx + 1 < nz from by omega), Store.set_same]; rfl), ⟨by simp [zj, jL], rfl⟩, ?_⟩
  exact Q6 hd (by omega) fun o ho => by rw [Store.set_other _ _ _ _ (by omega)]; exact hTS o ho
end Go.Proofs.YtaiplainginmaaaGreat.Pv
