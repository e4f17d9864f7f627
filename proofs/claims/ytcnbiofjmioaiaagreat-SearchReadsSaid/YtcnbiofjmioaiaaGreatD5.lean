/- Part of a proof, packed. -/
import Derived.Test.YtcnbiofjmioaiaaGreatD4
set_option maxRecDepth 100000
set_option maxHeartbeats 3200000
namespace Go.Proofs.YtcnbiofjmioaiaaGreat.Pv
open Go Go.Proofs
abbrev Yc (x : Inst) (d : zg) (sms : List Sm) : List PV := [I x.days, I x.veh, I x.cap, I x.len, L x.cust, L x.dist, L d, L sms]
theorem Yd {x : Inst} (h : qU x) (a b : Int) : 0 ≤ arc x a b ∧ arc x a b ≤ 2147483648 := h a b
theorem Jq {x : Inst} {d : zg} {sms : List Sm} (hs : sms = d.map (qY x)) {k : Nat} (h : k < d.length) : ∃ (t : zv) (td tf : List PV), d[k]? = some t ∧ d.getD k [] = t ∧ (d.flatMap Enc.enc : List PV).drop k = L t :: td ∧
  (sms.flatMap Enc.enc : List PV).drop (k * 4) = [L (qY x t).f, L (qY x t).b, L (qY x t).l, I (qY x t).n] ++ tf := by
 obtain ⟨t, td, a1, -, -, e0⟩ := zI rfl d k h
 rw [hs]
 obtain ⟨s, ts, b1, -, -, -, f0⟩ := el 4 rfl (d.map (qY x)) k (by simpa using h)
 have : s = qY x t := by rw [List.getElem?_map, a1] at b1; exact (Option.some.inj b1).symm
 subst this
 exact ⟨t, td, ts, a1, by rw [List.getD_eq_getElem?_getD, a1]; rfl, e0, f0⟩
theorem Ye {α : Type} [Enc α] (n : Nat) (hn : Enc.sz α = 1) (f : Nat → α) {i : Nat} (h : i < n) : ∃ tl, (((List.range n).map f).flatMap Enc.enc : List PV).drop i = Enc.enc (f i) ++ tl := by
 obtain ⟨s, ts, b1, -, -, f0⟩ := zI hn ((List.range n).map f) i (by simpa using h)
 have : s = f i := by rw [List.getElem?_map, List.getElem?_range h] at b1; exact (Option.some.inj b1).symm
 subst this
 exact ⟨ts, f0⟩
theorem We (x : Inst) (d : zg) (r : Rw5) (hx : qU x) (hd' : MvDay d) (hr : x8 d r) : Pure Tryz.prog 183 [.ip (x9 x d), .agg (z6 r)] (I (jR x d r)) := by
 obtain ⟨sms, hsms⟩ : ∃ sms, sms = d.map (qY x) := ⟨_, rfl⟩
 have hml : sms.length = d.length := by rw [hsms]; simp
 rw [show x9 x d = Yc x d sms from by rw [hsms]]
 have hdn := hd'.n
 have hat := fun k (h : k < 5) => Jp r h
 have hz : jR x d r = ((r.l.take 5).foldl (qr x d) (0, 0)).2 + arc x ((r.l.take 5).foldl (qr x d) (0, 0)).1 0 := by unfold jR; rw [List.take_of_length_le (by simp [Rw5.l])]
 rw [hz]
 clear hz
 have hcl : (z6 r).length = 20 := rfl
 have hct : (z6 r).take 20 = z6 r := rfl
 generalize hrc : z6 r = rc at *
 refine zy Tryz.func183 Tryz.ntmps183 Tryz.results183 fun S nx hd => ?_
 repeat apply za
 refine zb ?_
 intro v0
 repeat apply za
 refine zb ?_
 repeat apply za
 refine ze [] (zm hcl hct) ?_
 refine zj (zM (fun k : Nat => k ≤ 5 ∧ -(8796093022208 * (k : Int)) ≤ ((r.l.take k).foldl (qr x d) (0, 0)).2 ∧ ((r.l.take k).foldl (qr x d) (0, 0)).2 ≤ 8796093022208 * k) (fun k => [(0, .ip (Yc x d sms)), (3, .ptr nx v0 0), (5, I ((r.l.take k).foldl (qr x d) (0, 0)).1), (6, I ((r.l.take k).foldl (qr x d) (0, 0)).2), (13, .agg rc), (14, I k)]) (fun _ => [.cells v0 195 rc]) (fun k => 5 - k) 0 [] (by simp) (by simp) (by simp) ?_)
 rintro k ⟨hk, hb1, hb2⟩
 by_cases hk5 : k < 5
 ·obtain ⟨p, hp1, hp2, hp3⟩ := hat k hk5
  have hk5' : (k : Int) < 5 := by omega
  have hk6 : 4 ≤ 20 - k * 4 := by omega
  have hok := hr p (List.mem_of_getElem? hp1)
  have hnx : (r.l.take (k + 1)).foldl (qr x d) (0, 0) = qr x d ((r.l.take k).foldl (qr x d) (0, 0)) p := by rw [hp3, List.foldl_append]; rfl
  generalize (r.l.take k).foldl (qr x d) (0, 0) = st at *
  obtain ⟨at_, all⟩ := st
  simp only at hb1 hb2 ⊢
  have wk := zx k (by omega)
  repeat apply za
  refine ze [] hk5' ?_
  repeat apply za
  refine zo rfl ?_
  refine zi (za (zj ?_))
  repeat apply za
  refine ze [] (qv hp2 hk5 hk5' hcl hk6) ?_
  intro v3
  by_cases hfo : p.f < p.o
  case neg =>
   have hpz : qr x d (at_, all) p = (at_, all) := by unfold qr; rw [if_neg hfo]
   rw [hpz] at hnx
   have hfo' : p.o ≤ p.f := by omega
   repeat apply za
   refine ze [] hfo' ?_
   refine zo (by simp [hfo']) ?_
   refine zC ?_
   refine zb ?_
   exact zr (k + 1) [_] ⟨by omega, by rw [hnx]; simp only; omega, by rw [hnx]; simp only; omega⟩ (by omega) (by simp [wk, hnx]) rfl (by simp; rfl)
  obtain ⟨ht, ho⟩ := hok hfo
  obtain ⟨t, td, tf, a1, hgt, e0, f0⟩ := Jq hsms ht
  unfold tlen at ho
  rw [hgt] at ho
  have htm := List.mem_of_getElem? a1
  have htl := hd'.t t htm
  have hts := hd'.s t htm
  have ht1 : 1 ≤ d.length - p.t := by omega
  have ht4 : 4 ≤ d.length * 4 - p.t * 4 := by omega
  obtain ⟨n, hn⟩ : ∃ n, p.o = n + 1 := ⟨p.o - 1, by omega⟩
  have hfo' : ¬ p.o ≤ p.f := by omega
  have hst : qr x d (at_, all) p = bif p.b then ((t.getD p.f default).c + 1, all + (arc x at_ ((t.getD n default).c + 1) + yb x t n - yb x t p.f)) else ((t.getD n default).c + 1, all + (arc x at_ ((t.getD p.f default).c + 1) + z8 x t n - z8 x t p.f)) := by
   unfold qr; rw [if_pos hfo, hgt, show p.o - 1 = n by omega]
  rw [hst] at hnx
  clear hst
  obtain ⟨sf, tsf, s1, -, -, -, s0⟩ := el 2 rfl t p.f (by omega)
  obtain ⟨sl, tsl, l1, -, -, -, l0⟩ := el 2 rfl t n (by omega)
  have hgf : t.getD p.f default = sf := getD_some s1
  have hgl : t.getD n default = sl := getD_some l1
  rw [hgf, hgl] at hnx
  have q1 : p.f < t.length := by omega
  have q2 : n < t.length := by omega
  have q3 : 2 ≤ t.length * 2 - p.f * 2 := by omega
  have q4 : 2 ≤ t.length * 2 - n * 2 := by omega
  have wo : IntKind.i64.wrap ((p.o : Int) - 1) = (n : Int) := by rw [wr _ (by omega) (by omega)]; omega
  have wsf := Zd (hts sf (List.mem_of_getElem? s1)).1
  have wsl := Zd (hts sl (List.mem_of_getElem? l1)).1
  have bf1 := Ya hx t p.f
  have bf2 := Ya hx t n
  have bb1 := Yb hx t p.f
  have bb2 := Yb hx t n
  have hlen : ((List.range t.length).map (z8 x t)).length = t.length ∧ ((List.range t.length).map (yb x t)).length = t.length := by simp
  obtain ⟨z1, hz1⟩ := Ye t.length rfl (z8 x t) q1
  obtain ⟨z2, hz2⟩ := Ye t.length rfl (z8 x t) q2
  obtain ⟨z3, hz3⟩ := Ye t.length rfl (yb x t) q1
  obtain ⟨z4, hz4⟩ := Ye t.length rfl (yb x t) q2
  have q5 : 1 ≤ t.length - p.f := by omega
  have q6 : 1 ≤ t.length - n := by omega
  simp only [qY] at f0
  generalize hfl : (List.range t.length).map (z8 x t) = fl at *
  generalize hbl : (List.range t.length).map (yb x t) = bl at *
  generalize ((List.range (t.length + 1)).map fun i => zG (t.take i)) = ll at *
  generalize zV x (t.map (·.c)) = wl at *
  obtain ⟨hl1, hl2⟩ := hlen
  have hfll : (fl.flatMap Enc.enc : List PV).length = t.length := by rw [qQ, hl1]
  have hbll : (bl.flatMap Enc.enc : List PV).length = t.length := by rw [qQ, hl2]
  repeat apply za
  refine ze [] hfo' ?_
  refine zp (by simp [hfo']) ?_
  refine zi ?_
  repeat apply za
  refine zD (some [nx + 1]) (Row.pures [0, 1, 2, 3, 4, 5, 6, 7, 8, 9, 10, 11, 12, 13, 14, 15, 16, 17, 18, 19, 20] .done) mixed (yg e0 f0 ht ht1 ht4 hml) ?_
  repeat apply za
  refine zD (some [nx + 1]) (Row.pures [0, 1, 2, 3, 4, 5, 6] .done) mixed wo ?_
  refine za ?_
  cases hpb : p.b with
  | false =>
   rw [hpb] at hnx
   simp only [cond_false] at hnx
   have har := Yd hx at_ (sf.c + 1)
   have ar := xX x at_ (sf.c + 1)
   have w1 : IntKind.i64.wrap (arc x at_ (sf.c + 1) + z8 x t n) = arc x at_ (sf.c + 1) + z8 x t n := wr _ (by omega) (by omega)
   have w2 : IntKind.i64.wrap (arc x at_ (sf.c + 1) + z8 x t n - z8 x t p.f) = arc x at_ (sf.c + 1) + z8 x t n - z8 x t p.f := wr _ (by omega) (by omega)
   have w3 : IntKind.i64.wrap (all + (arc x at_ (sf.c + 1) + z8 x t n - z8 x t p.f)) = all + (arc x at_ (sf.c + 1) + z8 x t n - z8 x t p.f) := wr _ (by omega) (by omega)
   repeat apply za
   refine ze [] hpb ?_
   refine zp rfl ?_
   refine zi ?_
   repeat apply za
   refine zD (some [nx + 1]) (Row.pures [0, 1, 2, 3, 4, 5, 6, 7, 8, 9, 10, 11, 12, 13, 14, 15, 16, 17, 18, 19, 20, 21, 22, 23, 24, 25, 26, 27] .done) mixed (yg s0 q1 q3 wsf wo (zm (yg hz1 hz2 hfll hl1 q2 q5) (ye q6 w1 w2 w3))) ?_
   refine zN (ar) (yg s0 q1 q3 wsf wo (zm (yg hz1 hz2 hfll hl1 q2 q5) (ye q6 w1 w2 w3))) ?_
   refine ze [] (ye l0 q2 q4 wsl) ?_
   refine zb ?_
   exact zr (k + 1) [_] ⟨by omega, by rw [hnx]; simp only; omega, by rw [hnx]; simp only; omega⟩ (by omega) (by simp [wk, hnx]) rfl (by simp; rfl)
  | true =>
   rw [hpb] at hnx
   simp only [cond_true] at hnx
   have har := Yd hx at_ (sl.c + 1)
   have ar := xX x at_ (sl.c + 1)
   have w1 : IntKind.i64.wrap (arc x at_ (sl.c + 1) + yb x t n) = arc x at_ (sl.c + 1) + yb x t n := wr _ (by omega) (by omega)
   have w2 : IntKind.i64.wrap (arc x at_ (sl.c + 1) + yb x t n - yb x t p.f) = arc x at_ (sl.c + 1) + yb x t n - yb x t p.f := wr _ (by omega) (by omega)
   have w3 : IntKind.i64.wrap (all + (arc x at_ (sl.c + 1) + yb x t n - yb x t p.f)) = all + (arc x at_ (sl.c + 1) + yb x t n - yb x t p.f) := wr _ (by omega) (by omega)
   repeat apply za
   refine ze [] hpb ?_
   refine zo rfl ?_
   refine zD (some [nx + 1]) (Row.pures [0, 1, 2, 3, 4, 5, 6, 7, 8, 9, 10, 11, 12, 13] .done) mixed (ye f0 ht ht4 hml) ?_
   repeat apply za
   refine zD (some [nx + 1]) (Row.pures [0, 1, 2, 3, 4, 5, 6, 7, 8, 9, 10, 11, 12, 13, 14, 15, 16, 17, 18, 19, 20, 21, 22, 23, 24, 25, 26, 27] .done) mixed (yg l0 q2 q4 wsl wo (zm (yg hz3 hz4 hbll hl2 q1 q5) (ye q6 w1 w2 w3))) ?_
   refine zN (ar) (yg l0 q2 q4 wsl wo (zm (yg hz3 hz4 hbll hl2 q1 q5) (ye q6 w1 w2 w3))) ?_
   refine ze [] (ye s0 q1 q3 wsf) ?_
   refine zb ?_
   exact zr (k + 1) [_] ⟨by omega, by rw [hnx]; simp only; omega, by rw [hnx]; simp only; omega⟩ (by omega) (by simp [wk, hnx]) rfl (by simp; rfl)
 ·obtain rfl : k = 5 := by omega
  generalize (r.l.take 5).foldl (qr x d) (0, 0) = st at *
  obtain ⟨at_, all⟩ := st
  simp only at hb1 hb2 ⊢
  have har := Yd hx at_ 0
  have ar := xX x at_ 0
  have w1 : IntKind.i64.wrap (all + arc x at_ 0) = all + arc x at_ 0 := wr _ (by omega) (by omega)
  repeat apply za
  refine zb ?_
  repeat apply za
  refine zp rfl ?_
  refine zC ?_
  repeat apply za
  refine zb ?_
  refine jg [] ar w1 ?_
  exact zh (zk hd rfl rfl)
open Go Go.Proofs
theorem Zik (x : Inst) (d : zg) (r : Rw5) (hd' : MvDay d) (hr : x8 d r) : Pure Tryz.prog 184 [.ip (x9 x d), .agg (z6 r)] (I (uJ d r)) := by
 obtain ⟨sms, hsms⟩ : ∃ sms, sms = d.map (qY x) := ⟨_, rfl⟩
 have hml : sms.length = d.length := by rw [hsms]; simp
 rw [show x9 x d = Yc x d sms from by rw [hsms]]
 have hdn := hd'.n
 have hat := fun k (h : k < 5) => Jp r h
 have hz : uJ d r = (r.l.take 5).foldl (xh d) 0 := by unfold uJ; rw [List.take_of_length_le (by simp [Rw5.l])]
 rw [hz]
 clear hz
 have hcl : (z6 r).length = 20 := rfl
 have hct : (z6 r).take 20 = z6 r := rfl
 generalize hrc : z6 r = rc at *
 refine zy Tryz.func184 Tryz.ntmps184 Tryz.results184 fun S nx hd => ?_
 repeat apply za
 refine zb ?_
 intro v0
 repeat apply za
 refine zb ?_
 repeat apply za
 refine ze [] (zm hcl hct) ?_
 refine zj (zM (fun k : Nat => k ≤ 5 ∧ -(8796093022208 * (k : Int)) ≤ (r.l.take k).foldl (xh d) 0 ∧ (r.l.take k).foldl (xh d) 0 ≤ 8796093022208 * k) (fun k => [(0, .ip (Yc x d sms)), (3, .ptr nx v0 0), (5, I ((r.l.take k).foldl (xh d) 0)), (8, .agg rc), (9, I k)]) (fun _ => [.cells v0 195 rc]) (fun k => 5 - k) 0 [] (by simp) (by simp) (by simp) ?_)
 rintro k ⟨hk, hb1, hb2⟩
 by_cases hk5 : k < 5
 ·obtain ⟨p, hp1, hp2, hp3⟩ := hat k hk5
  have hk5' : (k : Int) < 5 := by omega
  have hk6 : 4 ≤ 20 - k * 4 := by omega
  have hok := hr p (List.mem_of_getElem? hp1)
  have hnx : (r.l.take (k + 1)).foldl (xh d) 0 = xh d ((r.l.take k).foldl (xh d) 0) p := by rw [hp3, List.foldl_append]; rfl
  generalize (r.l.take k).foldl (xh d) 0 = all at *
  have wk := zx k (by omega)
  repeat apply za
  refine ze [] hk5' ?_
  repeat apply za
  refine zo rfl ?_
  refine zi (za (zj ?_))
  repeat apply za
  refine ze [] (qv hp2 hk5 hk5' hcl hk6) ?_
  intro v3
  by_cases hfo : p.f < p.o
  case neg =>
   have hpz : xh d all p = all := by unfold xh; rw [if_neg hfo]
   rw [hpz] at hnx
   repeat apply za
   refine ze [] hfo ?_
   refine zp (by simp [hfo]) ?_
   refine zi ?_
   refine zb ?_
   exact zr (k + 1) [_] ⟨by omega, by rw [hnx]; omega, by rw [hnx]; omega⟩ (by omega) (by simp [wk, hnx]) rfl (by simp; rfl)
  obtain ⟨ht, ho⟩ := hok hfo
  obtain ⟨t, td, tf, a1, hgt, e0, f0⟩ := Jq hsms ht
  unfold tlen at ho
  rw [hgt] at ho
  have htm := List.mem_of_getElem? a1
  have htl := hd'.t t htm
  have hts := hd'.s t htm
  have ht4 : 4 ≤ d.length * 4 - p.t * 4 := by omega
  have hst : xh d all p = all + (zG (t.take p.o) - zG (t.take p.f)) := by unfold xh; rw [if_pos hfo, hgt]
  rw [hst] at hnx
  have b1 := XO (t := t.take p.o) (fun a ha => (hts a (List.mem_of_mem_take ha)).2)
  have b2 := XO (t := t.take p.f) (fun a ha => (hts a (List.mem_of_mem_take ha)).2)
  have b3 : (t.take p.o).length ≤ 1000 := by rw [List.length_take]; omega
  have b4 : (t.take p.f).length ≤ 1000 := by rw [List.length_take]; omega
  have w1 : IntKind.i64.wrap (zG (t.take p.o) - zG (t.take p.f)) = zG (t.take p.o) - zG (t.take p.f) := wr _ (by omega) (by omega)
  have w2 : IntKind.i64.wrap (all + (zG (t.take p.o) - zG (t.take p.f))) = all + (zG (t.take p.o) - zG (t.take p.f)) := wr _ (by omega) (by omega)
  obtain ⟨z1, hz1⟩ := Ye (t.length + 1) rfl (fun i => zG (t.take i)) (show p.o < t.length + 1 by omega)
  obtain ⟨z2, hz2⟩ := Ye (t.length + 1) rfl (fun i => zG (t.take i)) (show p.f < t.length + 1 by omega)
  have hll : ((List.range (t.length + 1)).map fun i => zG (t.take i)).length = t.length + 1 := by simp
  simp only [qY] at f0
  generalize (List.range t.length).map (z8 x t) = fl at *
  generalize (List.range t.length).map (yb x t) = bl at *
  generalize ((List.range (t.length + 1)).map fun i => zG (t.take i)) = ll at *
  generalize zV x (t.map (·.c)) = wl at *
  generalize zG (t.take p.o) = lo at *
  generalize zG (t.take p.f) = lf at *
  have hlf : (ll.flatMap Enc.enc : List PV).length = t.length + 1 := by rw [qQ, hll]
  have q1 : p.o < t.length + 1 := by omega
  have q2 : p.f < t.length + 1 := by omega
  have q3 : 1 ≤ t.length + 1 - p.o := by omega
  have q4 : 1 ≤ t.length + 1 - p.f := by omega
  have q5 : (p.o : Int) < (t.length : Int) + 1 := by omega
  have q6 : (p.f : Int) < (t.length : Int) + 1 := by omega
  repeat apply za
  refine ze [] hfo ?_
  refine zo (by simp [hfo]) ?_
  refine zD (some [nx + 1]) (Row.pures [0, 1, 2, 3, 4, 5, 6, 7, 8, 9, 10, 11, 12, 13, 14, 15, 16, 17, 18, 19, 20, 21, 22, 23, 24, 25, 26, 27, 28, 29] .done) mixed (yg f0 ht ht4 hml hz1 (zm (yg hz2 hll hlf q1 q2 q3) (qv q4 q5 q6 w1 w2))) ?_
  refine zb ?_
  exact zr (k + 1) [_] ⟨by omega, by rw [hnx]; omega, by rw [hnx]; omega⟩ (by omega) (by simp [wk, hnx]) rfl (by simp; rfl)
 ·obtain rfl : k = 5 := by omega
  repeat apply za
  refine zb ?_
  repeat apply za
  refine zp rfl ?_
  refine zC ?_
  repeat apply za
  refine zb ?_
  exact zh (zk hd rfl rfl)
def Qa (x : Inst) (d : zg) (m : Mv) (r1 r2 : Rw5) : Int := jR x d r1 - zV x ((d.getD m.a []).map (·.c)) + (if m.a = m.b then 0 else jR x d r2 - zV x ((d.getD m.b []).map (·.c)))
theorem ZbB {x : Inst} (hx : qU x) {d : zg} (hd' : MvDay d) {r : Rw5} (hr : x8 d r) : -52776558133248 ≤ jR x d r ∧ jR x d r ≤ 52776558133248 := by
 have key : ∀ k : Nat, k ≤ 5 → -(8796093022208 * (k : Int)) ≤ ((r.l.take k).foldl (qr x d) (0, 0)).2 ∧ ((r.l.take k).foldl (qr x d) (0, 0)).2 ≤ 8796093022208 * k := by
  intro k
  induction k with
  | zero => intro _; simp
  | succ k ih =>
   intro hk
   obtain ⟨h1, h2⟩ := ih (by omega)
   obtain ⟨p, hp1, -, hp3⟩ := Jp r (show k < 5 by omega)
   have hok := hr p (List.mem_of_getElem? hp1)
   rw [hp3, List.foldl_append, List.foldl_cons, List.foldl_nil]
   generalize (r.l.take k).foldl (qr x d) (0, 0) = st at *
   unfold qr
   by_cases hfo : p.f < p.o
   ·obtain ⟨ht, ho⟩ := hok hfo
    have htm : d.getD p.t [] ∈ d := List.mem_of_getElem? (i := p.t) (by rw [List.getD_eq_getElem?_getD, List.getElem?_eq_getElem ht]; rfl)
    have htl := hd'.t _ htm
    unfold tlen at ho
    generalize d.getD p.t [] = t at *
    have b1 := Ya hx t p.f
    have b2 := Ya hx t (p.o - 1)
    have b3 := Yb hx t p.f
    have b4 := Yb hx t (p.o - 1)
    rw [if_pos hfo]
    cases p.b with
    | true =>
     have := Yd hx st.1 ((t.getD (p.o - 1) default).c + 1)
     simp only [cond_true]; omega
    | false =>
     have := Yd hx st.1 ((t.getD p.f default).c + 1)
     simp only [cond_false]; omega
   ·rw [if_neg hfo]; omega
 have h5 := key 5 (by omega)
 rw [List.take_of_length_le (by simp [Rw5.l])] at h5
 have := Yd hx (r.l.foldl (qr x d) (0, 0)).1 0
 unfold jR
 omega
theorem Zil (x : Inst) (d : zg) (m : Mv) (r1 r2 : Rw5) (hx : qU x) (hd' : MvDay d) (hr1 : x8 d r1) (hr2 : x8 d r2) (ha : m.a < d.length) (hb : m.b < d.length) : Pure Tryz.prog 147 [.ip (x9 x d), .agg (wA m), .agg (z6 r1), .agg (z6 r2)] (I (Qa x d m r1 r2)) := by
 have l1 := We x d r1 hx hd' hr1
 have l2 := We x d r2 hx hd' hr2
 have b1 := ZbB hx hd' hr1
 have b2 := ZbB hx hd' hr2
 obtain ⟨sms, hsms⟩ : ∃ sms, sms = d.map (qY x) := ⟨_, rfl⟩
 have hml : sms.length = d.length := by rw [hsms]; simp
 rw [show x9 x d = Yc x d sms from by rw [hsms]] at l1 l2 ⊢
 have hdn := hd'.n
 obtain ⟨ta, tda, tfa, a1, hga, -, fa⟩ := Jq hsms ha
 obtain ⟨tb, tdb, tfb, c1, hgb, -, fb⟩ := Jq hsms hb
 have wa := Y6 hx (ta.map (·.c))
 have wb := Y6 hx (tb.map (·.c))
 rw [List.length_map] at wa wb
 have hta := hd'.t ta (List.mem_of_getElem? a1)
 have htb := hd'.t tb (List.mem_of_getElem? c1)
 have hdef : Qa x d m r1 r2 = jR x d r1 - zV x (ta.map (·.c)) + (if m.a = m.b then 0 else jR x d r2 - zV x (tb.map (·.c))) := by unfold Qa; rw [hga, hgb]
 rw [hdef]
 clear hdef
 simp only [qY] at fa fb
 generalize jR x d r1 = k1 at *
 generalize jR x d r2 = k2 at *
 generalize zV x (ta.map (·.c)) = wl at *
 generalize zV x (tb.map (·.c)) = wm at *
 have ha4 : 4 ≤ d.length * 4 - m.a * 4 := by omega
 have hb4 : 4 ≤ d.length * 4 - m.b * 4 := by omega
 have w1 : IntKind.i64.wrap (k1 - wl) = k1 - wl := wr _ (by omega) (by omega)
 have w2 : IntKind.i64.wrap (k2 - wm) = k2 - wm := wr _ (by omega) (by omega)
 have w3 : IntKind.i64.wrap (k1 - wl + (k2 - wm)) = k1 - wl + (k2 - wm) := wr _ (by omega) (by omega)
 have hc1 : (z6 r1).length = 20 := rfl
 have ht1 : (z6 r1).take 20 = z6 r1 := rfl
 have hc2 : (z6 r2).length = 20 := rfl
 have ht2 : (z6 r2).take 20 = z6 r2 := rfl
 generalize hrc1 : z6 r1 = rc1 at *
 generalize hrc2 : z6 r2 = rc2 at *
 refine zy Tryz.func147 Tryz.ntmps147 Tryz.results147 fun S nx hd => ?_
 repeat apply za
 refine zb ?_
 intro v0 v1 v2
 repeat apply za
 refine zD (some [nx, nx + 1]) (Row.pures [0, 1, 2, 3, 4, 5, 6, 7, 8, 9, 10, 11, 12, 13] .done) mixed (yg hc1 ht1 fa ha ha4 (zm hml w1)) ?_
 refine zN (l1) (yg hc1 ht1 fa ha ha4 (zm hml w1)) ?_
 by_cases hab : m.a = m.b
 ·have hab' : (m.a : Int) = m.b := by omega
  rw [if_pos hab]
  repeat apply za
  refine ze [] hab' ?_
  refine zp (by simp [hab']) ?_
  refine zi ?_
  repeat apply za
  refine zb ?_
  exact zh (zk hd rfl (by simp [zn]))
 ·have hab' : ¬ (m.a : Int) = m.b := by omega
  rw [if_neg hab]
  repeat apply za
  refine ze [] hab' ?_
  refine zo (by simp [hab']) ?_
  refine zD (some [nx, nx + 2]) (Row.pures [0, 1, 2, 3, 4, 5, 6, 7, 8, 9, 10, 11, 12, 13, 14, 15] .done) mixed (yg hc2 ht2 fb hb hb4 (zJ hml w2 w3)) ?_
  refine zN (l2) (yg hc2 ht2 fb hb hb4 (zJ hml w2 w3)) ?_
  repeat apply za
  refine zb ?_
  exact zh (zk hd rfl (by simp [zn]))
theorem ZbC (x : Inst) (d : zg) (r : Rw5) (hx : qU x) (hd' : MvDay d) (hr : x8 d r) : Pure Tryz.prog 148 [.ip (x9 x d), .agg (z6 r)] (B (decide (uJ d r ≤ x.cap ∧ jR x d r ≤ x.len))) := by
 have l1 := We x d r hx hd' hr
 have l2 := Zik x d r hd' hr
 obtain ⟨sms, hsms⟩ : ∃ sms, sms = d.map (qY x) := ⟨_, rfl⟩
 rw [show x9 x d = Yc x d sms from by rw [hsms]] at l1 l2 ⊢
 generalize jR x d r = k1 at *
 generalize uJ d r = k2 at *
 have hc1 : (z6 r).length = 20 := rfl
 have ht1 : (z6 r).take 20 = z6 r := rfl
 generalize hrc1 : z6 r = rc at *
 refine zy Tryz.func148 Tryz.ntmps148 Tryz.results148 fun S nx hd => ?_
 repeat apply za
 refine zb ?_
 intro v0
 by_cases h1 : k2 ≤ x.cap
 ·repeat apply za
  refine zD (some [nx]) (Row.pures [0, 1, 2, 3, 4, 5, 6, 7, 8, 9, 10, 11, 12, 13, 14, 15, 16, 17, 18, 19, 20] .done) mixed (zJ hc1 ht1 h1) ?_
  refine zN (l2) (zJ hc1 ht1 h1) ?_
  refine zN (l1) (zJ hc1 ht1 h1) ?_
  exact zh (zk hd rfl (by simp [zn, h1]))
 ·repeat apply za
  refine zD (some [nx]) (Row.pures [0, 1, 2, 3, 4, 5, 6, 7, 8, 9, 10, 11, 12, 13, 14, 15, 16, 17, 18, 19, 20] .done) mixed (ye hc1 ht1 h1 zL) ?_
  refine zN (l2) (ye hc1 ht1 h1 zL) ?_
  exact zh (zk hd rfl (by simp [zn, h1]))
open Go Go.Proofs
theorem Jr {α : Type} {W : Nat → List α} {n k i : Nat} {x : α} (hk : k < n) (h : (W k)[i]? = some x) : ((List.range n).flatMap W)[((List.range k).flatMap W).length + i]? = some x := by
 obtain ⟨m, rfl⟩ : ∃ m, n = k + (m + 1) := ⟨n - k - 1, by omega⟩
 have hi := (List.getElem?_eq_some_iff.1 h).1
 rw [List.range_add, List.flatMap_append, List.getElem?_append_right (Nat.le_add_right _ _), Nat.add_sub_cancel_left, List.range_succ_eq_map]
 simp only [List.map_cons, List.flatMap_cons, Nat.add_zero]
 rw [List.getElem?_append_left hi]
 exact h
theorem Js {α : Type} (W : Nat → List α) (k : Nat) : ((List.range (k + 1)).flatMap W).length = ((List.range k).flatMap W).length + (W k).length := by
 rw [List.range_succ, List.flatMap_append, List.length_append]; simp
def ul (d : zg) (k a b i j : Nat) : Option Mv := if jG d ⟨k, a, b, i, j⟩ = true then some ⟨k, a, b, i, j⟩ else none
def wZ (d : zg) (k a b i : Nat) : List Mv := (List.range (tlen d b + 1)).filterMap (ul d k a b i)
def vE (d : zg) (k a b : Nat) : List Mv := (List.range (tlen d a + 1)).flatMap (wZ d k a b)
def uK (d : zg) (k a : Nat) : List Mv := (List.range d.length).flatMap (vE d k a)
def vG (d : zg) (k : Nat) : List Mv := (List.range d.length).flatMap (uK d k)
def vH (d : zg) : List Mv := (List.range 4).flatMap (vG d)
abbrev Zq (m : Mv) : List PV := [.agg (wA m)]
theorem Zim (d : zg) (k a b : Nat) (hdn : d.length ≤ 1048576) (hdt : ∀ t ∈ d, t.length ≤ 1000) (hk : k ≤ 3) (ha : a < d.length) (hb : b < d.length) :
  Jg Tryz.prog 182 (fun y => [.agg [L d], .agg [I k, I a, I b, I 0, I 0], qL y]) ((vE d k a b).map Zq) (B true) := by
 refine ZaJ Tryz.func182 (by rfl) rfl Tryz.ntmps182 (congrArg Array.toList Tryz.results182) (by simp) fun y V keep nx J hJd hY A0 hA0 => ?_
 obtain ⟨ta, xa, a1, -, -, a0⟩ := zI rfl d a ha
 obtain ⟨tb, xb, b1, -, -, b0⟩ := zI rfl d b hb
 have ha1 : 1 ≤ d.length - a := by omega
 have hb1 : 1 ≤ d.length - b := by omega
 have la : tlen d a = ta.length := by unfold tlen; rw [List.getD_eq_getElem?_getD, a1]; rfl
 have lb : tlen d b = tb.length := by unfold tlen; rw [List.getD_eq_getElem?_getD, b1]; rfl
 have hal := hdt ta (List.mem_of_getElem? a1)
 have hbl := hdt tb (List.mem_of_getElem? b1)
 have hall : ∀ t ∈ d, t.length ≤ 1048576 := fun t ht => Nat.le_trans (hdt t ht) (by decide)
 have hlook := fun i j (hi : i ≤ 1048576) (hj : j ≤ 1048576) => X4 d ⟨k, a, b, i, j⟩ hdn hall hk ha hb hi hj
 have hpl : vE d k a b = (List.range (ta.length + 1)).flatMap (wZ d k a b) := by unfold vE; rw [la]
 have hrow : ∀ i, wZ d k a b i = (List.range (tb.length + 1)).filterMap (ul d k a b i) := fun i => by unfold wZ; rw [lb]
 rw [hpl] at hY ⊢
 clear hpl la lb
 repeat apply za
 refine zb ?_
 intro v0 v1
 repeat apply za
 refine zb ?_
 refine zj (qP (σ := Nat × Int × Store) (fun s' => s'.1 ≤ ta.length + 1 ∧ J ((List.range s'.1).flatMap (wZ d k a b)).length s'.2.2) (fun s' => [(2, qL y), (3, .ptr nx v0 0), (4, .ptr (nx + 1) v1 0)]) (fun s' => s'.2.2)
  (fun (i, jv, _) => [.cells v0 58 [L d], .cells v1 151 [I k, I a, I b, I i, I jv]]) (fun s' => ta.length + 1 - s'.1) (zS (0, 0, A0) [] (by simpa using hA0) (by simp) rfl (by simp)) ?_)
 rintro ⟨i, jv, A⟩ ⟨hi, hJ⟩
 simp only at hi hJ ⊢
 repeat apply za
 refine zD (some [nx, nx + 1]) (Row.pures [0, 1, 2, 3, 4, 5, 6, 7, 8, 9, 10] .done) mixed (zJ a0 ha ha1) ?_
 refine zt rfl (fun hc => ?_) (fun hc => ?_)
 ·simp at hc
  have hrl := Js (wZ d k a b) i
  refine zi (za (zj ?_))
  repeat apply za
  refine zb ?_
  refine zj (qP (σ := Nat × Store) (fun s' => s'.1 ≤ tb.length + 1 ∧ J (((List.range i).flatMap (wZ d k a b)).length + ((List.range s'.1).filterMap (ul d k a b i)).length) s'.2) (fun s' => [(2, qL y), (3, .ptr nx v0 0), (4, .ptr (nx + 1) v1 0)]) (fun s' => s'.2)
   (fun (j, _) => [.cells v0 58 [L d], .cells v1 151 [I k, I a, I b, I i, I j]]) (fun s' => tb.length + 1 - s'.1) (zS (0, A) [] (by simpa using hJ) (by simp) rfl (by simp)) ?_)
  clear hJ A jv
  rintro ⟨j, A⟩ ⟨hj, hJ⟩
  simp only at hj hJ ⊢
  repeat apply za
  refine zD (some [nx, nx + 1]) (Row.pures [0, 1, 2, 3, 4, 5, 6, 7, 8, 9, 10] .done) mixed (zJ b0 hb hb1) ?_
  refine zt rfl (fun hcj => ?_) (fun hcj => ?_)
  ·simp at hcj
   have hlk := hlook i j (by omega) (by omega)
   have wj := zx j (by omega)
   refine zi (za (zj ?_))
   cases hm : jG d ⟨k, a, b, i, j⟩ with
   | true =>
    have hce : ul d k a b i j = some ⟨k, a, b, i, j⟩ := by unfold ul; rw [if_pos hm]
    have hlo : vC d ⟨k, a, b, i, j⟩ = ((zU d ⟨k, a, b, i, j⟩).1, (zU d ⟨k, a, b, i, j⟩).2, true) := by unfold vC; rw [if_pos hm]
    rw [hlo] at hlk
    have hat := ZaL (n := tb.length + 1) (by omega) hce
    rw [← hrow] at hat
    have hat2 := Jr (W := wZ d k a b) (n := ta.length + 1) (by omega) hat
    have hy : (((List.range (ta.length + 1)).flatMap (wZ d k a b)).map Zq)[((List.range i).flatMap (wZ d k a b)).length + ((List.range j).filterMap (ul d k a b i)).length]? = some (Zq ⟨k, a, b, i, j⟩) := by
     rw [List.getElem?_map, hat2]; rfl
    have hnx := ZaN hce
    generalize (zU d ⟨k, a, b, i, j⟩).1 = r1 at *
    generalize (zU d ⟨k, a, b, i, j⟩).2 = r2 at *
    repeat apply za
    refine zb ?_
    refine zB hlk ?_
    intro v2 v3
    repeat apply za
    refine zQ [(1, 50)] (by rfl) (by rfl) fun K Gc Gh hK hGc hGh X hX0 hX => ?_
    simp -implicitDefEqProofs [hX0, hX]
    try clear hX0 hX X
    refine hGh _ _ _ _ _ fun hsuf => ZU rfl rfl rfl (hY _ _ _ _ hy hJ) ?_
    rintro _ ⟨A', hJ', rfl⟩
    refine ⟨_, _, rfl, ?_⟩
    clear hGc hGh
    clear Gc Gh
    refine zP hsuf (D := [(1, 50)]) (by rfl) fun Gc Gh hGc hGh X hX0 hX => ?_
    simp -implicitDefEqProofs [hX0, hX]
    try clear hX0 hX X
    refine hK _ _ _ ?_
    clear hK hGc hGh
    clear K Gc Gh
    refine zp rfl ?_
    refine zi ?_
    refine zb ?_
    exact zr (j + 1, A') [_, _] ⟨by simp; omega, by rw [hnx]; exact hJ'⟩ (by simp; omega) (by simp) rfl (by simp [wj]; exact ⟨rfl, rfl⟩)
   | false =>
    have hce : ul d k a b i j = none := by unfold ul; rw [if_neg (by simp [hm])]
    have hlo : vC d ⟨k, a, b, i, j⟩ = (jk, jk, false) := by unfold vC; rw [if_neg (by simp [hm])]
    rw [hlo] at hlk
    have hnx := ZaM hce
    generalize jk = r0 at *
    repeat apply za
    refine zb ?_
    refine zB hlk ?_
    intro v2 v3
    repeat apply za
    refine ze [(1, 50)] zL ?_
    refine zp rfl ?_
    refine zi ?_
    refine zb ?_
    exact zr (j + 1, A) [_, _] ⟨by simp; omega, by rw [hnx]; exact hJ⟩ (by simp; omega) (by simp) rfl (by simp [wj]; exact ⟨rfl, rfl⟩)
  ·simp at hcj
   obtain rfl : j = tb.length + 1 := by omega
   rw [← hrow, ← hrl] at hJ
   refine zC ?_
   have wi := zx i (by omega)
   refine zb ?_
   exact zr (i + 1, ((tb.length + 1 : Nat) : Int), A) [] ⟨by simp; omega, hJ⟩ (by simp; omega) (by simp) rfl (by simp [wi])
 ·simp at hc
  obtain rfl : i = ta.length + 1 := by omega
  refine zC ?_
  repeat apply za
  refine zb ?_
  exact zh (Jh (hJd _ _ hJ) (by simp; rfl) (by simp [zn]) (by simpa using hJ))
theorem Zin (d : zg) : Pure Tryz.prog 145 [.agg [L d]] (.fn (.func 180) [] [.ip [L d]]) := by
 refine zy Tryz.func145 Tryz.ntmps145 Tryz.results145 fun S nx hd => ?_
 repeat apply za
 refine zb ?_
 intro v0
 repeat apply za
 refine zb ?_
 refine jC 0 rfl ?_
 exact zh (zk hd (by simp; rfl) rfl)
theorem Zio (d : zg) (hdn : d.length ≤ 1000) (hdt : ∀ t ∈ d, t.length ≤ 1000) : uy Tryz.prog 180 [.ip [L d]] ((vH d).map Zq) := by
 have hpl := fun k a b (hk : k ≤ 3) (ha : a < d.length) (hb : b < d.length) => Zim d k a b (by omega) hdt hk ha hb
 have hkinds := Zbm
 generalize Jn = kl at hkinds
 refine YL Tryz.func180 (by rfl) rfl Tryz.ntmps180 (congrArg Array.toList Tryz.results180) (by simp) fun l V keep nx J hJd hY A0 hA0 => ?_
 repeat apply za
 refine zb ?_
 refine zB hkinds ?_
 refine zj (qP (σ := Nat × Store) (fun s' => s'.1 ≤ 4 ∧ J ((List.range s'.1).flatMap (vG d)).length s'.2) (fun s' => [(0, qL l), (1, .ip [L d]), (7, I s'.1)]) (fun s' => s'.2) (fun _ => []) (fun s' => 4 - s'.1) (zS (0, A0) [] (by simpa using hA0) (by simp) rfl (by simp)) ?_)
 rintro ⟨k, A⟩ ⟨hk, hJ⟩
 simp only at hk hJ ⊢
 by_cases hk4 : k < 4
 ·have hk4' : (k : Int) < 4 := by omega
  have hlA := Js (vG d) k
  repeat apply za
  refine ze [] hk4' ?_
  repeat apply za
  refine zo rfl ?_
  refine zi (za (zj ?_))
  repeat apply za
  refine zb ?_
  repeat apply za
  refine zb ?_
  refine zj (qP (σ := Nat × Store) (fun s' => s'.1 ≤ d.length ∧ J (((List.range k).flatMap (vG d)).length + ((List.range s'.1).flatMap (uK d k)).length) s'.2) (fun s' => [(0, qL l), (1, .ip [L d]), (3, I k), (7, I k), (12, I d.length), (13, I s'.1)]) (fun s' => s'.2) (fun _ => []) (fun s' => d.length - s'.1) (zS (0, A) [] (by simpa using hJ) (by simp) rfl (by simp)) ?_)
  clear hJ A
  rintro ⟨a, A⟩ ⟨ha, hJ⟩
  simp only at ha hJ ⊢
  repeat apply za
  refine zb ?_
  repeat apply za
  refine zt rfl (fun hca => ?_) (fun hca => ?_)
  ·simp at hca
   have hlK := Js (uK d k) a
   refine zi (za (zj ?_))
   repeat apply za
   refine zb ?_
   repeat apply za
   refine zb ?_
   refine zj (qP (σ := Nat × Store) (fun s' => s'.1 ≤ d.length ∧ J (((List.range k).flatMap (vG d)).length + ((List.range a).flatMap (uK d k)).length + ((List.range s'.1).flatMap (vE d k a)).length) s'.2) (fun s' => [(0, qL l), (1, .ip [L d]), (3, I k), (4, I a), (7, I k), (12, I d.length), (13, I a), (18, I d.length), (19, I s'.1)]) (fun s' => s'.2) (fun _ => []) (fun s' => d.length - s'.1) (zS (0, A) [] (by simpa using hJ) (by simp) rfl (by simp)) ?_)
   clear hJ A
   rintro ⟨b, A⟩ ⟨hb, hJ⟩
   simp only at hb hJ ⊢
   repeat apply za
   refine zb ?_
   repeat apply za
   refine zt rfl (fun hcb => ?_) (fun hcb => ?_)
   ·simp at hcb
    have hw := hpl k a b (by omega) hca hcb
    have hlP := Js (vE d k a) b
    have hin : ∀ (i : Nat) (x : List PV), ((vE d k a b).map Zq)[i]? = some x → ((vH d).map Zq)[((List.range k).flatMap (vG d)).length + ((List.range a).flatMap (uK d k)).length + ((List.range b).flatMap (vE d k a)).length + i]? = some x := by
     intro i x hx
     rw [List.getElem?_map] at hx ⊢
     obtain ⟨m, hm, rfl⟩ := Option.map_eq_some_iff.1 hx
     have e1 := Jr (W := vE d k a) (n := d.length) hcb hm
     have e2 := Jr (W := uK d k) (n := d.length) hca e1
     have e3 := Jr (W := vG d) (n := 4) hk4 e2
     rw [Nat.add_assoc, Nat.add_assoc]
     unfold vH
     rw [e3]; rfl
    refine zi (za (zj ?_))
    repeat apply za
    refine zb ?_
    repeat apply za
    refine zQ [] (by rfl) (by rfl) fun K Gc Gh hK hGc hGh X hX0 hX => ?_
    simp -implicitDefEqProofs [hX0, hX]
    try clear hX0 hX X
    refine hGc _ _ _ _ _ _ _ fun hsuf => ((ZaK hw keep hY _ hin hJ _).mono ?_)
    rintro _ _ ⟨A', rfl, hJ', rfl⟩
    rw [List.length_map, Nat.add_assoc, ← hlP] at hJ'
    refine ⟨_, _, rfl, ?_⟩
    clear hGc hGh
    clear Gc Gh
    refine zP hsuf (D := []) (by rfl) fun Gc Gh hGc hGh X hX0 hX => ?_
    simp -implicitDefEqProofs [hX0, hX]
    clear hX0 hX X
    refine hK _ _ _ ?_
    clear hK hGc hGh
    clear K Gc Gh
    refine zp rfl ?_
    refine zi ?_
    refine zb ?_
    exact zr (b + 1, A') [] ⟨hcb, hJ'⟩ (by simp; omega) (by simp [zx b (by omega)]) rfl (by simp)
   ·simp at hcb
    obtain rfl : b = d.length := by omega
    refine zC ?_
    have hJ2 : J (((List.range k).flatMap (vG d)).length + ((List.range (a + 1)).flatMap (uK d k)).length) A := by rw [hlK, ← Nat.add_assoc]; exact hJ
    refine zb ?_
    exact zr (a + 1, A) [] ⟨hca, hJ2⟩ (by simp; omega) (by simp [zx a (by omega)]) rfl (by simp)
  ·simp at hca
   obtain rfl : a = d.length := by omega
   refine zC ?_
   have hJ2 : J ((List.range (k + 1)).flatMap (vG d)).length A := by rw [hlA]; exact hJ
   refine zb ?_
   exact zr (k + 1, A) [] ⟨hk4, hJ2⟩ (by simp; omega) (by simp [zx k (by omega)]) rfl (by simp)
 ·obtain rfl : k = 4 := by omega
  repeat apply za
  refine zb ?_
  repeat apply za
  refine zp rfl ?_
  refine zC (ww (hJd _ _ hJ) rfl ?_)
  rw [List.length_map]; exact hJ
open Go Go.Proofs
theorem Zr {d : zg} {m : Mv} (h : jG d m = true) : m.k ≤ 3 ∧ m.a < d.length ∧ m.b < d.length ∧ x8 d (zU d m).1 ∧ x8 d (zU d m).2 := by
 unfold jG at h
 rw [Bool.and_eq_true] at h
 obtain ⟨h1, h2⟩ := h
 have h1 := of_decide_eq_true h1
 refine ⟨h1.1, h1.2.1, h1.2.2, ?_⟩
 unfold xz at h2
 unfold zU jl
 have e0 := Zh0 d
 have key : ∀ p : Pc, Z8 d p ↔ (p.f < p.o → p.t < d.length ∧ p.o ≤ tlen d p.t) := fun _ => Iff.rfl
 by_cases k0 : m.k = 0
 ·rw [if_pos k0] at h2 ⊢
  have h2 := of_decide_eq_true h2
  refine ⟨?_, e0⟩
  intro p hp
  simp only [Rw5.l, List.mem_cons, List.not_mem_nil, or_false] at hp
  rcases hp with rfl | rfl | rfl | rfl | rfl <;> refine (key _).2 ?_ <;> simp only [z7] <;> omega
 rw [if_neg k0] at h2 ⊢
 by_cases k1 : m.k = 1
 ·rw [if_pos k1] at h2 ⊢
  have h2 := of_decide_eq_true h2
  by_cases hab : m.a = m.b
  ·rw [if_pos hab, hab] at h2
   rw [if_neg (by simp [hab])]
   by_cases hij : m.i < m.j
   ·rw [if_pos hij]
    refine ⟨?_, e0⟩
    intro p hp
    simp only [Rw5.l, List.mem_cons, List.not_mem_nil, or_false] at hp
    rcases hp with rfl | rfl | rfl | rfl | rfl <;> refine (key _).2 ?_ <;> simp only [z7] <;> (try rw [hab]) <;> omega
   ·rw [if_neg hij]
    refine ⟨?_, e0⟩
    intro p hp
    simp only [Rw5.l, List.mem_cons, List.not_mem_nil, or_false] at hp
    rcases hp with rfl | rfl | rfl | rfl | rfl <;> refine (key _).2 ?_ <;> simp only [z7] <;> (try rw [hab]) <;> omega
  ·rw [if_neg hab] at h2
   rw [if_pos hab]
   constructor <;> intro p hp <;> simp only [Rw5.l, List.mem_cons, List.not_mem_nil, or_false] at hp <;> rcases hp with rfl | rfl | rfl | rfl | rfl <;> refine (key _).2 ?_ <;> simp only [z7] <;> omega
 rw [if_neg k1] at h2 ⊢
 by_cases k2 : m.k = 2
 ·rw [if_pos k2] at h2 ⊢
  have h2 := of_decide_eq_true h2
  by_cases hab : m.a = m.b
  ·rw [if_pos hab]
   rw [hab] at h2
   refine ⟨?_, e0⟩
   intro p hp
   simp only [Rw5.l, List.mem_cons, List.not_mem_nil, or_false] at hp
   rcases hp with rfl | rfl | rfl | rfl | rfl <;> refine (key _).2 ?_ <;> simp only [z7, hab] <;> omega
  ·rw [if_neg hab]
   constructor <;> intro p hp <;> simp only [Rw5.l, List.mem_cons, List.not_mem_nil, or_false] at hp <;> rcases hp with rfl | rfl | rfl | rfl | rfl <;> refine (key _).2 ?_ <;> simp only [z7] <;> omega
 rw [if_neg k2] at h2 ⊢
 have h2 := of_decide_eq_true h2
 constructor <;> intro p hp <;> simp only [Rw5.l, List.mem_cons, List.not_mem_nil, or_false] at hp <;> rcases hp with rfl | rfl | rfl | rfl | rfl <;> refine (key _).2 ?_ <;> simp only [z7] <;> omega
theorem Wf {d : zg} {m : Mv} : m ∈ vH d → jG d m = true ∧ m.i ≤ tlen d m.a ∧ m.j ≤ tlen d m.b := by
 unfold vH vG uK vE wZ ul
 intro h
 simp only [List.mem_flatMap, List.mem_range, List.mem_filterMap] at h
 obtain ⟨k, hk, a, ha, b, hb, i, hi, j, hj, h⟩ := h
 split at h
 ·rename_i hm
  cases h
  exact ⟨hm, by simp only; omega, by simp only; omega⟩
 ·cases h
def Zs : Mv := ⟨0, 0, 0, 0, 0⟩
def xi (x : Inst) (d : zg) (r : Rw5) : Prop := uJ d r ≤ x.cap ∧ jR x d r ≤ x.len
instance (x : Inst) (d : zg) (r : Rw5) : Decidable (xi x d r) := by unfold xi; infer_instance
def uL (x : Inst) (d : zg) (m : Mv) : Int := Qa x d m (zU d m).1 (zU d m).2
def uM (x : Inst) (d : zg) (st : Mv × Int) (m : Mv) : Mv × Int := if uL x d m < st.2 ∧ xi x d (zU d m).1 ∧ xi x d (zU d m).2 then (m, uL x d m) else st
def xk (x : Inst) (d : zg) : Mv × Int := (vH d).foldl (uM x d) (Zs, 0)
theorem Zip (x : Inst) (d : zg) (hx : qU x) (hd' : MvDay d) : Pure Tryz.prog 106 [.agg (zA x), .agg [L d]] (.tup [.agg (wA (xk x d).1), I (xk x d).2, B (decide ((xk x d).2 < 0))]) := by
 have hdn := hd'.n
 have hit := Zio d hdn hd'.t
 have hread := Zig x d hx hd'
 have hfacts : ∀ m ∈ vH d, Pure Tryz.prog 146 [.agg [L d], .agg (wA m)] (.tup [.agg (z6 (zU d m).1), .agg (z6 (zU d m).2), B true]) ∧ Pure Tryz.prog 147 [.ip (x9 x d), .agg (wA m), .agg (z6 (zU d m).1), .agg (z6 (zU d m).2)] (I (uL x d m)) ∧
   Pure Tryz.prog 148 [.ip (x9 x d), .agg (z6 (zU d m).1)] (B (decide (xi x d (zU d m).1))) ∧ Pure Tryz.prog 148 [.ip (x9 x d), .agg (z6 (zU d m).2)] (B (decide (xi x d (zU d m).2))) := by
  intro m hm
  obtain ⟨h1, h2, h3⟩ := Wf hm
  obtain ⟨hk, ha, hb, r1, r2⟩ := Zr h1
  have hl : ∀ a, tlen d a ≤ 1000 := by
   intro a
   unfold tlen
   rw [List.getD_eq_getElem?_getD]
   cases hq : d[a]? with
   | none => simp
   | some l => exact hd'.t l (List.mem_of_getElem? hq)
  have hla := hl m.a
  have hlb := hl m.b
  have hlk := X4 d m (by omega) (fun t ht => Nat.le_trans (hd'.t t ht) (by decide)) hk ha hb (by omega) (by omega)
  unfold vC at hlk
  rw [if_pos h1] at hlk
  exact ⟨hlk, Zil x d m _ _ hx hd' r1 r2 ha hb, ZbC x d _ hx hd' r1, ZbC x d _ hx hd' r2⟩
 unfold xk
 generalize vH d = xs at *
 generalize x9 x d = rd at *
 have hea := Zin d
 refine zy Tryz.func106 Tryz.ntmps106 Tryz.results106 fun S nx hd => ?_
 repeat apply za
 refine zb ?_
 intro v0 v1 v2
 repeat apply za
 refine zb ?_
 refine zB hread ?_
 intro v3
 repeat apply za
 refine zb ?_
 intro v4 v5
 repeat apply za
 refine zb ?_
 refine zB hea ?_
 refine zj (ZV (xs := xs.map Zq) (σ := Mv × Int) (fun i st => st = (xs.take i).foldl (uM x d) (Zs, 0)) [(2, .ptr nx v0 0), (3, .ptr (nx + 1) v1 0), (4, .ptr (nx + 2) v2 0), (7, .ptr (nx + 3) v3 0), (8, .ptr (nx + 4) v4 0), (9, .ptr (nx + 5) v5 0)] (fun _ => S)
  (fun (b, least) => [.cells v0 25 (zA x), .cells v1 58 [L d], .cells v2 151 [I 0, I 0, I 0, I 0, I 0], .cells v3 187 [.ip rd], .cells v4 151 (wA b), .cells v5 3 [I least]]) (Zs, 0)
  hit rfl (by intro x hx; obtain ⟨y, _, rfl⟩ := List.mem_map.1 hx; rfl) (by decide) (by simp) (by simp) rfl (by simp [Zs]) (by simp [Zs]) ?_ ?_)
 ·rintro l i ⟨b, least⟩ more y hst hy
  simp only at hst ⊢
  rw [List.getElem?_map] at hy
  obtain ⟨m, hm, rfl⟩ := Option.map_eq_some_iff.1 hy
  have hsucc := XY (f := uM x d) (b := (Zs, 0)) hm
  rw [← hst] at hsucc
  obtain ⟨f1, f2, f3, f4⟩ := hfacts m (List.mem_of_getElem? hm)
  unfold uM at hsucc
  simp only at hsucc
  generalize (zU d m).1 = r1 at *
  generalize (zU d m).2 = r2 at *
  generalize uL x d m = by_ at *
  refine zb ?_
  intro v6
  refine zj ?_
  repeat apply za
  refine zb ?_
  refine zB f1 ?_
  intro v7 v8
  repeat apply za
  refine zb ?_
  refine zB f2 ?_
  by_cases hlt : by_ < least
  ·repeat apply za
   refine ze [(3, 37), (8, 42)] hlt ?_
   refine jg [(3, 37), (8, 42)] f3 hlt ?_
   by_cases hf1 : xi x d r1
   ·rw [decide_eq_true hf1]
    refine jg [(3, 37), (8, 42)] f4 hlt ?_
    by_cases hf2 : xi x d r2
    ·rw [if_pos ⟨hlt, hf1, hf2⟩] at hsucc
     refine zo (by simp [hf2]) ?_
     refine zb ?_
     simp only [qC]
     exact j3 (m, by_) [_, _, _] hsucc.symm rfl (by simp; exact ⟨rfl, rfl, rfl⟩)
    ·rw [if_neg fun e => hf2 e.2.2] at hsucc
     refine zp (by simp [hf2]) ?_
     refine zi ?_
     simp only [qC]
     exact j3 (b, least) [_, _, _] hsucc.symm rfl (by simp; exact ⟨rfl, rfl, rfl⟩)
   ·rw [decide_eq_false hf1]
    rw [if_neg fun e => hf1 e.2.1] at hsucc
    refine zp rfl ?_
    refine zi ?_
    simp only [qC]
    exact j3 (b, least) [_, _, _] hsucc.symm rfl (by simp; exact ⟨rfl, rfl, rfl⟩)
  ·rw [if_neg fun e => hlt e.1] at hsucc
   repeat apply za
   refine ze [(3, 37), (8, 42)] (zm hlt zL) ?_
   refine zp rfl ?_
   refine zi ?_
   simp only [qC]
   exact j3 (b, least) [_, _, _] hsucc.symm rfl (by simp; exact ⟨rfl, rfl, rfl⟩)
 ·rintro ⟨b, least⟩ hst
  rw [List.take_of_length_le (by simp)] at hst
  simp only at hst ⊢
  rw [← hst]
  repeat apply za
  refine zD (some [nx + 4, nx + 5]) (Row.pures [0, 1, 2, 3] (.alt 4 (Row.pures [5, 6] .done) .stop)) mixed trivial ?_
  exact zh (zk hd (by simp; rfl) (by simp [zn]))
open Go Go.Proofs
def jm (d : zg) (m : Mv) (i : Nat) : zv := if i = m.a then yn d (zU d m).1 else if i = m.b then yn d (zU d m).2 else d.getD i []
def qH (d : zg) (m : Mv) (i : Nat) : Option zv := if (jm d m i).length = 0 then none else some (jm d m i)
def xA (d : zg) (m : Mv) : zg := (List.range d.length).filterMap (qH d m)
theorem ZbD {d : zg} {r : Rw5} {k : Nat} (h : ∀ t ∈ d, t.length ≤ k) : (yn d r).length ≤ 5 * k := by
 have h1 := fun p => Zbo (d := d) (p := p) h
 have a1 := h1 r.a
 have a2 := h1 r.b
 have a3 := h1 r.c
 have a4 := h1 r.d
 have a5 := h1 r.e
 unfold yn Rw5.l
 simp only [List.flatMap_cons, List.flatMap_nil, List.length_append, List.append_nil]
 omega
theorem Ziq (x : Inst) (d : zg) (m : Mv) (hdn : d.length ≤ 1000) (hdt : ∀ t ∈ d, t.length ≤ 1000) (hm : jG d m = true) (hi : m.i ≤ 1048576) (hj : m.j ≤ 1048576) : Pure Tryz.prog 107 [.agg (zA x), .agg [L d], .agg (wA m)] (.tup [.agg [L (xA d m)], I 0]) := by
 obtain ⟨hk, ha, hb, r1, r2⟩ := Zr hm
 have hlk := X4 d m (by omega) (fun t ht => Nat.le_trans (hdt t ht) (by decide)) hk ha hb hi hj
 unfold vC at hlk
 rw [if_pos hm] at hlk
 have g1 := Zbp d _ (by omega) hdt r1
 have g2 := Zbp d _ (by omega) hdt r2
 have n1 := ZbD (r := (zU d m).1) hdt
 have n2 := ZbD (r := (zU d m).2) hdt
 have hmk : ∀ i, jm d m i = if i = m.a then yn d (zU d m).1 else if i = m.b then yn d (zU d m).2 else d.getD i [] := fun _ => rfl
 generalize yn d (zU d m).1 = t1 at *
 generalize yn d (zU d m).2 = t2 at *
 generalize (zU d m).1 = c1 at *
 generalize (zU d m).2 = c2 at *
 have hme : xA d m = (List.range d.length).filterMap (qH d m) := rfl
 rw [hme]
 clear hme
 refine zy Tryz.func107 Tryz.ntmps107 Tryz.results107 fun S nx hd => ?_
 repeat apply za
 refine zb ?_
 intro v0 v1 v2 v3
 repeat apply za
 refine zb ?_
 refine zB hlk ?_
 intro v4 v5
 repeat apply za
 refine zb ?_
 refine zp rfl ?_
 refine zi ?_
 repeat apply za
 refine zb ?_
 intro v6
 refine je 6 0 72 1 rfl rfl fun v7 => ?_
 repeat apply za
 refine zb ?_
 refine zj (zM (fun s' : Nat × Nat => s'.1 ≤ d.length) (fun (k, v7) => [(4, .ptr (nx + 1) v1 0), (5, .ptr (nx + 2) v2 0), (6, .ptr (nx + 3) v3 0), (8, .ptr (nx + 4) v4 0), (9, .ptr (nx + 5) v5 0), (11, .ptr (nx + 6) v6 0), (26, L d), (27, I d.length), (28, I k)])
  (fun (k, v7) => [.cells v0 25 (zA x), .cells v1 58 [L d], .cells v2 151 (wA m), .cells v3 58 [yD], .cells v4 195 (z6 c1), .cells v5 195 (z6 c2), .cells v6 58 [.sl (nx + 7) v7 1 0 ((List.range k).filterMap (qH d m)).length], .cells v7 72 (((List.range k).filterMap (qH d m)).flatMap Enc.enc)]) (fun s' => d.length - s'.1) (0, v7) [] (by simp) (by simp) (by simp) ?_)
 rintro ⟨k, v7⟩ hk0
 simp only at hk0 ⊢
 repeat apply za
 refine zb ?_
 repeat apply za
 refine zt rfl (fun hc => ?_) (fun hc => ?_)
 ·simp at hc
  obtain ⟨t, tl, a1, a2, a3, e0⟩ := zI rfl d k hc
  have hk1 : 1 ≤ d.length - k := by omega
  have htl := hdt t (List.mem_of_getElem? a1)
  have hcl := Jf t (by omega)
  have hgk : d.getD k [] = t := by rw [List.getD_eq_getElem?_getD, a1]; rfl
  have hmkk := hmk k
  have hlen : ((List.range k).filterMap (qH d m)).length ≤ k := by have := List.length_filterMap_le (qH d m) (List.range k); simpa using this
  have hnext : (List.range (k + 1)).filterMap (qH d m) = (List.range k).filterMap (qH d m) ++ (qH d m k).toList := by
   rw [List.range_succ, List.filterMap_append]
   simp only [List.filterMap_cons, List.filterMap_nil]
   cases qH d m k <;> rfl
  have hT1 : qH d m k = if (jm d m k).length = 0 then none else some (jm d m k) := rfl
  rw [hgk] at hmkk
  have hTl : (jm d m k).length ≤ 5000 := by rw [hmkk]; (repeat' split) <;> omega
  have hof : (((List.range k).filterMap (qH d m)).flatMap Enc.enc : List PV).length = ((List.range k).filterMap (qH d m)).length := qS _
  generalize (List.range k).filterMap (qH d m) = out at *
  have hot : (out.flatMap Enc.enc : List PV).take out.length = out.flatMap Enc.enc := List.take_of_length_le (by omega)
  have wk := zx k (by omega)
  refine zi (za (zj ?_))
  repeat apply za
  refine ze [] (zJ e0 hc hk1) ?_
  intro v8
  repeat apply za
  refine zb ?_
  refine zB hcl ?_
  repeat apply za
  refine zb ?_
  refine qK (nx := nx) (fun _ : Unit => True) (fun _ => [(4, .ptr (nx + 1) v1 0), (5, .ptr (nx + 2) v2 0), (6, .ptr (nx + 3) v3 0), (8, .ptr (nx + 4) v4 0), (9, .ptr (nx + 5) v5 0), (11, .ptr (nx + 6) v6 0), (14, L (jm d m k)), (26, L d), (27, I d.length), (28, I k)]) (fun _ => S)
   (fun _ => [.cells v0 25 (zA x), .cells v1 58 [L d], .cells v2 151 (wA m), .cells v3 58 [yD], .cells v4 195 (z6 c1), .cells v5 195 (z6 c2), .cells v6 58 [.sl (nx + 7) v7 1 0 out.length], .cells v7 72 (out.flatMap Enc.enc), .cells v8 72 [L t]]) ?_ ?_
  ·refine zj ?_
   by_cases h1 : k = m.a
   ·rw [if_pos h1] at hmkk
    have h1' : (k : Int) = m.a := by omega
    rw [hmkk]
    repeat apply za
    refine zb ?_
    refine zo (by simp; omega) ?_
    refine zb ?_
    refine zB g1 ?_
    simp only [qC]
    exact zS () [] trivial (by simp) rfl (by simp)
   ·rw [if_neg h1] at hmkk
    have h1' : ¬ (k : Int) = m.a := by omega
    repeat apply za
    refine zb ?_
    refine zp (by simp; omega) ?_
    by_cases h2 : k = m.b
    ·rw [if_pos h2] at hmkk
     have h2' : (k : Int) = m.b := by omega
     rw [hmkk]
     repeat apply za
     refine zb ?_
     refine zo (by simp; omega) ?_
     refine zb ?_
     refine zB g2 ?_
     simp only [qC]
     exact zS () [] trivial (by simp) rfl (by simp)
    ·rw [if_neg h2] at hmkk
     have h2' : ¬ (k : Int) = m.b := by omega
     rw [hmkk]
     repeat apply za
     refine zb ?_
     refine zp (by simp; omega) ?_
     refine zi ?_
     simp only [qC]
     exact zS () [] trivial (by simp) rfl (by simp)
  ·rintro ⟨⟩ -
   generalize jm d m k = tt at *
   clear hmkk hcl e0
   by_cases h0 : tt.length = 0
   ·have e : (qH d m k).toList = [] := by rw [hT1, if_pos h0]; rfl
    have h0' : ¬ 0 < tt.length := by omega
    repeat apply za
    refine ze [] h0' ?_
    refine zp (by simp [h0']) ?_
    refine zi ?_
    refine zb ?_
    exact zr (k + 1, v7) [_] (by simp; omega) (by simp; omega) (by simp [wk, hnext, e]) rfl (by simp [hnext, e]; rfl)
   ·have e : (qH d m k).toList = [tt] := by rw [hT1, if_neg h0]; rfl
    have h0' : 0 < tt.length := by omega
    repeat apply za
    refine ze [] h0' ?_
    refine zo (by simp [h0']) ?_
    refine ze [] (zm hof hot) ?_
    refine ⟨by omega, ?_⟩
    refine zb ?_
    exact zr (k + 1, v7 + 1) [_] (by simp; omega) (by simp; omega) (by simp [wk, hnext, e]) rfl (by simp [hnext, e]; rfl)
 ·simp at hc
  obtain rfl : k = d.length := by omega
  refine zC ?_
  refine yc 7 rfl ?_
  repeat apply za
  refine zb ?_
  exact zh (zk hd (by simp; rfl) (by simp [zn]))
open Go Go.Proofs
def Zt (d : zg) (s : Stop) (t k : Nat) : Nat := ((d.getD t []).take k).count s
theorem Wg (d : zg) (s : Stop) (t : Nat) : Zt d s t 0 = 0 := by simp [Zt]
theorem ZbE (d : zg) (s : Stop) (t : Nat) : Zt d s t (tlen d t) = (d.getD t []).count s := by unfold Zt tlen; rw [List.take_length]
theorem Zir (d : zg) (s : Stop) (p : Pc) : p.f ≤ p.o → (yP d p).count s + Zt d s p.t p.f = Zt d s p.t p.o := by
 intro h
 unfold yP Zt
 generalize d.getD p.t [] = u
 by_cases hf : p.f < p.o
 ·rw [if_pos hf, show p.o = p.f + (p.o - p.f) by omega, List.take_add, List.count_append, show p.f + (p.o - p.f) - p.f = p.o - p.f by omega]
  cases p.b
  ·rw [cond_false]; omega
  ·rw [cond_true, List.count_reverse]; omega
 ·rw [if_neg hf, show p.o = p.f by omega]; simp
theorem ZbF (d : zg) (s : Stop) (r : Rw5) : (yn d r).count s = (yP d r.a).count s + (yP d r.b).count s + (yP d r.c).count s + (yP d r.d).count s + (yP d r.e).count s := by
 unfold yn Rw5.l
 simp only [List.flatMap_cons, List.flatMap_nil, List.count_append, List.append_nil]
 omega
theorem Zis {d : zg} {m : Mv} (h : jG d m = true) (s : Stop) : (yn d (zU d m).1).count s + (if m.a = m.b then 0 else (yn d (zU d m).2).count s) = (d.getD m.a []).count s + (if m.a = m.b then 0 else (d.getD m.b []).count s) := by
 unfold jG at h
 rw [Bool.and_eq_true] at h
 obtain ⟨-, h2⟩ := h
 unfold xz at h2
 unfold zU jl
 have e0 := Wg d s
 have ea := Wg d s m.a
 have eb := Wg d s m.b
 have la := ZbE d s m.a
 have lb := ZbE d s m.b
 have key := Zir d s
 rw [ZbF, ZbF]
 by_cases k0 : m.k = 0
 ·rw [if_pos k0] at h2 ⊢
  have h2 := of_decide_eq_true h2
  rw [if_pos h2.1.symm, if_pos h2.1.symm]
  have q1 := key ⟨m.a, 0, m.i, false⟩
  have q2 := key ⟨m.a, m.i, m.j + 1, true⟩
  have q3 := key ⟨m.a, m.j + 1, tlen d m.a, false⟩
  have q0 := key z7
  simp only [z7] at q1 q2 q3 q0 ⊢
  omega
 rw [if_neg k0] at h2 ⊢
 by_cases k1 : m.k = 1
 ·rw [if_pos k1] at h2 ⊢
  have h2 := of_decide_eq_true h2
  by_cases hab : m.a = m.b
  ·rw [if_pos hab] at h2
   rw [if_pos hab, if_pos hab, if_neg (by simp [hab])]
   rw [← hab] at h2
   by_cases hij : m.i < m.j
   ·rw [if_pos hij]
    have q1 := key ⟨m.a, 0, m.i, false⟩
    have q2 := key ⟨m.a, m.i + 1, m.j + 1, false⟩
    have q3 := key ⟨m.a, m.i, m.i + 1, false⟩
    have q4 := key ⟨m.a, m.j + 1, tlen d m.a, false⟩
    have q0 := key z7
    simp only [z7] at q1 q2 q3 q4 q0 ⊢
    omega
   ·rw [if_neg hij]
    have q1 := key ⟨m.a, 0, m.j, false⟩
    have q2 := key ⟨m.a, m.i, m.i + 1, false⟩
    have q3 := key ⟨m.a, m.j, m.i, false⟩
    have q4 := key ⟨m.a, m.i + 1, tlen d m.a, false⟩
    have q0 := key z7
    simp only [z7] at q1 q2 q3 q4 q0 ⊢
    omega
  ·rw [if_neg hab] at h2
   rw [if_neg hab, if_neg hab, if_pos hab]
   have q1 := key ⟨m.a, 0, m.i, false⟩
   have q2 := key ⟨m.a, m.i + 1, tlen d m.a, false⟩
   have q3 := key ⟨m.b, 0, m.j, false⟩
   have q4 := key ⟨m.a, m.i, m.i + 1, false⟩
   have q5 := key ⟨m.b, m.j, tlen d m.b, false⟩
   have q0 := key z7
   simp only [z7] at q1 q2 q3 q4 q5 q0 ⊢
   omega
 rw [if_neg k1] at h2 ⊢
 by_cases k2 : m.k = 2
 ·rw [if_pos k2] at h2 ⊢
  have h2 := of_decide_eq_true h2
  by_cases hab : m.a = m.b
  ·rw [if_pos hab, if_pos hab, if_pos hab]
   rw [← hab] at h2 ⊢
   have q1 := key ⟨m.a, 0, m.i, false⟩
   have q2 := key ⟨m.a, m.j, m.j + 1, false⟩
   have q3 := key ⟨m.a, m.i + 1, m.j, false⟩
   have q4 := key ⟨m.a, m.i, m.i + 1, false⟩
   have q5 := key ⟨m.a, m.j + 1, tlen d m.a, false⟩
   simp only at q1 q2 q3 q4 q5 ⊢
   omega
  ·rw [if_neg hab, if_neg hab, if_neg hab]
   have q1 := key ⟨m.a, 0, m.i, false⟩
   have q2 := key ⟨m.b, m.j, m.j + 1, false⟩
   have q3 := key ⟨m.a, m.i + 1, tlen d m.a, false⟩
   have q4 := key ⟨m.b, 0, m.j, false⟩
   have q5 := key ⟨m.a, m.i, m.i + 1, false⟩
   have q6 := key ⟨m.b, m.j + 1, tlen d m.b, false⟩
   have q0 := key z7
   simp only [z7] at q1 q2 q3 q4 q5 q6 q0 ⊢
   omega
 rw [if_neg k2] at h2 ⊢
 have h2 := of_decide_eq_true h2
 rw [if_neg (by omega), if_neg (by omega)]
 have q1 := key ⟨m.a, 0, m.i, false⟩
 have q2 := key ⟨m.b, m.j, tlen d m.b, false⟩
 have q3 := key ⟨m.b, 0, m.j, false⟩
 have q4 := key ⟨m.a, m.i, tlen d m.a, false⟩
 have q0 := key z7
 simp only [z7] at q1 q2 q3 q4 q0 ⊢
 omega
theorem Wh {d : zg} {i : Nat} {u : zv} (t : zv) (h : d[i]? = some u) (s : Stop) : (d.set i t).flatten.count s + u.count s = t.count s + d.flatten.count s := by
 obtain ⟨hi, rfl⟩ := List.getElem?_eq_some_iff.1 h
 have e : d = d.take i ++ d[i] :: d.drop (i + 1) := by rw [← List.drop_eq_getElem_cons hi, List.take_append_drop]
 rw [List.set_eq_take_append_cons_drop, if_pos hi]
 conv => rhs; rw [e]
 simp only [List.flatten_append, List.flatten_cons, List.count_append]
 omega
theorem Wi {d : zg} {i : Nat} {u : zv} (t : zv) (h : d[i]? = some u) (x : Inst) : zZ x (d.set i t) + zV x (u.map (·.c)) = zV x (t.map (·.c)) + zZ x d := by
 obtain ⟨hi, rfl⟩ := List.getElem?_eq_some_iff.1 h
 have e : d = d.take i ++ d[i] :: d.drop (i + 1) := by rw [← List.drop_eq_getElem_cons hi, List.take_append_drop]
 unfold zZ
 rw [List.set_eq_take_append_cons_drop, if_pos hi]
 conv => rhs; rw [e]
 simp only [List.map_append, List.map_cons, List.sum_append, List.sum_cons]
 omega
theorem ZbG (d : zg) (m : Mv) : (List.range d.length).map (jm d m) = (d.set m.b (yn d (zU d m).2)).set m.a (yn d (zU d m).1) := by
 refine List.ext_getElem? fun i => ?_
 by_cases hi : i < d.length
 ·rw [List.getElem?_map, List.getElem?_range hi]
  simp only [Option.map_some, jm, List.getElem?_set, List.length_set]
  by_cases h1 : i = m.a
  ·rw [if_pos h1, if_pos h1.symm, if_pos (by omega)]
  ·rw [if_neg h1, if_neg (fun e : m.a = i => h1 e.symm)]
   by_cases h2 : i = m.b
   ·rw [if_pos h2, if_pos h2.symm, if_pos (by omega)]
   ·rw [if_neg h2, if_neg (fun e : m.b = i => h2 e.symm), List.getD_eq_getElem?_getD, List.getElem?_eq_getElem hi]; rfl
 ·rw [List.getElem?_eq_none (by simp; omega), List.getElem?_eq_none (by simp; omega)]
theorem Wj (d : zg) (m : Mv) : ∀ l : List Nat, (l.filterMap (qH d m)).flatten = (l.map (jm d m)).flatten ∧ ∀ x, zZ x (l.filterMap (qH d m)) = zZ x (l.map (jm d m))
 | [] => ⟨rfl, fun _ => rfl⟩
 | i :: l => by
  obtain ⟨h1, h2⟩ := Wj d m l
  have e : qH d m i = if (jm d m i).length = 0 then none else some (jm d m i) := rfl
  rw [List.filterMap_cons, e, List.map_cons]
  by_cases h : (jm d m i).length = 0
  ·rw [if_pos h, List.length_eq_zero_iff.1 h]
   refine ⟨by simpa using h1, fun x => ?_⟩
   have := h2 x
   unfold zZ at this ⊢
   simpa [zV] using this
  ·rw [if_neg h]
   refine ⟨by simpa using h1, fun x => ?_⟩
   have := h2 x
   unfold zZ at this ⊢
   simpa using this
theorem Zit {d : zg} {m : Mv} {t : zv} (h : t ∈ xA d m) : t ≠ [] ∧ (t = yn d (zU d m).1 ∨ t = yn d (zU d m).2 ∨ t ∈ d) := by
 unfold xA at h
 obtain ⟨i, hi, h⟩ := List.mem_filterMap.1 h
 unfold qH at h
 split at h
 ·cases h
 ·rename_i h0
  cases h
  refine ⟨fun e => h0 (by rw [e]; rfl), ?_⟩
  unfold jm
  split
  ·exact .inl rfl
  ·split
   ·exact .inr (.inl rfl)
   ·refine .inr (.inr ?_)
    have hi := List.mem_range.1 hi
    rw [List.getD_eq_getElem?_getD, List.getElem?_eq_getElem hi]
    exact List.getElem_mem hi
theorem Ziu (d : zg) (m : Mv) : (xA d m).length ≤ d.length := by
 have := List.length_filterMap_le (qH d m) (List.range d.length)
 simpa [xA] using this
theorem ZbH {d : zg} {m : Mv} (h : jG d m = true) : (xA d m).flatten.Perm d.flatten := by
 obtain ⟨-, ha, hb, -, -⟩ := Zr h
 refine List.perm_iff_count.2 fun s => ?_
 have hc := Zis h s
 unfold xA
 rw [(Wj d m _).1, ZbG]
 obtain ⟨ua, hua⟩ : ∃ u, d[m.a]? = some u := ⟨_, List.getElem?_eq_getElem ha⟩
 obtain ⟨ub, hub⟩ : ∃ u, d[m.b]? = some u := ⟨_, List.getElem?_eq_getElem hb⟩
 have ga : d.getD m.a [] = ua := by rw [List.getD_eq_getElem?_getD, hua]; rfl
 have gb : d.getD m.b [] = ub := by rw [List.getD_eq_getElem?_getD, hub]; rfl
 rw [ga, gb] at hc
 generalize yn d (zU d m).1 = t1 at *
 generalize yn d (zU d m).2 = t2 at *
 by_cases hab : m.a = m.b
 ·rw [if_pos hab, if_pos hab] at hc
  rw [← hab, List.set_set]
  have := Wh t1 hua s
  omega
 ·rw [if_neg hab, if_neg hab] at hc
  have h1 := Wh t2 hub s
  have h2 := Wh (d := d.set m.b t2) (i := m.a) (u := ua) t1 (by rw [List.getElem?_set_ne (fun e => hab e.symm)]; exact hua) s
  omega
theorem Ziv {x : Inst} {d : zg} {m : Mv} (h : jG d m = true) (h0 : arc x 0 0 = 0) : zZ x (xA d m) = zZ x d + uL x d m := by
 obtain ⟨-, ha, hb, r1, r2⟩ := Zr h
 unfold xA uL Qa
 rw [(Wj d m _).2, ZbG, Wd r1 h0, Wd r2 h0]
 obtain ⟨ua, hua⟩ : ∃ u, d[m.a]? = some u := ⟨_, List.getElem?_eq_getElem ha⟩
 obtain ⟨ub, hub⟩ : ∃ u, d[m.b]? = some u := ⟨_, List.getElem?_eq_getElem hb⟩
 have ga : d.getD m.a [] = ua := by rw [List.getD_eq_getElem?_getD, hua]; rfl
 have gb : d.getD m.b [] = ub := by rw [List.getD_eq_getElem?_getD, hub]; rfl
 rw [ga, gb]
 generalize yn d (zU d m).1 = t1 at *
 generalize yn d (zU d m).2 = t2 at *
 by_cases hab : m.a = m.b
 ·rw [if_pos hab, ← hab, List.set_set]
  have := Wi t1 hua x
  omega
 ·rw [if_neg hab]
  have h1 := Wi t2 hub x
  have h2 := Wi (d := d.set m.b t2) (i := m.a) (u := ua) t1 (by rw [List.getElem?_set_ne (fun e => hab e.symm)]; exact hua) x
  omega
open Go Go.Proofs Hp
theorem Wl (x : Inst) : ∀ (ds : List zg) (st : zg × Int × Bool), (ds.foldl (ji x) st).2.2 = true → ds.foldl (ji x) st = st ∨ (∃ d ∈ ds, yh x d = 0 ∧ ds.foldl (ji x) st = (d, W (zZ x d), true))
 | [], st, _ => .inl rfl
 | d :: ds, st, h => by
  rw [List.foldl_cons] at h ⊢
  rcases Wl x ds _ h with e | ⟨d2, h1, h2, h3⟩
  ·rw [e]
   unfold ji
   split
   ·rename_i h0
    split
    ·exact .inr ⟨d, by simp, h0, rfl⟩
    ·exact .inl rfl
   ·exact .inl rfl
  ·exact .inr ⟨d2, by simp [h1], h2, h3⟩
theorem Ziw {x : Inst} {e : Int} {ds : List zg} (h : (jE x e ds).2 = 0) : e = 0 ∧ (jE x e ds).1 ∈ ds ∧ yh x (jE x e ds).1 = 0 := by
 unfold jE at h ⊢
 by_cases he : e = 0
 ·rw [if_pos he] at h ⊢
  cases hz : (x4 x ds).2.2 with
  | false => rw [hz] at h; cases h
  | true =>
   refine ⟨he, ?_⟩
   rcases Wl x ds ([], 0, false) hz with q | ⟨d, h1, h2, h3⟩
   ·have : (x4 x ds).2.2 = false := by unfold x4; rw [q]
    rw [this] at hz; cases hz
   ·have : x4 x ds = (d, W (zZ x d), true) := h3
    rw [this]; exact ⟨h1, h2⟩
 ·rw [if_neg he] at h; exact absurd h he
open Go Go.Proofs
structure SG (x : Inst) (l : List Stop) (d : zg) : Prop where
 may : ∀ t ∈ d, zF x t = 0
 perm : d.flatten.Perm l
def ZbI (x : Inst) (t : zv) : Prop := (∀ s ∈ t, qE x s = true) ∧ (t.map (·.c)).Nodup ∧ t.length ≤ 1000
theorem Wm {x : Inst} {t : zv} (h : zF x t = 0) : (∀ s ∈ t, qE x s = true) ∧ t ≠ [] := by
 have := ((Zn x t).1 h).1
 unfold yW at this
 rw [Bool.and_eq_true, List.all_eq_true] at this
 refine ⟨this.1, fun e => ?_⟩
 subst e
 simp at this
theorem Wn {x : Inst} : ∀ t : zv, (∀ s ∈ t, qE x s = true) → 0 ≤ zG t ∧ zG t ≤ 2147483648 * (t.length : Int)
 | [], _ => by simp [zG]
 | s :: t, h => by
  have h1 := Wn t fun s hs => h s (by simp [hs])
  have h2 := h s (by simp)
  simp [qE] at h2
  unfold zG at h1 ⊢
  simp only [List.map_cons, List.sum_cons, List.length_cons]
  omega
theorem Qb {x : Inst} (hx : qU x) {t : zv} (h : ZbI x t) (hn : t ≠ []) : zF x t = 0 ↔ zG t ≤ x.cap ∧ zV x (t.map (·.c)) ≤ x.len := by
 obtain ⟨h1, h2, h3⟩ := h
 have b1 := Wn t h1
 have b2 := Y6 hx (t.map (·.c))
 rw [List.length_map] at b2
 have w1 : W (zG t) = zG t := wr _ (by omega) (by omega)
 have w2 : W (zV x (t.map (·.c))) = zV x (t.map (·.c)) := wr _ (by omega) (by omega)
 rw [Zn, w1, w2]
 have : yW x t = true := by
  unfold yW
  rw [Bool.and_eq_true, List.all_eq_true]
  exact ⟨h1, by cases t <;> simp at hn ⊢⟩
 exact ⟨fun e => e.2.2, fun e => ⟨this, h2, e⟩⟩
theorem SG.each {x : Inst} {l : List Stop} {d : zg} (g : SG x l d) : ∀ s ∈ l, qE x s = true := by
 intro s hs
 obtain ⟨t, ht, hst⟩ := List.mem_flatten.1 (g.perm.symm.subset hs)
 exact (Wm (g.may t ht)).1 s hst
section
variable {x : Inst} {l : List Stop} (h : SOk x l)
include h
theorem SG.len {d : zg} (g : SG x l d) : d.flatten.length ≤ 1000 ∧ d.length ≤ 1000 := by
 have h1 := Y1 d fun t ht => (Wm (g.may t ht)).2
 have h2 := g.perm.length_eq
 have h3 := h.len
 omega
theorem SG.tour {d : zg} (g : SG x l d) {e : zg} (he : e.flatten.Perm l) {t : zv} (ht : t ∈ e) : ZbI x t := by
 have hs := wU ht
 have hl := h.len
 refine ⟨fun s q => g.each s (he.subset (hs.subset q)), ?_, ?_⟩
 ·exact ((he.map _).nodup_iff.2 h.nd).sublist (hs.map _)
 ·have := hs.length_le
  have := he.length_eq
  omega
theorem SG.mv {d : zg} (g : SG x l d) : MvDay d := by
 refine ⟨(g.len h).2, fun t ht => (g.tour h g.perm ht).2.2, fun t ht s hs => ?_⟩
 have := (g.tour h g.perm ht).1 s hs
 have hc := h.cust
 simp [qE] at this
 unfold small
 omega
theorem SG.ok {d : zg} (g : SG x l d) : DayOk d := by
 have h1 := g.len h
 have h2 := g.mv h
 exact ⟨by omega, fun t ht => Nat.le_trans (h2.t t ht) (by decide), fun t ht s hs => (h2.s t ht s hs).1⟩
end
theorem ZbJ {x : Inst} {d : zg} {r : Rw5} (hr : x8 d r) (h0 : arc x 0 0 = 0) : xi x d r ↔ zG (yn d r) ≤ x.cap ∧ zV x ((yn d r).map (·.c)) ≤ x.len := by
 unfold xi
 rw [Wd hr h0, Zij hr]
theorem Zix {d : zg} {m : Mv} (h : jG d m = true) (hab : m.a = m.b) : yn d (zU d m).2 = [] := by
 have e0 : yn d jk = [] := rfl
 unfold jG at h
 rw [Bool.and_eq_true] at h
 obtain ⟨-, h2⟩ := h
 unfold xz at h2
 unfold zU jl
 by_cases k0 : m.k = 0
 ·rw [if_pos k0]; exact e0
 rw [if_neg k0] at h2 ⊢
 by_cases k1 : m.k = 1
 ·rw [if_pos k1, if_neg (by simp [hab])]
  split <;> exact e0
 rw [if_neg k1] at h2 ⊢
 by_cases k2 : m.k = 2
 ·rw [if_pos k2, if_pos hab]; exact e0
 rw [if_neg k2] at h2
 have h2 := of_decide_eq_true h2
 omega
theorem Ziy {d : zg} {m : Mv} (h : jG d m = true) (hn : yn d (zU d m).1 ≠ []) : yn d (zU d m).1 ∈ xA d m := by
 obtain ⟨-, ha, -⟩ := Zr h
 refine List.mem_filterMap.2 ⟨m.a, List.mem_range.2 ha, ?_⟩
 have e : jm d m m.a = yn d (zU d m).1 := by unfold jm; rw [if_pos rfl]
 unfold qH
 rw [e, if_neg fun q => hn (List.length_eq_zero_iff.1 q)]
theorem Ziz {d : zg} {m : Mv} (h : jG d m = true) (hab : m.a ≠ m.b) (hn : yn d (zU d m).2 ≠ []) : yn d (zU d m).2 ∈ xA d m := by
 obtain ⟨-, -, hb, -⟩ := Zr h
 refine List.mem_filterMap.2 ⟨m.b, List.mem_range.2 hb, ?_⟩
 have e : jm d m m.b = yn d (zU d m).2 := by unfold jm; rw [if_neg fun q => hab q.symm, if_pos rfl]
 unfold qH
 rw [e, if_neg fun q => hn (List.length_eq_zero_iff.1 q)]
theorem ZiA {x : Inst} {l : List Stop} (h : SOk x l) (h0 : arc x 0 0 = 0) {d : zg} (g : SG x l d) {m : Mv} (hm : jG d m = true) : (xi x d (zU d m).1 ∧ xi x d (zU d m).2) ↔ ∀ t ∈ xA d m, zF x t = 0 := by
 obtain ⟨-, ha, hb, r1, r2⟩ := Zr hm
 have hp : (xA d m).flatten.Perm l := (ZbH hm).trans g.perm
 rw [ZbJ r1 h0, ZbJ r2 h0]
 have hz : 0 ≤ x.cap ∧ 0 ≤ x.len := by
  have ht := g.may _ (List.getElem_mem ha)
  have hg := g.tour h g.perm (List.getElem_mem ha)
  have := (Qb h.arc hg (Wm ht).2).1 ht
  have b1 := Wn _ hg.1
  have b2 := Y6 h.arc (d[m.a].map (·.c))
  omega
 have e0 : zG [] = 0 ∧ zV x (([] : zv).map (·.c)) = 0 := ⟨rfl, rfl⟩
 constructor
 ·rintro ⟨q1, q2⟩ t ht
  obtain ⟨hn, h3⟩ := Zit ht
  have hg := g.tour h hp ht
  rcases h3 with rfl | rfl | h3
  ·exact (Qb h.arc hg hn).2 q1
  ·exact (Qb h.arc hg hn).2 q2
  ·exact g.may t h3
 ·intro hall
  constructor
  ·by_cases hn : yn d (zU d m).1 = []
   ·rw [hn, e0.1, e0.2]; exact hz
   ·have ht := Ziy hm hn
    exact (Qb h.arc (g.tour h hp ht) hn).1 (hall _ ht)
  ·by_cases hn : yn d (zU d m).2 = []
   ·rw [hn, e0.1, e0.2]; exact hz
   ·by_cases hab : m.a = m.b
    ·exact absurd (Zix hm hab) hn
    ·have ht := Ziz hm hab hn
     exact (Qb h.arc (g.tour h hp ht) hn).1 (hall _ ht)
theorem ZbK (x : Inst) (d : zg) : ∀ (ms : List Mv) (st : Mv × Int), (ms.foldl (uM x d) st = st) ∨ (∃ m ∈ ms, (ms.foldl (uM x d) st) = (m, uL x d m) ∧ xi x d (zU d m).1 ∧ xi x d (zU d m).2)
 | [], st => .inl rfl
 | m :: ms, st => by
  rw [List.foldl_cons]
  rcases ZbK x d ms (uM x d st m) with e | ⟨m2, h1, h2, h3⟩
  ·rw [e]
   unfold uM
   split
   ·rename_i hc
    exact .inr ⟨m, by simp, rfl, hc.2⟩
   ·exact .inl rfl
  ·exact .inr ⟨m2, by simp [h1], h2, h3⟩
def xO (x : Inst) (d : zg) : Option zg := if (xk x d).2 < 0 then some (xA d (xk x d).1) else none
theorem ZbL {x : Inst} {d : zg} (hb : (xk x d).2 < 0) : (xk x d).1 ∈ vH d ∧ uL x d (xk x d).1 < 0 ∧ xi x d (zU d (xk x d).1).1 ∧ xi x d (zU d (xk x d).1).2 := by
 rcases ZbK x d (vH d) (Zs, 0) with e | ⟨m, h1, h2, h3⟩
 ·unfold xk at hb; rw [e] at hb; cases hb
 ·unfold xk at hb ⊢
  rw [h2] at hb ⊢
  exact ⟨h1, hb, h3⟩
theorem ZbM {x : Inst} {l : List Stop} (h : SOk x l) (h0 : arc x 0 0 = 0) {d e : zg} (g : SG x l d) (hs : xO x d = some e) : SG x l e ∧ zZ x e < zZ x d ∧ e.length ≤ d.length := by
 unfold xO at hs
 split at hs
 ·rename_i hb
  cases hs
  obtain ⟨h1, h2, h3⟩ := ZbL hb
  have hm := (Wf h1).1
  refine ⟨⟨(ZiA h h0 g hm).1 h3, (ZbH hm).trans g.perm⟩, ?_, Ziu _ _⟩
  rw [Ziv hm h0]; omega
 ·cases hs
theorem ZbN {x : Inst} {l : List Stop} (h : SOk x l) (h0 : arc x 0 0 = 0) : Zbk x (xO x) (SG x l) := by
 intro d g
 have hv := g.mv h
 have hl : ∀ a, tlen d a ≤ 1000 := by
  intro a
  unfold tlen
  rw [List.getD_eq_getElem?_getD]
  cases hq : d[a]? with
  | none => simp
  | some l => exact hv.t l (List.mem_of_getElem? hq)
 have hd1 : (xO x d).isSome = decide ((xk x d).2 < 0) := by
  unfold xO
  split
  ·rename_i q; simp [q]
  ·rename_i q; simp [q]
 refine ⟨_, _, _, _, _, _, by rw [hd1]; exact Zip x d h.arc hv, fun e he => ⟨?_, (ZbM h h0 g he).1⟩⟩
 unfold xO at he
 split at he
 ·rename_i hb
  cases he
  obtain ⟨h1, -, -⟩ := ZbL hb
  obtain ⟨h1, h2, h3⟩ := Wf h1
  have := hl (xk x d).1.a
  have := hl (xk x d).1.b
  exact Ziq x d _ hv.n hv.t h1 (by omega) (by omega)
 ·cases he
theorem Jt {x : Inst} {l : List Stop} (h : SOk x l) (h0 : arc x 0 0 = 0) : ∀ (n : Nat) (d : zg), SG x l d → SG x l (xe (xO x) n d) ∧ zZ x (xe (xO x) n d) ≤ zZ x d ∧ (xe (xO x) n d).length ≤ d.length
 | 0, d, g => ⟨g, Int.le_refl _, Nat.le_refl _⟩
 | n + 1, d, g => by
  unfold xe
  cases hs : xO x d with
  | none => exact ⟨g, Int.le_refl _, Nat.le_refl _⟩
  | some e =>
   obtain ⟨a, b, c⟩ := ZbM h h0 g hs
   obtain ⟨a', b', c'⟩ := Jt h h0 n e a
   exact ⟨a', by simp only; omega, by simp only; omega⟩
open Go Go.Proofs Hp
theorem ZbO {x : Inst} {l : List Stop} (h : jh x l = 0) : ∀ s ∈ l, zF x [s] = 0 := by
 unfold jh at h
 intro s hs
 cases hf : l.find? (fun s => zF x [s] != 0) with
 | some s2 =>
  have := List.find?_some hf
  rw [hf] at h
  simp only at h
  rw [h] at this; simp at this
 | none =>
  have := List.find?_eq_none.1 hf s hs
  simpa using this
theorem ZiB {x : Inst} {l : List Stop} (h : SOk x l) (hf : jh x l = 0) : ∀ t ∈ j7 x l, zF x t = 0 := by
 have key : ∀ (ps : List Pr) (st : zg × Int), (∀ t ∈ st.1, t.length ≤ 1 ∨ zF x t = 0) → ∀ t ∈ (ps.foldl (qa x) st).1, t.length ≤ 1 ∨ zF x t = 0 := by
  intro ps
  induction ps with
  | nil => intro st h; exact h
  | cons p ps ih =>
   intro st hst
   rw [List.foldl_cons]
   refine ih _ fun t ht => ?_
   unfold qa Z2 at ht
   generalize wy st.1 p.a = i at ht
   generalize wy st.1 p.b = k at ht
   generalize st.1.getD i [] = a at ht
   generalize st.1.getD k [] = b at ht
   cases hc : yI x st.2 p i k a b with
   | false => rw [hc] at ht; exact hst t ht
   | true =>
    rw [hc] at ht
    simp only [cond_true] at ht
    unfold yI at hc
    simp only [Bool.and_eq_true, decide_eq_true_eq] at hc
    rcases List.mem_or_eq_of_mem_set ht with ht | ht
    ·rcases List.mem_or_eq_of_mem_set ht with ht | ht
     ·exact hst t ht
     ·rw [ht]; exact .inr hc.2
    ·rw [ht]; exact .inl (by simp)
 intro t ht
 obtain ⟨-, hp, -, hne⟩ := h.join
 have hs := wU ht
 have h1 := key (qe x (l.map fun s : Stop => s.c)) (l.map fun s => [s], (l.length : Int)) (fun t ht => by obtain ⟨s, _, rfl⟩ := List.mem_map.1 ht; simp) t (List.mem_filter.1 ht).1
 rcases h1 with h1 | h1
 ·have := hne t ht
  match t, h1, this with
  | [s], _, _ => exact ZbO hf s (hp.subset (hs.subset (by simp)))
 ·exact h1
theorem Wo {x : Inst} {l : List Stop} (h : SOk x l) (hf : jh x l = 0) : ∀ d ∈ uk x l, SG x l d := by
 intro d hd
 unfold uk at hd
 simp only [List.cons_append, List.nil_append, List.mem_cons] at hd
 rcases hd with rfl | rfl | hd
 ·exact ⟨ZiB h hf, h.join.2.1⟩
 ·refine ⟨fun t ht => ?_, by rw [h.apart.2.1]⟩
  obtain ⟨s, hs, rfl⟩ := List.mem_map.1 ht
  exact ZbO hf s hs
 ·cases hall : (qi x l).2 with
  | false => rw [hall] at hd; simp at hd
  | true =>
   rw [hall] at hd
   simp at hd; subst hd
   obtain ⟨r, hp⟩ := h.regret
   exact ⟨((xc x _).1 r.may).1, hp hall⟩
def jH (x : Inst) (b : Int) (d : zg) : zg := xe (xO x) b.toNat d
def jI (x : Inst) (b : Int) (l : List Stop) : zg × Int := jE x (jh x l) (wY x (jH x b) l)
theorem ZiC {x : Inst} {l : List Stop} (h : SOk x l) (h0 : arc x 0 0 = 0) (hf : jh x l = 0) {b : Int} (hb : b ≤ 9223372036854775807) : Zbu x b (jH x b) (uk x l) := by
 intro d hd
 have g := Wo h hf d hd
 obtain ⟨g2, -, -⟩ := Jt h h0 b.toNat d g
 have o := g.ok h
 refine ⟨⟨_, Zbl x d b (xO x) (SG x l) hb o.n o.t (fun _ => g) (ZbN h h0)⟩, g2.ok h, ?_⟩
 have := (g2.len h).1
 show (xe (xO x) b.toNat d).flatten.length ≤ 1048576
 omega
theorem ZiD {x : Inst} {l : List Stop} (h : SOk x l) (h0 : arc x 0 0 = 0) {b : Int} (hb : b ≤ 9223372036854775807) : Pure Tryz.prog 126 [.agg (zA x), L l, I b] (.tup [.agg [L (jI x b l).1], I (jI x b l).2]) :=
 Zia x l b _ h fun hf => ZiC h h0 hf hb
theorem ZiE {x : Inst} {l : List Stop} (h : SOk x l) (h0 : arc x 0 0 = 0) (hf : jh x l = 0) (b : Int) : ∀ d ∈ wY x (jH x b) l, SG x l d := by
 have hb := Wo h hf
 have hi := fun d g => (Jt h h0 b.toNat d g).1
 intro d hd
 unfold wY at hd
 unfold uk at hb
 simp only [List.cons_append, List.nil_append, List.mem_cons] at hd hb
 rcases hd with rfl | rfl | rfl | hd
 ·exact hb _ (.inr (.inl rfl))
 ·exact hi _ (hb _ (.inl rfl))
 ·exact hi _ (hb _ (.inr (.inl rfl)))
 ·cases hall : (qi x l).2 with
  | false => rw [hall] at hd; simp at hd
  | true =>
   rw [hall] at hd
   simp at hd; subst hd
   exact hi _ (hb _ (.inr (.inr (by rw [hall]; simp))))
theorem ZbP (x : Inst) : ∀ (ds : List zg) (st : zg × Int × Bool), (st.2.2 = true → (ds.foldl (ji x) st).2.2 = true ∧ (ds.foldl (ji x) st).2.1 ≤ st.2.1) ∧ ∀ d ∈ ds, yh x d = 0 → (ds.foldl (ji x) st).2.2 = true ∧ (ds.foldl (ji x) st).2.1 ≤ W (zZ x d)
 | [], st => ⟨fun e => ⟨e, Int.le_refl _⟩, by simp⟩
 | d :: ds, st => by
  rw [List.foldl_cons]
  obtain ⟨h1, h2⟩ := ZbP x ds (ji x st d)
  constructor
  ·intro e
   have : (ji x st d).2.2 = true ∧ (ji x st d).2.1 ≤ st.2.1 := by
    unfold ji
    split
    ·split
     ·rename_i hc
      rcases hc with hc | hc
      ·rw [e] at hc; cases hc
      ·exact ⟨rfl, Int.le_of_lt hc⟩
     ·exact ⟨e, Int.le_refl _⟩
    ·exact ⟨e, Int.le_refl _⟩
   obtain ⟨a, b⟩ := h1 this.1
   exact ⟨a, Int.le_trans b this.2⟩
  ·intro d2 hd hz
   rcases List.mem_cons.1 hd with rfl | hd
   ·have : (ji x st d2).2.2 = true ∧ (ji x st d2).2.1 ≤ W (zZ x d2) := by
     unfold ji
     rw [if_pos hz]
     split
     ·exact ⟨rfl, Int.le_refl _⟩
     ·rename_i hc
      cases hq : st.2.2 with
      | false => exact absurd (.inl hq) hc
      | true => exact ⟨rfl, Int.not_lt.1 fun q => hc (.inr q)⟩
    obtain ⟨a, b⟩ := h1 this.1
    exact ⟨a, Int.le_trans b this.2⟩
   ·exact h2 d2 hd hz
theorem ZbQ {x : Inst} {e : Int} {ds : List zg} (he : e = 0) {d : zg} (hd : d ∈ ds) (hz : yh x d = 0) : (jE x e ds).2 = 0 ∧ W (zZ x (jE x e ds).1) ≤ W (zZ x d) := by
 obtain ⟨h1, h2⟩ := (ZbP x ds ([], 0, false)).2 d hd hz
 change (x4 x ds).2.2 = true at h1
 change (x4 x ds).2.1 ≤ W (zZ x d) at h2
 unfold jE
 rw [if_pos he, h1]
 refine ⟨rfl, ?_⟩
 rcases Wl x ds ([], 0, false) h1 with q | ⟨d2, g1, g2, g3⟩
 ·have : (x4 x ds).2.2 = false := by unfold x4; rw [q]
  rw [this] at h1; cases h1
 ·have : x4 x ds = (d2, W (zZ x d2), true) := g3
  rw [this] at h2 ⊢; exact h2
theorem ZiF {x : Inst} {e : Int} {ds : List zg} (h : (jE x e ds).2 ≠ 0) : (jE x e ds).1 = [] := by
 unfold jE at h ⊢
 by_cases he : e = 0
 ·rw [if_pos he] at h ⊢
  cases hz : (x4 x ds).2.2 with
  | true => rw [hz] at h; exact absurd rfl h
  | false => rfl
 ·rw [if_neg he]
theorem ZbR (x : Inst) (imp : zg → zg) (l : List Stop) : yT l ∈ wY x imp l := by simp [wY]
section
variable {x : Inst} {l : List Stop} (h : SOk x l) (h0 : arc x 0 0 = 0) (b : Int)
include h h0
theorem ZbS (he : (jI x b l).2 = 0) : jh x l = 0 ∧ yh x (jI x b l).1 = 0 ∧ (jI x b l).1.flatten.Perm l ∧ (yh x (yT l) = 0 → W (zZ x (jI x b l).1) ≤ W (zZ x (yT l))) := by
 obtain ⟨hf, hm, hz⟩ := Ziw he
 have g := ZiE h h0 hf b _ hm
 exact ⟨hf, hz, g.perm, fun q => (ZbQ hf (ZbR x _ l) q).2⟩
omit h0 in
theorem ZiG (he : (jI x b l).2 ≠ 0) : (jI x b l).1 = [] ∧ (jh x l ≠ 0 ∨ x.veh < l.length) := by
 refine ⟨ZiF he, ?_⟩
 by_cases hf : jh x l = 0
 ·refine .inr ?_
  by_cases hv : x.veh < l.length
  ·exact hv
  ·refine absurd (ZbQ hf (ZbR x (jH x b) l) ?_).1 he
   have g := Wo h hf (yT l) (by simp [uk])
   refine (xc x _).2 ⟨g.may, by rw [h.apart.2.1]; exact h.nd, ?_⟩
   rw [X9]; omega
 ·exact .inl hf
end
open Go
structure Visit where
 d : Int
 q : Int
 deriving DecidableEq
instance : Inhabited Visit := ⟨⟨0, 0⟩⟩
instance : Enc Visit := ⟨fun s => [I s.d, I s.q], 2, fun _ => rfl, fun _ => rfl⟩
@[simp] theorem Zog (s : Visit) : Enc.enc s = [I s.d, I s.q] := rfl
@[simp high] theorem Zoh (l : List Visit) : (l.flatMap Enc.enc).length = l.length * 2 := jf l
@[simp high] theorem Zoi (l : List Visit) : (l.flatMap Enc.enc).take (l.length * 2) = l.flatMap Enc.enc := uc l
def told : Nat → List zg → List (Stop × Nat)
 | _, [] => []
 | i, d :: ds => d.flatten.map (·, i) ++ told (i + 1) ds
def Qc (x : Stop × Nat) : List PV := [.agg [I x.1.c, I x.1.q, I x.2]]
theorem ZiH (p : zu) : Pure Tryz.prog 240 [.agg [L p]] (.fn (.func 259) [] [.ip [L p]]) := by
 refine zy Tryz.func240 Tryz.ntmps240 Tryz.results240 fun S nx hd => ?_
 repeat apply za
 refine zb ?_
 intro v0
 repeat apply za
 refine zb ?_
 refine jC 0 rfl ?_
 exact zh (zk hd (by simp; rfl) rfl)
theorem ZiI (p : zu) (hp : p.length ≤ 1048576) (hd : ∀ d ∈ p, d.length ≤ 1048576) (ht : ∀ d ∈ p, ∀ t ∈ d, t.length ≤ 1048576) : uy Tryz.prog 259 [.ip [L p]] ((told 0 p).map Qc) := by
 have yieldX : ∀ (pre rest : List (Stop × Nat)) (x : Stop × Nat), told 0 p = pre ++ x :: rest → ((told 0 p).map Qc)[pre.length]? = some (Qc x) := by
  intro pre rest x e; rw [e]; simp
 refine YL Tryz.func259 (by rfl) rfl Tryz.ntmps259 (congrArg Array.toList Tryz.results259) (by simp) fun l V keep nx J hJd hY A0 hA0 => ?_
 repeat apply za
 refine zb ?_
 refine zj (qP (σ := Nat × Store × List (Stop × Nat)) (fun s => s.1 ≤ p.length ∧ J s.2.2.length s.2.1 ∧ told 0 p = s.2.2 ++ told s.1 (p.drop s.1)) (fun s => [(0, qL l), (10, L p), (11, I p.length), (12, I s.1)]) (fun s => s.2.1) (fun s => []) (fun s => p.length - s.1) (zS (0, A0, []) [] (by simp [hA0]) (by simp) rfl (by simp)) ?_)
 rintro ⟨a, A, pre⟩ ⟨ha, hJ, hr⟩
 simp only at ha hJ hr ⊢
 repeat apply za
 refine zb ?_
 repeat apply za
 refine zt rfl (fun hc => ?_) (fun hc => ?_)
 ·simp at hc
  obtain ⟨d, tl, a1, a2, a3, e0⟩ := zI rfl p a hc
  have hdm := List.mem_of_getElem? a1
  have hdl := hd d hdm
  rw [a2] at hr
  simp only [told] at hr
  refine zi (za (zj ?_))
  repeat apply za
  refine ze [] (zm e0 hc) ?_
  intro v0
  repeat apply za
  refine zb ?_
  refine zj (qP (σ := Nat × Store × List (Stop × Nat)) (fun s => s.1 ≤ d.length ∧ J s.2.2.length s.2.1 ∧ told 0 p = s.2.2 ++ ((d.drop s.1).flatten.map (·, a) ++ told (a + 1) (p.drop (a + 1)))) (fun s => [(0, qL l), (3, I a), (10, L p), (11, I p.length), (12, I a), (18, L d), (19, I d.length), (20, I s.1)]) (fun s => s.2.1) (fun s => []) (fun s => d.length - s.1) (zS (0, A, pre) [_] (by simp [hJ, hr]) (by simp) rfl rfl) ?_)
  rintro ⟨b, A, pre⟩ ⟨hb, hJ, hr⟩
  simp only at hb hJ hr ⊢
  repeat apply za
  refine zb ?_
  repeat apply za
  refine zt rfl (fun hc2 => ?_) (fun hc2 => ?_)
  ·simp at hc2
   obtain ⟨t, tl2, b1, b2, b3, e2⟩ := zI rfl d b hc2
   have htl := ht d hdm t (List.mem_of_getElem? b1)
   rw [b2] at hr
   simp only [List.flatten_cons, List.map_append, List.append_assoc] at hr
   refine zi (za (zj ?_))
   repeat apply za
   refine ze [] (zm e2 hc2) ?_
   intro v1
   repeat apply za
   refine zb ?_
   refine zj (qP (σ := Nat × Store × List (Stop × Nat)) (fun s => s.1 ≤ t.length ∧ J s.2.2.length s.2.1 ∧ told 0 p = s.2.2 ++ ((t.drop s.1).map (·, a) ++ ((d.drop (b + 1)).flatten.map (·, a) ++ told (a + 1) (p.drop (a + 1))))) (fun s => [(0, qL l), (3, I a), (10, L p), (11, I p.length), (12, I a), (18, L d), (19, I d.length), (20, I b), (25, L t), (26, I t.length), (27, I s.1)]) (fun s => s.2.1) (fun s => []) (fun s => t.length - s.1) (zS (0, A, pre) [_] (by simp [hJ, hr]) (by simp) rfl rfl) ?_)
   rintro ⟨j, A, pre⟩ ⟨hj, hJ, hr⟩
   simp only at hj hJ hr ⊢
   repeat apply za
   refine zb ?_
   repeat apply za
   refine zt rfl (fun hc3 => ?_) (fun hc3 => ?_)
   ·simp at hc3
    obtain ⟨s, tl3, c1, c2, c3, _, e3⟩ := el 2 rfl t j hc3
    rw [c2] at hr
    simp only [List.map_cons, List.cons_append] at hr
    refine zi (za (zj ?_))
    repeat apply za
    refine ze [] (zm e3 hc3) ?_
    intro v2
    repeat apply za
    refine zQ [] (by rfl) (by rfl) fun K Gc Gh hK hGc hGh X hX0 hX => ?_
    simp -implicitDefEqProofs [hX0, hX]
    try clear hX0 hX X
    refine hGh _ _ _ _ _ fun hsuf => ZU rfl rfl rfl (hY _ _ _ _ (yieldX pre _ (s, a) hr) hJ) ?_
    rintro _ ⟨A', hJ', rfl⟩
    refine ⟨_, _, rfl, ?_⟩
    clear hGc hGh
    clear Gc Gh
    refine zP hsuf (D := []) (by rfl) fun Gc Gh hGc hGh X hX0 hX => ?_
    simp -implicitDefEqProofs [hX0, hX]
    try clear hX0 hX X
    refine hK _ _ _ ?_
    clear hK hGc hGh
    clear K Gc Gh
    refine zp rfl ?_
    refine zi ?_
    refine zb ?_
    exact zr (j + 1, A', pre ++ [(s, a)]) [_] ⟨hc3, by simpa using hJ', by simp [hr]⟩ (by simp; omega) (by simp [zx j (by omega)]) rfl rfl
   ·simp at hc3
    have : j = t.length := by omega
    subst this
    simp only [List.drop_length, List.map_nil, List.nil_append] at hr
    refine zC ?_
    refine zb ?_
    exact zr (b + 1, A, pre) [] ⟨hc2, hJ, hr⟩ (by simp; omega) (by simp [zx b (by omega)]) rfl (by simp)
  ·simp at hc2
   have : b = d.length := by omega
   subst this
   simp only [List.drop_length, List.flatten_nil, List.map_nil, List.nil_append] at hr
   refine zC ?_
   refine zb ?_
   exact zr (a + 1, A, pre) [] ⟨hc, hJ, hr⟩ (by simp; omega) (by simp [zx a (by omega)]) rfl (by simp)
 ·simp at hc
  have : a = p.length := by omega
  subst this
  simp only [List.drop_length, told, List.append_nil] at hr
  refine zC (ww (hJd _ _ hJ) rfl ?_)
  simpa [hr] using hJ
open Go
def qt (c : Int) (l : List (Stop × Nat)) : List Visit := (l.filter fun x => decide (x.1.c = c)).map fun x => ⟨x.2, x.1.q⟩
theorem ZbT (c : Int) (l m : List (Stop × Nat)) : qt c (l ++ m) = qt c l ++ qt c m := by simp [qt]
theorem ZbU (c : Int) (x : Stop × Nat) : qt c [x] = if x.1.c = c then [⟨x.2, x.1.q⟩] else [] := by
 by_cases h : x.1.c = c <;> simp [qt, h]
theorem ZiJ (c : Int) (l : List (Stop × Nat)) : (qt c l).length ≤ l.length := by
 simp only [qt, List.length_map]; exact List.length_filter_le _ _
structure PlanOk (p : zu) : Prop where
 n : p.length ≤ 1048576
 d : ∀ d ∈ p, d.length ≤ 1048576
 t : ∀ d ∈ p, ∀ t ∈ d, t.length ≤ 1048576
 told : (told 0 p).length ≤ 1048576
theorem ZiK (p : zu) (c : Int) (hp : PlanOk p) : Pure Tryz.prog 207 [.agg [L p], I c] (L (qt c (told 0 p))) := by
 have hlen := hp.told
 refine zy Tryz.func207 Tryz.ntmps207 Tryz.results207 fun S nx hd => ?_
 repeat apply za
 refine zb ?_
 intro v0 v1
 repeat apply za
 refine zb ?_
 intro v2
 repeat apply za
 refine zb ?_
 refine zB (ZiH p) ?_
 refine je 2 0 85 2 rfl rfl fun v3 => ?_
 refine zj (ZV (xs := (told 0 p).map Qc) (σ := List Visit × Nat) (fun i s => s.1 = qt c ((told 0 p).take i) ∧ s.1.length ≤ i ∧ i ≤ (told 0 p).length) [(3, .ptr (nx + 1) v1 0), (5, .ptr (nx + 2) v2 0)] (fun _ => S)
  (fun (out, v3) => [.cells v0 38 [L p], .cells v1 3 [I c], .cells v2 26 [.sl (nx + 3) v3 2 0 out.length], .cells v3 85 (out.flatMap Enc.enc)]) ([], v3)
  (ZiI p hp.n hp.d hp.t) rfl (by intro x hx; obtain ⟨y, _, rfl⟩ := List.mem_map.1 hx; rfl) (by decide) (by simp) ⟨by simp [qt], by simp, by simp⟩ rfl (by simp) (by simp) ?_ ?_)
 ·rintro l i ⟨out, v3⟩ more x ⟨ho, hl, hi⟩ hx
  simp only at ho hl hi ⊢
  rw [List.getElem?_map] at hx
  obtain ⟨y, hy, rfl⟩ := Option.map_eq_some_iff.1 hx
  obtain ⟨s, d⟩ := y
  obtain ⟨hil, hyi⟩ := List.getElem?_eq_some_iff.1 hy
  have htk : (told 0 p).take (i + 1) = (told 0 p).take i ++ [(s, d)] := by rw [List.take_succ_eq_append_getElem hil, hyi]
  refine zQ [] (by rfl) (by rfl) fun K Gc Gh hK hGc hGh X hX0 hX => ?_
  simp -implicitDefEqProofs [hX0, hX, Qc]
  try clear hX0 hX X
  intro v4
  refine hK _ _ _ ?_
  clear hK hGc hGh
  clear K Gc Gh
  refine zj ?_
  repeat apply za
  refine zb ?_
  refine zt rfl (fun hc => ?_) (fun hc => ?_)
  ·simp at hc
   refine zb ?_
   refine ⟨by omega, ?_⟩
   simp only [qC]
   exact j3 (out ++ [⟨d, s.q⟩], v3 + 1) [_] ⟨by rw [htk, ZbT, ZbU, if_pos hc, ho], by simp; omega, by omega⟩ rfl (by simp; rfl)
  ·simp at hc
   refine zi ?_
   simp only [qC]
   exact j3 (out, v3) [_] ⟨by rw [htk, ZbT, ZbU, if_neg hc, ho, List.append_nil], Nat.le_succ_of_le hl, by omega⟩ rfl (by simp; rfl)
 ·rintro ⟨out, v3⟩ ⟨ho, hl, -⟩
  simp only [List.length_map, List.take_length] at ho hl ⊢
  repeat apply za
  refine zb ?_
  refine yc 3 rfl ?_
  exact zh (zk hd (by simp; rfl) (by rw [ho]; rfl))
open Go
def wB (n : Nat) (d : Int) : Nat := if 0 ≤ d ∧ d < 64 then n ||| 2 ^ d.toNat else n
theorem ZbV (n : Nat) (d : Int) (hn : n < 2 ^ 64) : wB n d < 2 ^ 64 := by
 unfold wB; split
 ·exact Nat.or_lt_two_pow hn (Nat.pow_lt_pow_right (by decide) (by omega))
 ·exact hn
theorem Wp (d : Int) : Pure Tryz.prog 235 [I d] (B (decide (0 ≤ d ∧ d < 64))) := by
 refine zy Tryz.func235 Tryz.ntmps235 Tryz.results235 fun S nx hd => ?_
 repeat apply za
 refine zb ?_
 by_cases h1 : 0 ≤ d
 ·repeat apply za
  refine ze [(2, 5)] h1 ?_
  exact zh (zk hd (by simp; rfl) (by simp [h1, zn]))
 ·repeat apply za
  refine ze [(2, 5)] (zm h1 zL) ?_
  exact zh (zk hd (by simp; rfl) (by simp [h1, zn]))
theorem ZiL (d : Nat) (h : d < 64) : IntKind.u64.wrap (2 ^ d) = ((2 ^ d : Nat) : Int) := by
 have h2 : (2 : Nat) ^ d < 2 ^ 64 := Nat.pow_lt_pow_right (by decide) h
 have h3 : ((2 ^ d : Nat) : Int) < 2 ^ 64 := by exact_mod_cast h2
 have h4 : (2 : Int) ^ d = ((2 ^ d : Nat) : Int) := by simp
 rw [h4]
 generalize (2 ^ d : Nat) = m at h3 ⊢
 simp only [IntKind.wrap, IntKind.bits, IntKind.signed]
 simp
 omega
theorem ZiM (n : Nat) (d : Int) (hn : n < 2 ^ 64) : Pure Tryz.prog 192 [U n, I d] (U (wB n d)) := by
 refine zy Tryz.func192 Tryz.ntmps192 Tryz.results192 fun S nx hd => ?_
 repeat apply za
 refine zb ?_
 repeat apply za
 refine zb ?_
 refine zB (Wp d) ?_
 by_cases h : 0 ≤ d ∧ d < 64
 ·repeat apply za
  refine zp (by simp [h]) ?_
  refine zi ?_
  have h1 : ¬ d < 0 := by omega
  have h2 : min d.toNat 64 = d.toNat := by omega
  have h3 := ZiL d.toNat (by omega)
  have h4 : bits BinOp.or IntKind.u64 (n : Int) (2 ^ d.toNat) = ((n ||| 2 ^ d.toNat : Nat) : Int) := by
   have := bits_or_u64_nat n (2 ^ d.toNat) (by omega) (by have : (2 : Nat) ^ d.toNat < 2 ^ 64 := Nat.pow_lt_pow_right (by decide) (by omega); omega)
   simpa using this
  repeat apply za
  refine zQ [] (by rfl) (by rfl) fun K Gc Gh hK hGc hGh X hX0 hX => ?_
  simp -implicitDefEqProofs [hX0, hX, h1, h2, IntKind.bits, h3, h4]
  try clear hX0 hX X
  refine hK _ _ _ ?_
  clear hK hGc hGh
  clear K Gc Gh
  exact zh (zk hd (by simp; rfl) (by simp [wB, h, zn]))
 ·repeat apply za
  refine zo (by simp; omega) ?_
  repeat apply za
  refine zb ?_
  exact zh (zk hd (by simp; rfl) (by simp [wB, h, zn]))
open Go
structure CustFits (c : Cust) : Prop where
 rate : 0 ≤ c.rate ∧ c.rate ≤ 2147483648
 size : 0 ≤ c.size ∧ c.size ≤ 2147483648
 start : 0 ≤ c.start ∧ c.start ≤ 2147483648
def vI (q : Int) : Bool := decide (q < 0 ∨ 2147483648 < q)
def yE (size rate : Int) : Int → List Int → Option (List Int)
 | _, [] => some []
 | there, q :: l => if size < there + q ∨ there + q < rate then none else (yE size rate (there + q - rate) l).map ((there + q - rate) :: ·)
def qu (c : Cust) (q : List Int) : List Int × Int :=
 if q.any vI then ([], 1) else match yE c.size c.rate c.start q with
 | none => ([], 8)
 | some l => (l, 0)
theorem ZbW (c : Cust) {S : Store} {nx : Nat} (hd : zR nx S) : Spec Tryz.prog 205 [.agg (yd c)] S (fun p S' => ∃ v, p = .fn (.func 239) [] [.ptr (nx + 1) v 0, .ip (yd c)] ∧ S' = S.set (nx + 1) (.cells v 3 [I c.start])) := by
 refine ud hd Tryz.func205 Tryz.ntmps205 Tryz.results205 ?_
 repeat apply za
 refine zb ?_
 intro v0
 repeat apply za
 refine zb ?_
 intro v1
 repeat apply za
 refine zb ?_
 refine jC 0 rfl ?_
 refine zh ⟨_, _, rfl, ⟨v1, by simp [zn], rfl⟩, YK (j := 1) hd (by simp)⟩
theorem ZbX (c : Cust) (q there : Int) {S : Store} {id v : Nat} (hid : S id = .cells v 3 [I there]) (h1 : -4611686018427387904 ≤ there + q ∧ there + q ≤ 4611686018427387904) (h2 : -4611686018427387904 ≤ there + q - c.rate ∧ there + q - c.rate ≤ 4611686018427387904) :
  Spec Tryz.prog 239 [I q, .ptr id v 0, .ip (yd c)] S (fun p S' => p = .tup [I (there + q), I (there + q - c.rate)] ∧ S' = S.set id (.cells v 3 [I (there + q - c.rate)])) := by
 refine yH Tryz.func239 Tryz.ntmps239 Tryz.results239 fun nx hd => ?_
 have hlt : id < nx := by
  rcases Nat.lt_or_ge id nx with h | h
  ·exact h
  ·rw [hd id h] at hid; cases hid
 have hge : ¬ nx ≤ id := by omega
 have hE : ∀ obs, ext S nx obs id = .cells v 3 [I there] := fun obs => (zE hlt).trans hid
 have hE2 : ∀ obs x, ext (S.set id x) nx obs id = x := fun obs x => (zE hlt).trans (Store.set_same _ _ _)
 have hd2 : ∀ x, zR nx (S.set id x) := fun x i hi => by rw [Store.set_other _ _ _ _ (by omega)]; exact hd i hi
 have w1 : IntKind.i64.wrap (there + q) = there + q := wr _ (by omega) (by omega)
 have w2 : IntKind.i64.wrap (there + q - c.rate) = there + q - c.rate := wr _ (by omega) (by omega)
 repeat apply za
 refine zb ?_
 repeat apply za
 refine ze [] (zm hE w1) ?_
 repeat apply za
 refine ze [] (zJ hE hge w2) ?_
 repeat apply za
 refine zD none (Row.pures [0, 1, 2, 3] .done) mixed hE2 ?_
 refine zh ⟨_, _, rfl, ⟨rfl, rfl⟩, zW (hd2 _)⟩
theorem ZiN {size rate there q : Int} {l : List Int} {out : List Int} {r : Option (List Int)} (h : r = (yE size rate there (q :: l)).map (out ++ ·)) (hs : ¬ size < there + q) (hr : ¬ there + q < rate) :
  r = (yE size rate (there + q - rate) l).map ((out ++ [there + q - rate]) ++ ·) := by
 rw [h]
 simp only [yE, hs, hr, or_self, if_false, Option.map_map]
 congr 1
 funext x
 simp
theorem Wq (c : Cust) (q : List Int) (hc : CustFits c) (hq : q.length ≤ 1048576) : Pure Tryz.prog 164 [.agg (yd c), L q] (.tup [L (qu c q).1, I (qu c q).2]) := by
 obtain ⟨hr, hsz, hst⟩ := hc
 refine zy Tryz.func164 Tryz.ntmps164 Tryz.results164 fun S nx hd => ?_
 repeat apply za
 refine zb ?_
 intro v0
 repeat apply za
 refine zb ?_
 refine qK (nx := nx) (σ := Nat) (fun v0 => q.any vI = false) (fun v0 => [(1, L q), (2, .ptr nx v0 0)]) (fun _ => S) (fun v0 => [.cells v0 65 (yd c)]) ?_ ?_
 ·refine zj (zM (fun s : Nat => s ≤ q.length ∧ (q.take s).any vI = false) (fun k => [(1, L q), (2, .ptr nx v0 0), (14, L q), (15, I q.length), (16, I k)]) (fun _ => [.cells v0 65 (yd c)]) (fun s => q.length - s) 0 [] (by simp) (by simp) (by simp) ?_)
  rintro k ⟨hk, ho⟩
  repeat apply za
  refine zb ?_
  repeat apply za
  refine zt rfl (fun hc => ?_) (fun hc => ?_)
  ·simp at hc
   obtain ⟨z, tl, a1, a2, a3, e0⟩ := zI rfl q k hc
   have bad : vI z = true → qu c q = ([], 1) := fun h => by
    have : q.any vI = true := by rw [List.any_eq_true]; exact ⟨z, List.mem_of_getElem? a1, h⟩
    simp [qu, this]
   refine zi (za (zj ?_))
   repeat apply za
   refine ze [] (zm e0 hc) ?_
   by_cases h1 : z < 0
   ·repeat apply za
    refine ze [(2, 22)] (zm h1 zL) ?_
    refine zo rfl ?_
    repeat apply za
    refine zb ?_
    refine ux 4 rfl ?_
    exact zh (zk hd (by simp; rfl) (by rw [bad (by simp [vI, h1])]; rfl))
   by_cases h2 : (2147483648 : Int) < z
   ·repeat apply za
    refine ze [(2, 22)] (zm h1 h2) ?_
    refine zo rfl ?_
    repeat apply za
    refine zb ?_
    refine ux 4 rfl ?_
    exact zh (zk hd (by simp; rfl) (by rw [bad (by simp [vI, h2])]; rfl))
   repeat apply za
   refine ze [(2, 22)] (zm h1 h2) ?_
   refine zp rfl ?_
   refine zi ?_
   refine zb ?_
   exact zr (k + 1) [] ⟨hc, by rw [a3, List.any_append, ho]; simp [vI]; omega⟩ (by omega) (by simp [zx k (by omega)]) rfl (by simp)
  ·simp at hc
   obtain rfl : k = q.length := by omega
   rw [List.take_length] at ho
   exact zC (zS v0 [] ho (by simp) rfl (by simp))
 ·intro v0 hb
  have hq0 : ∀ z ∈ q, 0 ≤ z ∧ z ≤ 2147483648 := by
   intro z hz
   rw [List.any_eq_false] at hb
   have := hb z hz
   simp [vI] at this
   omega
  have hres : qu c q = match yE c.size c.rate c.start q with | none => ([], 8) | some l => (l, 0) := by simp [qu, hb]
  repeat apply za
  refine zQ [] (by rfl) (by rfl) fun K Gc Gh hK hGc hGh X hX0 hX => ?_
  simp -implicitDefEqProofs [hX0, hX]
  try clear hX0 hX X
  refine hGc _ _ _ _ _ _ _ fun hsuf => ((ZbW c jz).mono ?_).v
  rintro p T ⟨v1, rfl, rfl⟩
  refine ⟨_, _, ZT _, ?_⟩
  clear hGc hGh
  clear Gc Gh
  refine zP hsuf (D := []) (by rfl) fun Gc Gh hGc hGh X hX0 hX => ?_
  simp -implicitDefEqProofs [hX0, hX]
  clear hX0 hX X
  refine hK _ _ _ ?_
  clear hK hGc hGh
  clear K Gc Gh
  repeat apply za
  refine zb ?_
  refine ⟨by omega, fun v2 => ?_⟩
  refine Zd8 3 0 rfl ?_
  simp only [List.take_zero, List.set_cons_succ, List.set_cons_zero, List.append_eq, List.cons_append, List.nil_append, List.length_cons, List.length_nil]
  repeat apply za
  refine zb ?_
  refine zj (zM (fun s : Nat × Int × List Int × Nat => s.1 ≤ q.length ∧ s.2.2.1.length = s.1 ∧ (0 ≤ s.2.1 ∧ s.2.1 ≤ 2147483648) ∧ yE c.size c.rate c.start q = (yE c.size c.rate s.2.1 (q.drop s.1)).map (s.2.2.1 ++ ·))
   (fun (k, there, out, v2) => [(2, .ptr nx v0 0), (8, .fn (.func 239) [] [.ptr (nx + 2) v1 0, .ip (yd c)]), (9, .sl (nx + 3) v2 1 0 out.length), (32, L q), (33, I q.length), (34, I k)])
   (fun (k, there, out, v2) => [.cells v0 65 (yd c), .dead, .cells v1 3 [I there], .cells v2 3 (out.flatMap Enc.enc)]) (fun s => q.length - s.1) (0, c.start, [], v2) [] ?_ (by simp) (by simp) ?_)
  ·refine ⟨by simp, by simp, hst, ?_⟩
   simp
  rintro ⟨k, there, out, v2⟩ ⟨hk, hol, hth, ho⟩
  simp only at hk hol hth ho ⊢
  repeat apply za
  refine zb ?_
  repeat apply za
  refine zt rfl (fun hc => ?_) (fun hc => ?_)
  ·simp at hc
   obtain ⟨z, tl, a1, a2, a3, e0⟩ := zI rfl q k hc
   have hz := hq0 z (List.mem_of_getElem? a1)
   rw [a2] at ho
   refine zi (za (zj ?_))
   repeat apply za
   refine ze [] (zm e0 hc) ?_
   repeat apply za
   refine zQ [] (by rfl) (by rfl) fun K Gc Gh hK hGc hGh X hX0 hX => ?_
   simp -implicitDefEqProofs [hX0, hX]
   try clear hX0 hX X
   refine hGc _ _ _ _ _ _ _ fun hsuf => ((ZbX c z there (id := nx + 2) (v := v1) (by simp) (by omega) (by omega)).mono ?_).v
   rintro p T ⟨rfl, rfl⟩
   refine ⟨_, _, yN _ (by omega) (by simp), ?_⟩
   clear hGc hGh
   clear Gc Gh
   refine zP hsuf (D := []) (by rfl) fun Gc Gh hGc hGh X hX0 hX => ?_
   simp -implicitDefEqProofs [hX0, hX]
   clear hX0 hX X
   refine hK _ _ _ ?_
   clear hK hGc hGh
   clear K Gc Gh
   have bad : (c.size < there + z ∨ there + z < c.rate) → qu c q = ([], 8) := fun h => by
    rw [hres, ho]; simp only [yE, if_pos h, Option.map_none]
   by_cases h1 : c.size < there + z
   ·repeat apply za
    refine ze [(4, 48)] (zm h1 zL) ?_
    refine zo rfl ?_
    repeat apply za
    refine zb ?_
    refine ux 4 rfl ?_
    exact zh (zk hd (by simp; rfl) (by rw [bad (.inl h1)]; rfl))
   by_cases h2 : there + z < c.rate
   ·repeat apply za
    refine ze [(4, 48)] (zm h1 h2) ?_
    refine zo rfl ?_
    repeat apply za
    refine zb ?_
    refine ux 4 rfl ?_
    exact zh (zk hd (by simp; rfl) (by rw [bad (.inr h2)]; rfl))
   repeat apply za
   refine ze [(4, 48)] (zm h1 h2) ?_
   refine zp rfl ?_
   refine zi ?_
   refine zb ?_
   refine ⟨by omega, ?_⟩
   refine zb ?_
   exact zr (k + 1, there + z - c.rate, out ++ [there + z - c.rate], v2 + 1) [] ⟨hc, by simp [hol], by dsimp only; omega, ZiN ho h1 h2⟩ (by simp; omega) (by simp [zx k (by omega)]) rfl (by simp)
  ·simp at hc
   obtain rfl : k = q.length := by omega
   rw [List.drop_length] at ho
   simp only [yE, Option.map_some, List.append_nil] at ho
   refine zC ?_
   repeat apply za
   refine zb ?_
   refine yc 3 rfl ?_
   exact zh (zk hd (by simp; rfl) (by rw [hres, ho]; simp [zn]))
open Go
def Zu (rate size : Int) : List Int → List Int → Bool
 | z :: q, n :: l => decide (0 < z ∧ n + rate ≠ size) || Zu rate size q l
 | _, _ => false
def w8 (c : Cust) (q : List Int) : Int :=
 if (qu c q).2 ≠ 0 then (qu c q).2 else if c.rule ≠ 1 then 0 else if Zu c.rate c.size q (qu c q).1 then 9 else 0
def Zv (c : Cust) (ns : List Int) : Int := W (c.hold * W ns.sum)
theorem ZbY (l : List Int) (x : Int) : (l ++ [x]).sum = l.sum + x := by simp
theorem Wr (c : Cust) (ns : List Int) (hn : ns.length ≤ 1048576) : Pure Tryz.prog 166 [.agg (yd c), L ns] (I (Zv c ns)) := by
 refine zy Tryz.func166 Tryz.ntmps166 Tryz.results166 fun S nx hd => ?_
 repeat apply za
 refine zb ?_
 intro v0
 repeat apply za
 refine zb ?_
 repeat apply za
 refine zb ?_
 refine zj (zM (fun s : Nat => s ≤ ns.length) (fun k => [(2, .ptr nx v0 0), (5, I (W (ns.take k).sum)), (8, L ns), (9, I ns.length), (10, I k)]) (fun _ => [.cells v0 65 (yd c)]) (fun s => ns.length - s) 0 [] (by simp) (by simp) (by simp) ?_)
 rintro k hk
 repeat apply za
 refine zb ?_
 repeat apply za
 refine zt rfl (fun hc => ?_) (fun hc => ?_)
 ·simp at hc
  obtain ⟨z, tl, a1, a2, a3, e0⟩ := zI rfl ns k hc
  refine zi (za (zj ?_))
  repeat apply za
  refine ze [] (zm e0 hc) ?_
  refine zb ?_
  refine zb ?_
  have hw : W (W (ns.take k).sum + z) = W (ns.take (k + 1)).sum := by rw [a3, ZbY, wQ]
  exact zr (k + 1) [] hc (by omega) (by simp [zx k (by omega)]; exact hw) rfl (by simp)
 ·simp at hc
  obtain rfl : k = ns.length := by omega
  rw [List.take_length]
  refine zC ?_
  repeat apply za
  refine zb ?_
  exact zh (zk hd (by simp; rfl) rfl)
theorem ZiO (c : Cust) (q : List Int) (hc : CustFits c) (hq : q.length ≤ 1048576) : Pure Tryz.prog 258 [.agg (yd c), L q] (I (w8 c q)) := by
 have hni := Wq c q hc hq
 obtain ⟨hr, hsz, hst⟩ := hc
 refine zy Tryz.func258 Tryz.ntmps258 Tryz.results258 fun S nx hd => ?_
 repeat apply za
 refine zb ?_
 intro v0
 repeat apply za
 refine zb ?_
 refine zB hni ?_
 by_cases he : (qu c q).2 = 0
 case neg =>
  repeat apply za
  refine ze [] he ?_
  refine zo (by simp [he]) ?_
  repeat apply za
  refine zb ?_
  exact zh (zk hd (by simp; rfl) (by simp [w8, he, zn]))
 repeat apply za
 refine ze [] he ?_
 refine zp (by simp [he]) ?_
 refine zi ?_
 by_cases hru : c.rule = 1
 case neg =>
  repeat apply za
  refine ze [] hru ?_
  refine zo (by simp [hru]) ?_
  repeat apply za
  refine zb ?_
  exact zh (zk hd (by simp; rfl) (by simp [w8, he, hru, zn]))
 repeat apply za
 refine ze [] hru ?_
 refine zp (by simp [hru]) ?_
 refine zi ?_
 have hres : w8 c q = if Zu c.rate c.size q (qu c q).1 then 9 else 0 := by simp [w8, he, hru]
 obtain ⟨l, hl, hq0⟩ : ∃ l, yE c.size c.rate c.start q = some l ∧ (qu c q).1 = l ∧ ∀ z ∈ q, 0 ≤ z ∧ z ≤ 2147483648 := by
  unfold qu at he ⊢
  split at he
  ·simp at he
  ·rename_i hb
   cases hrn : yE c.size c.rate c.start q with
   | none => simp [hrn] at he
   | some l =>
    refine ⟨l, rfl, by simp [hb], fun z hz => ?_⟩
    simp only [Bool.not_eq_true, List.any_eq_false] at hb
    have := hb z hz
    simp [vI] at this
    omega
 obtain ⟨hl1, hq0⟩ := hq0
 rw [hl1] at hres
 repeat apply za
 refine zQ [] (by rfl) (by rfl) fun K Gc Gh hK hGc hGh X hX0 hX => ?_
 simp -implicitDefEqProofs [hX0, hX]
 try clear hX0 hX X
 refine hGc _ _ _ _ _ _ _ fun hsuf => ((ZbW c jz).mono ?_).v
 rintro p T ⟨v1, rfl, rfl⟩
 refine ⟨_, _, ZT _, ?_⟩
 clear hGc hGh
 clear Gc Gh
 refine zP hsuf (D := []) (by rfl) fun Gc Gh hGc hGh X hX0 hX => ?_
 simp -implicitDefEqProofs [hX0, hX]
 clear hX0 hX X
 refine hK _ _ _ ?_
 clear hK hGc hGh
 clear K Gc Gh
 repeat apply za
 refine zb ?_
 refine zj (zM (fun s : Nat × Int => s.1 ≤ q.length ∧ (0 ≤ s.2 ∧ s.2 ≤ 2147483648) ∧ yE c.size c.rate s.2 (q.drop s.1) = some (l.drop s.1) ∧ Zu c.rate c.size q l = Zu c.rate c.size (q.drop s.1) (l.drop s.1))
  (fun (k, there) => [(2, .ptr nx v0 0), (7, .fn (.func 239) [] [.ptr (nx + 2) v1 0, .ip (yd c)]), (26, L q), (27, I q.length), (28, I k)])
  (fun (k, there) => [.cells v0 65 (yd c), .dead, .cells v1 3 [I there]]) (fun s => q.length - s.1) (0, c.start) [] ⟨by simp, hst, by simpa using hl, by simp⟩ (by simp) (by simp) ?_)
 rintro ⟨k, there⟩ ⟨hk, hth, hrn, ho⟩
 simp only at hk hth hrn ho ⊢
 repeat apply za
 refine zb ?_
 repeat apply za
 refine zt rfl (fun hc => ?_) (fun hc => ?_)
 ·simp at hc
  obtain ⟨z, tl, a1, a2, a3, e0⟩ := zI rfl q k hc
  have hz := hq0 z (List.mem_of_getElem? a1)
  rw [a2] at hrn ho
  simp only [yE] at hrn
  split at hrn
  ·cases hrn
  rename_i hno
  obtain ⟨l2, hl2, hl3⟩ := Option.map_eq_some_iff.1 hrn
  rw [← hl3] at ho
  simp only [Zu] at ho
  have hl4 : l.drop (k + 1) = l2 := by rw [← List.drop_drop, ← hl3]; rfl
  have hs1 : there + z - c.rate + c.rate = there + z := by omega
  rw [hs1] at ho
  refine zi (za (zj ?_))
  repeat apply za
  refine ze [] (zm e0 hc) ?_
  repeat apply za
  refine zQ [] (by rfl) (by rfl) fun K Gc Gh hK hGc hGh X hX0 hX => ?_
  simp -implicitDefEqProofs [hX0, hX]
  try clear hX0 hX X
  refine hGc _ _ _ _ _ _ _ fun hsuf => ((ZbX c z there (id := nx + 2) (v := v1) (by simp) (by omega) (by omega)).mono ?_).v
  rintro p T ⟨rfl, rfl⟩
  refine ⟨_, _, yN _ (by omega) (by simp), ?_⟩
  clear hGc hGh
  clear Gc Gh
  refine zP hsuf (D := []) (by rfl) fun Gc Gh hGc hGh X hX0 hX => ?_
  simp -implicitDefEqProofs [hX0, hX]
  clear hX0 hX X
  refine hK _ _ _ ?_
  clear hK hGc hGh
  clear K Gc Gh
  by_cases h1 : 0 < z
  ·by_cases h2 : there + z = c.size
   ·repeat apply za
    refine ze [(2, 40)] (zm h1 h2) ?_
    refine zp (by simp [h2]) ?_
    refine zi ?_
    refine zb ?_
    exact zr (k + 1, there + z - c.rate) [] ⟨hc, by dsimp only; omega, by rw [hl4]; exact hl2, by rw [ho, hl4, decide_eq_false (by omega), Bool.false_or]⟩ (by simp; omega) (by simp [zx k (by omega)]) rfl (by simp [h2])
   ·repeat apply za
    refine ze [(2, 40)] (zm h1 h2) ?_
    refine zo (by simp [h2]) ?_
    repeat apply za
    refine zb ?_
    exact zh (zk hd (by simp; rfl) (by rw [hres, ho]; simp [h1, h2, zn]))
  ·repeat apply za
   refine ze [(2, 40)] (zm h1 zL) ?_
   refine zp rfl ?_
   refine zi ?_
   refine zb ?_
   exact zr (k + 1, there + z - c.rate) [] ⟨hc, by dsimp only; omega, by rw [hl4]; exact hl2, by rw [ho, hl4, decide_eq_false (by omega), Bool.false_or]⟩ (by simp; omega) (by simp [zx k (by omega)]) rfl (by simp)
 ·simp at hc
  obtain rfl : k = q.length := by omega
  rw [List.drop_length] at ho
  simp only [Zu] at ho
  refine zC ?_
  repeat apply za
  refine zb ?_
  exact zh (zk hd (by simp; rfl) (by rw [hres, ho]; rfl))
def w9 (a b : Int) : Int := if a + b < -9223372036854775808 then -9223372036854775808 else if 9223372036854775807 < a + b then 9223372036854775807 else a + b
theorem ZiP (a b : Int) (ha : yv a) (hb : yv b) : Pure Tryz.prog 257 [I a, I b] (if -9223372036854775808 ≤ a + b ∧ a + b ≤ 9223372036854775807 then .tup [I (a + b), B true] else .tup [I 0, B false]) := by
 unfold yv at ha hb
 refine zy Tryz.func257 Tryz.ntmps257 Tryz.results257 fun S nx hd => ?_
 repeat apply za
 refine zb ?_
 by_cases h : -9223372036854775808 ≤ a + b ∧ a + b ≤ 9223372036854775807
 ·have w1 : IntKind.i64.wrap (a + b) = a + b := wr _ h.1 h.2
  repeat apply za
  refine ze [] w1 ?_
  by_cases h1 : b < 0
  ·have h2 : a + b < a := by omega
   repeat apply za
   refine ze [] (zm h1 h2) ?_
   refine zp (by simp) ?_
   refine zi ?_
   repeat apply za
   refine zb ?_
   exact zh (zk hd (by simp; rfl) (by simp [h, zn]))
  ·have h2 : ¬ a + b < a := by omega
   repeat apply za
   refine ze [] (zm h1 h2) ?_
   refine zp (by simp) ?_
   refine zi ?_
   repeat apply za
   refine zb ?_
   exact zh (zk hd (by simp; rfl) (by simp [h, zn]))
 ·by_cases h0 : a + b < -9223372036854775808
  ·have w1 : IntKind.i64.wrap (a + b) = a + b + 18446744073709551616 := by rw [IntKind.wrap_i64]; omega
   have h1 : b < 0 := by omega
   have h2 : ¬ a + b + 18446744073709551616 < a := by omega
   repeat apply za
   refine ze [] w1 ?_
   repeat apply za
   refine ze [] (zm h1 h2) ?_
   refine zo (by simp) ?_
   repeat apply za
   refine zb ?_
   exact zh (zk hd (by simp; rfl) (by simp only [h, if_false]; rfl))
  ·have w1 : IntKind.i64.wrap (a + b) = a + b - 18446744073709551616 := by rw [IntKind.wrap_i64]; omega
   have h1 : ¬ b < 0 := by omega
   have h2 : a + b - 18446744073709551616 < a := by omega
   repeat apply za
   refine ze [] w1 ?_
   repeat apply za
   refine ze [] (zm h1 h2) ?_
   refine zo (by simp) ?_
   repeat apply za
   refine zb ?_
   exact zh (zk hd (by simp; rfl) (by simp only [h, if_false]; rfl))
theorem ZbZ (a b : Int) (ha : yv a) (hb : yv b) : Pure Tryz.prog 234 [I a, I b] (I (w9 a b)) := by
 have hadd := ZiP a b ha hb
 unfold yv at ha hb
 refine zy Tryz.func234 Tryz.ntmps234 Tryz.results234 fun S nx hd => ?_
 repeat apply za
 refine zb ?_
 by_cases h : -9223372036854775808 ≤ a + b ∧ a + b ≤ 9223372036854775807
 ·rw [if_pos h] at hadd
  repeat apply za
  refine zb ?_
  refine zB hadd ?_
  repeat apply za
  refine zj ?_
  repeat apply za
  refine zb ?_
  refine zo rfl ?_
  repeat apply za
  refine zb ?_
  exact zh (zk hd (by simp; rfl) (by simp only [w9, zn]; rw [if_neg (by omega), if_neg (by omega)]))
 ·rw [if_neg h] at hadd
  repeat apply za
  refine zb ?_
  refine zB hadd ?_
  repeat apply za
  refine zj ?_
  repeat apply za
  refine zb ?_
  refine zp rfl ?_
  repeat apply za
  refine zb ?_
  refine zt rfl (fun h1 => ?_) (fun h1 => ?_)
  ·simp at h1
   repeat apply za
   refine zb ?_
   exact zh (zk hd (by simp; rfl) (by simp only [w9, zn]; rw [if_pos (by omega)]))
  ·simp at h1
   refine zi ?_
   repeat apply za
   refine zb ?_
   exact zh (zk hd (by simp; rfl) (by simp only [w9, zn]; rw [if_neg (by omega), if_pos (by omega)]))
theorem Ju (a lo hi : Int) : Pure Tryz.prog 79 [I a, I lo, I hi] (I (min (max a lo) hi)) := by
 have h1 : wK (jW a lo) hi = min (max a lo) hi := by unfold wK jW; split <;> split <;> omega
 refine zy Tryz.func79 Tryz.ntmps79 Tryz.results79 fun S nx hd => ?_
 repeat apply za
 refine zb ?_
 repeat apply za
 refine ze [] h1 ?_
 exact zh (zk hd (by simp; rfl) rfl)
def yy (v : List Visit) (n : Int) : List Int := (List.range (min (max n 0) 64).toNat).map fun (d : Nat) => ((v.filter fun s => decide (s.d = (d : Int))).map (·.q)).sum
theorem Zb0 (v : List Visit) (n : Int) : (yy v n).length = (min (max n 0) 64).toNat := by simp [yy]
theorem ZiQ (n : Int) : yy [] n = List.replicate (min (max n 0) 64).toNat 0 := by
 apply List.ext_getElem
 ·simp [yy]
 ·intro i h1 h2; simp [yy]
theorem ZiR (v : List Visit) (n : Int) (s : Visit) (h : ¬ (0 ≤ s.d ∧ s.d < ((min (max n 0) 64).toNat : Int))) : yy (v ++ [s]) n = yy v n := by
 unfold yy
 apply List.map_congr_left
 intro d hd
 have hdl := List.mem_range.1 hd
 have : ¬ s.d = (d : Int) := by omega
 simp [this]
theorem ZiS (v : List Visit) (n : Int) (s : Visit) (d : Nat) (hs : s.d = (d : Int)) (b : Int) (hb : (yy v n)[d]? = some b) : yy (v ++ [s]) n = (yy v n).set d (b + s.q) := by
 obtain ⟨hdl, hbe⟩ := List.getElem?_eq_some_iff.1 hb
 apply List.ext_getElem
 ·simp [yy]
 ·intro i h1 h2
  rw [List.getElem_set]
  have hil : i < (yy v n).length := by simpa using h2
  by_cases q : d = i
  ·subst q
   rw [if_pos rfl, ← hbe]
   simp [yy, hs]
  ·rw [if_neg q]
   have : ¬ s.d = (i : Int) := by omega
   simp [yy, this]
structure VisOk (v : List Visit) : Prop where
 n : v.length ≤ 1048576
 q : ∀ s ∈ v, 0 ≤ s.q ∧ s.q ≤ 2147483648
 d : ∀ s ∈ v, yv s.d
theorem ZiT (v : List Visit) (p : Visit → Bool) (h : ∀ s ∈ v, 0 ≤ s.q ∧ s.q ≤ 2147483648) : 0 ≤ ((v.filter p).map (·.q)).sum ∧ ((v.filter p).map (·.q)).sum ≤ 2147483648 * v.length := by
 induction v with
 | nil => simp
 | cons s v ih =>
  have h1 := ih fun x hx => h x (by simp [hx])
  have h2 := h s (by simp)
  rw [List.filter_cons]
  split
  ·simp only [List.map_cons, List.sum_cons, List.length_cons]; omega
  ·simp only [List.length_cons]; omega
theorem ZiU {v : List Visit} (hv : ∀ s ∈ v, 0 ≤ s.q ∧ s.q ≤ 2147483648) (n : Int) : ∀ b ∈ yy v n, 0 ≤ b ∧ b ≤ 2147483648 * v.length := by
 intro b hb
 simp only [yy, List.mem_map] at hb
 obtain ⟨d, _, rfl⟩ := hb
 exact ZiT v _ hv
theorem Zb1 (v : List Visit) (n : Int) (hv : VisOk v) : Pure Tryz.prog 206 [L v, I n] (L (yy v n)) := by
 have hvn := hv.n
 have hm : min (max n 0) 64 = (((min (max n 0) 64).toNat : Nat) : Int) := by omega
 have hm64 : (min (max n 0) 64).toNat ≤ 64 := by omega
 refine zy Tryz.func206 Tryz.ntmps206 Tryz.results206 fun S nx hd => ?_
 repeat apply za
 refine zb ?_
 repeat apply za
 refine zb ?_
 refine zB (Ju n 0 64) ?_
 refine ⟨by omega, fun v1 => ?_⟩
 generalize hmm : (min (max n 0) 64).toNat = m at hm hm64
 have hz := ZiQ n
 rw [hmm] at hz
 repeat apply za
 refine zb ?_
 refine zj (zM (fun s : Nat => s ≤ v.length) (fun k => [(5, .sl nx v1 1 0 m), (11, L v), (12, I v.length), (13, I k)]) (fun k => [.cells v1 3 ((yy (v.take k) n).flatMap Enc.enc)]) (fun s => v.length - s) 0 [] (by simp) (by simp [hmm]) (by simp [hz, hmm, ZeG]) ?_)
 rintro k hk
 have hbl := Zb0 (v.take k) n
 rw [hmm] at hbl
 repeat apply za
 refine zb ?_
 repeat apply za
 refine zt rfl (fun hc => ?_) (fun hc => ?_)
 ·simp at hc
  obtain ⟨s, tl, a1, a2, a3, _, e0⟩ := el 2 rfl v k hc
  have hsm := List.mem_of_getElem? a1
  have hsq := hv.q s hsm
  have hout := ZiR (v.take k) n s
  rw [hmm] at hout
  refine zi (za (zj ?_))
  repeat apply za
  refine ze [] (zm e0 hc) ?_
  intro v2
  by_cases h1 : 0 ≤ s.d
  ·by_cases h2 : s.d < (m : Int)
   ·obtain ⟨d, hd⟩ := Int.eq_ofNat_of_zero_le h1
    have hdm : d < m := by omega
    obtain ⟨b, tl2, b1, b2, b3, e2⟩ := zI rfl (yy (v.take k) n) d (by omega)
    have hbm := ZiU (fun x hx => hv.q x (List.mem_of_mem_take hx)) n b (List.mem_of_getElem? b1)
    have htl : (v.take k).length ≤ 1048576 := by simp; omega
    have hin := ZiS (v.take k) n s d hd b b1
    have hsp := ZeF (yy (v.take k) n) d (b + s.q) (by omega)
    have hsat : w9 b s.q = b + s.q := by unfold w9; rw [if_neg (by omega), if_neg (by omega)]
    have hflen : ((yy (v.take k) n).flatMap Enc.enc).length = m := by rw [qQ, hbl]
    repeat apply za
    refine ze [(3, 20)] (zm h1 h2) ?_
    refine zo rfl ?_
    refine zD (some [nx + 1]) (Row.pures [0, 1, 2, 3, 4, 5, 6, 8, 9] (.alt 7 (Row.pures [10, 11] (.alt 12 (.done) .stop)) .stop)) mixed (ye hd hdm e2 hbl) ?_
    refine zN (ZbZ b s.q (by unfold yv; omega) (by unfold yv; omega)) (qv hsat hsp hbl hdm hd) ?_
    refine ⟨by omega, ?_⟩
    refine zb ?_
    exact zr (k + 1) [_] hc (by omega) (by simp [zx k (by omega)]) rfl (by rw [a3, hin]; rfl)
   ·repeat apply za
    refine ze [(3, 20)] (zm h1 h2) ?_
    refine zp rfl ?_
    refine zi ?_
    refine zb ?_
    exact zr (k + 1) [_] hc (by omega) (by simp [zx k (by omega)]) rfl (by rw [a3, hout (by omega)]; rfl)
  ·repeat apply za
   refine ze [(3, 20)] (zm h1 zL) ?_
   refine zp rfl ?_
   refine zi ?_
   refine zb ?_
   exact zr (k + 1) [_] hc (by omega) (by simp [zx k (by omega)]) rfl (by rw [a3, hout (by omega)]; rfl)
 ·simp at hc
  obtain rfl : k = v.length := by omega
  rw [List.take_length] at hbl ⊢
  refine zC ?_
  repeat apply za
  refine zb ?_
  refine yc 0 rfl ?_
  exact zh (zk hd (by simp; rfl) (by simp [hbl, zn]))
open Go
theorem ZiV {size rate : Int} : ∀ {q : List Int} {there : Int} {l : List Int}, yE size rate there q = some l → l.length = q.length := by
 intro q
 induction q with
 | nil => intro there l h; simp only [yE, Option.some.injEq] at h; subst h; rfl
 | cons z q ih =>
  intro there l h
  simp only [yE] at h
  split at h
  ·cases h
  ·obtain ⟨l2, h2, rfl⟩ := Option.map_eq_some_iff.1 h
   simp [ih h2]
open Go
theorem ZiW (n d : Nat) : ((n : Int).fdiv (2 ^ d)) = ((n / 2 ^ d : Nat) : Int) := by
 have h : (2 : Int) ^ d = ((2 ^ d : Nat) : Int) := by simp
 rw [h, Int.fdiv_eq_ediv_of_nonneg _ (Int.natCast_nonneg _)]
 rfl
theorem ZiX (n : Nat) (d : Int) (hn : n < 2 ^ 64) : Pure Tryz.prog 256 [U n, I d] (B (decide (0 ≤ d ∧ d < 64 ∧ jt n d.toNat = 1))) := by
 by_cases h : 0 ≤ d ∧ d < 64
 ·have h1 : ¬ d < 0 := by omega
  have h2 : min d.toNat 64 = d.toNat := by omega
  have hlt : n / 2 ^ d.toNat ≤ n := Nat.div_le_self _ _
  have h3 := ZiW n d.toNat
  have hb : jt n d.toNat = n / 2 ^ d.toNat % 2 := rfl
  generalize n / 2 ^ d.toNat = m at hlt h3 hb
  have h4 := and_one_u64 (m : Int) (by omega) (by omega)
  have h5 : IntKind.u64.wrap (m : Int) = (m : Int) := by
   simp only [IntKind.wrap, IntKind.bits, IntKind.signed]
   simp
   omega
  have h6 : ((m : Int) % 2 = 1) = (jt n d.toNat = 1) := by rw [hb]; exact propext ⟨fun q => by omega, fun q => by omega⟩
  refine zy Tryz.func256 Tryz.ntmps256 Tryz.results256 fun S nx hd => ?_
  repeat apply za
  refine zb ?_
  repeat apply za
  refine zQ [(2, 7)] (by rfl) (by rfl) fun K Gc Gh hK hGc hGh X hX0 hX => ?_
  simp -implicitDefEqProofs [hX0, hX]
  try clear hX0 hX X
  refine hGc _ _ _ _ _ _ _ fun hsuf => ((Wp d _).mono ?_).v
  rintro _ _ ⟨rfl, rfl⟩
  refine ⟨_, _, rfl, ?_⟩
  clear hGc hGh
  clear Gc Gh
  refine zP hsuf (D := [(2, 7)]) (by rfl) fun Gc Gh hGc hGh X hX0 hX => ?_
  simp -implicitDefEqProofs [hX0, hX, h, h1, h2, h3, h5, h4, IntKind.bits]
  try clear hX0 hX X
  refine hK _ _ _ ?_
  clear hK hGc hGh
  clear K Gc Gh
  exact zh (zk hd (by simp; rfl) (by simp [h, zn, h6]))
 ·refine zy Tryz.func256 Tryz.ntmps256 Tryz.results256 fun S nx hd => ?_
  repeat apply za
  refine zb ?_
  repeat apply za
  refine ze [(2, 7)] trivial ?_
  refine jg [(2, 7)] (Wp d) (zm h zL) ?_
  have h7 : ¬ (0 ≤ d ∧ d < 64 ∧ jt n d.toNat = 1) := fun q => h ⟨q.1, q.2.1⟩
  exact zh (zk hd (by simp; rfl) (by simp only [h7, zn, decide_false]))
def yA (n a k : Nat) : List Int := ((List.range k).filter fun i => decide (a ≤ i) && decide (jt n i = 1)).map fun (i : Nat) => (i : Int)
theorem Qd (n a k : Nat) : (yA n a k).length ≤ k := by
 simp only [yA, List.length_map]
 exact Nat.le_trans (List.length_filter_le _ _) (by simp)
theorem ZiY (n a k : Nat) (h : a ≤ k) : yA n a (k + 1) = yA n a k ++ (if jt n k = 1 then [(k : Int)] else []) := by
 simp only [yA, List.range_succ, List.filter_append, List.map_append]
 by_cases q : jt n k = 1 <;> simp [q, h]
theorem Ws (n a k : Nat) (h : k ≤ a) : yA n a k = [] := by
 simp only [yA, List.map_eq_nil_iff, List.filter_eq_nil_iff, List.mem_range]
 intro i hi; simp; omega
theorem ZiZ (n : Nat) (d : Int) (hn : n < 2 ^ 64) (hdl : d ≤ 1000) : Pure Tryz.prog 255 [.fn (.func 256) [U n] [], I d] (L (yA n d.toNat 64)) := by
 have hmax : jW d 0 = ((d.toNat : Nat) : Int) := by unfold jW; split <;> omega
 have h64 : yA n d.toNat (max d.toNat 64) = yA n d.toNat 64 := by
  by_cases q : d.toNat ≤ 64
  ·rw [Nat.max_eq_right q]
  ·rw [Nat.max_eq_left (by omega), Ws _ _ _ (Nat.le_refl _), Ws _ _ _ (by omega)]
 have ha : d.toNat ≤ 1000 := by omega
 have main : ∀ a : Nat, a ≤ 1000 → yA n a (max a 64) = yA n d.toNat 64 → jW d 0 = (a : Int) → Pure Tryz.prog 255 [.fn (.func 256) [U n] [], I d] (L (yA n d.toNat 64)) := by
  intro a ha h64 hmax
  refine zy Tryz.func255 Tryz.ntmps255 Tryz.results255 fun S nx hd => ?_
  repeat apply za
  refine zb ?_
  repeat apply za
  refine zb ?_
  refine za (jB 5 3 1 rfl fun v1 => ?_)
  repeat apply za
  refine ze [] hmax ?_
  refine zj (zM (fun s : Nat × List Int × Nat => a ≤ s.1 ∧ s.1 ≤ max a 64 ∧ s.2.1 = yA n a s.1) (fun (k, out, v1) => [(0, .fn (.func 256) [U n] []), (5, .sl nx v1 1 0 out.length), (6, I k)]) (fun (k, out, v1) => [.cells v1 3 (out.flatMap Enc.enc)]) (fun s => max a 64 - s.1) (a, [], v1) [] (by simp [Ws]; omega) (by simp) (by simp) ?_)
  rintro ⟨k, out, v1⟩ ⟨hk0, hk, ho⟩
  simp only at hk0 hk ho ⊢
  have hol : out.length ≤ k := by rw [ho]; exact Qd _ _ _
  repeat apply za
  refine zb ?_
  refine zt rfl (fun hc => ?_) (fun hc => ?_)
  ·simp at hc
   have hc' : k < 64 := by omega
   refine zi (za (zj ?_))
   repeat apply za
   refine zb ?_
   refine zB (ZiX n k hn) ?_
   have hs := ZiY n a k hk0
   refine zt rfl (fun hb => ?_) (fun hb => ?_)
   ·simp at hb
    refine zb ?_
    refine ⟨by omega, ?_⟩
    refine zb ?_
    exact zr (k + 1, out ++ [(k : Int)], v1 + 1) [] ⟨by omega, by omega, by rw [hs, if_pos hb.2, ho]⟩ (by simp; omega) (by simp [zx k (by omega)]) rfl (by simp)
   ·have hb' : ¬ jt n k = 1 := by simp at hb; exact hb (by omega)
    refine zi ?_
    refine zb ?_
    exact zr (k + 1, out, v1) [] ⟨by omega, by omega, by rw [hs, if_neg hb', ho]; simp⟩ (by simp; omega) (by simp [zx k (by omega)]) rfl (by simp)
  ·simp at hc
   obtain rfl : k = max a 64 := by omega
   refine zC ?_
   repeat apply za
   refine zb ?_
   refine yc 0 rfl ?_
   exact zh (zk hd (by simp; rfl) (by simp [ho, h64, zn]))
 exact main d.toNat ha h64 hmax
open Go
structure Must where
 f : FuncId
 b : Bool
instance : Enc Must := ⟨fun m => [.fn (.func m.f) [] []], 1, fun _ => rfl, fun _ => rfl⟩
@[simp] theorem Zoj (m : Must) : Enc.enc m = [.fn (.func m.f) [] []] := rfl
@[simp high] theorem Zok (l : List Must) : (l.flatMap Enc.enc).length = l.length := (jf l).trans (Nat.mul_one _)
open Go
abbrev Zi0 (x : Inst) (p : zu) (i : Int) : List PV := [I x.days, I x.veh, I x.cap, I x.len, L x.cust, L x.dist, L p, I i]
structure Serves (x : Inst) (p : zu) : Prop where
 sz : PlanOk p
 q : ∀ s ∈ told 0 p, 0 ≤ s.1.q ∧ s.1.q ≤ 2147483648
 days : p.length ≤ 64
theorem Zb2 : ∀ (p : zu) (i : Nat) (x : Stop × Nat), x ∈ told i p → i ≤ x.2 ∧ x.2 < i + p.length
 | [], _, _, h => by cases h
 | d :: p, i, x, h => by
  simp only [told, List.mem_append, List.mem_map] at h
  simp only [List.length_cons]
  rcases h with ⟨s, _, rfl⟩ | h
  ·simp only; omega
  ·have := Zb2 p (i + 1) x h; omega
theorem Zi1 {x : Inst} {p : zu} (h : Serves x p) (c : Int) : VisOk (qt c (told 0 p)) ∧ ∀ s ∈ qt c (told 0 p), 0 ≤ s.d ∧ s.d ≤ 63 := by
 have hd : ∀ s ∈ qt c (told 0 p), (0 ≤ s.q ∧ s.q ≤ 2147483648) ∧ 0 ≤ s.d ∧ s.d ≤ 63 := by
  intro s hs
  simp only [qt, List.mem_map, List.mem_filter] at hs
  obtain ⟨y, ⟨hy, _⟩, rfl⟩ := hs
  have h1 := h.q y hy
  have h2 := Zb2 p 0 y hy
  have h3 := h.days
  simp only; omega
 exact ⟨⟨Nat.le_trans (ZiJ _ _) h.sz.told, fun s hs => (hd s hs).1, fun s hs => by have := (hd s hs).2; unfold yv; omega⟩, fun s hs => (hd s hs).2⟩
theorem Zi2 (x : Inst) (p : zu) (i : Nat) (h : Serves x p) : Pure Tryz.prog 165 [.agg (Zi0 x p i)] (L (yy (qt i (told 0 p)) x.days)) := by
 have h1 := ZiK p i h.sz
 have h2 := Zb1 _ x.days (Zi1 h i).1
 generalize yy (qt i (told 0 p)) x.days = q at h2 ⊢
 generalize qt i (told 0 p) = v at h1 h2
 refine zy Tryz.func165 Tryz.ntmps165 Tryz.results165 fun S nx hd => ?_
 repeat apply za
 refine zb ?_
 intro v0
 repeat apply za
 refine zD (some [nx]) (Row.pures [0, 1, 2, 3, 4, 5, 6, 7, 8, 9] .done) mixed trivial ?_
 refine zN (h1) trivial ?_
 refine zN (h2) trivial ?_
 exact zh (zk hd (by simp; rfl) rfl)
open Go
theorem Zb3 (n i : Nat) : n.testBit i = decide (jt n i = 1) := by rw [Nat.testBit_eq_decide_div_mod_eq]; rfl
open Go
def xB : List Int → Int
 | [] => 0
 | e :: l => if e ≠ 0 then e else xB l
theorem Zb4 {l : List Int} (h : ∀ e ∈ l, e = 0) : xB l = 0 := by
 induction l with
 | nil => rfl
 | cons e l ih => simp only [xB, h e (by simp), ne_eq, not_true, if_false]; exact ih fun x hx => h x (by simp [hx])
theorem Zi3 {l : List Int} {k : Nat} {e : Int} (h : ∀ e ∈ l.take k, e = 0) (hk : l[k]? = some e) (he : e ≠ 0) : xB l = e := by
 induction l generalizing k with
 | nil => cases hk
 | cons a l ih =>
  cases k with
  | zero => simp at hk; subst hk; simp [xB, he]
  | succ k =>
   simp only [xB, h a (by simp), ne_eq, not_true, if_false]
   exact ih (k := k) (fun x hx => h x (by rw [List.take_succ_cons]; simp [hx])) (by simpa using hk)
theorem Zi4 (l : List Int) : xB l = 0 ↔ ∀ e ∈ l, e = 0 := by
 refine ⟨fun h => ?_, Zb4⟩
 induction l with
 | nil => intro e he; cases he
 | cons a l ih =>
  simp only [xB] at h
  split at h
  ·rename_i hne; exact absurd h hne
  ·rename_i hne
   intro e he
   rcases List.mem_cons.1 he with rfl | he
   ·simpa using hne
   ·exact ih h e he
theorem Zb5 : ∀ (p : zu) (i : Nat) (x : Stop × Nat), x ∈ told i p → ∃ d ∈ p, x.1 ∈ d.flatten
 | [], _, _, h => by cases h
 | d :: p, i, x, h => by
  simp only [told, List.mem_append, List.mem_map] at h
  rcases h with ⟨s, hs, rfl⟩ | h
  ·exact ⟨d, by simp, hs⟩
  ·obtain ⟨d', h1, h2⟩ := Zb5 p (i + 1) x h; exact ⟨d', by simp [h1], h2⟩
theorem Zb6 {x : Inst} {d : zg} (h : yh x d = 0) : ∀ s ∈ d.flatten, qE x s = true := by
 intro s hs
 obtain ⟨t, ht, hst⟩ := List.mem_flatten.1 hs
 have hm : zF x t = 0 := by
  unfold yh at h
  split at h
  ·rename_i u hu
   have := List.find?_some hu
   simp [h] at this
  ·rename_i hn
   rw [List.find?_eq_none] at hn
   simpa using hn t ht
 have : yW x t = true := by
  by_cases q : yW x t = true
  ·exact q
  ·simp [zF, q] at hm
 unfold yW at this
 simp only [Bool.and_eq_true, List.all_eq_true] at this
 exact this.1 s hst
open Go Go.Proofs Hp
def Zw (l : List Visit) (day : Int) (i k : Nat) : List Stop := ((l.take k).filter (fun w => w.d = day)).map fun w => ⟨i, w.q⟩
def um (v : List (List Visit)) (day : Int) (i : Nat) : List Stop := ((v.getD i []).filter (fun w => w.d = day)).map fun w => ⟨i, w.q⟩
def qx (v : List (List Visit)) (day : Int) (n : Nat) : List Stop := (List.range n).flatMap (um v day)
theorem Zb7 (v : List (List Visit)) (day : Int) (n : Nat) : qx v day (n + 1) = qx v day n ++ um v day n := by simp [qx, List.range_succ]
theorem Zi5 (l : List Visit) (day : Int) (i : Nat) : Zw l day i 0 = [] := rfl
theorem Zi6 (v : List (List Visit)) (day : Int) (i : Nat) (l : List Visit) (h : v[i]? = some l) : Zw l day i l.length = um v day i := by
 unfold Zw um; rw [List.take_length, List.getD_eq_getElem?_getD, h]; rfl
theorem Zb8 {l : List Visit} {k : Nat} {w : Visit} (h : l[k]? = some w) (day : Int) (i : Nat) : Zw l day i (k + 1) = Zw l day i k ++ (if w.d = day then [⟨i, w.q⟩] else []) := by
 unfold Zw
 rw [List.take_add_one, h]
 simp only [Option.toList_some, List.filter_append, List.map_append]
 split
 ·rename_i e; simp [e]
 ·rename_i e; simp [e]
structure VsOk (m n : Nat) (v : List (List Visit)) : Prop where
 len : v.length = m
 ok : ∀ l ∈ v, ∀ w ∈ l, (0 ≤ w.d ∧ w.d < n) ∧ 1 ≤ w.q ∧ w.q ≤ 2147483648
 nd : ∀ l ∈ v, (l.map (·.d)).Nodup
 few : ∀ l ∈ v, l.length ≤ 1000
theorem VsOk.at {m n : Nat} {v : List (List Visit)} (h : VsOk m n v) (i : Nat) : (∀ w ∈ v.getD i [], (0 ≤ w.d ∧ w.d < n) ∧ 1 ≤ w.q ∧ w.q ≤ 2147483648) ∧ ((v.getD i []).map (·.d)).Nodup := by
 rw [List.getD_eq_getElem?_getD]
 cases e : v[i]? with
 | none => exact ⟨by simp, by simp⟩
 | some l => exact ⟨h.ok l (List.mem_of_getElem? e), h.nd l (List.mem_of_getElem? e)⟩
theorem Zi7 {l : List Visit} (h : (l.map (·.d)).Nodup) (day : Int) : (l.filter (fun w => w.d = day)).length ≤ 1 := by
 have h1 := (List.filter_sublist (p := fun w : Visit => decide (w.d = day)) (l := l)).map (·.d)
 have h2 := h.sublist h1
 have h3 : ∀ w ∈ l.filter (fun w => w.d = day), w.d = day := fun w hw => by simpa using (List.mem_filter.1 hw).2
 generalize l.filter (fun w => decide (w.d = day)) = m at h2 h3
 match m, h2, h3 with
 | [], _, _ => simp
 | [_], _, _ => simp
 | a :: b :: m, h2, h3 =>
  exfalso
  have ea := h3 a (by simp)
  have eb := h3 b (by simp)
  simp only [List.map_cons, List.nodup_cons, List.mem_cons] at h2
  exact h2.1 (.inl (by rw [ea, eb]))
theorem Zi8 {m n : Nat} {v : List (List Visit)} (h : VsOk m n v) (day : Int) (i : Nat) : (um v day i).length ≤ 1 := by
 unfold um; rw [List.length_map]; exact Zi7 (h.at i).2 day
theorem Zi9 {m n : Nat} {v : List (List Visit)} (h : VsOk m n v) {day : Int} {i : Nat} {s : Stop} (hs : s ∈ um v day i) : s.c = i ∧ 1 ≤ s.q ∧ s.q ≤ 2147483648 := by
 obtain ⟨w, hw, rfl⟩ := List.mem_map.1 hs
 exact ⟨rfl, ((h.at i).1 w (List.mem_filter.1 hw).1).2⟩
theorem Wt {m n : Nat} {v : List (List Visit)} (h : VsOk m n v) (day : Int) : ∀ k : Nat, (qx v day k).length ≤ k ∧ (∀ s ∈ qx v day k, (0 ≤ s.c ∧ s.c < k) ∧ 1 ≤ s.q ∧ s.q ≤ 2147483648) ∧ ((qx v day k).map (·.c)).Nodup
 | 0 => ⟨by simp [qx], by simp [qx], by simp [qx]⟩
 | k + 1 => by
  obtain ⟨h1, h2, h3⟩ := Wt h day k
  have h4 := Zi8 h day k
  have h5 : ∀ s ∈ um v day k, s.c = k ∧ 1 ≤ s.q ∧ s.q ≤ 2147483648 := fun s hs => Zi9 h hs
  rw [Zb7]
  refine ⟨by rw [List.length_append]; omega, fun s hs => ?_, ?_⟩
  ·rcases List.mem_append.1 hs with hs | hs
   ·have := h2 s hs; omega
   ·have := h5 s hs; omega
  ·rw [List.map_append]
   generalize um v day k = e at h4 h5
   match e, h4, h5 with
   | [], _, _ => simpa using h3
   | [s], _, h5 =>
    refine Q8 _ _ h3 fun hm => ?_
    obtain ⟨u, hu, e⟩ := List.mem_map.1 hm
    have q1 := h2 u hu
    have q2 := h5 s (by simp)
    have q3 : u.c = s.c := e
    omega
   | _ :: _ :: _, h4, _ => simp at h4
structure InstH (x : Inst) : Prop where
 cust : x.cust.length ≤ 1000
 diag : arc x 0 0 = 0
 arc : qU x
 veh : 0 ≤ x.veh
theorem Wu {x : Inst} (hx : InstH x) {n : Nat} {v : List (List Visit)} (h : VsOk x.cust.length n v) (day : Int) : SOk x (qx v day x.cust.length) := by
 obtain ⟨h1, h2, h3⟩ := Wt h day x.cust.length
 have := hx.cust
 exact ⟨by omega, hx.arc, hx.veh, by omega, fun s hs => by have := h2 s hs; unfold small; omega, h3⟩
def Zx (x : Inst) (v : List (List Visit)) (b : Int) (n : Nat) : List (zg × Int) := (List.range n).map fun d : Nat => jI x b (qx v d x.cust.length)
def jn (x : Inst) (v : List (List Visit)) (b : Int) (n : Nat) : zu := (Zx x v b n).map (·.1)
def qf (x : Inst) (v : List (List Visit)) (b : Int) (n : Nat) : List Int := (Zx x v b n).map (·.2)
theorem Wv (x : Inst) (v : List (List Visit)) (b : Int) (n : Nat) : (jn x v b n).length = n := by simp [jn, Zx]
theorem Zb9 (x : Inst) (v : List (List Visit)) (b : Int) (n : Nat) : (qf x v b n).length = n := by simp [qf, Zx]
theorem Zja (x : Inst) (v : List (List Visit)) (b : Int) (n : Nat) : jn x v b (n + 1) = jn x v b n ++ [(jI x b (qx v n x.cust.length)).1] := by simp [jn, Zx, List.range_succ]
theorem Zjb (x : Inst) (v : List (List Visit)) (b : Int) (n : Nat) : qf x v b (n + 1) = qf x v b n ++ [(jI x b (qx v n x.cust.length)).2] := by simp [qf, Zx, List.range_succ]
open Go Go.Proofs Hp
theorem Zjc (x : Inst) (v : List (List Visit)) (day : Int) (n : Nat) (hx : x.cust.length ≤ 1000) (hv : VsOk x.cust.length n v) : Pure Tryz.prog 15 [.agg (zA x), L v, I day] (L (qx v day x.cust.length)) := by
 have hvl := hv.len
 have hso := fun k => (Wt hv day k).1
 have hmi : wK (x.cust.length : Int) (x.cust.length : Int) = x.cust.length := by unfold wK; simp
 refine zy Tryz.func15 Tryz.ntmps15 Tryz.results15 fun S nx hd => ?_
 repeat apply za
 refine zb ?_
 intro v0
 repeat apply za
 refine zb ?_
 refine za (jB 7 35 2 rfl fun v1 => ?_)
 repeat apply za
 refine zb ?_
 refine zj (zM (fun s : Nat × List Stop × Nat => s.1 ≤ x.cust.length ∧ s.2.1 = qx v day s.1) (fun (i, out, w) => [(1, L v), (2, I day), (7, .sl (nx + 1) w 2 0 out.length), (16, I x.cust.length), (17, I i)]) (fun (i, out, w) => [.cells v0 25 (zA x), .cells w 35 (out.flatMap Enc.enc)]) (fun s => x.cust.length - s.1) (0, [], v1) [] (by simp [qx]) (by simp [hvl, hmi]) (by simp) ?_)
 rintro ⟨i, out, w⟩ ⟨hi, ho⟩
 simp only at hi ho ⊢
 repeat apply za
 refine zb ?_
 repeat apply za
 refine zt rfl (fun hc => ?_) (fun hc => ?_)
 ·simp at hc
  have hiv : i < v.length := by omega
  obtain ⟨l, tl, a1, a2, a3, e0⟩ := zI rfl v i hiv
  have hll := hv.few l (List.mem_of_getElem? a1)
  have hoi := hso i
  refine zi (za (zj ?_))
  repeat apply za
  refine zb ?_
  repeat apply za
  refine ze [] (zm e0 hiv) ?_
  refine zj (zM (fun s : Nat × List Stop × Nat => s.1 ≤ l.length ∧ s.2.1 = qx v day i ++ Zw l day i s.1 ∧ s.2.1.length ≤ i + s.1) (fun (k, out, w) => [(1, L v), (2, I day), (7, .sl (nx + 1) w 2 0 out.length), (8, I i), (16, I x.cust.length), (17, I i), (23, L l), (24, I l.length), (25, I k)]) (fun (k, out, w) => [.cells v0 25 (zA x), .cells w 35 (out.flatMap Enc.enc)]) (fun s => l.length - s.1) (0, out, w) [] ⟨by simp, by simp [Zi5, ho], by simp [ho]; omega⟩ (by simp) (by simp) ?_)
  clear ho
  rintro ⟨k, out, w⟩ ⟨hk, ho, hol⟩
  simp only at hk ho hol ⊢
  repeat apply za
  refine zb ?_
  repeat apply za
  refine zt rfl (fun hc2 => ?_) (fun hc2 => ?_)
  ·simp at hc2
   obtain ⟨s, tl2, b1, b2, b3, e1, e2⟩ := el 2 rfl l k hc2
   refine zi (za (zj ?_))
   repeat apply za
   refine ze [] (zJ e1 e2 hc2) ?_
   intro v2
   repeat apply za
   refine zb ?_
   by_cases hd : s.d = day
   ·repeat apply za
    refine zo (by simp [hd]) ?_
    refine zb ?_
    refine ⟨by omega, ?_⟩
    refine zb ?_
    exact zr (k + 1, out ++ [⟨i, s.q⟩], w + 1) [_] ⟨hc2, by rw [Zb8 b1, if_pos hd, ho]; simp, by simp; omega⟩ (by simp; omega) (by simp [zx k (by omega)]) rfl (by simp; rfl)
   ·repeat apply za
    refine zp (by simp [hd]) ?_
    refine zi ?_
    refine zb ?_
    exact zr (k + 1, out, w) [_] ⟨hc2, by rw [Zb8 b1, if_neg hd, ho]; simp, by dsimp only; omega⟩ (by simp; omega) (by simp [zx k (by omega)]) rfl (by simp; rfl)
  ·simp at hc2
   obtain rfl : k = l.length := by omega
   rw [Zi6 v day i l a1, ← Zb7] at ho
   refine zC ?_
   refine zb ?_
   exact zr (i + 1, out, w) [] ⟨hc, ho⟩ (by simp; omega) (by simp [zx i (by omega)]) rfl (by simp)
 ·simp at hc
  obtain rfl : i = x.cust.length := by omega
  refine zC ?_
  refine yc 1 rfl ?_
  repeat apply za
  refine zb ?_
  exact zh (zk hd (by simp; rfl) (by simp [zn, ho]))
open Go
section
variable {P : Program} {r : Rd} {n N : Nat} {Q : Exit → (Nat → PV) → Store → Prop} {F : Nat → PV} {c : Code}
theorem Zjd {S1 T : Store} {G : Nat → PV} {id ver e : Nat} {cs : List PV} (hid : S1 id = .cells ver e cs) (hT : T id = .dead) (hat : ∀ o, T o = .dead ∨ T o = S1 o ∨ T o = js id ver cs (S1 o))
  (hG : ∀ i, G i = F i ∨ G i = yG id ver cs (F i)) (h : PW P r n N c Q G T) : PW P r n N c Q F S1 := by
 refine vX (F' := G) (S' := T) (fun C w a st => ?_) h
 have hver : ∀ o v, (T o).ver = some v → (S1 o).ver = some v := by
  intro o v hv
  rcases hat o with q | q | q
  ·rw [q] at hv; cases hv
  ·rw [q] at hv; exact hv
  ·rw [q, VH] at hv; exact hv
 have hne : ∀ o, T o ≠ .dead → S1 o ≠ .dead := by
  intro o ho hd
  rcases hat o with q | q | q
  ·exact ho q
  ·exact ho (q.trans hd)
  ·rw [hd] at q; exact ho q
 have hM : ∀ b, C.M T b → C.M S1 b := fun b ⟨o, k, ho, hl⟩ => ⟨o, k, hne o ho, hl⟩
 have hstep : Step C S1 w C T w := ⟨rfl, ⟨rfl, Nat.le_refl _⟩, rfl, Nat.le_refl _, Nat.le_refl _, Nat.le_refl _, fun b _ hb => ⟨rfl, fun h => hb (hM b h)⟩, fun o v1 hv => .inr ⟨v1, hver o v1 hv, Nat.le_refl _, fun _ => rfl⟩⟩
 have hrel : ∀ {p u}, Rel C S1 w p u → Rel C T w (yG id ver cs p) u := fun h => QY st.sim hid hT hne hstep h
 refine ⟨C, ⟨⟨fun o ho => st.sim.lt o (hne o ho), fun o v hv => st.sim.clk o v (hver o v hv), fun o o' b k k' ho ho' => st.sim.dist o o' b k k' (hne o ho) (hne o' ho'), ?_, ?_⟩, st.size, fun i => ?_, r.keep hstep st.v⟩, hstep⟩
 ·intro o v e' ds ho
  rcases hat o with q | q | q
  ·rw [q] at ho; cases ho
  ·rw [q] at ho
   rcases st.sim.cells o v e' ds ho with hn | ⟨b, k, c, h1, h2, h3, h4, h5, h6⟩
   ·exact .inl hn
   ·exact .inr ⟨b, k, c, h1, h2, h3, h4, h5, fun i p u hp hu => (h6 i p u hp hu).mono hstep⟩
  ·rw [q] at ho
   cases hs : S1 o with
   | dead => rw [hs] at ho; cases ho
   | map v es => rw [hs] at ho; cases ho
   | cells v2 e2 ds2 =>
    rw [hs] at ho
    cases ho
    rcases st.sim.cells o _ _ ds2 hs with ⟨h1, h2⟩ | ⟨b, k, c, h1, h2, h3, h4, h5, h6⟩
    ·exact .inl ⟨h1, by rw [h2]; rfl⟩
    ·refine .inr ⟨b, k, c, h1, h2, h3, by simpa using h4, fun i v hi hv => h5 i v (by simpa using hi) hv, fun i p u hp hu => ?_⟩
     rw [List.getElem?_map] at hp
     obtain ⟨p0, hp0, rfl⟩ := Option.map_eq_some_iff.1 hp
     exact hrel (h6 i p0 u hp0 hu)
 ·intro o v es ho
  have hs : S1 o = .map v es := by
   rcases hat o with q | q | q
   ·rw [q] at ho; cases ho
   ·rw [q] at ho; exact ho
   ·rw [q] at ho
    cases hs : S1 o with
    | dead => rw [hs] at ho; cases ho
    | map v es => rw [hs] at ho; exact ho
    | cells v2 e2 ds2 => rw [hs] at ho; cases ho
  obtain ⟨b, k, ms, cl, h1, h2, h3, h4⟩ := st.sim.maps o v es hs
  exact ⟨b, k, ms, cl, h1, h2, h3, fun i x m hx hm => ⟨(h4 i x m hx hm).1, (h4 i x m hx hm).2.mono hstep⟩⟩
 ·rcases hG i with q | q
  ·rw [q]; exact (st.fr i).mono hstep
  ·rw [q]; exact hrel (st.fr i)
def xC {α : Type} (base sz : Nat) (ws : Nat → Nat) (rows : List (List α)) : List PV := (List.range rows.length).map fun i => .sl (base + i) (ws i) sz 0 (rows.getD i []).length
theorem Yf {α : Type} (base sz : Nat) (ws : Nat → Nat) (rows : List (List α)) : (xC base sz ws rows).length = rows.length := by simp [xC]
theorem Qe {α : Type} (base sz : Nat) (ws : Nat → Nat) (rows : List (List α)) (i : Nat) (h : i < rows.length) : (xC base sz ws rows)[i]? = some (.sl (base + i) (ws i) sz 0 (rows.getD i []).length) := by
 simp [xC, h]
theorem Ww {α : Type} (base sz : Nat) (ws : Nat → Nat) (rows : List (List α)) (i : Nat) (h : i < rows.length) : ∃ tl, (xC base sz ws rows).drop i = .sl (base + i) (ws i) sz 0 (rows.getD i []).length :: tl := by
 refine ⟨(xC base sz ws rows).drop (i + 1), ?_⟩
 have hl : i < (xC base sz ws rows).length := by rw [Yf]; exact h
 rw [List.drop_eq_getElem_cons hl]
 have := Qe base sz ws rows i h
 rw [List.getElem?_eq_getElem hl] at this
 rw [Option.some.inj this]
structure RowsAt {α : Type} [Enc α] (T : Store) (A va tA base e sz : Nat) (ws : Nat → Nat) (rows : List (List α)) : Prop where
 arr : T A = .cells va tA (xC base sz ws rows)
 row : ∀ i, i < rows.length → T (base + i) = .cells (ws i) e ((rows.getD i []).flatMap Enc.enc)
 out : A < base
theorem RowsAt.other {α : Type} [Enc α] {T T' : Store} {A va tA base e sz : Nat} {ws : Nat → Nat} {rows : List (List α)} (h : RowsAt T A va tA base e sz ws rows) (hT : ∀ o, o = A ∨ (base ≤ o ∧ o < base + rows.length) → T' o = T o) : RowsAt T' A va tA base e sz ws rows :=
 ⟨(hT A (.inl rfl)).trans h.arr, fun i hi => (hT _ (.inr ⟨by omega, by omega⟩)).trans (h.row i hi), h.out⟩
theorem RowsAt.turn {α : Type} [Enc α] {T T' : Store} {A va tA base e sz : Nat} {ws : Nat → Nat} {rows : List (List α)} (h : RowsAt T A va tA base e sz ws rows) {i : Nat} (hi : i < rows.length) (w : Nat) (l : List α)
  (hA : T' A = .cells va tA ((xC base sz ws rows).set i (.sl (base + i) w sz 0 l.length))) (hB : T' (base + i) = .cells w e (l.flatMap Enc.enc)) (hT : ∀ o, o ≠ A → o ≠ base + i → T' o = T o) : RowsAt T' A va tA base e sz (fun k => if k = i then w else ws k) (rows.set i l) := by
 have hout := h.out
 refine ⟨?_, fun k hk => ?_, h.out⟩
 ·rw [hA]
  congr 1
  apply List.ext_getElem?
  intro k
  rw [List.getElem?_set, Yf]
  by_cases hki : i = k
  ·subst hki
   rw [if_pos rfl, if_pos hi, Qe _ _ _ _ _ (by simpa using hi)]
   simp [hi]
  ·rw [if_neg hki]
   by_cases hk : k < rows.length
   ·rw [Qe _ _ _ _ _ hk, Qe _ _ _ _ _ (by simpa using hk)]
    simp only [List.getD_eq_getElem?_getD, List.getElem?_set_ne hki, if_neg (fun e : k = i => hki e.symm)]
   ·rw [List.getElem?_eq_none (by rw [Yf]; omega), List.getElem?_eq_none (by rw [Yf]; simp; omega)]
 ·rw [List.length_set] at hk
  by_cases hki : k = i
  ·subst hki
   rw [hB, if_pos rfl]
   simp [hi]
  ·rw [hT _ (by omega) (by omega), h.row k hk, if_neg hki]
   simp only [List.getD_eq_getElem?_getD, List.getElem?_set_ne (fun e : i = k => hki e.symm)]
theorem Zje {α : Type} (base sz : Nat) (ws : Nat → Nat) (m : Nat) : xC (α := α) base sz ws (List.replicate m []) = (List.range m).map fun i => .sl (base + i) (ws i) sz 0 0 := by
 unfold xC
 rw [List.length_replicate]
 refine List.map_congr_left fun i hi => ?_
 have := List.mem_range.1 hi
 simp [this]
theorem Zca {α : Type} [Enc α] (A va tA base e sz m : Nat) (hAb : A < base) : ∀ (j k : Nat) (T : Store) (ws : Nat → Nat), k + j = m → T A = .cells va tA ((List.range k).map (fun i => .sl (base + i) (ws i) sz 0 0) ++ List.replicate j (.sc (.slice none 0 0))) →
  (∀ i, i < k → T (base + i) = .cells (ws i) e []) → zR (base + k) T →
  (∀ (T' : Store) (ws' : Nat → Nat), RowsAt T' A va tA base e sz ws' (List.replicate m ([] : List α)) → (∀ o, o ≠ A → o < base → T' o = T o) → zR (base + m) T' → PW P r n N c Q F T') → PW P r n N c Q F T
 | 0, k, T, ws, hk, hA, hrow, hd, h => by
  obtain rfl : k = m := by omega
  refine h T ws ⟨by rw [hA, Zje]; simp, fun i hi => ?_, hAb⟩ (fun _ _ _ => rfl) hd
  rw [List.length_replicate] at hi
  rw [hrow i hi]; simp [hi]
 | j + 1, k, T, ws, hk, hA, hrow, hd, h => by
  have hget : ((List.range k).map (fun i => PV.sl (base + i) (ws i) sz 0 0) ++ List.replicate (j + 1) (.sc (.slice none 0 0)))[k]? = some (.sc (.slice none 0 0)) := by
   rw [List.getElem?_append_right (by simp)]; simp
  refine J5 (o := A) k e sz hA hget (vi (X := fun id v => PW P r n N c Q F ((T.set id (.cells v e [])).set A (.cells va tA (((List.range k).map (fun i => PV.sl (base + i) (ws i) sz 0 0) ++ List.replicate (j + 1) (PV.sc (.slice none 0 0))).set k (.sl id v sz 0 0))))) (base + k) (hd _ (Nat.le_refl _)) fun v => ?_)
  refine Zca A va tA base e sz m hAb j (k + 1) _ (fun i => if i = k then v else ws i) (by omega) ?_ ?_ ?_ fun T' ws' hR hT' hd' => h T' ws' hR (fun o ho hob => ?_) hd'
  ·rw [Store.set_same]
   congr 1
   rw [List.set_append_right _ _ (by simp), List.range_succ, List.map_append]
   simp only [List.length_map, List.length_range, Nat.sub_self, List.replicate_succ, List.set_cons_zero, List.map_cons, List.map_nil, if_true]
   rw [List.append_assoc]
   congr 1
   refine List.map_congr_left fun i hi => ?_
   have := List.mem_range.1 hi
   rw [if_neg (by omega)]
  ·intro i hi
   rw [Store.set_other _ _ _ _ (by omega)]
   by_cases hik : i = k
   ·subst hik; rw [Store.set_same, if_pos rfl]
   ·rw [Store.set_other _ _ _ _ (by omega), if_neg hik]
    exact hrow i (by omega)
  ·intro i hi
   rw [Store.set_other _ _ _ _ (by omega), Store.set_other _ _ _ _ (by omega)]
   exact hd i (by omega)
  ·rw [hT' o ho hob, Store.set_other _ _ _ _ ho, Store.set_other _ _ _ _ (by omega)]
theorem Zjf {α : Type} [Enc α] (A va tA base e sz m : Nat) {T : Store} (hA : T A = .cells va tA (List.replicate m (.sc (.slice none 0 0)))) (hd : zR base T)
  (h : ∀ (T' : Store) (ws : Nat → Nat), RowsAt T' A va tA base e sz ws (List.replicate m ([] : List α)) → (∀ o, o ≠ A → o < base → T' o = T o) → zR (base + m) T' → PW P r n N c Q F T') : PW P r n N c Q F T := by
 have hAb : A < base := by
  rcases Nat.lt_or_ge A base with q | q
  ·exact q
  ·rw [hd A q] at hA; cases hA
 exact Zca A va tA base e sz m hAb m 0 T (fun _ => 0) (by omega) (by simpa using hA) (fun i hi => by omega) (by simpa using hd) h
theorem Zcb {nx : Nat} {S : Store} {obs : List Ob} {id ver e0 : Nat} {cs : List PV} (i e sz : Nat) (hlt : id < nx) (hs : S id = .cells ver e0 cs) (hi : cs[i]? = some (.sc (.slice none 0 0)))
  (h : ∀ v, PW P r n N c Q F (ext (S.set id (.cells ver e0 (cs.set i (.sl (nx + obs.length) v sz 0 0)))) nx (obs ++ [.cells v e []]))) : PW P r n N c Q F (ext S nx obs) :=
 J5 (o := id) i e sz (by rw [zE hlt]; exact hs) hi (vi (X := fun id' v => PW P r n N c Q F (((ext S nx obs).set id' (.cells v e [])).set id (.cells ver e0 (cs.set i (.sl id' v sz 0 0))))) _ vn fun v => by
  rw [qO, jM _ hlt]; exact h v)
end
open Go Go.Proofs
instance : Enc Mv := ⟨fun m => wA m, 5, fun _ => rfl, fun _ => rfl⟩
@[simp] theorem Zol (m : Mv) : Enc.enc m = wA m := rfl
@[simp high] theorem Zom (l : List Mv) : (l.flatMap Enc.enc).length = l.length * 5 := jf l
@[simp high] theorem Zon (l : List Mv) : (l.flatMap Enc.enc).take (l.length * 5) = l.flatMap Enc.enc := uc l
open Go Go.Proofs Hp
abbrev jo (x : Inst) (v : PV) (b : Int) (p f pr : PV) : List PV := [I x.days, I x.veh, I x.cap, I x.len, L x.cust, L x.dist, v, I b, p, f, pr]
theorem Zjg {S : Store} {id ver idF vF : Nat} (x : Inst) (v p pr : PV) (b : Int) (fs : List Int) (hS : S id = .cells ver 89 (jo x v b p (.sl idF vF 1 0 fs.length) pr)) (hF : S idF = .cells vF 39 (fs.flatMap Enc.enc)) (hl : fs.length ≤ 1000) :
  Spec Tryz.prog 88 [.ptr id ver 0] S (fun q S' => q = I (xB fs) ∧ S' = S) := by
 refine yH Tryz.func88 Tryz.ntmps88 Tryz.results88 fun nx hd => ?_
 have hlt : id < nx := yk hd hS (by simp)
 have hltF : idF < nx := yk hd hF (by simp)
 have xw := fun obs => zE (S := S) (obs := obs) hlt
 have xf := fun obs => zE (S := S) (obs := obs) hltF
 repeat apply za
 refine zb ?_
 repeat apply za
 refine ze [] (zm xw hS) ?_
 refine zj (zM (fun k : Nat => k ≤ fs.length ∧ ∀ e ∈ fs.take k, e = 0) (fun k => [(8, .sl idF vF 1 0 fs.length), (9, I fs.length), (10, I k)]) (fun _ => []) (fun k => fs.length - k) 0 [] (by simp) (by simp) (by simp) ?_)
 rintro k ⟨hk, h0⟩
 repeat apply za
 refine zb ?_
 repeat apply za
 refine zt rfl (fun hc => ?_) (fun hc => ?_)
 ·simp at hc
  obtain ⟨e, tl, a1, a2, a3, e0⟩ := zI rfl fs k hc
  refine zi (za (zj ?_))
  repeat apply za
  refine ze [] (ye xf hF e0 hc) ?_
  repeat apply za
  refine zb ?_
  by_cases he : e = 0
  ·repeat apply za
   refine zp (by simp [he]) ?_
   refine zi ?_
   refine zb ?_
   exact zr (k + 1) [] ⟨hc, fun y hy => by rw [a3] at hy; rcases List.mem_append.1 hy with h | h; exact h0 y h; rw [List.mem_singleton.1 h]; exact he⟩ (by omega) (by simp [zx k (by omega)]) rfl (by simp)
  ·repeat apply za
   refine zo (by simp [he]) ?_
   repeat apply za
   refine zb ?_
   exact zh ⟨_, S, rfl, ⟨by simp [zn, Zi3 h0 a1 he], rfl⟩, zW hd⟩
 ·simp at hc
  obtain rfl : k = fs.length := by omega
  rw [List.take_length] at h0
  refine zC ?_
  repeat apply za
  refine zb ?_
  exact zh ⟨_, S, rfl, ⟨by simp [zn, Zb4 h0], rfl⟩, zW hd⟩
theorem Zjh {S : Store} {id ver idD vD idF vF : Nat} {x : Inst} {v : List (List Visit)} {b : Int} {pr : PV} {ds : zu} {fs : List Int} {n : Nat} (k : Nat) (hS : S id = .cells ver 89 (jo x (L v) b (.sl idD vD 1 0 ds.length) (.sl idF vF 1 0 fs.length) pr))
  (hD : S idD = .cells vD 58 (ds.flatMap Enc.enc)) (hF : S idF = .cells vF 39 (fs.flatMap Enc.enc)) (d1 : id ≠ idD) (d2 : id ≠ idF) (d3 : idD ≠ idF) (hx : InstH x) (hv : VsOk x.cust.length n v) (hb : b ≤ 9223372036854775807) (hdl : ds.length ≤ 1000) (hfl : fs.length ≤ 1000) :
  Spec Tryz.prog 87 [.ptr id ver 0, I k] S (fun _ S' => S' = ((S.set id (.cells ver 89 (jo x (L v) b (.sl idD (vD + 1) 1 0 (ds.length + 1)) (.sl idF (vF + 1) 1 0 (fs.length + 1)) pr))).set idD (.cells (vD + 1) 58 ((ds ++ [(jI x b (qx v k x.cust.length)).1]).flatMap Enc.enc))).set idF
   (.cells (vF + 1) 39 ((fs ++ [(jI x b (qx v k x.cust.length)).2]).flatMap Enc.enc))) := by
 have hst := Zjc x v k n hx.cust hv
 have hso := ZiD (Wu hx hv k) hx.diag hb
 generalize qx v k x.cust.length = st at hst hso ⊢
 generalize jI x b st = r at hso ⊢
 obtain ⟨d, e⟩ := r
 simp only at hso ⊢
 refine yH Tryz.func87 Tryz.ntmps87 Tryz.results87 fun nx hd => ?_
 have hlt : id < nx := yk hd hS (by simp)
 have hltD : idD < nx := yk hd hD (by simp)
 have hltF : idF < nx := yk hd hF (by simp)
 have xw := fun obs => (zE (S := S) (obs := obs) hlt).trans hS
 have xd := fun obs => (zE (S := S) (obs := obs) hltD).trans hD
 have xf := fun obs => (zE (S := S) (obs := obs) hltF).trans hF
 have g1 : ¬ nx ≤ id := by omega
 have g2 : ¬ nx ≤ idD := by omega
 have g3 : ¬ nx ≤ idF := by omega
 have yw := fun (o : Ob) obs => (zE (S := S.set idD o) (obs := obs) hlt).trans ((Store.set_other _ _ _ _ d1).trans hS)
 have zw := fun (o o' : Ob) obs => (zE (S := (S.set idD o).set id o') (obs := obs) hlt).trans (Store.set_same _ _ _)
 have zf := fun (o o' : Ob) obs => (zE (S := (S.set idD o).set id o') (obs := obs) hltF).trans ((Store.set_other _ _ _ _ d2.symm).trans ((Store.set_other _ _ _ _ d3.symm).trans hF))
 have uw := fun (o o' o'' : Ob) obs => (zE (S := ((S.set idD o).set id o').set idF o'') (obs := obs) hlt).trans ((Store.set_other _ _ _ _ d2).trans (Store.set_same _ _ _))
 repeat apply za
 refine zD (some [id]) (Row.pures [0, 1, 2, 3, 4, 5, 6, 7, 8, 9, 10, 11, 12, 13, 14, 15, 16, 17, 18, 19, 20, 21] (.alt 22 (.alt 23 (Row.pures [24] .done) .stop) .stop)) mixed xw ?_
 refine zN (hst) xw ?_
 refine zN (hso) xw ?_
 intro v2
 repeat apply za
 refine zD (some [nx]) (Row.pures [0, 1, 2, 3, 4, 6, 7] (.alt 5 (.alt 8 (Row.pures [9, 10, 11] (.alt 12 (.done) .stop)) .stop) .stop)) mixed (qv xw xd yw g1 g2) ?_
 refine ⟨by omega, ?_⟩
 refine ze [] (qv zw zf uw g1 g3) ?_
 refine ⟨by omega, ?_⟩
 have e1 : ∀ (a b c d : Ob), (((S.set idD a).set id b).set idF c).set id d = ((S.set id d).set idD a).set idF c := by
  intro a b c d
  funext i
  simp only [Store.set]
  by_cases h1 : i = id
  ·subst h1; simp [d1, d2]
  ·simp only [h1, if_false]
 have hdd : ∀ (a b c : Ob), zR nx (((S.set id a).set idD b).set idF c) := by
  intro a b c i hi
  rw [Store.set_other _ _ _ _ (by omega), Store.set_other _ _ _ _ (by omega), Store.set_other _ _ _ _ (by omega)]
  exact hd i hi
 rw [e1]
 exact ⟨_, _, rfl, by simp, zW (hdd _ _ _)⟩
theorem Zji {S : Store} {id ver : Nat} (x : Inst) (v p f pr : PV) (b : Int) (fn : FuncId) (fs : List PV) (n : Nat) (hn : x.days = n) (hn2 : n ≤ 1000) (hS : S id = .cells ver 89 (jo x v b p f pr)) (St : Nat → Store) (h0 : St 0 = S)
  (hSt : ∀ nx, zR nx S → ∀ k, k ≤ n → zR nx (St k)) (hstep : ∀ k, k < n → Spec Tryz.prog fn (fs ++ [I k]) (St k) (fun _ S' => S' = St (k + 1))) :
  Spec Tryz.prog 64 [.ptr id ver 0, .fn (.func fn) fs []] S (fun _ S' => S' = St n) := by
 refine yH Tryz.func64 Tryz.ntmps64 Tryz.results64 fun nx hd => ?_
 have hlt : id < nx := yk hd hS (by simp)
 have xw := fun obs => (zE (S := S) (obs := obs) hlt).trans hS
 have hSt := hSt nx hd
 repeat apply za
 refine ze [] (zm xw hn) ?_
 refine zj (qP (σ := Nat) (fun k => k ≤ n) (fun k => [(1, .fn (.func fn) fs []), (9, I n), (10, I k)]) (fun k => St k) (fun _ => []) (fun k => n - k) (zS 0 [] (by simp) (by simp) h0 (by simp)) ?_)
 rintro k hk
 repeat apply za
 refine zb ?_
 repeat apply za
 refine zt rfl (fun hc => ?_) (fun hc => ?_)
 ·simp at hc
  refine zi (za (zj ?_))
  repeat apply za
  refine zb ?_
  refine zQ [] (by rfl) (by rfl) fun K Gc Gh hK hGc hGh X hX0 hX => ?_
  simp -implicitDefEqProofs [hX0, hX]
  try clear hX0 hX X
  refine hGc _ _ _ _ _ _ _ fun hsuf => (Spec.mono (by rw [yV (hSt k hk)]; simpa using hstep k hc) ?_).v
  rintro _ _ rfl
  refine ⟨St (k + 1), [], (yV (hSt (k + 1) hc)).symm, ?_⟩
  clear hGc hGh
  clear Gc Gh
  refine zP hsuf (D := []) (by rfl) fun Gc Gh hGc hGh X hX0 hX => ?_
  simp -implicitDefEqProofs [hX0, hX]
  clear hX0 hX X
  refine hK _ _ _ ?_
  clear hK hGc hGh
  clear K Gc Gh
  refine zb ?_
  exact zr (k + 1) [] hc (by omega) (by simp [zx k (by omega)]) rfl (by simp)
 ·simp at hc
  obtain rfl : k = n := by omega
  refine zC ?_
  exact ⟨_, _, rfl, rfl, zW (hSt k (Nat.le_refl _))⟩
theorem Zjj {S : Store} {nx id ver : Nat} (hd : zR nx S) {x : Inst} {v : List (List Visit)} {v0 p0 f0 pr : PV} {b : Int} {n : Nat} (hS : S id = .cells ver 89 (jo x v0 b p0 f0 pr)) (hx : InstH x) (hn : x.days = n) (hn2 : n ≤ 1000) (hv : VsOk x.cust.length n v) (hb : b ≤ 9223372036854775807) :
  Spec Tryz.prog 47 [.ptr id ver 0, L v] S (fun q S' => q = I (xB (qf x v b n)) ∧ ∃ vD vF, S' = ext (S.set id (.cells ver 89 (jo x (L v) b (.sl nx vD 1 0 (jn x v b n).length) (.sl (nx + 1) vF 1 0 (qf x v b n).length) pr))) nx
   [.cells vD 58 ((jn x v b n).flatMap Enc.enc), .cells vF 39 ((qf x v b n).flatMap Enc.enc)]) := by
 have hpl := Wv x v b
 have hfl := Zb9 x v b
 refine ud hd Tryz.func47 Tryz.ntmps47 Tryz.results47 ?_
 have hlt : id < nx := yk hd hS (by simp)
 have g1 : ¬ nx ≤ id := by omega
 have xw := fun obs => (zE (S := S) (obs := obs) hlt).trans hS
 have yw := fun (o : Ob) obs => (zE (S := S.set id o) (obs := obs) hlt).trans (Store.set_same _ _ _)
 repeat apply za
 refine zb ?_
 repeat apply za
 refine ze [] (ye xw yw g1 Store.set_set) ?_
 refine Zcb (id := id) 8 58 1 hlt (Store.set_same _ _ _) rfl fun vD => ?_
 rw [Store.set_set]
 refine Zcb (id := id) 9 39 1 hlt (Store.set_same _ _ _) rfl fun vF => ?_
 rw [Store.set_set]
 simp only [List.set_cons_succ, List.set_cons_zero, List.length_cons, List.length_nil, List.cons_append, List.nil_append, Nat.add_zero, Nat.zero_add]
 generalize hSt : (fun k : Nat => ext (S.set id (.cells ver 89 (jo x (L v) b (.sl nx (vD + k) 1 0 (jn x v b k).length) (.sl (nx + 1) (vF + k) 1 0 (qf x v b k).length) pr))) nx
   [.cells (vD + k) 58 ((jn x v b k).flatMap Enc.enc), .cells (vF + k) 39 ((qf x v b k).flatMap Enc.enc)]) = St
 have hSk : ∀ k, St k = ext (S.set id (.cells ver 89 (jo x (L v) b (.sl nx (vD + k) 1 0 (jn x v b k).length) (.sl (nx + 1) (vF + k) 1 0 (qf x v b k).length) pr))) nx
   [.cells (vD + k) 58 ((jn x v b k).flatMap Enc.enc), .cells (vF + k) 39 ((qf x v b k).flatMap Enc.enc)] := fun k => by rw [← hSt]
 have h0 : St 0 = ext (S.set id (.cells ver 89 (jo x (L v) b (.sl nx vD 1 0 0) (.sl (nx + 1) vF 1 0 0) pr))) nx [.cells vD 58 [], .cells vF 39 []] := hSk 0
 have hid : ∀ k, St k id = .cells ver 89 (jo x (L v) b (.sl nx (vD + k) 1 0 (jn x v b k).length) (.sl (nx + 1) (vF + k) 1 0 (qf x v b k).length) pr) := fun k => by rw [hSk k, zE hlt, Store.set_same]
 have hstep : ∀ k, k < n → Spec Tryz.prog 87 ([.ptr id ver 0] ++ [I k]) (St k) (fun _ S' => S' = St (k + 1)) := by
  intro k hk
  have h1 := hpl k
  have h2 := hfl k
  refine (Zjh (idD := nx) (idF := nx + 1) (n := n) k (hid k) (by rw [hSk k]; simp) (by rw [hSk k]; simp) (by omega) (by omega) (by omega) hx hv hb (by omega) (by omega)).mono ?_
  rintro _ _ rfl
  rw [hSk k, hSk (k + 1), jM _ hlt, Store.set_set, yN _ (by omega) (by simp), yN _ (by omega) (by simp), Zja, Zjb]
  simp [Nat.add_assoc]
 have hdead : ∀ m, zR m (St 0) → ∀ k, k ≤ n → zR m (St k) := by
  intro m hm k _ i hi
  have hge : nx + 1 < m := by
   rcases Nat.lt_or_ge (nx + 1) m with q | q
   ·exact q
   ·have := hm (nx + 1) q; rw [hSk 0] at this; simp at this
  rw [hSk k]
  simp only [ext]
  rw [if_neg (by omega), List.getD_eq_getElem?_getD, List.getElem?_eq_none (by simp; omega)]; rfl
 rw [← h0]
 have hn0 := hid 0
 have hnx2 : nx + 2 = nx + [Ob.cells (vD + 0) 58 ((jn x v b 0).flatMap Enc.enc), .cells (vF + 0) 39 ((qf x v b 0).flatMap Enc.enc)].length := rfl
 have hb0 : ∀ k, St k = ext (St k) (nx + 2) [] := fun k => by
  refine (yV ?_).symm
  rw [hSk k]; exact jz (obs := [_, _])
 rw [hb0 0]
 repeat apply za
 refine zQ [] (by rfl) (by rfl) fun K Gc Gh hK hGc hGh X hX0 hX => ?_
 simp -implicitDefEqProofs [hX0, hX]
 try clear hX0 hX X
 refine hGc _ _ _ _ _ _ _ fun hsuf => ((Zji x (L v) _ _ pr b _ _ n hn hn2 (by rw [← hb0 0]; exact hn0) St (hb0 0) (fun m hm k hk => hdead m (by rw [hb0 0]; exact hm) k hk) hstep).mono ?_).v
 rintro _ _ rfl
 refine ⟨_, _, hb0 n, ?_⟩
 clear hGc hGh
 clear Gc Gh
 refine zP hsuf (D := []) (by rfl) fun Gc Gh hGc hGh X hX0 hX => ?_
 simp -implicitDefEqProofs [hX0, hX]
 clear hX0 hX X
 refine hK _ _ _ ?_
 clear hK hGc hGh
 clear K Gc Gh
 repeat apply za
 refine zQ [] (by rfl) (by rfl) fun K Gc Gh hK hGc hGh X hX0 hX => ?_
 simp -implicitDefEqProofs [hX0, hX]
 try clear hX0 hX X
 refine hGc _ _ _ _ _ _ _ fun hsuf => ((Zjg (idF := nx + 1) x _ _ _ _ (qf x v b n) (by rw [← hb0 n]; exact hid n) (by rw [← hb0 n, hSk n]; simp) (by rw [hfl]; exact hn2)).mono ?_).v
 rintro _ _ ⟨rfl, rfl⟩
 refine ⟨_, _, rfl, ?_⟩
 clear hGc hGh
 clear Gc Gh
 refine zP hsuf (D := []) (by rfl) fun Gc Gh hGc hGh X hX0 hX => ?_
 simp -implicitDefEqProofs [hX0, hX]
 clear hX0 hX X
 refine hK _ _ _ ?_
 clear hK hGc hGh
 clear K Gc Gh
 refine zh ⟨_, St n, rfl, ⟨by simp [zn], vD + n, vF + n, hSk n⟩, fun o => .inl ?_⟩
 rw [← hb0 n]
open Go Go.Proofs Hp
theorem Zjk (n : Nat) : qJ n (.slice none 0 0) = List.replicate n (.sc (.slice none 0 0)) := by
 induction n with
 | zero => simp
 | succ n ih => rw [ut, ih]; rfl
structure RowsV (m n i : Nat) (v : List (List Visit)) : Prop where
 len : v.length = m
 ok : ∀ l ∈ v, ∀ w ∈ l, (0 ≤ w.d ∧ w.d < n) ∧ 1 ≤ w.q ∧ w.q ≤ 12
 nd : ∀ l ∈ v, (l.map (·.d)).Nodup
 few : ∀ l ∈ v, l.length ≤ i
theorem RowsV.vs {m n i : Nat} {v : List (List Visit)} (h : RowsV m n i v) (hi : i ≤ 12) : VsOk m n v :=
 ⟨h.len, fun l hl w hw => by have := h.ok l hl w hw; omega, h.nd, fun l hl => by have := h.few l hl; omega⟩
theorem RowsV.more {m n i : Nat} {v : List (List Visit)} (h : RowsV m n i v) : RowsV m n (i + 1) v := ⟨h.len, h.ok, h.nd, fun l hl => Nat.le_succ_of_le (h.few l hl)⟩
theorem RowsV.put {m n i : Nat} {v : List (List Visit)} (h : RowsV m n i v) {c : Nat} {l : List Visit} (hc : v[c]? = some l) (w : Visit) (hw : (0 ≤ w.d ∧ w.d < n) ∧ 1 ≤ w.q ∧ w.q ≤ 12) (hno : w.d ∉ l.map (·.d)) : RowsV m n (i + 1) (v.set c (l ++ [w])) := by
 have hlm := List.mem_of_getElem? hc
 refine ⟨by simp [h.len], fun k hk u hu => ?_, fun k hk => ?_, fun k hk => ?_⟩
 ·rcases List.mem_or_eq_of_mem_set hk with hk | rfl
  ·exact h.ok k hk u hu
  ·rcases List.mem_append.1 hu with hu | hu
   ·exact h.ok l hlm u hu
   ·rw [List.mem_singleton.1 hu]; exact hw
 ·rcases List.mem_or_eq_of_mem_set hk with hk | rfl
  ·exact h.nd k hk
  ·rw [List.map_append]; exact Q8 _ _ (h.nd l hlm) hno
 ·rcases List.mem_or_eq_of_mem_set hk with hk | rfl
  ·exact Nat.le_succ_of_le (h.few k hk)
  ·have := h.few l hlm; simp; omega
open Go
def Qs (q : List Int) : Prop := ∀ z ∈ q, 0 ≤ z ∧ z ≤ 2147483648
structure GoodV (n : Nat) (v : List Visit) : Prop where
 len : v.length ≤ 64
 ok : ∀ s ∈ v, (0 ≤ s.d ∧ s.d < n) ∧ 1 ≤ s.q ∧ s.q ≤ 2147483648
 nd : (v.map (·.d)).Nodup
def yB : Nat → List Int → List Visit
 | _, [] => []
 | i, z :: l => if 0 < z then ⟨i, z⟩ :: yB (i + 1) l else yB (i + 1) l
theorem Jv : ∀ (l : List Int) (i : Nat), (yB i l).length ≤ l.length
 | [], _ => by simp [yB]
 | z :: l, i => by
  have := Jv l (i + 1)
  simp only [yB]; split <;> simp <;> omega
theorem Jw : ∀ (l : List Int) (i : Nat), Qs l → ∀ s ∈ yB i l, ((i : Int) ≤ s.d ∧ s.d < (i + l.length : Nat)) ∧ 1 ≤ s.q ∧ s.q ≤ 2147483648
 | [], _, _ => by intro s hs; cases hs
 | z :: l, i, h => by
  have ih := Jw l (i + 1) fun x hx => h x (by simp [hx])
  have hz := h z (by simp)
  intro s hs
  simp only [yB] at hs
  split at hs
  ·rcases List.mem_cons.1 hs with rfl | hs
   ·simp only [List.length_cons]; omega
   ·have := ih s hs; simp only [List.length_cons]; omega
  ·have := ih s hs; simp only [List.length_cons]; omega
theorem Zcc : ∀ (l : List Int) (i : Nat), ∀ s ∈ yB i l, (i : Int) ≤ s.d
 | [], _ => by intro s hs; cases hs
 | z :: l, i => by
  have ih := Zcc l (i + 1)
  intro s hs
  simp only [yB] at hs
  split at hs
  ·rcases List.mem_cons.1 hs with rfl | hs
   ·exact Int.le_refl _
   ·have := ih s hs; omega
  ·have := ih s hs; omega
theorem Zcd : ∀ (l : List Int) (i : Nat), ((yB i l).map (·.d)).Nodup
 | [], _ => by simp [yB]
 | z :: l, i => by
  have ih := Zcd l (i + 1)
  simp only [yB]
  split
  ·rw [List.map_cons, List.nodup_cons]
   refine ⟨fun h => ?_, ih⟩
   obtain ⟨s, hs, e⟩ := List.mem_map.1 h
   have := Zcc l (i + 1) s hs
   simp only at e; omega
  ·exact ih
theorem Zjl (n a k : Nat) : (yA n a k).Nodup := by
 unfold yA
 refine List.Pairwise.map _ (fun x y (h : x ≠ y) => ?_) (List.Pairwise.filter _ List.nodup_range)
 intro e; apply h; omega
theorem Zce {q : List Int} {n : Nat} (hq : Qs q) (hl : q.length ≤ n) (hn : n ≤ 64) : GoodV n (yB 0 q) := by
 refine ⟨Nat.le_trans (Jv q 0) (by omega), fun s hs => ?_, Zcd q 0⟩
 have := Jw q 0 hq s hs
 omega
def vJ (c : Cust) (p : Nat) : List Visit := (yA p 0 64).map fun d => ⟨d, c.demand⟩
open Go
structure CustMade (c : Cust) (n : Nat) : Prop where
 fits : CustFits c
 pats : ∀ p ∈ c.pats, p < 2 ^ 64
 npats : c.pats.length ≤ 1048576
 per : c.kind = 1 → (∀ p ∈ c.pats, ∀ d ∈ yA p 0 64, d < n) ∧ 1 ≤ c.demand ∧ c.demand ≤ 2147483648
open Go
theorem Zcf {α : Type} (l : List α) : l = [] ∨ ∃ m x, l = m ++ [x] := by
 rcases List.eq_nil_or_concat l with h | ⟨m, x, h⟩
 ·exact .inl h
 ·exact .inr ⟨m, x, by rw [h, List.concat_eq_append]⟩
def Yg (x : Inst) (d : zg) (s : Stop) (join : Bool) : zg :=
 match d.reverse with
 | t :: r => if join = true ∧ zF x (t ++ [s]) = 0 then r.reverse ++ [t ++ [s]] else d ++ [[s]]
 | [] => [[s]]
theorem Zcg (x : Inst) (s : Stop) (j : Bool) : Yg x [] s j = [[s]] := rfl
theorem Zch (x : Inst) (d : zg) (t : zv) (s : Stop) (j : Bool) : Yg x (d ++ [t]) s j = if j = true ∧ zF x (t ++ [s]) = 0 then d ++ [t ++ [s]] else (d ++ [t]) ++ [[s]] := by simp [Yg]
theorem Zci (x : Inst) (d : zg) (s : Stop) (j : Bool) : (Yg x d s j).flatten = d.flatten ++ [s] := by
 rcases Zcf d with rfl | ⟨d', t, rfl⟩
 ·simp [Zcg]
 ·rw [Zch]; split <;> simp
theorem Zjm (x : Inst) (d : zg) (s : Stop) (j : Bool) (h : ∀ t ∈ d, t ≠ []) : ∀ t ∈ Yg x d s j, t ≠ [] := by
 rcases Zcf d with rfl | ⟨d', t, rfl⟩
 ·simp [Zcg]
 ·rw [Zch]
  split
  ·intro u hu
   rcases List.mem_append.1 hu with hu | hu
   ·exact h u (by simp [hu])
   ·rw [List.mem_singleton.1 hu]; simp
  ·intro u hu
   rcases List.mem_append.1 hu with hu | hu
   ·exact h u hu
   ·rw [List.mem_singleton.1 hu]; simp
theorem Wx {α : Type} [Enc α] (h1 : Enc.sz α = 1) (l : List α) (k : Nat) (v : α) (h : k < l.length) : zX (l.flatMap Enc.enc) k (Enc.enc v) = (l.set k v).flatMap Enc.enc := by
 have e1 : (l.flatMap Enc.enc).take k = (l.take k).flatMap Enc.enc := by
  have := Za (α := α) Enc.enc (Enc.sz α) Enc.len l k; rwa [h1, Nat.mul_one] at this
 have e2 : (l.flatMap Enc.enc).drop (k + 1) = (l.drop (k + 1)).flatMap Enc.enc := by
  have := ZK (α := α) Enc.enc (Enc.sz α) Enc.len l (k + 1); rwa [h1, Nat.mul_one] at this
 rw [zX, Enc.len, h1, e1, e2, List.set_eq_take_append_cons_drop, if_pos h]
 simp
open Go Go.Proofs Hp
def RowOf (S : Store) (pl : PV) (l : List Int) : Prop := pl = L l ∨ ∃ id ver, pl = .sl id ver 1 0 l.length ∧ S id = .cells ver 3 (l.flatMap Enc.enc)
theorem RowOf.ext {S : Store} {pl : PV} {l : List Int} (h : RowOf S pl l) {nx : Nat} (hd : zR nx S) (obs : List Ob) : RowOf (ext S nx obs) pl l := by
 rcases h with h | ⟨id, ver, h1, h2⟩
 ·exact .inl h
 ·exact .inr ⟨id, ver, h1, (zE (yk hd h2 (by simp))).trans h2⟩
theorem Zcj {S : Store} {nx id ver : Nat} (hd : zR nx S) (x : Inst) (v p f pr : PV) (b : Int) (fn : FuncId) (fs : List PV) (n : Nat) (hn : x.days = n) (hn2 : n ≤ 1000) (hS : S id = .cells ver 89 (jo x v b p f pr)) (Pk : Nat → Store → Prop) (h0 : Pk 0 S)
  (hPd : ∀ k T, Pk k T → zR nx T) (hstep : ∀ k, k < n → ∀ T, Pk k T → Spec Tryz.prog fn (fs ++ [I k]) T (fun _ S' => Pk (k + 1) S')) :
  Spec Tryz.prog 64 [.ptr id ver 0, .fn (.func fn) fs []] S (fun _ S' => Pk n S') := by
 refine ud hd Tryz.func64 Tryz.ntmps64 Tryz.results64 ?_
 have hlt : id < nx := yk hd hS (by simp)
 have xw := fun obs => (zE (S := S) (obs := obs) hlt).trans hS
 repeat apply za
 refine ze [] (zm xw hn) ?_
 refine zj (qP (σ := Nat × Store) (fun s => s.1 ≤ n ∧ Pk s.1 s.2) (fun s => [(1, .fn (.func fn) fs []), (9, I n), (10, I s.1)]) (fun s => s.2) (fun _ => []) (fun s => n - s.1) (zS (0, S) [] ⟨by simp, h0⟩ (by simp) rfl (by simp)) ?_)
 rintro ⟨k, T⟩ ⟨hk, hP⟩
 simp only at hk hP ⊢
 repeat apply za
 refine zb ?_
 repeat apply za
 refine zt rfl (fun hc => ?_) (fun hc => ?_)
 ·simp at hc
  refine zi (za (zj ?_))
  repeat apply za
  refine zb ?_
  refine zQ [] (by rfl) (by rfl) fun K Gc Gh hK hGc hGh X hX0 hX => ?_
  simp -implicitDefEqProofs [hX0, hX]
  try clear hX0 hX X
  refine hGc _ _ _ _ _ _ _ fun hsuf => (Spec.mono (by rw [yV (hPd k T hP)]; simpa using hstep k hc T hP) ?_).v
  rintro _ T' hP'
  refine ⟨T', [], (yV (hPd _ _ hP')).symm, ?_⟩
  clear hGc hGh
  clear Gc Gh
  refine zP hsuf (D := []) (by rfl) fun Gc Gh hGc hGh X hX0 hX => ?_
  simp -implicitDefEqProofs [hX0, hX]
  clear hX0 hX X
  refine hK _ _ _ ?_
  clear hK hGc hGh
  clear K Gc Gh
  refine zb ?_
  exact zr (k + 1, T') [] ⟨hc, hP'⟩ (by simp; omega) (by simp [zx k (by omega)]) rfl (by simp)
 ·simp at hc
  obtain rfl : k = n := by omega
  refine zC ?_
  exact ⟨_, T, rfl, hP, zW (hPd _ _ hP)⟩
def ve (x : Inst) (j : Nat) : Int := W (zV x [(j : Int)])
def qy (x : Inst) (k i : Nat) : List (List Int) := (List.range x.cust.length).map fun j => List.replicate (if j < i then k + 1 else k) (ve x j)
theorem vK (x : Inst) (k i : Nat) : (qy x k i).length = x.cust.length := by simp [qy]
theorem Zck (x : Inst) (k i j : Nat) (h : j < x.cust.length) : (qy x k i).getD j [] = List.replicate (if j < i then k + 1 else k) (ve x j) := by
 rw [List.getD_eq_getElem?_getD]; simp [qy, h]
theorem Zjn (x : Inst) (k : Nat) : qy x k x.cust.length = qy x (k + 1) 0 := by
 unfold qy
 refine List.map_congr_left fun j hj => ?_
 rw [if_pos (List.mem_range.1 hj), if_neg (by omega)]
theorem Zjo (x : Inst) (k i : Nat) (h : i < x.cust.length) : (qy x k i).set i (List.replicate (k + 1) (ve x i)) = qy x k (i + 1) := by
 apply List.ext_getElem?
 intro j
 rw [List.getElem?_set, vK]
 by_cases hij : i = j
 ·subst hij; rw [if_pos rfl, if_pos h]; simp [qy, h]
 ·rw [if_neg hij]
  by_cases hj : j < x.cust.length
  ·simp only [qy, List.getElem?_map, List.getElem?_range hj, Option.map_some]
   congr 2
   by_cases h1 : j < i
   ·rw [if_pos h1, if_pos (by omega)]
   ·rw [if_neg h1, if_neg (by omega)]
  ·rw [List.getElem?_eq_none (by rw [vK]; omega), List.getElem?_eq_none (by rw [vK]; omega)]
theorem Zjp {S : Store} {id ver A va base : Nat} {ws : Nat → Nat} {x : Inst} {v p f : PV} {b : Int} (k : Nat) (hx : x.cust.length ≤ 1000) (hk : k ≤ 1000) (hid : id < base) (hidA : id ≠ A) (hS : S id = .cells ver 89 (jo x v b p f (.sl A va 1 0 x.cust.length)))
  (hR : RowsAt S A va 45 base 3 1 ws (qy x k 0)) :
  Spec Tryz.prog 65 [.ptr id ver 0, I k] S (fun _ S' => (∃ ws', RowsAt S' A va 45 base 3 1 ws' (qy x (k + 1) 0)) ∧ ∀ o, o ≠ A → (o < base ∨ base + x.cust.length ≤ o) → S' o = S o) := by
 refine yH Tryz.func65 Tryz.ntmps65 Tryz.results65 fun nx hd => ?_
 have hlt : id < nx := yk hd hS (by simp)
 have hltA : A < nx := yk hd hR.arr (by simp)
 have hltR : ∀ i, i < x.cust.length → base + i < nx := fun i hi => yk hd (hR.row i (by rw [vK]; exact hi)) (by simp)
 have xw := fun obs => (zE (S := S) (obs := obs) hlt).trans hS
 repeat apply za
 refine ze [] xw ?_
 refine zj (qP (σ := Nat × Store × (Nat → Nat)) (fun s => s.1 ≤ x.cust.length ∧ RowsAt s.2.1 A va 45 base 3 1 s.2.2 (qy x k s.1) ∧ ∀ o, o ≠ A → (o < base ∨ base + x.cust.length ≤ o) → s.2.1 o = S o)
  (fun s => [(0, .ptr id ver 0), (10, I x.cust.length), (11, I s.1)]) (fun s => s.2.1) (fun _ => []) (fun s => x.cust.length - s.1) (zS (0, S, ws) [] ⟨by simp, hR, fun _ _ _ => rfl⟩ (by simp) rfl (by simp)) ?_)
 clear hR
 rintro ⟨i, T, ws⟩ ⟨hi, hR, hT⟩
 simp only at hi hR hT ⊢
 repeat apply za
 refine zb ?_
 repeat apply za
 refine zt rfl (fun hc => ?_) (fun hc => ?_)
 ·simp at hc
  have hTw : T id = .cells ver 89 (jo x v b p f (.sl A va 1 0 x.cust.length)) := (hT id hidA (.inl hid)).trans hS
  have hAb := hR.out
  have hri := hR.row i (by rw [vK]; exact hc)
  rw [Zck x k i i hc, if_neg (Nat.lt_irrefl i)] at hri
  have hlti := hltR i hc
  have xw := fun obs => (zE (S := T) (obs := obs) hlt).trans hTw
  have xa := fun obs => (zE (S := T) (obs := obs) hltA).trans hR.arr
  have xr := fun obs => (zE (S := T) (obs := obs) hlti).trans hri
  have ya := fun (o : Ob) obs => (zE (S := T.set (base + i) o) (obs := obs) hltA).trans ((Store.set_other _ _ _ _ (by omega)).trans hR.arr)
  have yw := fun (o : Ob) obs => (zE (S := T.set (base + i) o) (obs := obs) hlt).trans ((Store.set_other _ _ _ _ (by omega)).trans hTw)
  have zw := fun (o o' : Ob) obs => (zE (S := (T.set (base + i) o).set A o') (obs := obs) hlt).trans ((Store.set_other _ _ _ _ hidA).trans ((Store.set_other _ _ _ _ (by omega)).trans hTw))
  have g1 : ¬ nx ≤ base + i := by omega
  have g2 : ¬ nx ≤ A := by omega
  obtain ⟨tl, hdr⟩ := Ww base 1 ws (qy x k i) i (by rw [vK]; exact hc)
  rw [Zck x k i i hc, if_neg (Nat.lt_irrefl i), List.length_replicate] at hdr
  have hcl : (xC base 1 ws (qy x k i)).length = x.cust.length := by rw [Yf, vK]
  have hsp := XH (xC base 1 ws (qy x k i)) i (.sl (base + i) (ws i + 1) 1 0 (k + 1)) (by omega)
  have hway := VX x [(i : Int)] (by simp) (fun c hc => by rw [List.mem_singleton.1 hc]; unfold small; omega)
  have hfe : ∀ m : Nat, ((List.replicate m (ve x i)).flatMap Enc.enc).length = m := fun m => by rw [jf]; simp [Enc.sz]
  refine zi (za (zj ?_))
  repeat apply za
  refine zb ?_
  refine zD (some [id]) (Row.pures [0, 1, 2, 3, 4, 5, 6, 7, 8, 9, 10, 12, 13, 14, 15, 16, 17, 18, 19] (.alt 11 (.alt 20 (Row.pures [21] (.alt 22 (.done) .stop)) .stop) .stop)) mixed (yg xw xa xr ya yw (zm (yg zw hdr g1 g2 hsp hcl) hc)) ?_
  refine zN (hway) (yg xw xa xr ya yw (zm (yg zw hdr g1 g2 hsp hcl) hc)) ?_
  refine ⟨by omega, by omega, ?_⟩
  obtain ⟨T', hT'⟩ : ∃ T', T' = (T.set (base + i) (.cells (ws i + 1) 3 ((List.replicate (k + 1) (ve x i)).flatMap Enc.enc))).set A (.cells va 45 ((xC base 1 ws (qy x k i)).set i (.sl (base + i) (ws i + 1) 1 0 (List.replicate (k + 1) (ve x i)).length))) := ⟨_, rfl⟩
  have hnew := hR.turn (i := i) (by rw [vK]; exact hc) (T' := T') (ws i + 1) (List.replicate (k + 1) (ve x i)) (by rw [hT']; exact Store.set_same _ _ _) (by rw [hT', Store.set_other _ _ _ _ (by omega), Store.set_same]) (fun o o1 o2 => by rw [hT', Store.set_other _ _ _ _ o1, Store.set_other _ _ _ _ o2])
  rw [Zjo x k i hc] at hnew
  refine zb ?_
  refine zr (i + 1, T', _) [] ⟨hc, hnew, fun o ho hob => ?_⟩ (by simp; omega) (by simp [zx i (by omega)]) ?_ (by simp)
  ·dsimp only; rw [hT', Store.set_other _ _ _ _ ho, Store.set_other _ _ _ _ (by omega)]; exact hT o ho hob
  ·dsimp only; rw [hT']
   have htk : ((List.replicate k (ve x i)).flatMap Enc.enc).take k = (List.replicate k (ve x i)).flatMap Enc.enc := List.take_of_length_le (by rw [hfe]; exact Nat.le_refl _)
   simp only [List.length_replicate, List.replicate_succ', List.flatMap_append]
   unfold ve at htk
   simp [ve, htk]
 ·simp at hc
  obtain rfl : i = x.cust.length := by omega
  rw [Zjn] at hR
  refine zC ?_
  have hdT : zR nx T := fun o ho => by
   have h1 : o ≠ A := by omega
   by_cases h2 : o < base ∨ base + x.cust.length ≤ o
   ·rw [hT o h1 h2]; exact hd o ho
   ·have := hltR (o - base) (by omega); omega
  exact ⟨_, T, rfl, ⟨⟨ws, hR⟩, hT⟩, zW hdT⟩
def vM (k : Nat) (l : List Int) : List Int := l.set k (W (W (2 * l.getD k 0) + 1))
def xD (pr : List (List Int)) (k i : Nat) : List (List Int) := (List.range pr.length).map fun j => if j < i then vM k (pr.getD j []) else pr.getD j []
def Yh (fs : List Int) (pr : List (List Int)) (k : Nat) : List (List Int) := if fs.getD k 0 = 14 then pr.map (vM k) else pr
def Yi (fs : List Int) (pr : List (List Int)) : Nat → List (List Int)
 | 0 => pr
 | k + 1 => Yh fs (Yi fs pr k) k
theorem Zcl (k : Nat) (l : List Int) : (vM k l).length = l.length := by simp [vM]
theorem uN (pr : List (List Int)) (k i : Nat) : (xD pr k i).length = pr.length := by simp [xD]
theorem Wy (pr : List (List Int)) (k i j : Nat) (h : j < pr.length) : (xD pr k i).getD j [] = if j < i then vM k (pr.getD j []) else pr.getD j [] := by
 rw [List.getD_eq_getElem?_getD, xD]; simp [h]
theorem Zjq (pr : List (List Int)) (k : Nat) : xD pr k 0 = pr := by
 apply List.ext_getElem?
 intro j
 simp only [xD, Nat.not_lt_zero, if_false, List.getElem?_map]
 by_cases h : j < pr.length
 ·rw [List.getElem?_range h]; simp [h]
 ·rw [List.getElem?_eq_none (by simp; omega), List.getElem?_eq_none (by omega)]; rfl
theorem Zjr (pr : List (List Int)) (k : Nat) : xD pr k pr.length = pr.map (vM k) := by
 apply List.ext_getElem?
 intro j
 simp only [xD, List.getElem?_map]
 by_cases h : j < pr.length
 ·rw [List.getElem?_range h]; simp [h]
 ·rw [List.getElem?_eq_none (by simp; omega), List.getElem?_eq_none (by omega)]; rfl
theorem Zjs (pr : List (List Int)) (k i : Nat) (h : i < pr.length) : (xD pr k i).set i (vM k (pr.getD i [])) = xD pr k (i + 1) := by
 apply List.ext_getElem?
 intro j
 rw [List.getElem?_set, uN]
 by_cases hij : i = j
 ·subst hij; rw [if_pos rfl, if_pos h]; simp [xD, h]
 ·rw [if_neg hij]
  by_cases hj : j < pr.length
  ·simp only [xD, List.getElem?_map, List.getElem?_range hj, Option.map_some]
   congr 1
   by_cases h1 : j < i
   ·rw [if_pos h1, if_pos (by omega)]
   ·rw [if_neg h1, if_neg (by omega)]
  ·rw [List.getElem?_eq_none (by rw [uN]; omega), List.getElem?_eq_none (by rw [uN]; omega)]
def wC (m n : Nat) (pr : List (List Int)) : Prop := pr.length = m ∧ ∀ l ∈ pr, l.length = n ∧ ∀ z ∈ l, yv z
theorem Wz (x : Int) : yv (W x) := by
 have key : ∀ m : Int, 0 ≤ m → m < 2 ^ 64 → yv (if (true && decide (m ≥ 2 ^ (64 - 1))) = true then m - 2 ^ 64 else m) := by
  intro m h1 h2
  unfold yv
  by_cases h : m ≥ 2 ^ (64 - 1)
  ·simp [h]; omega
  ·simp [h]; omega
 exact key _ (Int.emod_nonneg x (by decide)) (Int.emod_lt_of_pos x (by decide))
theorem Zjt {m n : Nat} {pr : List (List Int)} (fs : List Int) (k : Nat) (h : wC m n pr) : wC m n (Yh fs pr k) := by
 unfold Yh
 split
 ·refine ⟨by simp [h.1], fun l hl => ?_⟩
  obtain ⟨l', hl', rfl⟩ := List.mem_map.1 hl
  rw [Zcl]
  refine ⟨(h.2 l' hl').1, fun z hz => ?_⟩
  rcases List.mem_or_eq_of_mem_set hz with hz | rfl
  ·exact (h.2 l' hl').2 z hz
  ·exact Wz _
 ·exact h
theorem Qf {m n : Nat} {pr : List (List Int)} (fs : List Int) (h : wC m n pr) : ∀ k, wC m n (Yi fs pr k)
 | 0 => h
 | k + 1 => Zjt fs k (Qf fs h k)
theorem Zcm (x : Inst) (n : Nat) : wC x.cust.length n (qy x n 0) := by
 refine ⟨vK x n 0, fun l hl => ?_⟩
 obtain ⟨j, _, rfl⟩ := List.mem_map.1 hl
 refine ⟨by simp, fun z hz => ?_⟩
 rw [(List.mem_replicate.1 hz).2]; exact Wz _
theorem Zju {S : Store} {id ver A va base idF vF : Nat} {ws : Nat → Nat} {x : Inst} {v p : PV} {b : Int} {m n : Nat} {pr : List (List Int)} {fs : List Int} (k : Nat) (hm : m ≤ 1000) (hn : n ≤ 1000) (hkn : k < n) (hid : id < base) (hidA : id ≠ A) (hF : S idF = .cells vF 39 (fs.flatMap Enc.enc)) (hfl : fs.length = n)
  (hS : S id = .cells ver 89 (jo x v b p (.sl idF vF 1 0 fs.length) (.sl A va 1 0 m))) (hP : wC m n pr) (hR : RowsAt S A va 45 base 3 1 ws pr) :
  Spec Tryz.prog 69 [.ptr id ver 0, I k] S (fun _ S' => RowsAt S' A va 45 base 3 1 ws (Yh fs pr k) ∧ ∀ o, (o < base ∨ base + m ≤ o) → S' o = S o) := by
 obtain ⟨hPl, hPr⟩ := hP
 refine yH Tryz.func69 Tryz.ntmps69 Tryz.results69 fun nx hd => ?_
 have hlt : id < nx := yk hd hS (by simp)
 have hltF : idF < nx := yk hd hF (by simp)
 have hltA : A < nx := yk hd hR.arr (by simp)
 have hltR : ∀ i, i < m → base + i < nx := fun i hi => yk hd (hR.row i (by omega)) (by simp)
 have xw := fun obs => (zE (S := S) (obs := obs) hlt).trans hS
 have xf := fun obs => (zE (S := S) (obs := obs) hltF).trans hF
 obtain ⟨e, tl0, e1, -, -, e0⟩ := zI rfl fs k (by omega)
 have hkf : k < fs.length := by omega
 have hge : fs.getD k 0 = e := by rw [List.getD_eq_getElem?_getD, e1]; rfl
 repeat apply za
 refine ze [] (ye xw xf e0 hkf) ?_
 by_cases he : e = 14
 case neg =>
  refine zo (by simp [he]) ?_
  exact zh ⟨_, S, rfl, ⟨by unfold Yh; rw [hge, if_neg he]; exact hR, fun _ _ => rfl⟩, zW hd⟩
 refine zp (by simp [he]) ?_
 refine zi ?_
 repeat apply za
 refine ze [] xw ?_
 have hkill : ∀ T : Store, (∀ o, (o < base ∨ base + m ≤ o) → T o = S o) → zR nx T := fun T hT o ho => by
  by_cases h2 : o < base ∨ base + m ≤ o
  ·rw [hT o h2]; exact hd o ho
  ·have := hltR (o - base) (by omega); omega
 refine zj (qP (σ := Nat × Store) (fun s => s.1 ≤ m ∧ RowsAt s.2 A va 45 base 3 1 ws (xD pr k s.1) ∧ ∀ o, (o < base ∨ base + m ≤ o) → s.2 o = S o)
  (fun s => [(0, .ptr id ver 0), (1, I k), (17, I m), (18, I s.1)]) (fun s => s.2) (fun _ => []) (fun s => m - s.1) (zS (0, S) [] ⟨by simp, by simpa only [Zjq] using hR, fun _ _ => rfl⟩ (by simp) rfl (by simp)) ?_)
 have hAb0 := hR.out
 clear hR
 rintro ⟨i, T⟩ ⟨hi, hR, hT⟩
 simp only at hi hR hT ⊢
 repeat apply za
 refine zb ?_
 repeat apply za
 refine zt rfl (fun hc => ?_) (fun hc => ?_)
 ·simp at hc
  have hil : i < pr.length := by omega
  have hTw : T id = .cells ver 89 (jo x v b p (.sl idF vF 1 0 fs.length) (.sl A va 1 0 m)) := (hT id (.inl hid)).trans hS
  have hri := hR.row i (by rw [uN]; exact hil)
  rw [Wy pr k i i hil, if_neg (Nat.lt_irrefl i)] at hri
  obtain ⟨tl, hdr⟩ := Ww base 1 ws (xD pr k i) i (by rw [uN]; exact hil)
  rw [Wy pr k i i hil, if_neg (Nat.lt_irrefl i)] at hdr
  have hcl : (xC base 1 ws (xD pr k i)).length = m := by rw [Yf, uN, hPl]
  have hgl : (pr.getD i []).length = n := by
   rw [List.getD_eq_getElem?_getD, List.getElem?_eq_getElem hil]; exact (hPr _ (List.getElem_mem hil)).1
  generalize hrow : pr.getD i [] = row at hri hdr hgl
  obtain ⟨z, tl2, z1, -, -, z0⟩ := zI rfl row k (by omega)
  have hgz : row.getD k 0 = z := by rw [List.getD_eq_getElem?_getD, z1]; rfl
  have hkr : k < row.length := by omega
  have hlti := hltR i hc
  have xw := fun obs => (zE (S := T) (obs := obs) hlt).trans hTw
  have xa := fun obs => (zE (S := T) (obs := obs) hltA).trans hR.arr
  have xr := fun obs => (zE (S := T) (obs := obs) hlti).trans hri
  have yw := fun (o : Ob) obs => (zE (S := T.set (base + i) o) (obs := obs) hlt).trans ((Store.set_other _ _ _ _ (by omega)).trans hTw)
  have ya := fun (o : Ob) obs => (zE (S := T.set (base + i) o) (obs := obs) hltA).trans ((Store.set_other _ _ _ _ (by omega)).trans hR.arr)
  have g1 : ¬ nx ≤ base + i := by omega
  have hsp := Wx (α := Int) rfl row k (W (W (2 * z) + 1)) hkr
  have hsp' : zX (row.flatMap Enc.enc) k [I (W (W (2 * z) + 1))] = (row.set k (W (W (2 * z) + 1))).flatMap Enc.enc := by simpa using hsp
  have hrl : (row.flatMap Enc.enc).length = n := by rw [jf, hgl]; simp [Enc.sz]
  refine zi (za (zj ?_))
  repeat apply za
  refine zb ?_
  refine zD (some [id, A]) (Row.pures [0, 1, 2, 3, 4, 5, 6, 7, 8, 9, 10, 11, 12, 13, 15] (.alt 14 (Row.pures [16] (.alt 17 (Row.pures [18, 19, 20] (.alt 21 (.done) .stop)) .stop)) .stop)) mixed (yg xw xa xr yw ya (zm (yg hdr g1 hcl hc z0 hkr) (ye hsp' hrl hgl hkn))) ?_
  refine ⟨by omega, ?_⟩
  obtain ⟨T', hT'⟩ : ∃ T', T' = T.set (base + i) (.cells (ws i) 3 ((vM k row).flatMap Enc.enc)) := ⟨_, rfl⟩
  have hnew := hR.turn (i := i) (by rw [uN]; exact hil) (T' := T') (ws i) (vM k row) (by
   rw [hT', Store.set_other _ _ _ _ (by omega), hR.arr]
   congr 1
   refine (List.ext_getElem? fun j => ?_).symm
   rw [List.getElem?_set]
   split
   ·rename_i hij
    subst hij
    rw [if_pos (by omega), Qe _ _ _ _ _ (by rw [uN]; exact hil), Wy pr k i i hil, if_neg (Nat.lt_irrefl i), hrow, Zcl]
   ·rfl) (by rw [hT']; exact Store.set_same _ _ _) (fun o o1 o2 => by rw [hT']; exact Store.set_other _ _ _ _ o2)
  have hws : (fun k => if k = i then ws i else ws k) = ws := by funext j; split <;> simp_all
  rw [hws, ← hrow, Zjs pr k i hil] at hnew
  refine zb ?_
  refine zr (i + 1, T') [] ⟨hc, hnew, fun o hob => ?_⟩ (by simp; omega) (by simp [zx i (by omega)]) ?_ (by simp)
  ·dsimp only; rw [hT', Store.set_other _ _ _ _ (by omega)]; exact hT o hob
  ·dsimp only; rw [hT']
   simp only [vM, hgz]
 ·simp at hc
  obtain rfl : i = m := by omega
  rw [← hPl, Zjr] at hR
  refine zC ?_
  exact ⟨_, T, rfl, ⟨by unfold Yh; rw [hge, if_pos he]; exact hR, hT⟩, zW (hkill T hT)⟩
def vN (e : Int) : Bool := decide (e ≠ 0) && decide (e ≠ 14)
theorem Zjv (e : Int) : Pure Tryz.prog 68 [I e] (B (vN e)) := by
 unfold vN
 refine zy Tryz.func68 Tryz.ntmps68 Tryz.results68 fun S nx hd => ?_
 repeat apply za
 refine zb ?_
 by_cases h1 : e = 0
 ·repeat apply za
  refine ze [(2, 5)] (zm h1 zL) ?_
  exact zh (zk hd rfl (by simp [zn, h1]))
 ·by_cases h2 : e = 14
  ·repeat apply za
   refine ze [(2, 5)] (zJ h1 h2 zL) ?_
   exact zh (zk hd rfl (by simp [zn, h2]))
  ·repeat apply za
   refine ze [(2, 5)] (zJ h1 h2 zL) ?_
   exact zh (zk hd rfl (by simp [zn, h1, h2]))
theorem Zjw {S : Store} {idF vF : Nat} (fs : List Int) (hF : S idF = .cells vF 39 (fs.flatMap Enc.enc)) (hl : fs.length ≤ 1000) :
  Spec Tryz.prog 112 [.sl idF vF 1 0 fs.length, .fn (.func 68) [] []] S (fun q S' => (∃ z : Int, q = I z ∧ (fs.any vN = decide (0 ≤ z))) ∧ S' = S) := by
 refine yH Tryz.func112 Tryz.ntmps112 Tryz.results112 fun nx hd => ?_
 have hltF : idF < nx := yk hd hF (by simp)
 have xf := fun obs => (zE (S := S) (obs := obs) hltF).trans hF
 repeat apply za
 refine zb ?_
 repeat apply za
 refine zb ?_
 refine zj (zM (fun k : Nat => k ≤ fs.length ∧ ∀ e ∈ fs.take k, vN e = false) (fun k => [(0, .sl idF vF 1 0 fs.length), (1, .fn (.func 68) [] []), (7, I fs.length), (8, I k)]) (fun _ => []) (fun k => fs.length - k) 0 [] (by simp) (by simp) (by simp) ?_)
 rintro k ⟨hk, h0⟩
 repeat apply za
 refine zb ?_
 repeat apply za
 refine zt rfl (fun hc => ?_) (fun hc => ?_)
 ·simp at hc
  obtain ⟨e, tl, a1, a2, a3, e0⟩ := zI rfl fs k hc
  refine zi (za (zj ?_))
  repeat apply za
  refine zb ?_
  repeat apply za
  refine ze [] (zJ xf e0 hc) ?_
  refine zB (Zjv e) ?_
  cases hb : vN e with
  | true =>
   refine zo rfl ?_
   repeat apply za
   refine zb ?_
   exact zh ⟨_, S, rfl, ⟨⟨k, by simp [zn], by rw [List.any_eq_true.2 ⟨e, List.mem_of_getElem? a1, hb⟩]; simp⟩, rfl⟩, zW hd⟩
  | false =>
   refine zp rfl ?_
   refine zi ?_
   refine zb ?_
   exact zr (k + 1) [] ⟨hc, fun y hy => by rw [a3] at hy; rcases List.mem_append.1 hy with h | h; exact h0 y h; rw [List.mem_singleton.1 h]; exact hb⟩ (by omega) (by simp [zx k (by omega)]) rfl (by simp)
 ·simp at hc
  obtain rfl : k = fs.length := by omega
  rw [List.take_length] at h0
  refine zC ?_
  repeat apply za
  refine zb ?_
  exact zh ⟨_, S, rfl, ⟨⟨-1, by simp [zn], by rw [List.any_eq_false.2 fun e he => by rw [h0 e he]; simp]; rfl⟩, rfl⟩, zW hd⟩
theorem Zjx {S : Store} {idF vF : Nat} (fs : List Int) (hF : S idF = .cells vF 39 (fs.flatMap Enc.enc)) (hl : fs.length ≤ 1000) :
  Spec Tryz.prog 67 [.sl idF vF 1 0 fs.length, .fn (.func 68) [] []] S (fun q S' => q = B (fs.any vN) ∧ S' = S) := by
 refine yH Tryz.func67 Tryz.ntmps67 Tryz.results67 fun nx hd => ?_
 have hltF : idF < nx := yk hd hF (by simp)
 repeat apply za
 refine zb ?_
 repeat apply za
 refine zQ [] (by rfl) (by rfl) fun K Gc Gh hK hGc hGh X hX0 hX => ?_
 simp -implicitDefEqProofs [hX0, hX]
 try clear hX0 hX X
 refine hGc _ _ _ _ _ _ _ fun hsuf => ((Zjw fs ((zE hltF).trans hF) hl).mono ?_).v
 rintro _ _ ⟨⟨z, rfl, hz⟩, rfl⟩
 refine ⟨_, _, rfl, ?_⟩
 clear hGc hGh
 clear Gc Gh
 refine zP hsuf (D := []) (by rfl) fun Gc Gh hGc hGh X hX0 hX => ?_
 simp -implicitDefEqProofs [hX0, hX]
 clear hX0 hX X
 refine hK _ _ _ ?_
 clear hK hGc hGh
 clear K Gc Gh
 exact zh ⟨_, S, rfl, ⟨by simp [zn, hz], rfl⟩, zW hd⟩
def wd (x : Inst) (sol : Cust → List Int → List Visit × Bool) (pr : List (List Int)) (k : Nat) : List (List Visit × Bool) := (List.range k).map fun i => sol (x.cust.getD i default) (pr.getD i [])
def yK (x : Inst) (sol : Cust → List Int → List Visit × Bool) (pr : List (List Int)) : List (List Visit) × Int := if (wd x sol pr x.cust.length).all (·.2) = true then ((wd x sol pr x.cust.length).map (·.1), 0) else ([], 15)
theorem Zjy (x : Inst) (sol : Cust → List Int → List Visit × Bool) (pr : List (List Int)) (k : Nat) : wd x sol pr (k + 1) = wd x sol pr k ++ [sol (x.cust.getD k default) (pr.getD k [])] := by simp [wd, List.range_succ]
theorem Zcn (x : Inst) (sol : Cust → List Int → List Visit × Bool) (pr : List (List Int)) {k m : Nat} (h : k < m) : sol (x.cust.getD k default) (pr.getD k []) ∈ wd x sol pr m := List.mem_map.2 ⟨k, List.mem_range.2 h, rfl⟩
def WA (x : Inst) (n : Nat) (sol : Cust → List Int → List Visit × Bool) : Prop :=
 ∀ c ∈ x.cust, ∀ (l : List Int), l.length = n → (∀ z ∈ l, yv z) → ∀ (S : Store) (pl : PV), RowOf S pl l → Spec Tryz.prog 111 [.agg (yd c), I x.days, I x.cap, pl] S (fun q S' => q = .tup [L (sol c l).1, B (sol c l).2] ∧ S' = S)
theorem Zjz {S : Store} {A va base : Nat} {ws : Nat → Nat} {x : Inst} {n : Nat} {pr : List (List Int)} {sol : Cust → List Int → List Visit × Bool} (hx : x.cust.length ≤ 1000) (hP : wC x.cust.length n pr) (hR : RowsAt S A va 45 base 3 1 ws pr) (hs : WA x n sol) :
  Spec Tryz.prog 66 [.agg (zA x), .sl A va 1 0 x.cust.length] S (fun q S' => q = .tup [L (yK x sol pr).1, I (yK x sol pr).2] ∧ S' = S) := by
 obtain ⟨hPl, hPr⟩ := hP
 refine yH Tryz.func66 Tryz.ntmps66 Tryz.results66 fun nx hd => ?_
 have hltA : A < nx := yk hd hR.arr (by simp)
 have xa := fun obs => (zE (S := S) (obs := obs) hltA).trans hR.arr
 repeat apply za
 refine zb ?_
 intro v0
 repeat apply za
 refine zb ?_
 refine za (jB 6 26 1 rfl fun v1 => ?_)
 repeat apply za
 refine zb ?_
 refine zj (zM (fun s : Nat × List (List Visit) × Nat => s.1 ≤ x.cust.length ∧ s.2.1 = (wd x sol pr s.1).map (·.1) ∧ (wd x sol pr s.1).all (·.2) = true) (fun (i, out, w) => [(1, .sl A va 1 0 x.cust.length), (2, .ptr nx v0 0), (4, .sc (.slice none 0 0)), (6, .sl (nx + 1) w 1 0 out.length), (13, L x.cust), (14, I x.cust.length), (15, I i)]) (fun (i, out, w) => [.cells v0 25 (zA x), .cells w 26 (out.flatMap Enc.enc)]) (fun s => x.cust.length - s.1) (0, [], v1) [] (by simp [wd]) (by simp) (by simp) ?_)
 rintro ⟨i, out, w⟩ ⟨hi, ho, hall⟩
 simp only at hi ho hall ⊢
 have hol : out.length = i := by rw [ho]; simp [wd]
 repeat apply za
 refine zb ?_
 repeat apply za
 refine zt rfl (fun hc => ?_) (fun hc => ?_)
 ·simp at hc
  obtain ⟨c, tl, a1, a2, a3, e1, e0⟩ := el 8 rfl x.cust i hc
  have hcm := List.mem_of_getElem? a1
  have hgc : x.cust.getD i default = c := by rw [List.getD_eq_getElem?_getD, a1]; rfl
  have hil : i < pr.length := by omega
  obtain ⟨tl2, hdr⟩ := Ww base 1 ws pr i hil
  obtain ⟨hgl, hgi⟩ : (pr.getD i []).length = n ∧ ∀ z ∈ pr.getD i [], yv z := by
   rw [List.getD_eq_getElem?_getD, List.getElem?_eq_getElem hil]; exact hPr _ (List.getElem_mem hil)
  have hrow : RowOf S (.sl (base + i) (ws i) 1 0 (pr.getD i []).length) (pr.getD i []) := .inr ⟨_, _, rfl, hR.row i hil⟩
  have hsol := hs c hcm (pr.getD i []) hgl hgi
  have hch := Zjy x sol pr i
  have hcm2 := Zcn x sol pr (k := i) hc
  rw [hgc] at hch hcm2
  generalize pr.getD i [] = row at hdr hgl hgi hrow hsol hch hcm2
  generalize hr : sol c row = r at hsol hch hcm2
  obtain ⟨vv, ok⟩ := r
  simp only at hsol hch
  refine zi (za (zj ?_))
  repeat apply za
  refine ze [] (zm e0 hc) ?_
  intro v2
  repeat apply za
  refine zb ?_
  repeat apply za
  refine zb ?_
  refine zo (by simp [hc]) ?_
  refine ze [] (zJ xa hdr hc) ?_
  repeat apply za
  refine zQ [] (by rfl) (by rfl) fun K Gc Gh hK hGc hGh X hX0 hX => ?_
  simp -implicitDefEqProofs [hX0, hX]
  try clear hX0 hX X
  refine hGc _ _ _ _ _ _ _ fun hsuf => ((hsol _ _ (hrow.ext hd _)).mono ?_).v
  rintro _ _ ⟨rfl, rfl⟩
  refine ⟨_, _, rfl, ?_⟩
  clear hGc hGh
  clear Gc Gh
  refine zP hsuf (D := []) (by rfl) fun Gc Gh hGc hGh X hX0 hX => ?_
  simp -implicitDefEqProofs [hX0, hX]
  clear hX0 hX X
  refine hK _ _ _ ?_
  clear hK hGc hGh
  clear K Gc Gh
  repeat apply za
  refine zb ?_
  cases ok with
  | false =>
   have hno : yK x sol pr = ([], 15) := by
    unfold yK
    rw [if_neg]
    intro q
    have := List.all_eq_true.1 q _ hcm2
    cases this
   rw [hno]
   refine zo rfl ?_
   repeat apply za
   refine zb ?_
   refine ux 4 rfl ?_
   exact zh ⟨_, S, rfl, ⟨by simp [zn], rfl⟩, zW hd⟩
  | true =>
   refine zp rfl ?_
   refine zi ?_
   refine zb ?_
   refine ⟨by omega, ?_⟩
   refine zb ?_
   exact zr (i + 1, out ++ [vv], w + 1) [_] ⟨hc, by rw [hch, List.map_append, ho]; rfl, by rw [hch, List.all_append, hall]; rfl⟩ (by simp; omega) (by simp [zx i (by omega)]) rfl (by simp; rfl)
 ·simp at hc
  obtain rfl : i = x.cust.length := by omega
  have hyes : yK x sol pr = (out, 0) := by unfold yK; rw [if_pos hall, ← ho]
  rw [hyes]
  refine zC ?_
  refine yc 1 rfl ?_
  repeat apply za
  refine zb ?_
  exact zh ⟨_, S, (by simp; rfl), ⟨by simp [zn], rfl⟩, zW hd⟩
open Go
def Yj (x : Inst) (p : zu) (i : Nat) : Int :=
 match x.cust[i]? with
 | none => 0
 | some c => if c.kind = 2 then Zv c (qu c (yy (qt i (told 0 p)) x.days)).1 else 0
def we (x : Inst) (p : zu) (k : Nat) : Int := ((List.range k).map (Yj x p)).sum
theorem ZjA (x : Inst) (p : zu) (k : Nat) : we x p (k + 1) = we x p k + Yj x p k := by simp [we, List.range_succ]
theorem Zco (c : Cust) (q : List Int) (hq : q.length ≤ 1048576) : (qu c q).1.length ≤ 1048576 := by
 unfold qu
 split
 ·simp
 ·cases h : yE c.size c.rate c.start q with
  | none => simp
  | some l => simp [ZiV h]; exact hq
theorem Jx (v : List Visit) (n : Int) : (yy v n).length ≤ 1048576 := by rw [Zb0]; omega
theorem ZjB (x : Inst) (p : zu) (h : Serves x p) (hx : x.cust.length ≤ 1048576) (hf : ∀ c ∈ x.cust, CustFits c) : Pure Tryz.prog 122 [.agg (zA x), .agg [L p]] (I (W (we x p x.cust.length))) := by
 refine zy Tryz.func122 Tryz.ntmps122 Tryz.results122 fun S nx hd => ?_
 repeat apply za
 refine zb ?_
 intro v0 v1
 repeat apply za
 refine zb ?_
 repeat apply za
 refine zb ?_
 refine zj (zM (fun s : Nat => s ≤ x.cust.length) (fun k => [(2, .ptr nx v0 0), (3, .ptr (nx + 1) v1 0), (5, I (W (we x p k))), (11, L x.cust), (12, I x.cust.length), (13, I k)]) (fun _ => [.cells v0 25 (zA x), .cells v1 38 [L p]]) (fun s => x.cust.length - s) 0 [] (by simp) (by simp [we]) (by simp) ?_)
 rintro k hk
 repeat apply za
 refine zb ?_
 repeat apply za
 refine zt rfl (fun hc => ?_) (fun hc => ?_)
 ·simp at hc
  obtain ⟨c, tl, a1, a2, a3, _, e0⟩ := el 8 rfl x.cust k hc
  have hfc := hf c (List.mem_of_getElem? a1)
  have hs := ZjA x p k
  refine zi (za (zj ?_))
  repeat apply za
  refine ze [] (zm hc e0) ?_
  intro v2
  repeat apply za
  refine zb ?_
  by_cases hk2 : c.kind = 2
  ·have hb := Zi2 x p k h
   have hn := Wq c (yy (qt k (told 0 p)) x.days) hfc (Jx _ _)
   have hh := Wr c (qu c (yy (qt k (told 0 p)) x.days)).1 (Zco _ _ (Jx _ _))
   have hC : Yj x p k = Zv c (qu c (yy (qt k (told 0 p)) x.days)).1 := by simp only [Yj, a1, if_pos hk2]
   rw [hC] at hs
   generalize Zv c (qu c (yy (qt k (told 0 p)) x.days)).1 = z at *
   generalize qu c (yy (qt k (told 0 p)) x.days) = ne at *
   generalize yy (qt k (told 0 p)) x.days = q at *
   obtain ⟨ns, er⟩ := ne
   simp only at hn hh
   refine zo (by simp [hk2]) ?_
   repeat apply za
   refine zD (some [nx, nx + 1, nx + 2]) (Row.pures [0, 1, 2, 3, 4, 5, 6, 7, 8, 9, 10, 11] .done) mixed trivial ?_
   refine zN (hb) trivial ?_
   refine zN (hn) trivial ?_
   refine zb ?_
   refine zB hh ?_
   have hw : W (W (we x p k) + z) = W (we x p (k + 1)) := by rw [hs, wQ]
   refine zb ?_
   exact zr (k + 1) [_] hc (by omega) (by simp [zx k (by omega)]; exact hw) rfl rfl
  ·have hC : Yj x p k = 0 := by simp only [Yj, a1, if_neg hk2]
   rw [hC, Int.add_zero] at hs
   refine zp (by simp [hk2]) ?_
   refine zi ?_
   refine zb ?_
   exact zr (k + 1) [_] hc (by omega) (by simp [zx k (by omega), hs]) rfl rfl
 ·simp at hc
  obtain rfl : k = x.cust.length := by omega
  refine zC ?_
  repeat apply za
  refine zb ?_
  exact zh (zk hd (by simp; rfl) rfl)
def xP (x : Inst) (p : zu) : List Int := p.map fun d => W (zZ x d)
theorem ZjC (x : Inst) (p : zu) (hp : p.length ≤ 1048576) (hd' : ∀ d ∈ p, DayOk d) (S : Store) (nx : Nat) (hd : zR nx S) :
  Spec Tryz.prog 123 [.agg (zA x), .agg [L p]] S (fun q S' => ∃ v, q = .sl (nx + 2) v 1 0 p.length ∧ S' = S.set (nx + 2) (.cells v 3 ((xP x p).flatMap Enc.enc))) := by
 refine ud hd Tryz.func123 Tryz.ntmps123 Tryz.results123 ?_
 repeat apply za
 refine zb ?_
 intro v0 v1
 repeat apply za
 refine zb ?_
 refine za (jB 5 3 1 rfl fun v2 => ?_)
 repeat apply za
 refine zb ?_
 refine zj (zM (fun s : Nat × List Int × Nat => s.1 ≤ p.length ∧ s.2.1 = xP x (p.take s.1)) (fun (k, out, v2) => [(2, .ptr nx v0 0), (3, .ptr (nx + 1) v1 0), (5, .sl (nx + 2) v2 1 0 out.length), (9, L p), (10, I p.length), (11, I k)]) (fun (k, out, v2) => [.cells v0 25 (zA x), .cells v1 38 [L p], .cells v2 3 (out.flatMap Enc.enc)]) (fun s => p.length - s.1) (0, [], v2) [] (by simp [xP]) (by simp) (by simp) ?_)
 rintro ⟨k, out, v2⟩ ⟨hk, ho⟩
 simp only at hk ho ⊢
 have hol : out.length = k := by rw [ho]; simp [xP]; omega
 repeat apply za
 refine zb ?_
 repeat apply za
 refine zt rfl (fun hc => ?_) (fun hc => ?_)
 ·simp at hc
  obtain ⟨d, tl, a1, a2, a3, e0⟩ := zI rfl p k hc
  refine zi (za (zj ?_))
  repeat apply za
  refine ze [] (zm hc e0) ?_
  intro v3
  refine zb ?_
  refine zB (Z0 x d (hd' d (List.mem_of_getElem? a1))) ?_
  refine ⟨by omega, ?_⟩
  refine zb ?_
  exact zr (k + 1, out ++ [W (zZ x d)], v2 + 1) [_] ⟨hc, by rw [a3, ho]; simp [xP]⟩ (by simp; omega) (by simp [zx k (by omega)]) rfl (by simp; rfl)
 ·simp at hc
  obtain rfl : k = p.length := by omega
  rw [List.take_length] at ho
  refine zC ?_
  repeat apply za
  refine zb ?_
  refine zh ⟨_, _, rfl, ⟨v2, by simp [zn, hol], rfl⟩, YK (j := 2) hd (by simp [ho])⟩
theorem ZjD (x : Inst) (p : zu) (hp : p.length ≤ 1048576) (hd' : ∀ d ∈ p, DayOk d) : Pure Tryz.prog 123 [.agg (zA x), .agg [L p]] (L (xP x p)) := by
 have hl : (xP x p).length = p.length := by simp [xP]
 have := Xc 2 (fun S nx hd => ZjC x p hp hd' S nx hd) (by rw [qQ, hl]; omega)
 rw [← hl] at this
 exact this
def qz (x : Inst) (p : zu) : Int := W (we x p x.cust.length + (p.map (zZ x)).sum)
theorem ZjE (a : Int) (l : List Int) : W (a + (l.map W).sum) = W (a + l.sum) := by
 induction l generalizing a with
 | nil => rfl
 | cons b l ih =>
  simp only [List.map_cons, List.sum_cons]
  have e1 : a + (W b + (l.map W).sum) = (a + W b) + (l.map W).sum := by omega
  rw [e1, ih, show a + W b + l.sum = (a + l.sum) + W b by omega, Xb, show a + l.sum + b = a + (b + l.sum) by omega]
theorem ZjF (x : Inst) (p : zu) : W (W (we x p x.cust.length) + (xP x p).sum) = qz x p := by
 have : xP x p = (p.map (zZ x)).map W := by simp [xP]
 rw [this, wQ, ZjE, qz]
theorem ZjG (x : Inst) (p : zu) (h : Serves x p) (hx : x.cust.length ≤ 1048576) (hf : ∀ c ∈ x.cust, CustFits c) (hd' : ∀ d ∈ p, DayOk d) : Pure Tryz.prog 84 [.agg (zA x), .agg [L p]] (I (qz x p)) := by
 have hres := ZjF x p
 have hl : (xP x p).length = p.length := by simp [xP]
 have hpn := h.sz.n
 have hdy := ZjD x p hpn hd'
 rw [← hres]
 generalize xP x p = ds at hl hdy
 refine zy Tryz.func84 Tryz.ntmps84 Tryz.results84 fun S nx hd => ?_
 repeat apply za
 refine zb ?_
 intro v0 v1
 repeat apply za
 refine zb ?_
 refine zB (ZjB x p h hx hf) ?_
 repeat apply za
 refine zb ?_
 refine zB hdy ?_
 refine zj (zM (fun s : Nat => s ≤ ds.length) (fun k => [(5, I (W (W (we x p x.cust.length) + (ds.take k).sum))), (13, L ds), (14, I ds.length), (15, I k)]) (fun _ => []) (fun s => ds.length - s) 0 [_, _] (by simp) (by simp [W_W]) rfl ?_)
 rintro k hk
 repeat apply za
 refine zb ?_
 repeat apply za
 refine zt rfl (fun hc => ?_) (fun hc => ?_)
 ·simp at hc
  obtain ⟨z, tl, a1, a2, a3, e0⟩ := zI rfl ds k hc
  have hw : W (W (W (we x p x.cust.length) + (ds.take k).sum) + z) = W (W (we x p x.cust.length) + (ds.take (k + 1)).sum) := by rw [a3, ZbY, wQ]; congr 1; omega
  refine zi (za (zj ?_))
  repeat apply za
  refine ze [] (zm hc e0) ?_
  refine zb ?_
  refine zb ?_
  exact zr (k + 1) [] hc (by omega) (by simp [zx k (by omega)]; exact hw) rfl (by simp)
 ·simp at hc
  obtain rfl : k = ds.length := by omega
  rw [List.take_length]
  refine zC ?_
  repeat apply za
  refine zb ?_
  exact zh (zk hd (by simp; rfl) rfl)
open Go
def Yk (p : zu) : Nat := (p.map fun d => d.flatten.length).sum
theorem Zcp : ∀ (p : zu) (i : Nat), (told i p).length = Yk p
 | [], _ => rfl
 | d :: p, i => by
  have := Zcp p (i + 1)
  simp only [told, List.length_append, List.length_map, Yk, List.map_cons, List.sum_cons] at this ⊢; omega
structure MadeP (m : Nat) (n : Nat) (p : zu) : Prop where
 len : p.length = n
 ne : ∀ d ∈ p, ∀ t ∈ d, t ≠ []
 ok : ∀ d ∈ p, ∀ s ∈ d.flatten, (0 ≤ s.c ∧ s.c < m) ∧ 1 ≤ s.q ∧ s.q ≤ 2147483648
 nd : ∀ d ∈ p, (d.flatten.map (·.c)).Nodup
theorem Zcq : ∀ (d : zg), (∀ t ∈ d, t ≠ []) → d.length ≤ d.flatten.length
 | [], _ => by simp
 | t :: d, h => by
  have h1 := Zcq d fun u hu => h u (by simp [hu])
  have h2 := List.length_pos_iff.2 (h t (by simp))
  simp only [List.flatten_cons, List.length_cons, List.length_append]; omega
theorem Jy : ∀ (d : zg) (t : zv), t ∈ d → t.length ≤ d.flatten.length
 | [], _, h => by cases h
 | u :: d, t, h => by
  simp only [List.flatten_cons, List.length_append]
  rcases List.mem_cons.1 h with rfl | h
  ·omega
  ·have := Jy d t h; omega
theorem MadeP.set {m n : Nat} {p : zu} (h : MadeP m n p) {k : Nat} {d : zg} (hd : p[k]? = some d) (x : Inst) (s : Stop) (j : Bool) (hs : (0 ≤ s.c ∧ s.c < m) ∧ 1 ≤ s.q ∧ s.q ≤ 2147483648) (hno : ∀ u ∈ d.flatten, u.c ≠ s.c) : MadeP m n (p.set k (Yg x d s j)) := by
 have hdm := List.mem_of_getElem? hd
 refine ⟨by simp [h.len], fun e he t ht => ?_, fun e he u hu => ?_, fun e he => ?_⟩
 ·rcases List.mem_or_eq_of_mem_set he with he | rfl
  ·exact h.ne e he t ht
  ·exact Zjm x d s j (h.ne d hdm) t ht
 ·rcases List.mem_or_eq_of_mem_set he with he | rfl
  ·exact h.ok e he u hu
  ·rw [Zci] at hu
   rcases List.mem_append.1 hu with hu | hu
   ·exact h.ok d hdm u hu
   ·rw [List.mem_singleton.1 hu]; exact hs
 ·rcases List.mem_or_eq_of_mem_set he with he | rfl
  ·exact h.nd e he
  ·rw [Zci, List.map_append]
   exact Q8 _ _ (h.nd d hdm) (fun hm => by obtain ⟨u, hu, e⟩ := List.mem_map.1 hm; exact hno u hu e)
open Go
def lx : Inst := ⟨1, 1, 9, 9, [], [[0]]⟩
def ly : Inst := ⟨1, 1, 9, 9, [⟨1, 1, [1], 0, 0, 0, 0, 0⟩], [[0, 3], [4, 0]]⟩
def lp : zu := [[]]
open Go
theorem WB {p a k : Nat} {d : Int} (h : d ∈ yA p a k) : ∃ i : Nat, d = i ∧ i < k ∧ jt p i = 1 := by
 simp only [yA, List.mem_map, List.mem_filter, List.mem_range, Bool.and_eq_true, decide_eq_true_eq] at h
 obtain ⟨i, ⟨h1, _, h3⟩, rfl⟩ := h
 exact ⟨i, rfl, h1, h3⟩
theorem ZjH {d : zg} {t : zv} (ht : t ∈ d) {s : Stop} (hs : s ∈ t) : s ∈ d.flatten := List.mem_flatten.2 ⟨t, ht, hs⟩
theorem Zcr {m : Nat} : ∀ (l : List Int), l.Nodup → (∀ c ∈ l, 0 ≤ c ∧ c < m) → l.length ≤ m := by
 intro l hn hl
 have h1 : (l.map Int.toNat).Nodup := by
  refine List.Pairwise.map _ ?_ (List.Pairwise.and_mem.1 hn)
  rintro a b ⟨ha, hb, hab⟩ e
  have := hl a ha; have := hl b hb
  exact hab (by omega)
 have h2 : ∀ c ∈ l.map Int.toNat, c ∈ List.range m := by
  intro c hc
  obtain ⟨z, hz, rfl⟩ := List.mem_map.1 hc
  have := hl z hz
  exact List.mem_range.2 (by omega)
 have := h1.length_le_of_subset h2
 simpa using this
open Go Go.Proofs Hp
theorem WC (p : Nat) (hp : p < 2 ^ 64) : Pure Tryz.prog 233 [U p] (L (yA p 0 64)) := by
 have h := ZiZ p 0 hp (by decide)
 refine zy Tryz.func233 Tryz.ntmps233 Tryz.results233 fun S nx hd => ?_
 repeat apply za
 refine zb ?_
 repeat apply za
 refine zb ?_
 refine zB h ?_
 exact zh (zk hd rfl rfl)
theorem ZjI (c : Cust) (p : Nat) (hp : p < 2 ^ 64) : Pure Tryz.prog 188 [.agg (yd c), U p] (L (vJ c p)) := by
 have hall := WC p hp
 have hln := Qd p 0 64
 unfold vJ
 generalize yA p 0 64 = l at hall hln
 refine zy Tryz.func188 Tryz.ntmps188 Tryz.results188 fun S nx hd => ?_
 repeat apply za
 refine zb ?_
 intro v0
 repeat apply za
 refine zb ?_
 refine za (jB 5 85 2 rfl fun v1 => ?_)
 repeat apply za
 refine zb ?_
 refine zB hall ?_
 refine zj (zM (fun s : Nat × List Visit × Nat => s.1 ≤ l.length ∧ s.2.1 = (l.take s.1).map fun d => ⟨d, c.demand⟩) (fun (k, out, v1) => [(2, .ptr nx v0 0), (5, .sl (nx + 1) v1 2 0 out.length), (9, L l), (10, I l.length), (11, I k)]) (fun (k, out, v1) => [.cells v0 65 (yd c), .cells v1 85 (out.flatMap Enc.enc)]) (fun s => l.length - s.1) (0, [], v1) [] (by simp) (by simp) (by simp) ?_)
 rintro ⟨k, out, v1⟩ ⟨hk, ho⟩
 simp only at hk ho ⊢
 have hol : out.length = k := by rw [ho]; simp; omega
 repeat apply za
 refine zb ?_
 repeat apply za
 refine zt rfl (fun hc => ?_) (fun hc => ?_)
 ·simp at hc
  obtain ⟨d, tl, a1, a2, a3, e0⟩ := zI rfl l k hc
  refine zi (za (zj ?_))
  repeat apply za
  refine ze [] (zm e0 hc) ?_
  refine zb ?_
  refine ⟨by omega, ?_⟩
  refine zb ?_
  exact zr (k + 1, out ++ [⟨d, c.demand⟩], v1 + 1) [] ⟨hc, by rw [a3, ho]; simp⟩ (by simp; omega) (by simp [zx k (by omega)]) rfl (by simp)
 ·simp at hc
  obtain rfl : k = l.length := by omega
  rw [List.take_length] at ho
  refine zC ?_
  refine yc 1 rfl ?_
  repeat apply za
  refine zb ?_
  exact zh (zk hd (by simp; rfl) (by simp [zn, ho]))
def xE (price : List Int) (ds : List Int) : Int := ds.foldl (fun (s d : Int) => if d < price.length then w9 s (price.getD d.toNat 0) else s) 0
def Qg (price : List Int) (p : Nat) : Int := xE price (yA p 0 64)
def qj (price : List Int) (l : List Nat) : Nat → Int × Int
 | 0 => (-1, 0)
 | k + 1 => if (qj price l k).1 < 0 ∨ Qg price (l.getD k 0) < (qj price l k).2 then (k, Qg price (l.getD k 0)) else qj price l k
theorem WD (price : List Int) (l : List Nat) : ∀ k : Nat, (qj price l k).1 < k ∧ -1 ≤ (qj price l k).1 ∧ (0 < k → 0 ≤ (qj price l k).1)
 | 0 => by simp [qj]
 | k + 1 => by
  have := WD price l k
  unfold qj
  split
  ·dsimp only; omega
  ·rename_i h; omega
theorem ZjJ (a b : Int) (ha : yv a) (hb : yv b) : yv (w9 a b) := by
 unfold yv w9 at *
 split
 ·omega
 ·split <;> omega
theorem ZjK (price ds : List Int) (d : Int) : xE price (ds ++ [d]) = if d < price.length then w9 (xE price ds) (price.getD d.toNat 0) else xE price ds := by simp [xE]
theorem ZjL (price : List Int) (hp : ∀ z ∈ price, yv z) (ds : List Int) : yv (xE price ds) := by
 unfold xE
 have : ∀ (ds : List Int) (s : Int), yv s → yv (ds.foldl (fun (s d : Int) => if d < price.length then w9 s (price.getD d.toNat 0) else s) s) := by
  intro ds
  induction ds with
  | nil => intro s h; exact h
  | cons d ds ih =>
   intro s h
   rw [List.foldl_cons]
   apply ih
   split
   ·refine ZjJ _ _ h ?_
    rw [List.getD_eq_getElem?_getD]
    cases hq : price[d.toNat]? with
    | none => unfold yv; simp
    | some z => exact hp z (List.mem_of_getElem? hq)
   ·exact h
 exact this ds 0 (by unfold yv; omega)
theorem ZjM {S : Store} {pl : PV} {price : List Int} (l : List Nat) (hR : RowOf S pl price) (hp : ∀ z ∈ price, yv z) (hpl : price.length ≤ 1000) (hl : l.length ≤ 1000) (h64 : ∀ p ∈ l, p < 2 ^ 64) :
  Spec Tryz.prog 187 [L l, pl] S (fun q S' => q = .tup [I (qj price l l.length).1, I (qj price l l.length).2] ∧ S' = S) := by
 refine yH Tryz.func187 Tryz.ntmps187 Tryz.results187 fun nx hd => ?_
 repeat apply za
 refine zb ?_
 repeat apply za
 refine zb ?_
 repeat apply za
 refine zb ?_
 refine zj (zM (fun k : Nat => k ≤ l.length) (fun k => [(1, pl), (6, I (qj price l k).1), (7, I (qj price l k).2), (13, L l), (14, I l.length), (15, I k)]) (fun _ => []) (fun k => l.length - k) 0 [] (by simp) (by simp [qj]) (by simp) ?_)
 rintro k hk
 have hb : qj price l (k + 1) = if (qj price l k).1 < 0 ∨ Qg price (l.getD k 0) < (qj price l k).2 then (↑k, Qg price (l.getD k 0)) else qj price l k := rfl
 generalize hst : qj price l k = st at hb ⊢
 obtain ⟨place, least⟩ := st
 simp only at hb ⊢
 repeat apply za
 refine zb ?_
 repeat apply za
 refine zt rfl (fun hc => ?_) (fun hc => ?_)
 ·simp at hc
  obtain ⟨p, tl, a1, a2, a3, e0⟩ := zI rfl l k hc
  have hall := WC p (h64 p (List.mem_of_getElem? a1))
  have hgp : l.getD k 0 = p := by rw [List.getD_eq_getElem?_getD, a1]; rfl
  rw [hgp] at hb
  have hds : ∀ d ∈ yA p 0 64, ∃ i : Nat, d = i := fun d hd => by obtain ⟨i, h, _⟩ := WB hd; exact ⟨i, h⟩
  have hdl := Qd p 0 64
  rw [show Qg price p = xE price (yA p 0 64) from rfl] at hb
  generalize yA p 0 64 = ds at hall hds hdl hb
  refine zi (za (zj ?_))
  repeat apply za
  refine ze [] (zm e0 hc) ?_
  repeat apply za
  refine zb ?_
  repeat apply za
  refine zb ?_
  refine zB hall ?_
  refine zj (zM (fun j : Nat => j ≤ ds.length) (fun j => [(1, pl), (6, I place), (7, I least), (8, I k), (10, I (xE price (ds.take j))), (13, L l), (14, I l.length), (15, I k), (21, L ds), (22, I ds.length), (23, I j)]) (fun _ => []) (fun j => ds.length - j) 0 [] (by simp) (by simp [xE]) (by simp) ?_)
  rintro j hj
  repeat apply za
  refine zb ?_
  repeat apply za
  refine zt rfl (fun hc2 => ?_) (fun hc2 => ?_)
  ·simp at hc2
   obtain ⟨d, tl2, b1, b2, b3, f0⟩ := zI rfl ds j hc2
   obtain ⟨i, rfl⟩ := hds d (List.mem_of_getElem? b1)
   have hsn := ZjK price (ds.take j) (i : Int)
   rw [← b3, Int.toNat_natCast] at hsn
   have hsi := ZjL price hp (ds.take j)
   refine zi (za (zj ?_))
   repeat apply za
   refine ze [] (zm f0 hc2) ?_
   by_cases hi : i < price.length
   ·obtain ⟨z, tl3, c1, -, -, g0⟩ := zI rfl price i hi
    have hgz : price.getD i 0 = z := by rw [List.getD_eq_getElem?_getD, c1]; rfl
    rw [if_pos (by omega), hgz] at hsn
    have hsat := ZbZ (xE price (ds.take j)) z hsi (hp z (List.mem_of_getElem? c1))
    rw [← hsn] at hsat
    rcases hR with rfl | ⟨id, ver, rfl, hS⟩
    ·repeat apply za
     refine ze [] hi ?_
     refine zo rfl ?_
     refine ze [] (zm g0 hi) ?_
     refine zB hsat ?_
     refine zb ?_
     exact zr (j + 1) [] hc2 (by omega) (by simp [zx j (by omega)]) rfl (by simp)
    ·have hlt : id < nx := yk hd hS (by simp)
     have xr := fun obs => (zE (S := S) (obs := obs) hlt).trans hS
     repeat apply za
     refine ze [] hi ?_
     refine zo rfl ?_
     refine ze [] (zJ xr g0 hi) ?_
     refine zB hsat ?_
     refine zb ?_
     exact zr (j + 1) [] hc2 (by omega) (by simp [zx j (by omega)]) rfl (by simp)
   ·rw [if_neg (by omega)] at hsn
    rcases hR with rfl | ⟨id, ver, rfl, hS⟩
    ·repeat apply za
     refine ze [] hi ?_
     refine zp rfl ?_
     refine zi ?_
     refine zb ?_
     exact zr (j + 1) [] hc2 (by omega) (by simp [zx j (by omega), hsn]) rfl (by simp)
    ·repeat apply za
     refine ze [] hi ?_
     refine zp rfl ?_
     refine zi ?_
     refine zb ?_
     exact zr (j + 1) [] hc2 (by omega) (by simp [zx j (by omega), hsn]) rfl (by simp)
  ·simp at hc2
   obtain rfl : j = ds.length := by omega
   rw [List.take_length]
   refine zC ?_
   repeat apply za
   refine qK (nx := nx) (σ := Bool) (fun t => t = decide (place < 0 ∨ xE price ds < least)) (fun t => [(1, pl), (6, I place), (7, I least), (8, I k), (10, I (xE price ds)), (13, L l), (14, I l.length), (15, I k), (44, B t)]) (fun _ => S) (fun _ => []) ?_ ?_
   ·by_cases h1 : place < 0
    ·repeat apply za
     refine ze [(2, 40)] (zm h1 zL) ?_
     exact zS true [] (by simp [h1]) (by simp) rfl (by simp)
    ·repeat apply za
     refine ze [(2, 40)] h1 ?_
     exact zS (decide (xE price ds < least)) [] (by simp [h1]) (by simp) rfl (by simp)
   rintro t rfl
   by_cases h : place < 0 ∨ xE price ds < least
   ·rw [decide_eq_true h]
    rw [if_pos h] at hb
    refine zo rfl ?_
    refine zb ?_
    refine zb ?_
    exact zr (k + 1) [] hc (by omega) (by simp [zx k (by omega), hb]) rfl (by simp)
   ·rw [decide_eq_false h]
    rw [if_neg h] at hb
    refine zp rfl ?_
    refine zi ?_
    refine zb ?_
    exact zr (k + 1) [] hc (by omega) (by simp [zx k (by omega), hb]) rfl (by simp)
 ·simp at hc
  obtain rfl : k = l.length := by omega
  refine zC ?_
  repeat apply za
  refine zb ?_
  exact zh ⟨_, S, rfl, ⟨by simp [zn, hst], rfl⟩, zW hd⟩
def jp (c : Cust) (cap : Int) : List Nat := c.pats.filter fun p => decide (p = 0) || decide (c.demand ≤ cap)
theorem ZjN (c : Cust) (cap : Int) (hl : c.pats.length ≤ 1000) : Pure Tryz.prog 186 [.agg (yd c), I cap] (L (jp c cap)) := by
 unfold jp
 refine zy Tryz.func186 Tryz.ntmps186 Tryz.results186 fun S nx hd => ?_
 repeat apply za
 refine zb ?_
 intro v0
 repeat apply za
 refine zb ?_
 refine za (jB 5 93 1 rfl fun v1 => ?_)
 repeat apply za
 refine zb ?_
 refine zj (zM (fun s : Nat × List Nat × Nat => s.1 ≤ c.pats.length ∧ s.2.1 = (c.pats.take s.1).filter (fun p => decide (p = 0) || decide (c.demand ≤ cap)) ∧ s.2.1.length ≤ s.1) (fun (k, out, w) => [(1, I cap), (2, .ptr nx v0 0), (5, .sl (nx + 1) w 1 0 out.length), (9, L c.pats), (10, I c.pats.length), (11, I k)]) (fun (k, out, w) => [.cells v0 65 (yd c), .cells w 93 (out.flatMap Enc.enc)]) (fun s => c.pats.length - s.1) (0, [], v1) [] (by simp) (by simp) (by simp) ?_)
 rintro ⟨k, out, w⟩ ⟨hk, ho, hol⟩
 simp only at hk ho hol ⊢
 repeat apply za
 refine zb ?_
 repeat apply za
 refine zt rfl (fun hc => ?_) (fun hc => ?_)
 ·simp at hc
  obtain ⟨p, tl, a1, a2, a3, e0⟩ := zI rfl c.pats k hc
  refine zi (za (zj ?_))
  repeat apply za
  refine ze [] (zm e0 hc) ?_
  repeat apply za
  refine qK (nx := nx) (σ := Bool × Nat) (fun s => s.1 = (decide (p = 0) || decide (c.demand ≤ cap))) (fun (t, w) => [(1, I cap), (2, .ptr nx v0 0), (5, .sl (nx + 1) w 1 0 out.length), (7, U p), (9, L c.pats), (10, I c.pats.length), (11, I k), (22, B t)]) (fun _ => S) (fun (t, w) => [.cells v0 65 (yd c), .cells w 93 (out.flatMap Enc.enc)]) ?_ ?_
  ·by_cases h1 : p = 0
   ·repeat apply za
    refine ze [(2, 17)] (zm h1 zL) ?_
    exact zS (true, w) [] (by simp [h1]) (by simp [h1]) rfl (by simp)
   ·repeat apply za
    refine ze [(2, 17)] h1 ?_
    exact zS (decide (c.demand ≤ cap), w) [] (by simp [h1]) (by simp) rfl (by simp)
  rintro ⟨t, w⟩ ht
  simp only at ht ⊢
  subst ht
  have hstep : (c.pats.take (k + 1)).filter (fun p => decide (p = 0) || decide (c.demand ≤ cap)) = out ++ (if (decide (p = 0) || decide (c.demand ≤ cap)) = true then [p] else []) := by
   rw [a3, List.filter_append, ho]
   congr 1
   simp only [List.filter_cons, List.filter_nil]
  cases ht : (decide (p = 0) || decide (c.demand ≤ cap)) with
  | true =>
   rw [ht, if_pos rfl] at hstep
   refine zo rfl ?_
   refine zb ?_
   refine ⟨by omega, ?_⟩
   refine zb ?_
   exact zr (k + 1, out ++ [p], w + 1) [] ⟨hc, hstep.symm, by simp; omega⟩ (by simp; omega) (by simp [zx k (by omega)]) rfl (by simp)
  | false =>
   rw [ht, if_neg (by decide), List.append_nil] at hstep
   refine zp rfl ?_
   refine zi ?_
   refine zb ?_
   exact zr (k + 1, out, w) [] ⟨hc, hstep.symm, by dsimp only; omega⟩ (by simp; omega) (by simp [zx k (by omega)]) rfl (by simp)
 ·simp at hc
  obtain rfl : k = c.pats.length := by omega
  rw [List.take_length] at ho
  refine zC ?_
  refine yc 1 rfl ?_
  repeat apply za
  refine zb ?_
  exact zh (zk hd (by simp; rfl) (by simp [zn, ho]))
def wD (c : Cust) (cap : Int) (price : List Int) : List Visit × Bool :=
 if (qj price (jp c cap) (jp c cap).length).1 < 0 then ([], false) else (vJ c ((jp c cap).getD (qj price (jp c cap) (jp c cap).length).1.toNat 0), true)
theorem ZjO {S : Store} {pl : PV} {price : List Int} (c : Cust) (cap : Int) (hR : RowOf S pl price) (hp : ∀ z ∈ price, yv z) (hpl : price.length ≤ 1000) (hl : c.pats.length ≤ 1000) (h64 : ∀ p ∈ c.pats, p < 2 ^ 64) :
  Spec Tryz.prog 151 [.agg (yd c), I cap, pl] S (fun q S' => q = .tup [L (wD c cap price).1, B (wD c cap price).2] ∧ S' = S) := by
 have hca := ZjN c cap hl
 have hsub : ∀ p ∈ jp c cap, p < 2 ^ 64 := fun p hp => h64 p (List.mem_filter.1 hp).1
 have hcl : (jp c cap).length ≤ 1000 := Nat.le_trans (List.length_filter_le _ _) hl
 unfold wD
 generalize jp c cap = l at *
 have hb := fun S (hR : RowOf S pl price) => ZjM l hR hp hpl hcl hsub
 obtain ⟨b1, b2, b3⟩ := WD price l l.length
 generalize qj price l l.length = r at *
 obtain ⟨place, least⟩ := r
 simp only at hb b1 b2 b3 ⊢
 refine yH Tryz.func151 Tryz.ntmps151 Tryz.results151 fun nx hd => ?_
 repeat apply za
 refine zb ?_
 intro v0
 repeat apply za
 refine zb ?_
 refine zB hca ?_
 repeat apply za
 refine zQ [] (by rfl) (by rfl) fun K Gc Gh hK hGc hGh X hX0 hX => ?_
 simp -implicitDefEqProofs [hX0, hX]
 try clear hX0 hX X
 refine hGc _ _ _ _ _ _ _ fun hsuf => ((hb _ (hR.ext hd _)).mono ?_).v
 rintro _ _ ⟨rfl, rfl⟩
 refine ⟨_, _, rfl, ?_⟩
 clear hGc hGh
 clear Gc Gh
 refine zP hsuf (D := []) (by rfl) fun Gc Gh hGc hGh X hX0 hX => ?_
 simp -implicitDefEqProofs [hX0, hX]
 clear hX0 hX X
 refine hK _ _ _ ?_
 clear hK hGc hGh
 clear K Gc Gh
 repeat apply za
 refine zb ?_
 by_cases h : place < 0
 ·rw [if_pos h]
  refine zo (by simp [h]) ?_
  repeat apply za
  refine zb ?_
  refine ux 6 rfl ?_
  exact zh ⟨_, S, rfl, ⟨by simp [zn], rfl⟩, zW hd⟩
 ·rw [if_neg h]
  obtain ⟨i, rfl⟩ := Int.eq_ofNat_of_zero_le (show 0 ≤ place by omega)
  have hil : i < l.length := by omega
  obtain ⟨p, tl, a1, a2, a3, e0⟩ := zI rfl l i hil
  have hgp : l.getD (i : Int).toNat 0 = p := by rw [Int.toNat_natCast, List.getD_eq_getElem?_getD, a1]; rfl
  rw [hgp]
  have hon := ZjI c p (hsub p (List.mem_of_getElem? a1))
  refine zp (by simp) ?_
  refine zi ?_
  repeat apply za
  refine zD (some [nx]) (Row.pures [0, 1, 2, 3, 4, 5, 6, 7] .done) mixed (zm e0 hil) ?_
  refine zN (hon) (zm e0 hil) ?_
  exact zh ⟨_, S, (by simp; rfl), ⟨by simp [zn], rfl⟩, zW hd⟩
theorem ZjP {S : Store} {pl : PV} {price : List Int} (c : Cust) (n cap : Int) (hk : c.kind = 1) (hR : RowOf S pl price) (hp : ∀ z ∈ price, yv z) (hpl : price.length ≤ 1000) (hl : c.pats.length ≤ 1000) (h64 : ∀ p ∈ c.pats, p < 2 ^ 64) :
  Spec Tryz.prog 111 [.agg (yd c), I n, I cap, pl] S (fun q S' => q = .tup [L (wD c cap price).1, B (wD c cap price).2] ∧ S' = S) := by
 have hs := fun S (hR : RowOf S pl price) => ZjO c cap hR hp hpl hl h64
 generalize wD c cap price = r at *
 obtain ⟨v, ok⟩ := r
 simp only at hs ⊢
 refine yH Tryz.func111 Tryz.ntmps111 Tryz.results111 fun nx hd => ?_
 repeat apply za
 refine zb ?_
 intro v0
 repeat apply za
 refine zj ?_
 repeat apply za
 refine ze [] hk ?_
 refine zo rfl ?_
 repeat apply za
 refine zQ [] (by rfl) (by rfl) fun K Gc Gh hK hGc hGh X hX0 hX => ?_
 simp -implicitDefEqProofs [hX0, hX]
 try clear hX0 hX X
 refine hGc _ _ _ _ _ _ _ fun hsuf => ((hs _ (hR.ext hd _)).mono ?_).v
 rintro _ _ ⟨rfl, rfl⟩
 refine ⟨_, _, rfl, ?_⟩
 clear hGc hGh
 clear Gc Gh
 refine zP hsuf (D := []) (by rfl) fun Gc Gh hGc hGh X hX0 hX => ?_
 simp -implicitDefEqProofs [hX0, hX]
 clear hX0 hX X
 refine hK _ _ _ ?_
 clear hK hGc hGh
 clear K Gc Gh
 exact zh ⟨_, S, (by simp; rfl), ⟨by simp [zn], rfl⟩, zW hd⟩
open Go Go.Proofs Hp
def xl (c : Cust) (there cap : Int) : Int := if c.size - there < 1 ∨ cap < 0 then 0 else if c.size - there ≤ cap then c.size - there else if c.rule = 1 then 0 else cap
theorem Zcs {c : Cust} {there cap : Int} (hc : 0 ≤ c.size ∧ c.size ≤ 2147483648) (ht : 0 ≤ there) : 0 ≤ xl c there cap ∧ xl c there cap ≤ 2147483648 := by
 unfold xl
 split
 ·omega
 ·split
  ·omega
  ·split <;> omega
theorem WE (c : Cust) (there cap : Int) (hc : 0 ≤ c.size ∧ c.size ≤ 2147483648) (ht : -4611686018427387904 ≤ there ∧ there ≤ 4611686018427387904) : Pure Tryz.prog 190 [.agg (yd c), I there, I cap] (I (xl c there cap)) := by
 have w1 : IntKind.i64.wrap (c.size - there) = c.size - there := wr _ (by omega) (by omega)
 unfold xl
 generalize hf : c.size - there = f at w1 ⊢
 refine zy Tryz.func190 Tryz.ntmps190 Tryz.results190 fun S nx hd => ?_
 repeat apply za
 refine zb ?_
 intro v0
 repeat apply za
 refine ze [] (zm hf w1) ?_
 repeat apply za
 refine zj ?_
 by_cases h : f < 1 ∨ cap < 0
 ·rw [if_pos h]
  by_cases h1 : f < 1
  ·repeat apply za
   refine ze [(2, 15)] (zm h1 zL) ?_
   refine zo rfl ?_
   repeat apply za
   refine zb ?_
   exact zh (zk hd rfl rfl)
  ·have h2 : cap < 0 := by omega
   repeat apply za
   refine ze [(2, 15)] (zm h1 h2) ?_
   refine zo rfl ?_
   repeat apply za
   refine zb ?_
   exact zh (zk hd rfl rfl)
 ·rw [if_neg h]
  have h1 : ¬ f < 1 := by omega
  have h2 : ¬ cap < 0 := by omega
  repeat apply za
  refine ze [(2, 15)] (zm h1 h2) ?_
  refine zp rfl ?_
  repeat apply za
  refine zb ?_
  by_cases h3 : f ≤ cap
  ·rw [if_pos h3]
   refine zo (by simp [h3]) ?_
   repeat apply za
   refine zb ?_
   exact zh (zk hd rfl rfl)
  ·rw [if_neg h3]
   refine zp (by simp; omega) ?_
   repeat apply za
   refine zb ?_
   by_cases h4 : c.rule = 1
   ·rw [if_pos h4]
    refine zo (by simp [h4]) ?_
    repeat apply za
    refine zb ?_
    exact zh (zk hd rfl rfl)
   ·rw [if_neg h4]
    refine zp (by simp [h4]) ?_
    refine zi ?_
    repeat apply za
    refine zb ?_
    exact zh (zk hd rfl rfl)
def Yl (price : List Int) (d : Int) : Int := if d < 0 ∨ (price.length : Int) ≤ d then 0 else price.getD d.toNat 0
theorem Zct {S : Store} {pl : PV} {price : List Int} (d : Int) (hR : RowOf S pl price) :
  Spec Tryz.prog 191 [pl, I d] S (fun q S' => q = I (Yl price d) ∧ S' = S) := by
 unfold Yl
 rcases hR with rfl | ⟨id, ver, rfl, hS⟩
 ·refine yH Tryz.func191 Tryz.ntmps191 Tryz.results191 fun nx hd => ?_
  repeat apply za
  refine zb ?_
  by_cases h : d < 0
  ·rw [if_pos (.inl h)]
   repeat apply za
   refine ze [(2, 7)] (zm h zL) ?_
   refine zo rfl ?_
   repeat apply za
   refine zb ?_
   exact zh ⟨_, S, rfl, ⟨by simp [zn], rfl⟩, zW hd⟩
  by_cases h2 : (price.length : Int) ≤ d
  ·rw [if_pos (.inr h2)]
   repeat apply za
   refine ze [(2, 7)] (zm h h2) ?_
   refine zo rfl ?_
   repeat apply za
   refine zb ?_
   exact zh ⟨_, S, rfl, ⟨by simp [zn], rfl⟩, zW hd⟩
  rw [if_neg (by omega)]
  obtain ⟨i, rfl⟩ := Int.eq_ofNat_of_zero_le (show 0 ≤ d by omega)
  have hi : i < price.length := by omega
  obtain ⟨z, tl, a1, -, -, e0⟩ := zI rfl price i hi
  have hg : price.getD (i : Int).toNat 0 = z := by rw [Int.toNat_natCast, List.getD_eq_getElem?_getD, a1]; rfl
  rw [hg]
  have h2' : ¬ price.length ≤ i := by omega
  repeat apply za
  refine ze [(2, 7)] (zJ h h2 h2') ?_
  refine zp rfl ?_
  refine zi ?_
  repeat apply za
  refine ze [] (zm e0 hi) ?_
  exact zh ⟨_, S, rfl, ⟨by simp [zn], rfl⟩, zW hd⟩
 ·refine yH Tryz.func191 Tryz.ntmps191 Tryz.results191 fun nx hd => ?_
  have hlt : id < nx := yk hd hS (by simp)
  have xr := fun obs => (zE (S := S) (obs := obs) hlt).trans hS
  repeat apply za
  refine zb ?_
  by_cases h : d < 0
  ·rw [if_pos (.inl h)]
   repeat apply za
   refine ze [(2, 7)] (zm h zL) ?_
   refine zo rfl ?_
   repeat apply za
   refine zb ?_
   exact zh ⟨_, S, rfl, ⟨by simp [zn], rfl⟩, zW hd⟩
  by_cases h2 : (price.length : Int) ≤ d
  ·rw [if_pos (.inr h2)]
   repeat apply za
   refine ze [(2, 7)] (zm h h2) ?_
   refine zo rfl ?_
   repeat apply za
   refine zb ?_
   exact zh ⟨_, S, rfl, ⟨by simp [zn], rfl⟩, zW hd⟩
  rw [if_neg (by omega)]
  obtain ⟨i, rfl⟩ := Int.eq_ofNat_of_zero_le (show 0 ≤ d by omega)
  have hi : i < price.length := by omega
  obtain ⟨z, tl, a1, -, -, e0⟩ := zI rfl price i hi
  have hg : price.getD (i : Int).toNat 0 = z := by rw [Int.toNat_natCast, List.getD_eq_getElem?_getD, a1]; rfl
  rw [hg]
  have h2' : ¬ price.length ≤ i := by omega
  repeat apply za
  refine ze [(2, 7)] (zJ h h2 h2') ?_
  refine zp rfl ?_
  refine zi ?_
  repeat apply za
  refine ze [] (zJ xr e0 hi) ?_
  exact zh ⟨_, S, rfl, ⟨by simp [zn], rfl⟩, zW hd⟩
theorem Zcu : ∀ (l m : List Int) (i : Nat), yB i (l ++ m) = yB i l ++ yB (i + l.length) m
 | [], m, i => by simp [yB]
 | z :: l, m, i => by
  have ih := Zcu l m (i + 1)
  simp only [List.cons_append, yB, List.length_cons, ih, show i + 1 + l.length = i + (l.length + 1) from by omega]
  split <;> simp
theorem Zcv (q : List Int) (hq : q.length ≤ 1048576) : Pure Tryz.prog 195 [L q] (L (yB 0 q)) := by
 refine zy Tryz.func195 Tryz.ntmps195 Tryz.results195 fun S nx hd => ?_
 repeat apply za
 refine zb ?_
 repeat apply za
 refine zb ?_
 refine za (jB 3 85 2 rfl fun v1 => ?_)
 repeat apply za
 refine zb ?_
 refine zj (zM (fun s : Nat × List Visit × Nat => s.1 ≤ q.length ∧ s.2.1 = yB 0 (q.take s.1)) (fun (k, out, w) => [(3, .sl nx w 2 0 out.length), (6, L q), (7, I q.length), (8, I k)]) (fun (k, out, w) => [.cells w 85 (out.flatMap Enc.enc)]) (fun s => q.length - s.1) (0, [], v1) [] (by simp [yB]) (by simp) (by simp) ?_)
 rintro ⟨k, out, w⟩ ⟨hk, ho⟩
 simp only at hk ho ⊢
 have hol : out.length ≤ k := by rw [ho]; exact Nat.le_trans (Jv _ _) (by simp; omega)
 repeat apply za
 refine zb ?_
 repeat apply za
 refine zt rfl (fun hc => ?_) (fun hc => ?_)
 ·simp at hc
  obtain ⟨z, tl, a1, a2, a3, e0⟩ := zI rfl q k hc
  have hst : yB 0 (q.take (k + 1)) = out ++ (if 0 < z then [⟨k, z⟩] else []) := by
   rw [a3, Zcu, ← ho, List.length_take, Nat.min_eq_left hk]
   simp only [yB, Nat.zero_add]
  refine zi (za (zj ?_))
  repeat apply za
  refine ze [] (zm e0 hc) ?_
  repeat apply za
  refine zb ?_
  by_cases h : 0 < z
  ·rw [if_pos h] at hst
   refine zo (by simp [h]) ?_
   refine zb ?_
   refine ⟨by omega, ?_⟩
   refine zb ?_
   exact zr (k + 1, out ++ [⟨k, z⟩], w + 1) [] ⟨hc, hst.symm⟩ (by simp; omega) (by simp [zx k (by omega)]) rfl (by simp)
  ·rw [if_neg h, List.append_nil] at hst
   refine zp (by simp; omega) ?_
   refine zi ?_
   refine zb ?_
   exact zr (k + 1, out, w) [] ⟨hc, hst.symm⟩ (by simp; omega) (by simp [zx k (by omega)]) rfl (by simp)
 ·simp at hc
  obtain rfl : k = q.length := by omega
  rw [List.take_length] at ho
  refine zC ?_
  refine yc 0 rfl ?_
  repeat apply za
  refine zb ?_
  exact zh (zk hd (by simp; rfl) (by simp [zn, ho]))
def yL (c : Cust) (f : Int → Int) : Nat → List Int × Int
 | 0 => ([], c.start)
 | k + 1 => ((yL c f k).1 ++ [f (yL c f k).2], (yL c f k).2 + (f (yL c f k).2 - c.rate))
def uO (c : Cust) (cap : Int) (t : Int) : Int := xl c (max t 0) cap
def un (c : Cust) (cap : Int) (t : Int) : Int := if c.rate ≤ t then 0 else xl c (max t 0) cap
theorem Ym (c : Cust) (f : Int → Int) : ∀ k, (yL c f k).1.length = k
 | 0 => rfl
 | k + 1 => by simp [yL, Ym c f k]
theorem WF {c : Cust} (hc : CustFits c) (cap t : Int) : 0 ≤ uO c cap t ∧ uO c cap t ≤ 2147483648 := Zcs hc.size (by omega)
theorem WG {c : Cust} (hc : CustFits c) (cap t : Int) : 0 ≤ un c cap t ∧ un c cap t ≤ 2147483648 := by
 unfold un
 split
 ·omega
 ·exact Zcs hc.size (by omega)
theorem Yn {c : Cust} (hc : CustFits c) {f : Int → Int} (hf : ∀ t, 0 ≤ f t ∧ f t ≤ 2147483648) : ∀ k : Nat, (-4294967296 * ((k : Int) + 1) ≤ (yL c f k).2 ∧ (yL c f k).2 ≤ 4294967296 * ((k : Int) + 1)) ∧ Qs (yL c f k).1
 | 0 => by
  have := hc.start
  refine ⟨by simp only [yL]; omega, by intro z hz; cases hz⟩
 | k + 1 => by
  obtain ⟨h1, h2⟩ := Yn hc hf k
  have h3 := hf (yL c f k).2
  have h4 := hc.rate
  refine ⟨by simp only [yL]; push_cast; omega, fun z hz => ?_⟩
  simp only [yL] at hz
  rcases List.mem_append.1 hz with hz | hz
  ·exact h2 z hz
  ·rw [List.mem_singleton.1 hz]; exact h3
theorem ZjQ (c : Cust) (cap t : Int) (hc : CustFits c) (ht : -4611686018427387904 ≤ t ∧ t ≤ 4611686018427387904) : Pure Tryz.prog 237 [I t, .ip (yd c), .ip [I cap]] (I (uO c cap t)) := by
 have hm : jW t 0 = max t 0 := by unfold jW; split <;> omega
 have hmo := WE c (max t 0) cap hc.size (by omega)
 unfold uO
 generalize max t 0 = m at hm hmo ⊢
 generalize xl c m cap = z at hmo ⊢
 refine zy Tryz.func237 Tryz.ntmps237 Tryz.results237 fun S nx hd => ?_
 repeat apply za
 refine zb ?_
 repeat apply za
 refine ze [] hm ?_
 refine jg [] hmo hm ?_
 exact zh (zk hd rfl rfl)
theorem ZjR (c : Cust) (cap t : Int) (hc : CustFits c) (ht : -4611686018427387904 ≤ t ∧ t ≤ 4611686018427387904) : Pure Tryz.prog 238 [I t, .ip (yd c), .ip [I cap]] (I (un c cap t)) := by
 have hm : jW t 0 = max t 0 := by unfold jW; split <;> omega
 have hmo := WE c (max t 0) cap hc.size (by omega)
 unfold un
 generalize max t 0 = m at hm hmo ⊢
 generalize xl c m cap = z at hmo ⊢
 refine zy Tryz.func238 Tryz.ntmps238 Tryz.results238 fun S nx hd => ?_
 repeat apply za
 refine zb ?_
 repeat apply za
 refine zb ?_
 by_cases h : c.rate ≤ t
 ·rw [if_pos h]
  refine zo (by simp [h]) ?_
  repeat apply za
  refine zb ?_
  exact zh (zk hd rfl rfl)
 ·rw [if_neg h]
  refine zp (by simp; omega) ?_
  refine zi ?_
  repeat apply za
  refine ze [] hm ?_
  refine jg [] hmo hm ?_
  exact zh (zk hd rfl rfl)
theorem Zcw (c : Cust) (n : Nat) (fn : FuncId) (caps : List PV) (f : Int → Int) (hc : CustFits c) (hn : n ≤ 1000) (hf : ∀ t, 0 ≤ f t ∧ f t ≤ 2147483648) (hfn : ∀ t, (-4611686018427387904 ≤ t ∧ t ≤ 4611686018427387904) → Pure Tryz.prog fn ([I t] ++ caps) (I (f t))) :
  Pure Tryz.prog 236 [.agg (yd c), I n, .fn (.func fn) [] caps] (.tup [L (yL c f n).1, B (decide (w8 c (yL c f n).1 = 0))]) := by
 have hr := hc.rate
 refine zy Tryz.func236 Tryz.ntmps236 Tryz.results236 fun S nx hd => ?_
 repeat apply za
 refine zb ?_
 intro v0
 repeat apply za
 refine zb ?_
 refine za (jB 8 3 1 rfl fun v1 => ?_)
 refine zb ?_
 repeat apply za
 refine zb ?_
 refine zj (zM (fun s : Nat × Nat => s.1 ≤ n) (fun (k, w) => [(2, .fn (.func fn) [] caps), (3, .ptr nx v0 0), (8, .sl (nx + 1) w 1 0 (yL c f k).1.length), (9, I (yL c f k).2), (13, I n), (14, I k)]) (fun (k, w) => [.cells v0 65 (yd c), .cells w 3 ((yL c f k).1.flatMap Enc.enc)]) (fun s => n - s.1) (0, v1) [] (by simp) (by simp [yL]) (by simp [yL]) ?_)
 rintro ⟨k, w⟩ hk
 simp only at hk ⊢
 obtain ⟨hbd, -⟩ := Yn hc hf k
 have hl := Ym c f k
 have hsucc : yL c f (k + 1) = ((yL c f k).1 ++ [f (yL c f k).2], (yL c f k).2 + (f (yL c f k).2 - c.rate)) := rfl
 generalize hst : yL c f k = st at hbd hl hsucc ⊢
 obtain ⟨q, t⟩ := st
 simp only at hbd hl hsucc ⊢
 repeat apply za
 refine zb ?_
 repeat apply za
 refine zt rfl (fun hc1 => ?_) (fun hc1 => ?_)
 ·simp at hc1
  have hft := hf t
  have hcall := hfn t (by omega)
  have w1 : IntKind.i64.wrap (f t - c.rate) = f t - c.rate := wr _ (by omega) (by omega)
  have w2 : IntKind.i64.wrap (t + (f t - c.rate)) = t + (f t - c.rate) := wr _ (by omega) (by omega)
  generalize f t = z at *
  refine zi (za (zj ?_))
  repeat apply za
  refine zb ?_
  refine zB hcall ?_
  repeat apply za
  refine zb ?_
  refine ⟨by omega, ?_⟩
  refine ze [] (zm w1 w2) ?_
  refine zb ?_
  exact zr (k + 1, w + 1) [] (by omega) (by simp; omega) (by simp [zx k (by omega), hsucc]) rfl (by simp [hsucc])
 ·simp at hc1
  obtain rfl : k = n := by omega
  refine zC ?_
  refine yc 1 rfl ?_
  have hh := ZiO c q hc (by omega)
  repeat apply za
  refine zb ?_
  refine zB hh ?_
  exact zh (zk hd (by simp; rfl) (by simp [zn, hst]))
def vf (c : Cust) (n : Nat) (cap : Int) : List Int × Bool := ((yL c (uO c cap) n).1, decide (w8 c (yL c (uO c cap) n).1 = 0))
def vO (c : Cust) (n : Nat) (cap : Int) : List Int × Bool := ((yL c (un c cap) n).1, decide (w8 c (yL c (un c cap) n).1 = 0))
theorem ZjS (c : Cust) (n : Nat) (cap : Int) (hc : CustFits c) (hn : n ≤ 1000) : Pure Tryz.prog 194 [.agg (yd c), I n, I cap] (.tup [L (vf c n cap).1, B (vf c n cap).2]) := by
 have h := Zcw c n 237 [.ip (yd c), .ip [I cap]] (uO c cap) hc hn (WF hc cap) (fun t ht => ZjQ c cap t hc ht)
 unfold vf
 generalize yL c (uO c cap) n = r at h ⊢
 refine zy Tryz.func194 Tryz.ntmps194 Tryz.results194 fun S nx hd => ?_
 repeat apply za
 refine zb ?_
 intro v0 v1
 refine jC 0 rfl ?_
 refine jC 1 rfl ?_
 repeat apply za
 refine zb ?_
 refine zB h ?_
 exact zh (zk hd (by simp; rfl) rfl)
theorem ZjT (c : Cust) (n : Nat) (cap : Int) (hc : CustFits c) (hn : n ≤ 1000) : Pure Tryz.prog 196 [.agg (yd c), I n, I cap] (.tup [L (vO c n cap).1, B (vO c n cap).2]) := by
 have h := Zcw c n 238 [.ip (yd c), .ip [I cap]] (un c cap) hc hn (WG hc cap) (fun t ht => ZjR c cap t hc ht)
 unfold vO
 generalize yL c (un c cap) n = r at h ⊢
 refine zy Tryz.func196 Tryz.ntmps196 Tryz.results196 fun S nx hd => ?_
 repeat apply za
 refine zb ?_
 intro v0 v1
 refine jC 0 rfl ?_
 refine jC 1 rfl ?_
 repeat apply za
 refine zb ?_
 refine zB h ?_
 exact zh (zk hd (by simp; rfl) rfl)
def Zy (price : List Int) (v : List Visit) : Int := v.foldl (fun s w => W (s + Yl price w.d)) 0
theorem ZjU (price : List Int) (v : List Visit) (w : Visit) : Zy price (v ++ [w]) = W (Zy price v + Yl price w.d) := by simp [Zy]
def Yo (c : Cust) (n : Int) (price : List Int) (v : List Visit) : Int := if c.kind = 1 then Zy price v else W (Zy price v + Zv c (qu c (yy v n)).1)
theorem Zcx {S : Store} {pl : PV} {price : List Int} (c : Cust) (n : Int) (v : List Visit) (hR : RowOf S pl price) (hc : CustFits c) (hv : VisOk v) :
  Spec Tryz.prog 197 [.agg (yd c), I n, pl, L v] S (fun q S' => q = I (Yo c n price v) ∧ S' = S) := by
 have hvn := hv.n
 have hp := fun S (h : RowOf S pl price) d => Zct d h
 unfold Yo
 refine yH Tryz.func197 Tryz.ntmps197 Tryz.results197 fun nx hd => ?_
 repeat apply za
 refine zb ?_
 intro v0
 repeat apply za
 refine zb ?_
 repeat apply za
 refine zb ?_
 refine zj (zM (fun k : Nat => k ≤ v.length) (fun k => [(1, I n), (3, L v), (4, .ptr nx v0 0), (9, I (Zy price (v.take k))), (2, pl), (14, L v), (15, I v.length), (16, I k)]) (fun _ => [.cells v0 65 (yd c)]) (fun k => v.length - k) 0 [] (by simp) (by simp [Zy]) (by simp) ?_)
 rintro k hk
 repeat apply za
 refine zb ?_
 repeat apply za
 refine zt rfl (fun hc1 => ?_) (fun hc1 => ?_)
 ·simp at hc1
  obtain ⟨w, tl, a1, a2, a3, e1, e0⟩ := el 2 rfl v k hc1
  have hsn := ZjU price (v.take k) w
  rw [← a3] at hsn
  refine zi (za (zj ?_))
  repeat apply za
  refine ze [] (zm e0 hc1) ?_
  intro v2
  refine zQ [] (by rfl) (by rfl) fun K Gc Gh hK hGc hGh X hX0 hX => ?_
  simp -implicitDefEqProofs [hX0, hX]
  try clear hX0 hX X
  refine hGc _ _ _ _ _ _ _ fun hsuf => ((hp _ (hR.ext hd _) _).mono ?_).v
  rintro _ _ ⟨rfl, rfl⟩
  refine ⟨_, _, rfl, ?_⟩
  clear hGc hGh
  clear Gc Gh
  refine zP hsuf (D := []) (by rfl) fun Gc Gh hGc hGh X hX0 hX => ?_
  simp -implicitDefEqProofs [hX0, hX]
  clear hX0 hX X
  refine hK _ _ _ ?_
  clear hK hGc hGh
  clear K Gc Gh
  refine zb ?_
  exact zr (k + 1) [_] hc1 (by omega) (by simp [zx k (by omega), hsn]) rfl (by simp; rfl)
 ·simp at hc1
  obtain rfl : k = v.length := by omega
  rw [List.take_length]
  refine zC ?_
  repeat apply za
  refine zb ?_
  by_cases hk1 : c.kind = 1
  ·rw [if_pos hk1]
   refine zo (by simp [hk1]) ?_
   repeat apply za
   refine zb ?_
   exact zh ⟨_, S, rfl, ⟨by simp [zn], rfl⟩, zW hd⟩
  ·rw [if_neg hk1]
   have hb := Zb1 v n hv
   have hn := Wq c (yy v n) hc (Jx _ _)
   have hh := Wr c _ (Zco c (yy v n) (Jx _ _))
   generalize qu c (yy v n) = ns at hn hh ⊢
   obtain ⟨nl, ne⟩ := ns
   simp only at hn hh ⊢
   refine zp (by simp [hk1]) ?_
   refine zi ?_
   repeat apply za
   refine zD (some [nx]) (Row.pures [0, 1, 2, 3, 4, 5, 6, 7, 8, 9] .done) mixed trivial ?_
   refine zN (hb) trivial ?_
   refine zN (hn) trivial ?_
   repeat apply za
   refine zb ?_
   refine zB hh ?_
   exact zh ⟨_, S, rfl, ⟨by simp [zn], rfl⟩, zW hd⟩
def Yp (c : Cust) (n : Nat) (cap : Int) (price : List Int) : List Visit × Bool :=
 if (vO c n cap).2 = true ∧ ((vf c n cap).2 = false ∨ Yo c n price (yB 0 (vO c n cap).1) ≤ Yo c n price (yB 0 (vf c n cap).1)) then (yB 0 (vO c n cap).1, true)
 else if (vf c n cap).2 = true then (yB 0 (vf c n cap).1, true) else ([], false)
theorem Zcy {q : List Int} {n : Nat} (hq : Qs q) (hl : q.length = n) (hn : n ≤ 1000) : VisOk (yB 0 q) := by
 refine ⟨Nat.le_trans (Jv _ _) (by omega), fun s hs => ?_, fun s hs => ?_⟩
 ·have := Jw q 0 hq s hs; omega
 ·have := Jw q 0 hq s hs; unfold yv; omega
theorem ZjV {S : Store} {pl : PV} {price : List Int} (c : Cust) (n : Nat) (cap : Int) (hR : RowOf S pl price) (hc : CustFits c) (hn : n ≤ 1000) :
  Spec Tryz.prog 153 [.agg (yd c), I n, I cap, pl] S (fun q S' => q = .tup [L (Yp c n cap price).1, B (Yp c n cap price).2] ∧ S' = S) := by
 have hD := ZjS c n cap hc hn
 have hL := ZjT c n cap hc hn
 have lD : (vf c n cap).1.length = n := Ym _ _ _
 have lL : (vO c n cap).1.length = n := Ym _ _ _
 have vD : VisOk (yB 0 (vf c n cap).1) := Zcy (Yn hc (WF hc cap) n).2 lD hn
 have vL : VisOk (yB 0 (vO c n cap).1) := Zcy (Yn hc (WG hc cap) n).2 lL hn
 unfold Yp
 generalize vf c n cap = rd at *
 generalize vO c n cap = rl at *
 obtain ⟨qd, od⟩ := rd
 obtain ⟨ql, ol⟩ := rl
 simp only at hD hL lD lL vD vL ⊢
 have hVd := Zcv qd (by omega)
 have hVl := Zcv ql (by omega)
 have hcd := fun S (h : RowOf S pl price) => Zcx (S := S) c n (yB 0 qd) h hc vD
 have hcl := fun S (h : RowOf S pl price) => Zcx (S := S) c n (yB 0 ql) h hc vL
 generalize yB 0 qd = vd at *
 generalize yB 0 ql = vl at *
 generalize Yo c n price vd = zd at *
 generalize Yo c n price vl = zl at *
 refine yH Tryz.func153 Tryz.ntmps153 Tryz.results153 fun nx hd => ?_
 repeat apply za
 refine zb ?_
 intro v0
 repeat apply za
 refine zb ?_
 refine zB hD ?_
 repeat apply za
 refine zb ?_
 refine zB hVd ?_
 repeat apply za
 refine zb ?_
 refine zB hL ?_
 repeat apply za
 refine zb ?_
 cases ol with
 | true =>
  refine zo rfl ?_
  repeat apply za
  refine zb ?_
  refine zB hVl ?_
  cases od with
  | false =>
   rw [if_pos ⟨rfl, .inl rfl⟩]
   repeat apply za
   refine zD (some [nx]) (Row.pures [0, 1, 2, 3, 4, 5, 6, 7, 8, 9, 10, 11, 12, 13, 14] .done) mixed zL ?_
   refine zo rfl ?_
   repeat apply za
   refine zb ?_
   exact zh ⟨_, S, (by simp; rfl), ⟨by simp [zn], rfl⟩, zW hd⟩
  | true =>
   by_cases hle : zl ≤ zd
   ·rw [if_pos ⟨rfl, .inr hle⟩]
    repeat apply za
    refine wP (some [nx]) (Row.pures [0, 1, 2, 3, 4, 5, 6, 8, 9, 10, 11] (.alt 7 (.alt 12 (Row.pures [13, 14] .done) .stop) .stop)) mixed (by rfl) (by rfl) (by rfl) fun K Gp Gc Gh hK hGp hGc hGh X hX0 hX1 hX2 hX => ?_
    simp -implicitDefEqProofs [hX0, hX1, hX2, hX, undef]
    try clear hX0 hX1 hX2 hX X
    refine hGc _ _ _ _ _ _ _ (((hcl _ (hR.ext hd _)).mono ?_).v)
    rintro _ _ ⟨rfl, rfl⟩
    refine ⟨by simp [yl], ?_⟩
    clear hGp hGc hGh
    clear Gp Gc Gh
    refine jA fun Gp Gc Gh hGp hGc hGh X hX0 hX1 hX2 hX => ?_
    simp -implicitDefEqProofs [hX0, hX1, hX2, hX, undef]
    try clear hX0 hX1 hX2 hX X
    refine hGc _ _ _ _ _ _ _ (((hcd _ (hR.ext hd _)).mono ?_).v)
    rintro _ _ ⟨rfl, rfl⟩
    refine ⟨by simp [yl], ?_⟩
    clear hGp hGc hGh
    clear Gp Gc Gh
    refine jA fun Gp Gc Gh hGp hGc hGh X hX0 hX1 hX2 hX => ?_
    simp -implicitDefEqProofs [hX0, hX1, hX2, hX, undef]
    try clear hX0 hX1 hX2 hX X
    refine hK _ _ _ ?_
    clear hK hGp hGc hGh
    clear K Gp Gc Gh
    refine zo (by simp [hle]) ?_
    repeat apply za
    refine zb ?_
    exact zh ⟨_, S, (by simp; rfl), ⟨by simp [zn], rfl⟩, zW hd⟩
   ·rw [if_neg (by rintro ⟨-, q | q⟩; cases q; exact hle q), if_pos rfl]
    repeat apply za
    refine wP (some [nx]) (Row.pures [0, 1, 2, 3, 4, 5, 6, 8, 9, 10, 11] (.alt 7 (.alt 12 (Row.pures [13, 14] .done) .stop) .stop)) mixed (by rfl) (by rfl) (by rfl) fun K Gp Gc Gh hK hGp hGc hGh X hX0 hX1 hX2 hX => ?_
    simp -implicitDefEqProofs [hX0, hX1, hX2, hX, undef]
    try clear hX0 hX1 hX2 hX X
    refine hGc _ _ _ _ _ _ _ (((hcl _ (hR.ext hd _)).mono ?_).v)
    rintro _ _ ⟨rfl, rfl⟩
    refine ⟨by simp [yl], ?_⟩
    clear hGp hGc hGh
    clear Gp Gc Gh
    refine jA fun Gp Gc Gh hGp hGc hGh X hX0 hX1 hX2 hX => ?_
    simp -implicitDefEqProofs [hX0, hX1, hX2, hX, undef]
    try clear hX0 hX1 hX2 hX X
    refine hGc _ _ _ _ _ _ _ (((hcd _ (hR.ext hd _)).mono ?_).v)
    rintro _ _ ⟨rfl, rfl⟩
    refine ⟨by simp [yl], ?_⟩
    clear hGp hGc hGh
    clear Gp Gc Gh
    refine jA fun Gp Gc Gh hGp hGc hGh X hX0 hX1 hX2 hX => ?_
    simp -implicitDefEqProofs [hX0, hX1, hX2, hX, undef]
    try clear hX0 hX1 hX2 hX X
    refine hK _ _ _ ?_
    clear hK hGp hGc hGh
    clear K Gp Gc Gh
    refine zp (by simp; omega) ?_
    refine zi ?_
    repeat apply za
    refine zb ?_
    refine zp rfl ?_
    refine zi ?_
    repeat apply za
    refine zb ?_
    exact zh ⟨_, S, (by simp; rfl), ⟨by simp [zn], rfl⟩, zW hd⟩
 | false =>
  rw [if_neg (by rintro ⟨q, -⟩; cases q)]
  refine zp rfl ?_
  refine zi ?_
  repeat apply za
  refine zb ?_
  cases od with
  | false =>
   rw [if_neg (by decide)]
   refine zo rfl ?_
   repeat apply za
   refine zb ?_
   refine ux 8 rfl ?_
   exact zh ⟨_, S, rfl, ⟨by simp [zn], rfl⟩, zW hd⟩
  | true =>
   rw [if_pos rfl]
   refine zp rfl ?_
   refine zi ?_
   repeat apply za
   refine zb ?_
   exact zh ⟨_, S, (by simp; rfl), ⟨by simp [zn], rfl⟩, zW hd⟩
end Go.Proofs.YtcnbiofjmioaiaaGreat.Pv
