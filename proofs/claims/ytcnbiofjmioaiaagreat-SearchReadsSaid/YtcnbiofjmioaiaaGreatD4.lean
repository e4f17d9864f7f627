/- Part of a proof, packed. -/
import Derived.Test.YtcnbiofjmioaiaaGreatD3
set_option maxRecDepth 100000
set_option maxHeartbeats 3200000
namespace Go.Proofs.YtcnbiofjmioaiaaGreat.Pv
open Go Hp
abbrev yD : PV := .sc (.slice none 0 0)
open Go Hp
def Zj (pl : PV) : Prop := pl = yD ∨ ∃ n cs, pl = .lst n cs
theorem Zk (l : List Stop) : Zj (L l) := .inr ⟨_, _, rfl⟩
abbrev Z4 (x : Inst) (b : Int) : PV := .fn (.func 208) [] [.ip (zA x), .ip [I b]]
abbrev XK (x : Inst) (pl : PV) (b : Int) : List PV := [.fn (.func 209) [] [.ip [pl]], .fn (.func 211) [] [.ip [Z4 x b], .ip (zA x), .ip [pl]], .fn (.func 213) [] [.ip [Z4 x b], .ip [pl]], .fn (.func 214) [] [.ip (zA x), .ip [pl], .ip [Z4 x b]]]
theorem ZgF (x : Inst) (pl : PV) (b : Int) (hp : Zj pl) : Pure Tryz.prog 168 [.agg (zA x), pl, I b] (.fn (.func 216) [] [.ip [.lst 4 (XK x pl b)]]) := by
 rcases hp with rfl | ⟨n, cs, rfl⟩
 all_goals
  refine zy Tryz.func168 Tryz.ntmps168 Tryz.results168 fun S nx hd => ?_
  repeat apply za
  refine zb ?_
  intro v0 v1 v2
  refine jC 0 rfl ?_
  refine jC 1 rfl ?_
  refine jC 2 rfl ?_
  repeat apply za
  refine zb ?_
  intro v3
  refine jC 3 rfl ?_
  repeat apply za
  refine zb ?_
  intro v4
  refine jC 4 rfl ?_
  repeat apply za
  refine zb ?_
  exact zh (zk hd (by simp; rfl) rfl)
theorem ZgG (pl : PV) (d : zg) (hp : Zj pl) (hA : Pure Tryz.prog 210 [pl] (.agg [L d])) : Pure Tryz.prog 209 [.ip [pl]] (.tup [.agg [L d], B true]) := by
 rcases hp with rfl | ⟨n, cs, rfl⟩
 all_goals
  refine zy Tryz.func209 Tryz.ntmps209 Tryz.results209 fun S nx hd => ?_
  repeat apply za
  refine zb ?_
  intro v0
  repeat apply za
  refine zb ?_
  refine zB hA ?_
  exact zh (zk hd (by simp; rfl) rfl)
theorem XL (x : Inst) (b : Int) (d e : zg) (n : Int) (hI : Pure Tryz.prog 62 [.agg (zA x), .agg [L d], I b] (.tup [.agg [L e], I n])) : Pure Tryz.prog 208 [.agg [L d], .ip (zA x), .ip [I b]] (.agg [L e]) := by
 refine zy Tryz.func208 Tryz.ntmps208 Tryz.results208 fun S nx hd => ?_
 repeat apply za
 refine zb ?_
 intro v0 v1
 repeat apply za
 refine zb ?_
 refine zB hI ?_
 repeat apply za
 refine zb ?_
 exact zh (zk hd (by simp; rfl) rfl)
theorem ZgH (x : Inst) (pl : PV) (b : Int) (d e : zg) (n : Int) (hp : Zj pl) (hJ : Pure Tryz.prog 212 [.agg (zA x), pl] (.agg [L d])) (hI : Pure Tryz.prog 62 [.agg (zA x), .agg [L d], I b] (.tup [.agg [L e], I n])) : Pure Tryz.prog 211 [.ip [Z4 x b], .ip (zA x), .ip [pl]] (.tup [.agg [L e], B true]) := by
 have hF := XL x b d e n hI
 rcases hp with rfl | ⟨n, cs, rfl⟩
 all_goals
  refine zy Tryz.func211 Tryz.ntmps211 Tryz.results211 fun S nx hd => ?_
  repeat apply za
  refine zb ?_
  intro v0
  repeat apply za
  refine zD (some []) (Row.pures [0, 1, 2, 3, 4] (.alt 5 (Row.pures [6] .done) .stop)) mixed trivial ?_
  refine zN (hJ) trivial ?_
  refine zN (hF) trivial ?_
  exact zh (zk hd (by simp; rfl) rfl)
theorem ZgI (x : Inst) (pl : PV) (b : Int) (d e : zg) (n : Int) (hp : Zj pl) (hA : Pure Tryz.prog 210 [pl] (.agg [L d])) (hI : Pure Tryz.prog 62 [.agg (zA x), .agg [L d], I b] (.tup [.agg [L e], I n])) : Pure Tryz.prog 213 [.ip [Z4 x b], .ip [pl]] (.tup [.agg [L e], B true]) := by
 have hF := XL x b d e n hI
 rcases hp with rfl | ⟨n, cs, rfl⟩
 all_goals
  refine zy Tryz.func213 Tryz.ntmps213 Tryz.results213 fun S nx hd => ?_
  repeat apply za
  refine zb ?_
  intro v0
  repeat apply za
  refine zD (some []) (Row.pures [0, 1, 2, 3] (.alt 4 (Row.pures [5] .done) .stop)) mixed trivial ?_
  refine zN (hA) trivial ?_
  refine zN (hF) trivial ?_
  exact zh (zk hd (by simp; rfl) rfl)
theorem ZaD (x : Inst) (pl : PV) (b : Int) (d e : zg) (ok : Bool) (n : Int) (hp : Zj pl) (hR : Pure Tryz.prog 215 [.agg (zA x), pl] (.tup [.agg [L d], B ok])) (hI : ok = true → Pure Tryz.prog 62 [.agg (zA x), .agg [L d], I b] (.tup [.agg [L e], I n])) :
  Pure Tryz.prog 214 [.ip (zA x), .ip [pl], .ip [Z4 x b]] (.tup [.agg [bif ok then L e else yD], B ok]) := by
 rcases hp with rfl | ⟨n, cs, rfl⟩
 all_goals
  cases ok with
  | false =>
   refine zy Tryz.func214 Tryz.ntmps214 Tryz.results214 fun S nx hd => ?_
   repeat apply za
   refine zb ?_
   intro v0
   repeat apply za
   refine zb ?_
   refine zB hR ?_
   intro v1
   repeat apply za
   refine zb ?_
   refine zo rfl ?_
   repeat apply za
   refine zb ?_
   exact zh (zk hd (by simp; rfl) rfl)
  | true =>
   have hF := XL x b d e _ (hI rfl)
   refine zy Tryz.func214 Tryz.ntmps214 Tryz.results214 fun S nx hd => ?_
   repeat apply za
   refine zb ?_
   intro v0
   repeat apply za
   refine zb ?_
   refine zB hR ?_
   intro v1
   repeat apply za
   refine zb ?_
   refine zp rfl ?_
   refine zi ?_
   repeat apply za
   refine zb ?_
   refine zB hF ?_
   exact zh (zk hd (by simp; rfl) rfl)
theorem ZgJ (fs : List PV) (rs : List (Option zg)) (hl : rs.length = fs.length) (hn : fs.length ≤ 1000)
  (h : ∀ (k : Nat) f, fs[k]? = some f → ∃ fk caps p, f = .fn (.func fk) [] caps ∧ Pure Tryz.prog fk caps (.tup [.agg [p], B (rs.getD k none).isSome]) ∧ ∀ d, rs.getD k none = some d → p = L d) :
  uy Tryz.prog 216 [.ip [.lst fs.length fs]] ((rs.filterMap id).map fun d => [.agg [L d]]) := by
 refine YL Tryz.func216 (by rfl) rfl Tryz.ntmps216 (congrArg Array.toList Tryz.results216) (by simp) fun l V keep nx J hJd hY A0 hA0 => ?_
 repeat apply za
 refine zb ?_
 refine zj (qP (σ := Nat × Store) (fun s => s.1 ≤ fs.length ∧ J ((rs.take s.1).filterMap id).length s.2) (fun s => [(0, qL l), (7, .lst fs.length fs), (8, I fs.length), (9, I s.1)]) (fun s => s.2) (fun s => []) (fun s => fs.length - s.1) (zS (0, A0) [] (by simp [hA0]) (by simp) rfl (by simp)) ?_)
 rintro ⟨k, A⟩ ⟨hk, hJ⟩
 simp only at hk hJ ⊢
 repeat apply za
 refine zb ?_
 repeat apply za
 refine zt rfl (fun hc => ?_) (fun hc => ?_)
 ·simp at hc
  have e0 : fs.drop k = fs[k] :: fs.drop (k + 1) := List.drop_eq_getElem_cons hc
  obtain ⟨fk, caps, p, hf, hP, hd⟩ := h k fs[k] (List.getElem?_eq_getElem hc)
  rw [hf] at e0
  have hkr : k < rs.length := by omega
  have htk : rs.take (k + 1) = rs.take k ++ [rs[k]] := List.take_succ_eq_append_getElem hkr
  have hg : rs.getD k none = rs[k] := by rw [List.getD_eq_getElem?_getD, List.getElem?_eq_getElem hkr]; rfl
  rw [hg] at hP hd
  refine zi (za (zj ?_))
  repeat apply za
  refine ze [] (zm e0 hc) ?_
  cases hr : rs[k] with
  | none =>
   rw [hr] at hP htk
   simp only [Option.isSome_none] at hP
   have hlen : ((rs.take (k + 1)).filterMap id).length = ((rs.take k).filterMap id).length := by rw [htk]; simp
   repeat apply za
   refine zb ?_
   refine zB hP ?_
   intro v0
   repeat apply za
   refine ze [(1, 19)] zL ?_
   refine zp rfl ?_
   refine zi ?_
   refine zb ?_
   exact zr (k + 1, A) [_] ⟨hc, by rw [hlen]; exact hJ⟩ (by simp; omega) (by simp [zx k (by omega)]) rfl (by simp; rfl)
  | some d =>
   obtain rfl := hd d hr
   rw [hr] at hP htk
   simp only [Option.isSome_some] at hP
   have hlen : ((rs.take (k + 1)).filterMap id).length = ((rs.take k).filterMap id).length + 1 := by rw [htk]; simp
   have hx : ((rs.filterMap id).map fun d => [PV.agg [L d]])[((rs.take k).filterMap id).length]? = some [PV.agg [L d]] := by
    have e1 : rs.filterMap id = (rs.take k).filterMap id ++ (d :: (rs.drop (k + 1)).filterMap id) := by
     conv => lhs; rw [← List.take_append_drop k rs, List.drop_eq_getElem_cons hkr, hr]
     simp
    rw [List.getElem?_map, e1, List.getElem?_append_right (Nat.le_refl _), Nat.sub_self]
    rfl
   repeat apply za
   refine zb ?_
   refine zB hP ?_
   intro v0
   repeat apply za
   refine zQ [(1, 19)] (by rfl) (by rfl) fun K Gc Gh hK hGc hGh X hX0 hX => ?_
   simp -implicitDefEqProofs [hX0, hX]
   try clear hX0 hX X
   refine hGh _ _ _ _ _ fun hsuf => ZU rfl rfl rfl (hY _ _ _ _ hx hJ) ?_
   rintro _ ⟨A', hJ', rfl⟩
   refine ⟨_, _, rfl, ?_⟩
   clear hGc hGh
   clear Gc Gh
   refine zP hsuf (D := [(1, 19)]) (by rfl) fun Gc Gh hGc hGh X hX0 hX => ?_
   simp -implicitDefEqProofs [hX0, hX]
   try clear hX0 hX X
   refine hK _ _ _ ?_
   clear hK hGc hGh
   clear K Gc Gh
   refine zp rfl ?_
   refine zi ?_
   refine zb ?_
   exact zr (k + 1, A') [_] ⟨hc, by rw [hlen]; exact hJ'⟩ (by simp; omega) (by simp [zx k (by omega)]) rfl (by simp; rfl)
 ·simp at hc
  obtain rfl : k = fs.length := by omega
  rw [← hl, List.take_length] at hJ
  refine zC (ww (hJd _ _ hJ) rfl ?_)
  simpa using hJ
def ji (x : Inst) (st : zg × Int × Bool) (d : zg) : zg × Int × Bool := if yh x d = 0 then (if st.2.2 = false ∨ W (zZ x d) < st.2.1 then (d, W (zZ x d), true) else st) else st
def x4 (x : Inst) (ds : List zg) : zg × Int × Bool := ds.foldl (ji x) ([], 0, false)
open Go Hp
theorem ZgK {K : (Nat → PV) → Store → Prop} {Q : Exit → (Nat → PV) → Store → Prop} {i : Nat} {F : Nat → PV} {S : Store} (h : Q (.exit i) F S) : vV K Q (.exit i) F S := h
theorem ZgL {Q : Exit → (Nat → PV) → Store → Prop} {i : Nat} {F : Nat → PV} {S : Store} (h : Q .normal F S) : qC i Q (.exit i) F S := by simp [qC, h]
def jE (x : Inst) (e : Int) (ds : List zg) : zg × Int := if e = 0 then (bif (x4 x ds).2.2 then ((x4 x ds).1, 0) else ([], 14)) else ([], e)
theorem ZaE (x : Inst) (pl : PV) (b e : Int) (ds : List zg) (hp : Zj pl) (hx : x.cust.length ≤ 1048576) (hF : Pure Tryz.prog 167 [.agg (zA x), pl] (I e))
  (hit : e = 0 → uy Tryz.prog 216 [.ip [.lst 4 (XK x pl b)]] (ds.map fun d => [.agg [L d]])) (hds : e = 0 → ∀ d ∈ ds, DayOk d ∧ d.flatten.length ≤ 1048576) :
  Pure Tryz.prog 126 [.agg (zA x), pl, I b] (.tup [.agg [L (jE x e ds).1], I (jE x e ds).2]) := by
 have hT := ZgF x pl b hp
 refine zy Tryz.func126 Tryz.ntmps126 Tryz.results126 fun S nx hd => ?_
 repeat apply za
 refine zb ?_
 intro v0 v1
 repeat apply za
 refine zb ?_
 refine zB hF ?_
 by_cases he : e = 0
 case neg =>
  repeat apply za
  refine zb ?_
  refine zo (by simp [he]) ?_
  repeat apply za
  refine zb ?_
  refine Zb 1 0 rfl rfl ?_
  exact zh (zk hd (by simp; rfl) (by simp [jE, he, zn]))
 subst he
 have hit := hit rfl
 have hds := hds rfl
 repeat apply za
 refine zb ?_
 refine zp (by simp) ?_
 refine zi ?_
 repeat apply za
 refine zb ?_
 intro v2 v3 v4
 refine Zb 2 0 rfl rfl ?_
 repeat apply za
 refine zb ?_
 refine zB hT ?_
 refine zj (ZV (xs := ds.map fun d => [PV.agg [L d]]) (σ := zg × Int × Bool) (fun i s => s = (ds.take i).foldl (ji x) ([], 0, false) ∧ i ≤ ds.length) [(3, .ptr nx v0 0), (6, .ptr (nx + 1) v1 0), (7, I 0), (9, .ptr (nx + 2) v2 0), (10, .ptr (nx + 3) v3 0), (11, .ptr (nx + 4) v4 0)] (fun _ => S)
  (fun (best, least, found) => [.cells v0 25 (zA x), .cells v1 58 [yD], .cells v2 58 [L best], .cells v3 3 [I least], .cells v4 4 [B found]]) ([], 0, false)
  hit rfl (by intro x hx; obtain ⟨y, _, rfl⟩ := List.mem_map.1 hx; rfl) (by decide) (by simp) ⟨by simp, by simp⟩ rfl (by simp) (by simp) ?_ ?_)
 ·rintro l i ⟨best, least, found⟩ more y ⟨hst, hi⟩ hy
  simp only at hst hi ⊢
  rw [List.getElem?_map] at hy
  obtain ⟨d, hd', rfl⟩ := Option.map_eq_some_iff.1 hy
  obtain ⟨hil, hdi⟩ := List.getElem?_eq_some_iff.1 hd'
  obtain ⟨hdo, hdf⟩ := hds d (List.mem_of_getElem? hd')
  have hday := Zac x d hx hdo.1 hdo.2 hdf
  have hcost := Z0 x d hdo
  have hsucc : (ds.take (i + 1)).foldl (ji x) ([], 0, false) = ji x (best, least, found) d := by
   rw [List.take_succ_eq_append_getElem hil, hdi, List.foldl_append, ← hst]; rfl
  unfold ji at hsucc
  simp only at hsucc
  refine zb ?_
  intro v5
  refine zj ?_
  repeat apply za
  refine zb ?_
  refine zB hday ?_
  by_cases h1 : yh x d = 0
  ·rw [if_pos h1] at hsucc
   refine zp (by simp [h1]) ?_
   refine zi ?_
   repeat apply za
   refine zb ?_
   refine zB hcost ?_
   generalize W (zZ x d) = c at *
   cases found with
   | false =>
    rw [if_pos (.inl rfl)] at hsucc
    repeat apply za
    refine ze [(2, 36)] zL ?_
    refine zo rfl ?_
    refine zb ?_
    simp only [qC]
    exact j3 (d, c, true) [_] ⟨hsucc.symm, by omega⟩ rfl (by simp; rfl)
   | true =>
    by_cases h2 : c < least
    ·rw [if_pos (.inr h2)] at hsucc
     repeat apply za
     refine ze [(2, 36)] (zm h2 zL) ?_
     refine zo rfl ?_
     refine zb ?_
     simp only [qC]
     exact j3 (d, c, true) [_] ⟨hsucc.symm, by omega⟩ rfl (by simp; rfl)
    ·rw [if_neg (by simp [h2])] at hsucc
     repeat apply za
     refine ze [(2, 36)] (zm h2 zL) ?_
     refine zp rfl ?_
     refine zi ?_
     simp only [qC]
     exact j3 (best, least, true) [_] ⟨hsucc.symm, by omega⟩ rfl (by simp; rfl)
  ·rw [if_neg h1] at hsucc
   refine zo (by simp [h1]) ?_
   refine zC ?_
   refine ZgK (ZgL ?_)
   exact j3 (best, least, found) [_] ⟨hsucc.symm, by omega⟩ rfl (by simp; rfl)
 ·rintro ⟨best, least, found⟩ ⟨hst, -⟩
  simp only [List.length_map, List.take_length] at hst ⊢
  have hz : x4 x ds = (best, least, found) := hst.symm
  cases found with
  | false =>
   repeat apply za
   refine zb ?_
   refine zo rfl ?_
   repeat apply za
   refine zb ?_
   refine Zb 1 0 rfl rfl ?_
   exact zh (zk hd (by simp; rfl) (by simp [jE, hz, zn]))
  | true =>
   repeat apply za
   refine zb ?_
   refine zp rfl ?_
   refine zi ?_
   repeat apply za
   refine zb ?_
   exact zh (zk hd (by simp; rfl) (by simp [jE, hz, zn]))
open Go Hp
theorem ZaF (lk : List PV) (s : Stop) (hl : lk.length = 13) : Pure Tryz.prog 99 [.agg lk, .agg [I s.c, I s.q]] (.fn (.func 138) [] [.ip [I s.c, I s.q], .ip lk]) := by
 refine zy Tryz.func99 Tryz.ntmps99 Tryz.results99 fun S nx hd => ?_
 repeat apply za
 refine ze [] hl ?_
 intro v0 v1
 repeat apply za
 refine zb ?_
 refine jC 0 rfl ?_
 refine jC 1 rfl ?_
 exact zh (zk hd (by simp; rfl) rfl)
open Go Go.Lib Go.Proofs
theorem Zl : ElemOk Tryz.prog 31 35 (.agg #[.int .i64 0, .int .i64 0]) 16 :=
 ⟨Tryz.underlying31, by simp, by simp, by simp, by simp, by omega⟩
theorem ZaG (a : Addr) (n c : Nat) (w W2 : World) (u : Value) (hrz : ∀ ty, (Builtin.append_ #[31, 31] ty #[.slice (some ⟨w.heap.size, 0, none⟩) 0 0, .slice (some a) n c]).run Tryz.prog (w.alloc (.cells #[] 35)) = .ok u W2) :
  Calls Tryz.prog 105 #[.slice (some a) n c] w fun e w' => e = .returned u ∧ w' = W2 := by
 have mixed : Tryz.prog.follows .mixedOrders = true := by kernel_rfl
 have q22 : ∀ (w : World) (a : Option Addr) (n c n' c' : Nat), (binOp .eql 31 (.slice a n c) (.slice none n' c')).run Tryz.prog w = .ok (.bool a.isNone) w := fun w a n c n' c' => Lib.run_eql_slice_nil w _ _ a n c n' c' Tryz.underlying31
 go_enter Tryz.func105, Tryz.ntmps105
 go_wp2_with (at_builtin; refine Lib.wpList_append_run _ rfl _ _ _ _ rfl _ _ rfl rfl _ _ (hrz _) ?_)
 go_wp2
 go_ret
 exact ⟨rfl, rfl⟩
theorem ZgM (n c : Nat) (w : World) :
  Calls Tryz.prog 105 #[.slice none n c] w fun e w' => e = .returned (.slice none 0 0) ∧ w' = w := by
 have mixed : Tryz.prog.follows .mixedOrders = true := by kernel_rfl
 have q22 : ∀ (w : World) (a : Option Addr) (n c n' c' : Nat), (binOp .eql 31 (.slice a n c) (.slice none n' c')).run Tryz.prog w = .ok (.bool a.isNone) w := fun w a n c n' c' => Lib.run_eql_slice_nil w _ _ a n c n' c' Tryz.underlying31
 go_enter Tryz.func105, Tryz.ntmps105
 go_wp2
 go_ret
 exact ⟨rfl, rfl⟩
theorem XM (l : List Stop) (h0 : 0 < l.length) (hn : l.length ≤ 1048576) (S : Store) (nx : Nat) (hd : S nx = .dead) :
  Spec Tryz.prog 105 [L l] S (fun p S' => ∃ v, p = .sl nx v 2 0 l.length ∧ S' = S.set nx (.cells v 35 (l.flatMap Enc.enc))) := by
 refine ⟨qh Tryz.func105 (by rfl) rfl, ?_⟩
 intro C w vs hS hl hr
 obtain ⟨u, rfl⟩ := Xm hl
 have hu : Rel C S w (.lst l.length (l.flatMap Enc.enc)) u := hr 0 _ u rfl rfl
 obtain ⟨a, cap, rfl⟩ : ∃ a cap, u = .slice (some a) l.length cap := by
  generalize hq : l.flatMap Enc.enc = cs at hu
  generalize l.length = n at *
  cases hu with
  | lst0 => omega
  | lst1 => exact ⟨_, _, rfl⟩
 obtain ⟨k1, j1, m1⟩ := hS.alloc (.cells #[] 35)
 have hc : Tryz.prog.cellsOf 35 = 2 := by simp
 obtain ⟨news, hsrc, hrel, _⟩ := QR (P := Tryz.prog) (sz := 2) (m := l.length) (ds := l.flatMap Enc.enc) k1 (by simp [vY]) (hu.mono j1)
 rw [← hc] at hsrc
 have hrun := fun ty => QQ (P := Tryz.prog) (ty := ty) (b := some ⟨w.heap.size, 0, none⟩) (k := 0) (cap := 0) (olds := []) Zl.ty Zl.pos Zl.zero Zl.bytes hsrc (run_firstCells_some _ _ 0 ⟨w.heap.size, 0, none⟩ 0 0 [] (by simp) (by simp)) (by omega) (by omega) Zl.bpos
 simp only [Nat.zero_add] at hrun
 refine (ZaG a l.length cap w _ _ hrun).mono ?_
 rintro e w' ⟨rfl, rfl⟩
 have hge := grownCap_ge (w.alloc (.cells #[] 35)) l.length 0 35
 obtain ⟨d1, d2⟩ := k1.drew
 have hfr : Fresh C S nx C.clock := .clock C hd
 have hra := YD (cs := []) (vs := []) (by simp [RelL]) hrel (Builtin.zeroCells (Value.agg #[.int .i64 0, .int .i64 0]).cells (grownCap (w.alloc (.cells #[] 35)) l.length 0 35 - l.length)).toList
 simp only [List.nil_append] at hra
 have hget : ∀ i : Nat, (([] : List Value).toArray ++ news.toArray ++ Builtin.zeroCells (Value.agg #[.int .i64 0, .int .i64 0]).cells (grownCap (w.alloc (.cells #[] 35)) l.length 0 35 - l.length) : Array Value)[i]? = (news ++ (Builtin.zeroCells (Value.agg #[.int .i64 0, .int .i64 0]).cells (grownCap (w.alloc (.cells #[] 35)) l.length 0 35 - l.length)).toList)[i]? := by
  intro i; rw [← Array.getElem?_toList]; simp
 obtain ⟨t1, t2⟩ := d1.object' hfr 35 (([] : List Value).toArray ++ news.toArray ++ Builtin.zeroCells (Value.agg #[.int .i64 0, .int .i64 0]).cells (grownCap (w.alloc (.cells #[] 35)) l.length 0 35 - l.length)) (l.flatMap Enc.enc) (by have := hra.1; simp at this ⊢; omega) (fun i v hi hv => hra.2.1 i v hi (by rw [← hget]; exact hv)) (fun i p v hp hv => (hra.2.2 i p v hp (by rw [← hget]; exact hv)).mono d2)
 refine ⟨_, _, _, _, rfl, ⟨C.clock, rfl, rfl⟩, YC C S _ _ _ _ _ _ _ _ _ rfl hge (Nat.le_trans hn (by unfold qN; omega)) (grownCap_le_maxLen _ _ _ _ (by unfold maxLen; omega)) ?_, t1, j1.trans (d2.trans t2)⟩
 have := hsrc.size
 simp only [Array.size_append, size_zeroCells, List.size_toArray, this, hc]
 simp [Value.cells]
 omega
theorem Jf (l : List Stop) (hn : l.length ≤ 1048576) : Pure Tryz.prog 105 [L l] (L l) := by
 by_cases h0 : 0 < l.length
 ·exact Xc 0 (fun S nx hd => XM l h0 hn S nx (hd nx (Nat.le_refl _))) (by simp)
 ·obtain rfl : l = [] := List.eq_nil_of_length_eq_zero (by omega)
  intro S
  refine ⟨qh Tryz.func105 (by rfl) rfl, ?_⟩
  intro C w vs hS hl hr
  obtain ⟨u, rfl⟩ := Xm hl
  have hu : Rel C S w (.lst 0 []) u := hr 0 _ u rfl rfl
  obtain ⟨a, cap, rfl⟩ : ∃ a cap, u = .slice a 0 cap := by
   cases hu with
   | lst0 => exact ⟨_, _, rfl⟩
   | lst1 => exact ⟨_, _, rfl⟩
  cases a with
  | none =>
   refine (ZgM 0 cap w).mono ?_
   rintro e w' ⟨rfl, rfl⟩
   exact ⟨_, _, _, _, rfl, ⟨rfl, rfl⟩, .lst0, hS, .refl _ _ _⟩
  | some a =>
   obtain ⟨k1, j1, m1⟩ := hS.alloc (.cells #[] 35)
   have hc : Tryz.prog.cellsOf 35 = 2 := by simp
   obtain ⟨news, hsrc, hrel, _⟩ := QR (P := Tryz.prog) (sz := 2) (m := 0) (ds := []) k1 (by simp [vY]) (hu.mono j1)
   have hne : news = [] := List.eq_nil_of_length_eq_zero (by rw [hsrc.size, Nat.zero_mul])
   subst hne
   rw [← hc] at hsrc
   have hrun := fun ty => J0 (P := Tryz.prog) (ty := ty) (b := some ⟨w.heap.size, 0, none⟩) (k := 0) (cap := 0) Zl.ty Zl.pos hsrc (Nat.le_refl 0)
   refine (ZaG a 0 cap w _ _ hrun).mono ?_
   rintro e w' ⟨rfl, rfl⟩
   exact ⟨_, _, _, _, rfl, ⟨rfl, rfl⟩, .lst0, k1, j1⟩
theorem ZgN {S : Store} {id ver : Nat} (cs : List Stop) (s : Stop) (hn : cs.length ≤ 1000000) (hid : S id = .cells ver 35 (cs.flatMap Enc.enc)) :
  Spec Tryz.prog 102 [.sl id ver 2 0 cs.length, I cs.length, L [s]] S (fun p S' => p = .sl id (ver + 1) 2 0 (cs.length + 1) ∧ S' = S.set id (.cells (ver + 1) 35 ((cs ++ [s]).flatMap Enc.enc))) := by
 refine yH Tryz.func102 Tryz.ntmps102 Tryz.results102 fun nx hd => ?_
 have hlt : id < nx := by
  rcases Nat.lt_or_ge id nx with h | h
  ·exact h
  ·have := hd id h; rw [hid] at this; cases this
 have hx := fun obs => (zE (S := S) (obs := obs) hlt).trans hid
 have hlt1 : ¬ nx ≤ id := by omega
 repeat apply za
 refine ze [] hx ?_
 repeat apply za
 refine ze [] hx ?_
 repeat apply za
 refine ze [] hx ?_
 repeat apply za
 refine ze [] hx ?_
 refine zp rfl ?_
 refine zi ?_
 repeat apply za
 refine ze [] hx ?_
 repeat apply za
 refine ze [] hx ?_
 refine zo rfl ?_
 repeat apply za
 refine ze [] (zm hx hlt1) ?_
 refine ⟨by omega, ?_⟩
 have hdd : ∀ (o : Ob), zR nx (S.set id o) := by
  intro o q hq
  rw [Store.set_other _ _ _ _ (by omega)]
  exact hd q hq
 exact zh ⟨_, _, by simp; rfl, ⟨by simp [zn], by simp⟩, zW (hdd _)⟩
theorem ZgO {S : Store} {id ver : Nat} (cs : List Stop) (i : Nat) (s : Stop) (hi : i ≤ cs.length) (hn : cs.length ≤ 1000000) (hid : S id = .cells ver 35 (cs.flatMap Enc.enc)) :
  Spec Tryz.prog 102 [.sl id ver 2 0 cs.length, I i, L [s]] S (fun p S' => p = .sl id (ver + 1) 2 0 (cs.length + 1) ∧ S' = S.set id (.cells (ver + 1) 35 ((cs.take i ++ s :: cs.drop i).flatMap Enc.enc))) := by
 by_cases h : i = cs.length
 ·subst h
  rw [List.take_length, List.drop_length]
  exact ZgN cs s hn hid
 ·exact ZeN cs i s (by omega) hn hid
open Go Go.Proofs
def Zm (d : zg) (t nx : Nat) (k : Nat) (ts : List PV) (ob : Ob) : Prop :=
 ts.length = k ∧ (k ≤ t → ts = (d.take k).flatMap Enc.enc ∧ ob = .dead) ∧
 (t < k → ∃ v l, d[t]? = some l ∧ ts = ((d.take k).flatMap Enc.enc).set t (.sl (nx + 4) v 2 0 l.length) ∧ ob = .cells v 35 (l.flatMap Enc.enc))
theorem ZgP {d : zg} {t nx k : Nat} {ts : List PV} {ob : Ob} (h : Zm d t nx k ts ob) (hk : k < d.length) (ht : k ≠ t) : Zm d t nx (k + 1) (ts ++ [L d[k]]) ob := by
 obtain ⟨h1, h2, h3⟩ := h
 have e : d.take (k + 1) = d.take k ++ [d[k]] := List.take_succ_eq_append_getElem hk
 refine ⟨by simp [h1], fun hkt => ?_, fun hkt => ?_⟩
 ·obtain ⟨a, b⟩ := h2 (by omega)
  exact ⟨by rw [e, a, List.flatMap_append]; rfl, b⟩
 ·obtain ⟨v, l, a, b, c⟩ := h3 (by omega)
  refine ⟨v, l, a, ?_, c⟩
  rw [b, e, List.flatMap_append, List.set_append_left _ _ (by rw [qS]; simp; omega)]
  rfl
theorem ZgQ {d : zg} {t nx : Nat} {ts : List PV} {ob : Ob} (h : Zm d t nx t ts ob) (hk : t < d.length) (v : Nat) : Zm d t nx (t + 1) (ts ++ [.sl (nx + 4) v 2 0 d[t].length]) (.cells v 35 (d[t].flatMap Enc.enc)) := by
 obtain ⟨h1, h2, h3⟩ := h
 have e : d.take (t + 1) = d.take t ++ [d[t]] := List.take_succ_eq_append_getElem hk
 refine ⟨by simp [h1], fun hkt => by omega, fun _ => ⟨v, d[t], List.getElem?_eq_getElem hk, ?_, rfl⟩⟩
 obtain ⟨a, -⟩ := h2 (Nat.le_refl _)
 have hl : ((d.take t).flatMap Enc.enc).length = t := by rw [qS]; simp; omega
 rw [a, e, List.flatMap_append, List.set_append_right _ _ (by omega), hl, Nat.sub_self]
 rfl
theorem XN (d : zg) (t : Nat) (hd0 : d.length ≤ 1048576) (hd1 : ∀ l ∈ d, l.length ≤ 1048576) (ht : ∀ l, d[t]? = some l → 0 < l.length) (S : Store) (nx : Nat) (hd : zR nx S) :
  Spec Tryz.prog 100 [.agg [L d]] S (fun p S' => ∃ v ts ob, Zm d t nx d.length ts ob ∧ p = .agg [.sl (nx + 3) v 1 0 d.length] ∧ S' = (S.set (nx + 3) (.cells v 72 ts)).set (nx + 4) ob) := by
 refine ud hd Tryz.func100 Tryz.ntmps100 Tryz.results100 ?_
 repeat apply za
 refine zb ?_
 intro v0 v1
 repeat apply za
 refine zb ?_
 intro v2
 refine je 2 0 72 1 rfl rfl fun v3 => ?_
 repeat apply za
 refine zb ?_
 show PW _ _ _ _ _ _ _ (ext _ _ _)
 rw [VM 1]
 refine zj (zM (fun (s : Nat × List PV × Ob × Nat × Nat) => s.1 ≤ d.length ∧ Zm d t nx s.1 s.2.1 s.2.2.1) (fun (k, ts, ob, v2, v3) => [(2, .ptr (nx + 1) v1 0), (3, .ptr (nx + 2) v2 0), (7, L d), (8, I d.length), (9, I k)]) (fun (k, ts, ob, v2, v3) => [.cells v0 58 [L d], .cells v1 58 [yD], .cells v2 58 [.sl (nx + 3) v3 1 0 k], .cells v3 72 ts, ob]) (fun s => d.length - s.1) (0, [], .dead, v2, v3) [] ⟨by simp, by simp [Zm]⟩ (by simp) (by simp) ?_)
 rintro ⟨k, ts, ob, v2, v3⟩ ⟨hk, hI⟩
 simp only at hk hI ⊢
 have htl := hI.1
 have htk : ts.take k = ts := List.take_of_length_le (by omega)
 repeat apply za
 refine zb ?_
 repeat apply za
 refine zt rfl (fun hc => ?_) (fun hc => ?_)
 ·simp at hc
  obtain ⟨l, tl, a1, a2, a3, e0⟩ := zI rfl d k hc
  obtain ⟨hkl, rfl⟩ := List.getElem?_eq_some_iff.1 a1
  have hk1 : 1 ≤ d.length - k := by omega
  refine zi (za (zj ?_))
  repeat apply za
  refine ze [] (zJ hc e0 hk1) ?_
  intro v5
  by_cases hkt : k = t
  ·subst hkt
   have hcl := XM d[k] (ht _ a1) (hd1 _ (List.getElem_mem hkl))
   obtain rfl := (hI.2.1 (Nat.le_refl _)).2
   refine wP (some [nx + 5]) (Row.pures [0, 2, 3] (.alt 1 (.alt 4 (Row.pures [5, 6] (.alt 7 (Row.pures [8] (.alt 9 (.done) .stop)) .stop)) .stop) (.alt 4 (Row.pures [5, 6] (.alt 1 (.alt 7 (Row.pures [8] (.alt 9 (.done) .stop)) .stop) .stop)) .stop))) mixed (by rfl) (by rfl) (by rfl) fun K Gp Gc Gh hK hGp hGc hGh X hX0 hX1 hX2 hX => ?_
   simp -implicitDefEqProofs [hX0, hX1, hX2, hX, htl, htk]
   try clear hX0 hX1 hX2 hX X
   refine ⟨?_, ?_⟩
   all_goals
    refine hGc _ _ _ _ _ _ _ ?_
    refine ((hcl _ (nx + 4) (by simp)).mono ?_).v
    rintro _ _ ⟨v4, rfl, rfl⟩
    rw [yN _ (by omega) (by simp), Nat.add_sub_cancel_left]
    refine ⟨by simp [yl], ?_⟩
    clear hGp hGc hGh
    clear Gp Gc Gh
    refine jA fun Gp Gc Gh hGp hGc hGh X hX0 hX1 hX2 hX => ?_
    simp -implicitDefEqProofs [hX0, hX1, hX2, hX, htl, htk]
    try clear hX0 hX1 hX2 hX X
    refine ⟨by omega, ?_⟩
    refine hK _ _ _ ?_
    clear hK hGp hGc hGh
    clear K Gp Gc Gh
    refine zb ?_
    exact zr (k + 1, _, _, v2, v3 + 1) [_] ⟨hc, ZgQ hI hkl v4⟩ (by simp; omega) (by simp [zx k (by omega)]) rfl (by simp; rfl)
  ·have hcl := Jf d[k] (hd1 _ (List.getElem_mem hkl))
   refine zD (some [nx + 5]) (Row.pures [0, 2, 3, 4, 5, 6] (.alt 1 (.alt 7 (Row.pures [8] (.alt 9 (.done) .stop)) .stop) .stop)) mixed (zm htl htk) ?_
   refine zN (hcl) (zm htl htk) ?_
   refine ⟨by omega, ?_⟩
   refine zb ?_
   exact zr (k + 1, _, _, v2, v3 + 1) [_] ⟨hc, ZgP hI hkl hkt⟩ (by simp; omega) (by simp [zx k (by omega)]) rfl (by simp; rfl)
 ·simp at hc
  obtain rfl : k = d.length := by omega
  refine zC ?_
  repeat apply za
  refine zb ?_
  refine zh ⟨_, (S.set (nx + 3) (.cells v3 72 ts)).set (nx + 4) ob, by simp; rfl, ⟨v3, ts, ob, hI, rfl, rfl⟩, ?_⟩
  intro o
  by_cases h4 : o = nx + 4
  ·subst h4
   exact .inl (by rw [Store.set_same]; simp)
  by_cases h3 : o = nx + 3
  ·subst h3
   exact .inl (by rw [Store.set_other _ _ _ _ h4, Store.set_same]; simp)
  rw [Store.set_other _ _ _ _ h4, Store.set_other _ _ _ _ h3]
  exact zW hd o
theorem ZgR (d : zg) (hd0 : d.length ≤ 1048576) (hd1 : ∀ l ∈ d, l.length ≤ 1048576) : Pure Tryz.prog 100 [.agg [L d]] (.agg [L d]) := by
 refine VL (k := d.length) (sz := 1) (e := 72) (cs := d.flatMap Enc.enc) 3 (fun S nx hd => (XN d d.length hd0 hd1 (by simp) S nx hd).mono ?_) (by simp)
 rintro _ _ ⟨v, ts, ob, ⟨h1, h2, -⟩, rfl, rfl⟩
 obtain ⟨rfl, rfl⟩ := h2 (Nat.le_refl _)
 rw [List.take_length]
 refine ⟨v, rfl, ?_⟩
 funext o
 by_cases h4 : o = nx + 4
 ·subst h4
  rw [Store.set_same, Store.set_other _ _ _ _ (by omega), hd _ (by omega)]
 ·rw [Store.set_other _ _ _ _ h4]
theorem ZgS (d : zg) (t : Nat) (l : zv) (hd0 : d.length ≤ 1048576) (hd1 : ∀ l ∈ d, l.length ≤ 1048576) (ht : d[t]? = some l) (hl : 0 < l.length) (S : Store) (nx : Nat) (hd : zR nx S) :
  Spec Tryz.prog 100 [.agg [L d]] S (fun p S' => ∃ v w, p = .agg [.sl (nx + 3) v 1 0 d.length] ∧
   S' = (S.set (nx + 3) (.cells v 72 ((d.flatMap Enc.enc).set t (.sl (nx + 4) w 2 0 l.length)))).set (nx + 4) (.cells w 35 (l.flatMap Enc.enc))) := by
 refine (XN d t hd0 hd1 (fun m hm => by rw [ht] at hm; cases hm; exact hl) S nx hd).mono ?_
 rintro _ _ ⟨v, ts, ob, ⟨h1, -, h3⟩, rfl, rfl⟩
 obtain ⟨w, m, hm, rfl, rfl⟩ := h3 (List.getElem?_eq_some_iff.1 ht).1
 rw [ht] at hm; cases hm
 rw [List.take_length]
 exact ⟨v, w, rfl, rfl⟩
open Go Go.Proofs
def qn (x : Inst) (t : zv) : Int := W (zV x (t.map (·.c)))
def qp (t : zv) : Int := W (zG t)
def yx (x : Inst) (d : zg) : Nat := (d.filter fun t => decide (zF x t ≠ 0)).length
theorem ZgT (x : Inst) (d e : zg) : yx x (d ++ e) = yx x d + yx x e := by simp [yx]
theorem ZgU (x : Inst) (t : zv) : yx x [t] = if zF x t = 0 then 0 else 1 := by
 by_cases h : zF x t = 0 <;> simp [yx, h]
theorem ZaH (x : Inst) (d : zg) : yx x d ≤ d.length := List.length_filter_le _ _
abbrev wS (x : Inst) (d : zg) : List PV := [I x.days, I x.veh, I x.cap, I x.len, L x.cust, L x.dist, L d, L (yq (d.flatten.map (·.c))), B (decide (¬ (yq (d.flatten.map (·.c))).Nodup)), L (d.map (zF x)), I (yx x d), L (d.map qp), L (d.map (qn x))]
theorem ZaI (x : Inst) (d : zg) (hx : x.cust.length ≤ 1048576) (hdo : DayOk d) (hf : d.flatten.length ≤ 1048576) : Pure Tryz.prog 98 [.agg (zA x), .agg [L d]] (.agg (wS x d)) := by
 have h1 := V5 d hdo.1 hf
 have h2 := Zae d.flatten hf
 have h3 := Zad (yq (d.flatten.map (·.c))) (by rw [uA, List.length_map]; exact hf) (YS _)
 generalize hon : yq (d.flatten.map (·.c)) = on at *
 generalize htw : decide (¬ on.Nodup) = tw at *
 refine zy Tryz.func98 Tryz.ntmps98 Tryz.results98 fun S nx hd => ?_
 repeat apply za
 refine zb ?_
 intro v0 v1 v2
 repeat apply za
 refine zD (some [nx, nx + 1]) (Row.pures [0, 1, 2, 3, 4, 5] (.alt 6 (.alt 7 (.done) .stop) .stop)) mixed trivial ?_
 refine zN (h1) trivial ?_
 refine zN (h2) trivial ?_
 intro v3
 repeat apply za
 refine zb ?_
 refine zB h3 ?_
 repeat apply za
 refine zb ?_
 refine je 3 9 39 1 rfl rfl fun v4 => ?_
 refine je 3 11 3 1 rfl rfl fun v5 => ?_
 refine je 3 12 3 1 rfl rfl fun v6 => ?_
 refine zj (zM (fun (k, v4, v5, v6) => k ≤ d.length) (fun (k, v4, v5, v6) => [(2, .ptr nx v0 0), (4, .ptr (nx + 2) v2 0), (5, .ptr (nx + 3) v3 0), (20, L d), (21, I d.length), (22, I k)])
  (fun (k, v4, v5, v6) => [.cells v0 25 (zA x), .cells v1 58 [L d], .cells v2 140 [I 0, I 0, I 0, I 0, yD, yD, yD, yD, B false, yD, I 0, yD, yD],
   .cells v3 140 [I x.days, I x.veh, I x.cap, I x.len, L x.cust, L x.dist, L d, L on, B tw, .sl (nx + 4) v4 1 0 k, I (yx x (d.take k)), .sl (nx + 5) v5 1 0 k, .sl (nx + 6) v6 1 0 k],
   .cells v4 39 (((d.map (zF x)).take k).flatMap Enc.enc), .cells v5 3 (((d.map qp).take k).flatMap Enc.enc), .cells v6 3 (((d.map (qn x)).take k).flatMap Enc.enc)]) (fun s => d.length - s.1) (0, v4, v5, v6) [] (by simp) (by simp) (by simp [yx]) ?_)
 rintro ⟨k, v4, v5, v6⟩ hk
 simp only at hk ⊢
 repeat apply za
 refine zb ?_
 repeat apply za
 refine zt rfl (fun hc => ?_) (fun hc => ?_)
 ·simp at hc
  obtain ⟨t, tl, a1, a2, a3, e0⟩ := zI rfl d k hc
  have hk1 : 1 ≤ d.length - k := by omega
  have htm := List.mem_of_getElem? a1
  have hm := YU x t hx (hdo.t t htm)
  have hl := V4 t (hdo.t t htm)
  have hw := YR x t (hdo.t t htm) (hdo.s t htm)
  have b1 : yx x (d.take (k + 1)) = yx x (d.take k) + if zF x t = 0 then 0 else 1 := by rw [a3, ZgT, ZgU]
  have b2 := ZaH x (d.take k)
  rw [List.length_take] at b2
  have b3 := hdo.n
  have b4 := Nat.min_le_left k d.length
  have f1 : (((d.map (zF x)).take (k + 1)).flatMap Enc.enc : List PV) = ((d.map (zF x)).take k).flatMap Enc.enc ++ [I (zF x t)] := by rw [← List.map_take, ← List.map_take, a3]; simp
  have f2 : (((d.map qp).take (k + 1)).flatMap Enc.enc : List PV) = ((d.map qp).take k).flatMap Enc.enc ++ [I (W (zG t))] := by rw [← List.map_take, ← List.map_take, a3]; simp [qp]
  have f3 : (((d.map (qn x)).take (k + 1)).flatMap Enc.enc : List PV) = ((d.map (qn x)).take k).flatMap Enc.enc ++ [I (W (zV x (t.map (·.c))))] := by rw [← List.map_take, ← List.map_take, a3]; simp [qn]
  have l1 : (((d.map (zF x)).take k).flatMap Enc.enc : List PV).length = k := by rw [qQ, List.length_take, List.length_map]; omega
  have l2 : (((d.map qp).take k).flatMap Enc.enc : List PV).length = k := by rw [qQ, List.length_take, List.length_map]; omega
  have l3 : (((d.map (qn x)).take k).flatMap Enc.enc : List PV).length = k := by rw [qQ, List.length_take, List.length_map]; omega
  generalize ((d.map (zF x)).take k).flatMap Enc.enc = c1 at *
  generalize ((d.map qp).take k).flatMap Enc.enc = c2 at *
  generalize ((d.map (qn x)).take k).flatMap Enc.enc = c3 at *
  have t1 : c1.take k = c1 := List.take_of_length_le (by omega)
  have t2 : c2.take k = c2 := List.take_of_length_le (by omega)
  have t3 : c3.take k = c3 := List.take_of_length_le (by omega)
  generalize yx x (d.take k) = bn at *
  have wb : IntKind.i64.wrap ((bn : Int) + 1) = ((bn + 1 : Nat) : Int) := zx bn (by omega)
  generalize zF x t = mt at *
  generalize W (zG t) = lt at *
  generalize W (zV x (t.map (·.c))) = wt at *
  refine zi (za (zj ?_))
  repeat apply za
  refine ze [] (zJ hc e0 hk1) ?_
  intro v7
  repeat apply za
  refine zb ?_
  refine zB hm ?_
  repeat apply za
  refine zb ?_
  refine qK (nx := nx) (fun _ : Unit => True) (fun _ => [(2, .ptr nx v0 0), (4, .ptr (nx + 2) v2 0), (5, .ptr (nx + 3) v3 0), (7, .ptr (nx + 7) v7 0), (8, I mt), (20, L d), (21, I d.length), (22, I k)]) (fun _ => S) (fun _ => [.cells v0 25 (zA x), .cells v1 58 [L d], .cells v2 140 [I 0, I 0, I 0, I 0, yD, yD, yD, yD, B false, yD, I 0, yD, yD],
   .cells v3 140 [I x.days, I x.veh, I x.cap, I x.len, L x.cust, L x.dist, L d, L on, B tw, .sl (nx + 4) v4 1 0 k, I (bn + (if mt = 0 then 0 else 1) : Nat), .sl (nx + 5) v5 1 0 k, .sl (nx + 6) v6 1 0 k],
   .cells v4 39 c1, .cells v5 3 c2, .cells v6 3 c3, .cells v7 72 [L t]]) ?_ ?_
  ·repeat apply za
   refine zt rfl (fun hq => ?_) (fun hq => ?_)
   ·simp at hq
    rw [if_neg hq]
    refine ze [] wb ?_
    exact zS () [] trivial (by simp) rfl (by simp)
   ·simp at hq
    rw [if_pos hq]
    refine zi ?_
    exact zS () [] trivial (by simp) rfl (by simp)
  ·rintro ⟨⟩ -
   repeat apply za
   refine ze [] (zm t1 l1) ?_
   refine ⟨by omega, ?_⟩
   repeat apply za
   refine zD (some [nx + 7]) (Row.pures [0, 2, 3, 4] (.alt 1 (.alt 5 (Row.pures [6] (.alt 7 (.done) .stop)) .stop) .stop)) mixed (zm t2 l2) ?_
   refine zN (hl) (zm t2 l2) ?_
   refine ⟨by omega, ?_⟩
   refine zD (some [nx, nx + 7]) (Row.pures [0, 2, 3, 4, 5] (.alt 1 (.alt 6 (Row.pures [7] (.alt 8 (.done) .stop)) .stop) .stop)) mixed (zm t3 l3) ?_
   refine zN (hw) (zm t3 l3) ?_
   refine ⟨by omega, ?_⟩
   refine zb ?_
   exact zr (k + 1, v4 + 1, v5 + 1, v6 + 1) [_] (by simp; omega) (by simp; omega) (by simp [zx k (by omega)]) rfl (by simp only [f1, f2, f3, b1]; simp; rfl)
 ·simp at hc
  obtain rfl : k = d.length := by omega
  refine zC ?_
  repeat apply za
  refine zb ?_
  refine yc 6 rfl ?_
  refine yc 5 rfl ?_
  refine yc 4 rfl ?_
  have g1 : (d.map (zF x)).take d.length = d.map (zF x) := List.take_of_length_le (by simp)
  have g2 : (d.map qp).take d.length = d.map qp := List.take_of_length_le (by simp)
  have g3 : (d.map (qn x)).take d.length = d.map (qn x) := List.take_of_length_le (by simp)
  exact zh (zk hd (by simp; rfl) (by simp [zn, g1, g2, g3]; simp [← hon, ← htw]))
open Go Go.Proofs
def Jg (P : Program) (k : FuncId) (args : Nat → List PV) (xs : List (List PV)) (ret : PV) : Prop :=
 qc P k ∧ ∀ (l : Nat) (V : Ctx → Store → World → Prop) (_ : ∀ {C C' : Ctx} {S S' : Store} {w w' : World}, Step C S w C' S' w' → V C S w → V C' S' w') (m : Nat) (J : Nat → Store → Prop), (∀ i A, J i A → zR m A) →
  (∀ i A obs x, xs[i]? = some x → J i A → PYield P V l x (ext A m obs) (fun T => ∃ A', J (i + 1) A' ∧ T = ext A' m obs)) →
  ∀ A, J 0 A → PCallsV P V k (args l) A (fun p T => p = ret ∧ J xs.length T)
theorem ZaJ {P : Program} {N : Nat} {f : FuncId} {fn : Func} {c : Code} {rs : List ResultVar} {args : Nat → List PV} {xs : List (List PV)} {ret : PV} (hf : P.funcs[f]? = some fn) (hname : (fn.name == "runtime.NumGoroutine") = false) (hb : fn.body = some c) (hN : fn.ntmps = N) (hrs : fn.results.toList = rs) (hargs : ∀ l, (args l).length ≤ N)
  (h : ∀ (l : Nat) (V : Ctx → Store → World → Prop) (keep : ∀ {C C' : Ctx} {S S' : Store} {w w' : World}, Step C S w C' S' w' → V C S w → V C' S' w') (nx : Nat) (J : Nat → Store → Prop), (∀ i A, J i A → zR nx A) →
   (∀ i A obs x, xs[i]? = some x → J i A → PYield P V l x (ext A nx obs) (fun T => ∃ A', J (i + 1) A' ∧ T = ext A' nx obs)) →
   ∀ A, J 0 A → PW P ⟨none, V, keep⟩ 0 N c (wN P rs (fun p T => p = ret ∧ J xs.length T)) (xW (args l)) (ext A nx [])) : Jg P f args xs ret := by
 refine ⟨qh hf hname hb, fun l V keep m J hJ hY A hA => ?_⟩
 have := h l V keep m J hJ hY A hA
 rw [yV (hJ 0 A hA)] at this
 exact JW hf hb hN hrs (hargs l) this
theorem PYield.mono {P : Program} {V : Ctx → Store → World → Prop} {l : Nat} {args : List PV} {S : Store} {Q Q' : Store → Prop} (h : PYield P V l args S Q) (hq : ∀ T, Q T → Q' T) : PYield P V l args S Q' := by
 intro C w vs h1 h2 h3 h4
 obtain ⟨fn, tmps, assign, body, hy, hR⟩ := h C w vs h1 h2 h3 h4
 refine ⟨fn, tmps, assign, body, hy, hR.mono ?_⟩
 rintro e w' ⟨S', C', a, b, c⟩
 exact ⟨S', C', a, hq _ b, c⟩
theorem ZaK {P : Program} {k : FuncId} {args : Nat → List PV} {xs : List (List PV)} {ret : PV} (h : Jg P k args xs ret) {V : Ctx → Store → World → Prop} (keep : ∀ {C C' : Ctx} {S S' : Store} {w w' : World}, Step C S w C' S' w' → V C S w → V C' S' w')
  {l nx : Nat} {J : Nat → Store → Prop} {ys : List (List PV)} (hY : ∀ i A obs x, ys[i]? = some x → J i A → PYield P V l x (ext A nx obs) (fun T => ∃ A', J (i + 1) A' ∧ T = ext A' nx obs))
  (off : Nat) (hxs : ∀ i x, xs[i]? = some x → ys[off + i]? = some x) {A : Store} (hJ : J off A) (obs : List Ob) :
  SpecV P V k (args l) (ext A nx obs) (fun p T => ∃ A', p = ret ∧ J (off + xs.length) A' ∧ T = ext A' nx obs) := by
 refine ⟨h.1, (h.2 l V keep (nx + obs.length) (fun i T => ∃ A', J (off + i) A' ∧ T = ext A' nx obs) ?_ ?_ (ext A nx obs) ⟨A, hJ, rfl⟩).mono ?_⟩
 ·rintro i T ⟨A', _, rfl⟩; exact jz
 ·rintro i T more x hx ⟨A1, hJ1, rfl⟩
  rw [Q0 _ _ rfl]
  refine (hY (off + i) A1 (obs ++ more) x (hxs i x hx) hJ1).mono ?_
  rintro T ⟨A', hA', rfl⟩
  exact ⟨ext A' nx obs, ⟨A', hA', rfl⟩, (Q0 _ _ rfl).symm⟩
 ·rintro p T ⟨rfl, A', hA', rfl⟩
  exact ⟨A', rfl, hA', rfl⟩
theorem Jh {P : Program} {nx : Nat} {F : Nat → PV} {obs : List Ob} {rs : List ResultVar} {ps : List PV} {J : Store → Prop} {A : Store} {ret : PV} (hd : zR nx A) (h1 : jK P F (ext A nx obs) rs = some ps) (h2 : zn ps = ret) (hJ : J A) :
  ∃ ps S', jK P F (ext A nx obs) rs = some ps ∧ (zn ps = ret ∧ J S') ∧ ∀ o, S' o = ext A nx obs o ∨ S' o = .dead := ⟨ps, A, h1, ⟨h2, hJ⟩, zW hd⟩
theorem ZaL {α : Type} {f : Nat → Option α} {n k : Nat} {v : α} (hk : k < n) (hf : f k = some v) : ((List.range n).filterMap f)[((List.range k).filterMap f).length]? = some v := by
 obtain ⟨m, rfl⟩ : ∃ m, n = k + (m + 1) := ⟨n - k - 1, by omega⟩
 rw [List.range_add, List.filterMap_append, List.getElem?_append_right (Nat.le_refl _), Nat.sub_self, List.range_succ_eq_map]
 simp [hf]
theorem ZaM {α : Type} {f : Nat → Option α} {k : Nat} (hf : f k = none) : ((List.range (k + 1)).filterMap f).length = ((List.range k).filterMap f).length := by
 rw [List.range_succ, List.filterMap_append]; simp [hf]
theorem ZaN {α : Type} {f : Nat → Option α} {k : Nat} {v : α} (hf : f k = some v) : ((List.range (k + 1)).filterMap f).length = ((List.range k).filterMap f).length + 1 := by
 rw [List.range_succ, List.filterMap_append]; simp [hf]
structure Spot where
 t : Nat
 p : Nat
 m : Int
abbrev wT (s : Spot) : List PV := [.agg [I s.t, I s.p, I s.m]]
def jP (l : zv) (i : Nat) : Int := if i = 0 then 0 else (l.getD (i - 1) default).c + 1
def j9 (l : zv) (i : Nat) : Int := if i < l.length then (l.getD i default).c + 1 else 0
def xL (x : Inst) (l : zv) (s : Stop) (i : Nat) : Int := W (W (arc x (jP l i) (s.c + 1) + arc x (s.c + 1) (j9 l i)) - arc x (jP l i) (j9 l i))
def x5 (x : Inst) (t : Nat) (l : zv) (w : Int) (s : Stop) (i : Nat) : Option Spot := if W (w + xL x l s i) ≤ x.len then some ⟨t, i, xL x l s i⟩ else none
def wz (x : Inst) (t : Nat) (l : zv) (fl bad ll w : Int) (s : Stop) : List Spot :=
 if 0 < bad - (if fl = 13 then 1 else 0) ∨ x.cap < W (ll + s.q) then [] else (List.range (l.length + 1)).filterMap (x5 x t l w s)
abbrev x6 (x : Inst) (d : zg) (on : List Int) (tw : Bool) (fs : List Int) (bad : Int) (ls ws : List Int) : List PV := [I x.days, I x.veh, I x.cap, I x.len, L x.cust, L x.dist, L d, L on, B tw, L fs, I bad, L ls, L ws]
theorem ZgV (x : Inst) (d : zg) (on : List Int) (tw : Bool) (fs : List Int) (bad : Nat) (ls ws : List Int) (t : Nat) (l : zv) (s : Stop) (fl ll w : Int) (hbad : bad ≤ 1048576) (hdn : d.length ≤ 1048576) (hd : d[t]? = some l) (hfs : fs[t]? = some fl) (hls : ls[t]? = some ll) (hws : ws[t]? = some w)
  (hfn : fs.length = d.length) (hln : ls.length = d.length) (hwn : ws.length = d.length) (hb : fl = 13 → 0 < bad) (hll : l.length ≤ 1048576) (hsl : ∀ s ∈ l, small s.c) (hss : small s.c) :
  Jg Tryz.prog 140 (fun y => [.agg (x6 x d on tw fs bad ls ws), I t, .agg [I s.c, I s.q], qL y]) ((wz x t l fl bad ll w s).map wT) (B true) := by
 refine ZaJ Tryz.func140 (by rfl) rfl Tryz.ntmps140 (congrArg Array.toList Tryz.results140) (by simp) fun y V keep nx J hJd hY A0 hA0 => ?_
 have ht : t < d.length := (List.getElem?_eq_some_iff.1 hd).1
 obtain ⟨fl', tf, a1, -, -, ef⟩ := zI rfl fs t (by omega)
 obtain ⟨ll', tl, a2, -, -, elo⟩ := zI rfl ls t (by omega)
 obtain ⟨w', tw', a3, -, -, ew⟩ := zI rfl ws t (by omega)
 obtain ⟨l', td, a4, -, -, ed⟩ := zI rfl d t ht
 obtain rfl : fl = fl' := by rw [hfs] at a1; exact Option.some.inj a1
 obtain rfl : ll = ll' := by rw [hls] at a2; exact Option.some.inj a2
 obtain rfl : w = w' := by rw [hws] at a3; exact Option.some.inj a3
 obtain rfl : l = l' := by rw [hd] at a4; exact Option.some.inj a4
 have h1 : 1 ≤ fs.length - t := by omega
 have h2 : 1 ≤ ls.length - t := by omega
 have h3 : 1 ≤ ws.length - t := by omega
 have h4 : 1 ≤ d.length - t := by omega
 have g1 : t < fs.length := by omega
 have g2 : t < ls.length := by omega
 have g3 : t < ws.length := by omega
 repeat apply za
 refine zb ?_
 intro v0 v1
 repeat apply za
 refine zb ?_
 repeat apply za
 refine ze [] (zJ ef h1 g1) ?_
 obtain ⟨oth, hoth⟩ : ∃ oth : Int, oth = bad - (if fl = 13 then 1 else 0) := ⟨_, rfl⟩
 refine qK (nx := nx) (fun _ : Unit => True) (fun _ => [(1, I t), (3, qL y), (4, .ptr nx v0 0), (6, .ptr (nx + 1) v1 0), (9, I oth)]) (fun _ => A0) (fun _ => [.cells v0 140 (x6 x d on tw fs bad ls ws), .cells v1 35 [I s.c, I s.q]]) ?_ ?_
 ·repeat apply za
  refine zt rfl (fun hq => ?_) (fun hq => ?_)
  ·simp at hq
   have hb' := hb hq
   rw [if_pos hq] at hoth
   have wb : IntKind.i64.wrap ((bad : Int) - 1) = oth := by rw [hoth, wr _ (by omega) (by omega)]
   refine ze [] wb ?_
   exact zS () [] trivial (by simp) rfl (by simp)
  ·simp at hq
   rw [if_neg hq] at hoth
   obtain rfl : oth = bad := by omega
   refine zi ?_
   exact zS () [] trivial (by simp) rfl (by simp)
 ·rintro ⟨⟩ -
  have hout : ∀ (h : 0 < oth ∨ x.cap < W (ll + s.q)), wz x t l fl bad ll w s = [] := fun h => by unfold wz; rw [if_pos (by rw [hoth] at h; exact h)]
  by_cases ho : 0 < oth
  ·rw [hout (.inl ho)] at hY ⊢
   repeat apply za
   refine zD (some [nx, nx + 1]) (Row.pures [0, 1, 2, 3, 4, 5, 6, 7, 8, 9, 10, 11, 12, 13, 14, 15] .done) mixed (zm ho zL) ?_
   refine zo rfl ?_
   repeat apply za
   refine zb ?_
   exact zh (Jh (hJd _ _ hA0) (by simp; rfl) (by simp [zn]) hA0)
  by_cases hcap : x.cap < W (ll + s.q)
  ·rw [hout (.inr hcap)] at hY ⊢
   repeat apply za
   refine zD (some [nx, nx + 1]) (Row.pures [0, 1, 2, 3, 4, 5, 6, 7, 8, 9, 10, 11, 12, 13, 14, 15] .done) mixed (yg ho hcap elo h2 g2 zL) ?_
   refine zo rfl ?_
   repeat apply za
   refine zb ?_
   exact zh (Jh (hJd _ _ hA0) (by simp; rfl) (by simp [zn]) hA0)
  have hz : wz x t l fl bad ll w s = (List.range (l.length + 1)).filterMap (x5 x t l w s) := by unfold wz; rw [if_neg (by rw [← hoth]; simp [ho, hcap])]
  clear hout
  rw [hz] at hY ⊢
  repeat apply za
  refine zD (some [nx, nx + 1]) (Row.pures [0, 1, 2, 3, 4, 5, 6, 7, 8, 9, 10, 11, 12, 13, 14, 15] .done) mixed (qv ho hcap elo h2 g2) ?_
  refine zp rfl ?_
  refine zi ?_
  have wc : IntKind.i64.wrap (s.c + 1) = s.c + 1 := wr _ (by unfold small at hss; omega) (by unfold small at hss; omega)
  repeat apply za
  refine zD (some [nx, nx + 1]) (Row.pures [0, 1, 2, 3, 4, 5, 6, 7, 8, 9, 10, 11] .done) mixed (ye ed h4 ht wc) ?_
  have wl : IntKind.i64.wrap ((l.length : Int) + 1) = ((l.length + 1 : Nat) : Int) := zx _ (by omega)
  repeat apply za
  refine ze [] wl ?_
  refine zj (qP (σ := Nat × Store) (fun s' => s'.1 ≤ l.length + 1 ∧ J ((List.range s'.1).filterMap (x5 x t l w s)).length s'.2) (fun s' => [(1, I t), (3, qL y), (4, .ptr nx v0 0), (6, .ptr (nx + 1) v1 0), (10, L l), (11, I (s.c + 1)), (54, I ((l.length + 1 : Nat) : Int)), (55, I s'.1)]) (fun s' => s'.2)
   (fun _ => [.cells v0 140 (x6 x d on tw fs bad ls ws), .cells v1 35 [I s.c, I s.q]]) (fun s' => l.length + 1 - s'.1) (zS (0, A0) [] (by simpa using hA0) (by simp) rfl (by simp)) ?_)
  rintro ⟨k, A⟩ ⟨hk, hJ⟩
  simp only at hk hJ ⊢
  repeat apply za
  refine zb ?_
  repeat apply za
  refine zt rfl (fun hc => ?_) (fun hc => ?_)
  ·simp at hc
   refine zi (za (zj ?_))
   repeat apply za
   refine zb ?_
   repeat apply za
   refine zb ?_
   repeat apply za
   refine zb ?_
   refine qK (nx := nx) (fun _ : Unit => True) (fun _ => [(1, I t), (3, qL y), (4, .ptr nx v0 0), (6, .ptr (nx + 1) v1 0), (10, L l), (11, I (s.c + 1)), (12, I k), (13, I (jP l k)), (14, I 0), (54, I ((l.length + 1 : Nat) : Int)), (55, I k)]) (fun _ => A) (fun _ => [.cells v0 140 (x6 x d on tw fs bad ls ws), .cells v1 35 [I s.c, I s.q]]) ?_ ?_
   ·repeat apply za
    refine zt rfl (fun hk0 => ?_) (fun hk0 => ?_)
    ·simp at hk0
     obtain ⟨j, rfl⟩ : ∃ j, k = j + 1 := ⟨k - 1, by omega⟩
     obtain ⟨p, tp, p1, -, -, -, ep⟩ := el 2 rfl l j (by omega)
     have wj : IntKind.i64.wrap (j : Int) = (j : Int) := wr _ (by omega) (by omega)
     have hjl : j < l.length := by omega
     have hj2 : 2 ≤ l.length * 2 - j * 2 := by omega
     have hsm := hsl p (List.mem_of_getElem? p1)
     have wp : IntKind.i64.wrap (p.c + 1) = p.c + 1 := wr _ (by unfold small at hsm; omega) (by unfold small at hsm; omega)
     have hah : jP l (j + 1) = p.c + 1 := by unfold jP; rw [if_neg (by omega), Nat.add_sub_cancel, List.getD_eq_getElem?_getD, p1]; rfl
     refine ze [] (qv wj ep wp hjl hj2) ?_
     exact zS () [] trivial (by simp [hah]) rfl (by simp)
    ·simp at hk0
     subst hk0
     refine zi ?_
     exact zS () [] trivial (by simp [jP]) rfl (by simp)
   ·rintro ⟨⟩ -
    repeat apply za
    refine zb ?_
    refine qK (nx := nx) (fun _ : Unit => True) (fun _ => [(1, I t), (3, qL y), (4, .ptr nx v0 0), (6, .ptr (nx + 1) v1 0), (10, L l), (11, I (s.c + 1)), (12, I k), (13, I (jP l k)), (14, I (j9 l k)), (54, I ((l.length + 1 : Nat) : Int)), (55, I k)]) (fun _ => A) (fun _ => [.cells v0 140 (x6 x d on tw fs bad ls ws), .cells v1 35 [I s.c, I s.q]]) ?_ ?_
    ·repeat apply za
     refine zt rfl (fun hk0 => ?_) (fun hk0 => ?_)
     ·simp at hk0
      obtain ⟨p, tp, p1, -, -, -, ep⟩ := el 2 rfl l k hk0
      have hj2 : 2 ≤ l.length * 2 - k * 2 := by omega
      have hsm := hsl p (List.mem_of_getElem? p1)
      have wp : IntKind.i64.wrap (p.c + 1) = p.c + 1 := wr _ (by unfold small at hsm; omega) (by unfold small at hsm; omega)
      have hah : j9 l k = p.c + 1 := by unfold j9; rw [if_pos hk0, List.getD_eq_getElem?_getD, p1]; rfl
      refine ze [] (ye ep wp hk0 hj2) ?_
      exact zS () [] trivial (by simp [hah]) rfl (by simp)
     ·simp at hk0
      refine zi ?_
      exact zS () [] trivial (by simp [j9]; omega) rfl (by simp)
    ·rintro ⟨⟩ -
     have q1 := xX x (jP l k) (s.c + 1)
     have q2 := xX x (s.c + 1) (j9 l k)
     have q3 := xX x (jP l k) (j9 l k)
     have hmo : W (W (arc x (jP l k) (s.c + 1) + arc x (s.c + 1) (j9 l k)) - arc x (jP l k) (j9 l k)) = xL x l s k := rfl
     repeat apply za
     refine zD (some [nx, nx + 1]) (Row.pures [0, 1, 2, 3, 4, 5, 6, 7, 8, 9, 10, 11, 12, 13, 14, 15, 16, 17] .done) mixed trivial ?_
     refine zN (q1) trivial ?_
     refine zN (q2) trivial ?_
     refine zN (q3) hmo ?_
     by_cases hf : W (w + xL x l s k) ≤ x.len
     ·have hsp : x5 x t l w s k = some ⟨t, k, xL x l s k⟩ := by unfold x5; rw [if_pos hf]
      have hat := ZaL (n := l.length + 1) (by omega) hsp
      have hnx := ZaN hsp
      have hy : (((List.range (l.length + 1)).filterMap (x5 x t l w s)).map wT)[((List.range k).filterMap (x5 x t l w s)).length]? = some (wT ⟨t, k, xL x l s k⟩) := by rw [List.getElem?_map, hat]; rfl
      repeat apply za
      refine wP (some [nx, nx + 1]) (Row.pures [0, 1, 2, 3, 4, 5, 6, 7, 8, 9, 10, 11, 12, 13, 14, 15, 16] (.alt 17 (Row.pures [18, 19] .done) .stop)) mixed (by rfl) (by rfl) (by rfl) fun K Gp Gc Gh hK hGp hGc hGh X hX0 hX1 hX2 hX => ?_
      simp -implicitDefEqProofs [hX0, hX1, hX2, hX, hmo, ew, h3, g3, hf]
      try clear hX0 hX1 hX2 hX X
      refine hGh _ _ _ _ _ (by rfl) (ZU rfl rfl rfl (hY _ _ _ _ hy hJ) ?_)
      rintro _ ⟨A', hJ', rfl⟩
      refine ⟨by simp [yl], ?_⟩
      clear hGp hGc hGh
      clear Gp Gc Gh
      refine jA fun Gp Gc Gh hGp hGc hGh X hX0 hX1 hX2 hX => ?_
      simp -implicitDefEqProofs [hX0, hX1, hX2, hX]
      try clear hX0 hX1 hX2 hX X
      refine hK _ _ _ ?_
      clear hK hGp hGc hGh
      clear K Gp Gc Gh
      refine zp rfl ?_
      refine zi ?_
      refine zb ?_
      exact zr (k + 1, A') [] ⟨by show k + 1 ≤ _; omega, by rw [hnx]; exact hJ'⟩ (by simp; omega) (by simp [zx k (by omega)]) rfl (by simp)
     ·have hsp : x5 x t l w s k = none := by unfold x5; rw [if_neg hf]
      have hnx := ZaM hsp
      repeat apply za
      refine zD (some [nx, nx + 1]) (Row.pures [0, 1, 2, 3, 4, 5, 6, 7, 8, 9, 10, 11, 12, 13, 14, 15, 16, 17, 18, 19] .done) mixed (yg hmo ew h3 g3 hf zL) ?_
      refine zp rfl ?_
      refine zi ?_
      refine zb ?_
      exact zr (k + 1, A) [] ⟨by show k + 1 ≤ _; omega, by rw [hnx]; exact hJ⟩ (by simp; omega) (by simp [zx k (by omega)]) rfl (by simp)
  ·simp at hc
   obtain rfl : k = l.length + 1 := by omega
   refine zC ?_
   repeat apply za
   refine zb ?_
   exact zh (Jh (hJd _ _ hJ) (by simp; rfl) (by simp [zn]) (by simpa using hJ))
open Go
structure Goods (n : Int) (l : List Stop) : Prop where
 each : ∀ s ∈ l, 0 ≤ s.c ∧ s.c < n ∧ 1 ≤ s.q ∧ s.q ≤ 12
 nd : (l.map (·.c)).Nodup
 len : l.length ≤ 6
structure Made (n : Int) (d : zg) : Prop where
 goods : Goods n d.flatten
 ne : ∀ t ∈ d, t ≠ []
theorem Y1 : ∀ (d : zg), (∀ t ∈ d, t ≠ []) → d.length ≤ d.flatten.length
 | [], _ => by simp
 | t :: d, h => by
  have := Y1 d fun t ht => h t (by simp [ht])
  have h1 : t.length ≠ 0 := by simpa using h t (by simp)
  rw [List.flatten_cons, List.length_append, List.length_cons]; omega
theorem wU {d : zg} {t : zv} (h : t ∈ d) : t.Sublist d.flatten := by
 obtain ⟨a, b, rfl⟩ := List.append_of_mem h
 rw [List.flatten_append, List.flatten_cons]
 exact (List.sublist_append_left t b.flatten).trans (List.sublist_append_right a.flatten _)
section
variable {n : Int} {d : zg} (h : Made n d)
include h
theorem Made.len : d.length ≤ 6 := Nat.le_trans (Y1 d h.ne) h.goods.len
theorem Made.tlen {t : zv} (ht : t ∈ d) : t.length ≤ 6 := Nat.le_trans (wU ht).length_le h.goods.len
theorem Made.stop {t : zv} (ht : t ∈ d) {s : Stop} (hs : s ∈ t) : 0 ≤ s.c ∧ s.c < n ∧ 1 ≤ s.q ∧ s.q ≤ 12 := h.goods.each s ((wU ht).subset hs)
theorem Made.small (hn : n ≤ 6) {t : zv} (ht : t ∈ d) : ∀ s ∈ t, small s.c := fun s hs => by have := h.stop ht hs; unfold Pv.small; omega
end
theorem ZgW {α : Type} {a b : List (List α)} (h : a.Sublist b) : a.flatten.Sublist b.flatten := by
 induction h with
 | slnil => exact List.Sublist.refl _
 | cons x _ ih => rw [List.flatten_cons]; exact ih.trans (List.sublist_append_right _ _)
 | cons_cons x _ ih => rw [List.flatten_cons, List.flatten_cons]; exact List.Sublist.append_left ih x
theorem ZgX {a b : List Int} (h : a.Perm b) : a.sum = b.sum := by
 induction h with
 | nil => rfl
 | cons x _ ih => simp [ih]
 | swap x y l => simp; omega
 | trans _ _ ih1 ih2 => exact ih1.trans ih2
theorem Made.sub {n : Int} {d e : zg} (h : Made n d) (hs : e.Sublist d) : Made n e := by
 have hf : e.flatten.Sublist d.flatten := ZgW hs
 exact ⟨⟨fun s q => h.goods.each s (hf.subset q), h.goods.nd.sublist (hf.map _), Nat.le_trans hf.length_le h.goods.len⟩, fun t ht => h.ne t (hs.subset ht)⟩
theorem Made.perm {n : Int} {d e : zg} (h : Made n d) (hp : e.Perm d) : Made n e := by
 have hf : e.flatten.Perm d.flatten := hp.flatten
 exact ⟨⟨fun s q => h.goods.each s (hf.subset q), (hf.map _).nodup_iff.2 h.goods.nd, by rw [hf.length_eq]; exact h.goods.len⟩, fun t ht => h.ne t (hp.subset ht)⟩
theorem xc (x : Inst) (d : zg) : yh x d = 0 ↔ (∀ t ∈ d, zF x t = 0) ∧ (d.flatten.map (·.c)).Nodup ∧ (d.length : Int) ≤ x.veh := by
 unfold yh
 cases hf : d.find? (fun t => zF x t != 0) with
 | some t =>
  have h1 := List.find?_some hf
  have h2 := List.mem_of_find?_eq_some hf
  simp only
  constructor
  ·intro e; simp [e] at h1
  ·rintro ⟨h, _⟩; exact h t h2
 | none =>
  rw [List.find?_eq_none] at hf
  simp only
  constructor
  ·intro e
   refine ⟨fun t ht => by simpa using hf t ht, ?_⟩
   split at e
   ·cases e
   ·split at e
    ·cases e
    ·rename_i h1 h2; exact ⟨by simpa using h1, by omega⟩
  ·rintro ⟨_, h1, h2⟩
   rw [if_neg (by simpa using h1), if_neg (by omega)]
theorem Zn (x : Inst) (t : zv) : zF x t = 0 ↔ yW x t = true ∧ (t.map (·.c)).Nodup ∧ W (zG t) ≤ x.cap ∧ W (zV x (t.map (·.c))) ≤ x.len := by
 unfold zF
 constructor
 ·intro e
  split at e
  ·cases e
  ·split at e
   ·cases e
   ·split at e
    ·cases e
    ·split at e
     ·cases e
     ·rename_i h1 h2 h3 h4
      exact ⟨by simpa using h1, by simpa using h2, by omega, by omega⟩
 ·rintro ⟨h1, h2, h3, h4⟩
  rw [if_neg (by simp [h1]), if_neg (by simpa using h2), if_neg (by omega), if_neg (by omega)]
theorem XO {t : zv} (h : ∀ s ∈ t, 0 ≤ s.q ∧ s.q ≤ 2147483648) : 0 ≤ zG t ∧ zG t ≤ 2147483648 * t.length := by
 induction t with
 | nil => simp [zG]
 | cons s t ih =>
  have := ih fun a ha => h a (by simp [ha])
  have := h s (by simp)
  simp only [zG, List.map_cons, List.sum_cons, List.length_cons] at *
  omega
theorem ZgY (a b : zv) : zG (a ++ b) = zG a + zG b := by simp [zG]
open Go Go.Proofs
def yt (x : Inst) (d : zg) (s : Stop) : List Spot :=
 if zF x [s] = 1 ∨ s.c ∈ d.flatten.map (·.c) ∨ ¬ (d.flatten.map (·.c)).Nodup ∨ x.veh < d.length then []
 else ((List.range d.length).flatMap fun t => wz x t (d.getD t []) (zF x (d.getD t [])) (yx x d) (qp (d.getD t [])) (qn x (d.getD t [])) s) ++
  (if yx x d = 0 ∧ zF x [s] = 0 ∧ (d.length : Int) < x.veh then [⟨d.length, 0, W (zV x [s.c])⟩] else [])
def vz (st : Spot × Bool) (b : Spot) : Spot × Bool := if st.2 = false ∨ b.m < st.1.m then (b, true) else st
def xy (l : List Spot) : Spot × Bool := l.foldl vz (⟨0, 0, 0⟩, false)
def qM (l : zv) (i : Nat) (s : Stop) : zv := l.take i ++ s :: l.drop i
def qw (d : zg) (b : Spot) (s : Stop) : zg := if b.t = d.length then d ++ [[s]] else d.set b.t (qM (d.getD b.t []) b.p s)
def yi (x : Inst) (d : zg) (s : Stop) : zg × Bool := bif (xy (yt x d s)).2 then (qw d (xy (yt x d s)).1 s, true) else (d, false)
theorem ZaO : ∀ (l : List Spot) (st : Spot × Bool), (l.foldl vz st).2 = true → (l.foldl vz st) = st ∨ (l.foldl vz st).1 ∈ l
 | [], st, _ => .inl rfl
 | b :: l, st, h => by
  rw [List.foldl_cons] at h ⊢
  rcases ZaO l _ h with e | e
  ·by_cases hq : st.2 = false ∨ b.m < st.1.m
   ·right; rw [e]; unfold vz; rw [if_pos hq]; simp
   ·left; rw [e]; unfold vz; rw [if_neg hq]
  ·exact .inr (by simp [e])
theorem Ji {l : List Spot} (h : (xy l).2 = true) : (xy l).1 ∈ l := by
 rcases ZaO l _ h with e | e
 ·rw [show l.foldl vz (⟨0, 0, 0⟩, false) = xy l from rfl] at e
  rw [e] at h; cases h
 ·exact e
theorem ZgZ {x : Inst} {t : Nat} {l : zv} {fl bad ll w : Int} {s : Stop} {b : Spot} (h : b ∈ wz x t l fl bad ll w s) : ¬ (0 < bad - (if fl = 13 then 1 else 0)) ∧ W (ll + s.q) ≤ x.cap ∧ b ∈ (List.range (l.length + 1)).filterMap (x5 x t l w s) := by
 unfold wz at h
 by_cases hw : 0 < bad - (if fl = 13 then 1 else 0) ∨ x.cap < W (ll + s.q)
 ·rw [if_pos hw] at h; cases h
 ·rw [if_neg hw] at h
  refine ⟨fun e => hw (.inl e), ?_, h⟩
  rcases Int.lt_or_le x.cap (W (ll + s.q)) with e | e
  ·exact absurd (.inr e) hw
  ·exact e
theorem Y2 {x : Inst} {d : zg} {s : Stop} {b : Spot} (h : b ∈ yt x d s) :
  zF x [s] ≠ 1 ∧ s.c ∉ d.flatten.map (·.c) ∧ (d.flatten.map (·.c)).Nodup ∧ (d.length : Int) ≤ x.veh ∧
  ((∃ l, d[b.t]? = some l ∧ b.p ≤ l.length ∧ ¬ (0 < (yx x d : Int) - (if zF x l = 13 then 1 else 0)) ∧ W (qp l + s.q) ≤ x.cap ∧ b.m = xL x l s b.p ∧ W (qn x l + b.m) ≤ x.len) ∨
   (b = ⟨d.length, 0, W (zV x [s.c])⟩ ∧ yx x d = 0 ∧ zF x [s] = 0 ∧ (d.length : Int) < x.veh)) := by
 unfold yt at h
 split at h
 ·cases h
 ·rename_i hq
  have q1 : zF x [s] ≠ 1 := fun e => hq (.inl e)
  have q2 : s.c ∉ d.flatten.map (·.c) := fun e => hq (.inr (.inl e))
  have q3 : (d.flatten.map (·.c)).Nodup := Classical.byContradiction fun e => hq (.inr (.inr (.inl e)))
  have q4 : (d.length : Int) ≤ x.veh := by
   rcases Int.lt_or_le x.veh d.length with e | e
   ·exact absurd (.inr (.inr (.inr e))) hq
   ·exact e
  refine ⟨q1, q2, q3, q4, ?_⟩
  rw [List.mem_append] at h
  rcases h with h | h
  ·left
   obtain ⟨t, ht, hb⟩ := List.mem_flatMap.1 h
   rw [List.mem_range] at ht
   have hd : d[t]? = some (d.getD t []) := by rw [List.getD_eq_getElem?_getD, List.getElem?_eq_getElem ht]; rfl
   obtain ⟨w1, w2, hb⟩ := ZgZ hb
   obtain ⟨i, hi, he⟩ := List.mem_filterMap.1 hb
   rw [List.mem_range] at hi
   unfold x5 at he
   by_cases hlen : W (qn x (d.getD t []) + xL x (d.getD t []) s i) ≤ x.len
   ·rw [if_pos hlen] at he
    cases he
    exact ⟨_, hd, by simp only; omega, w1, w2, rfl, hlen⟩
   ·rw [if_neg hlen] at he; cases he
  ·right
   split at h
   ·rename_i hc; simp at h; exact ⟨h, hc⟩
   ·cases h
def yu (a : Int) : List Int → Int
 | [] => a
 | c :: l => yu (c + 1) l
def Y3 : List Int → Int
 | [] => 0
 | c :: _ => c + 1
theorem ZaP (x : Inst) (c : Int) (r : List Int) : ∀ (p : List Int) (a : Int), y8 x a (p ++ c :: r) = y8 x a (p ++ r) + (arc x (yu a p) (c + 1) + arc x (c + 1) (Y3 r) - arc x (yu a p) (Y3 r))
 | [], a => by
  cases r with
  | nil => simp only [List.nil_append, y8, yu, Y3]; omega
  | cons e r => simp only [List.nil_append, y8, yu, Y3]; omega
 | e :: p, a => by
  simp only [List.cons_append, y8, yu]
  rw [ZaP x c r p (e + 1)]; omega
theorem ZaQ : ∀ (p : List Int) (a : Int), yu a p = if p.length = 0 then a else (p.getD (p.length - 1) 0) + 1
 | [], a => by simp [yu]
 | [c], a => by simp [yu]
 | c :: e :: p, a => by
  simp only [yu]
  rw [show yu (e + 1) p = yu (c + 1) (e :: p) from rfl, ZaQ (e :: p) (c + 1)]
  simp [List.getD_eq_getElem?_getD]
theorem Zg0 (l : zv) (i : Nat) (h : i < l.length) : (l.map (·.c)).getD i 0 = (l.getD i default).c := by
 rw [List.getD_eq_getElem?_getD, List.getD_eq_getElem?_getD, List.getElem?_map, List.getElem?_eq_getElem h]; rfl
theorem Zg1 (x : Inst) (l : zv) (s : Stop) (i : Nat) (h0 : l ≠ []) (hi : i ≤ l.length) :
  zV x ((qM l i s).map (·.c)) = zV x (l.map (·.c)) + (arc x (jP l i) (s.c + 1) + arc x (s.c + 1) (j9 l i) - arc x (jP l i) (j9 l i)) := by
 unfold zV qM
 rw [if_neg (by simp), if_neg (by simpa using h0)]
 rw [List.map_append, List.map_cons, ZaP, ← List.map_append, List.take_append_drop]
 have e1 : yu 0 ((l.take i).map (·.c)) = jP l i := by
  rw [ZaQ]
  unfold jP
  rw [List.length_map, List.length_take]
  by_cases hz : i = 0
  ·rw [if_pos (by omega), if_pos hz]
  ·rw [if_neg (by omega), if_neg hz, Zg0 _ _ (by rw [List.length_take]; omega)]
   rw [List.getD_eq_getElem?_getD, List.getD_eq_getElem?_getD, List.getElem?_take_of_lt (by omega), show min i l.length - 1 = i - 1 from by omega]
 have e2 : Y3 ((l.drop i).map (·.c)) = j9 l i := by
  unfold j9
  by_cases hz : i < l.length
  ·rw [if_pos hz, List.drop_eq_getElem_cons hz, List.getD_eq_getElem?_getD, List.getElem?_eq_getElem hz]; rfl
  ·rw [if_neg hz, List.drop_eq_nil_of_le (by omega)]; rfl
 rw [e1, e2]
theorem ZaR (x : Inst) (l : zv) (s : Stop) (i : Nat) (h0 : l ≠ []) (hi : i ≤ l.length) : qn x (qM l i s) = W (qn x l + xL x l s i) := by
 unfold qn xL
 rw [Zg1 x l s i h0 hi, wQ, Xb]
 generalize arc x (jP l i) (s.c + 1) + arc x (s.c + 1) (j9 l i) = p
 generalize arc x (jP l i) (j9 l i) = q
 generalize zV x (l.map (·.c)) = r
 simp only [W, IntKind.wrap_i64]; omega
theorem ZaS (l : zv) (s : Stop) (i : Nat) : qp (qM l i s) = W (qp l + s.q) := by
 unfold qp
 rw [wQ]
 have : zG (qM l i s) = zG l + s.q := by
  unfold zG qM
  conv => rhs; rw [← List.take_append_drop i l]
  simp only [List.map_append, List.map_cons, List.sum_append, List.sum_cons]; omega
 rw [this]
theorem Y4 (l : zv) (s : Stop) (i : Nat) : (qM l i s).Perm (s :: l) := by
 unfold qM
 have := List.perm_middle (a := s) (l₁ := l.take i) (l₂ := l.drop i)
 rwa [List.take_append_drop] at this
theorem XP {α : Type} : ∀ (d : List (List α)) (t : Nat) (l m : List α) (s : α), d[t]? = some l → m.Perm (s :: l) → (d.set t m).flatten.Perm (s :: d.flatten)
 | [], t, l, m, s, h, _ => by simp at h
 | a :: d, 0, l, m, s, h, hm => by
  simp at h; subst h
  simp only [List.set_cons_zero, List.flatten_cons]
  exact (hm.append_right _)
 | a :: d, t + 1, l, m, s, h, hm => by
  simp only [List.getElem?_cons_succ] at h
  simp only [List.set_cons_succ, List.flatten_cons]
  exact ((XP d t l m s h hm).append_left a).trans List.perm_middle
theorem XT {x : Inst} {d : zg} {s : Stop} {b : Spot} (h : b ∈ yt x d s) : (qw d b s).flatten.Perm (s :: d.flatten) := by
 obtain ⟨-, -, -, -, h⟩ := Y2 h
 unfold qw
 rcases h with ⟨l, hl, -⟩ | ⟨rfl, -⟩
 ·have hlt := (List.getElem?_eq_some_iff.1 hl).1
  rw [if_neg (by omega), List.getD_eq_getElem?_getD, hl]
  exact XP d b.t l _ s hl (Y4 l s b.p)
 ·rw [if_pos rfl]
  simp only [List.flatten_append, List.flatten_cons, List.flatten_nil, List.append_nil]
  exact List.perm_append_comm
theorem Jj {x : Inst} {d : zg} {s : Stop} (h : (yi x d s).2 = true) : (yi x d s).1.flatten.Perm (s :: d.flatten) := by
 unfold yi at h ⊢
 cases hb : (xy (yt x d s)).2 with
 | false => rw [hb] at h; cases h
 | true => exact XT (Ji hb)
theorem ZaT {x : Inst} {d : zg} {s : Stop} (h : (yi x d s).2 = false) : (yi x d s).1 = d := by
 unfold yi at h ⊢
 cases hb : (xy (yt x d s)).2 with
 | false => rfl
 | true => rw [hb] at h; cases h
theorem Zg2 {x : Inst} {a b : zv} (h : a.Perm b) : yW x a = yW x b := by
 unfold yW
 have h1 : a.all (qE x) = b.all (qE x) := by
  rw [Bool.eq_iff_iff, List.all_eq_true, List.all_eq_true]
  exact ⟨fun q s hs => q s (h.symm.subset hs), fun q s hs => q s (h.subset hs)⟩
 have h2 : a.isEmpty = b.isEmpty := by
  cases a with
  | nil => rw [List.nil_perm.1 h]
  | cons a l =>
   cases b with
   | nil => exact absurd h.symm (by simp)
   | cons => rfl
 rw [h1, h2]
theorem Jk {x : Inst} {t : zv} (h : yW x t = true) : t ≠ [] := by
 rintro rfl; simp [yW] at h
theorem XU {x : Inst} {t : zv} (h : yW x t = false) : zF x t = 1 := by unfold zF; rw [if_pos h]
theorem ZaU {x : Inst} {s : Stop} (h : zF x [s] ≠ 1) : qE x s = true := by
 cases hs : yW x [s] with
 | false => exact absurd (XU hs) h
 | true => simpa [yW] using hs
theorem uF {x : Inst} {d : zg} : yx x d = 0 ↔ ∀ t ∈ d, zF x t = 0 := by
 unfold yx
 rw [List.length_eq_zero_iff, List.filter_eq_nil_iff]
 simp
theorem XV {x : Inst} {d : zg} {s : Stop} {b : Spot} (h : b ∈ yt x d s) : yh x (qw d b s) = 0 := by
 have hp := XT h
 obtain ⟨q1, q2, q3, q4, h⟩ := Y2 h
 rw [xc]
 have hg := ZaU q1
 have hn : ((qw d b s).flatten.map (·.c)).Nodup := by
  rw [(hp.map _).nodup_iff, List.map_cons, List.nodup_cons]
  exact ⟨q2, q3⟩
 refine ⟨?_, hn, ?_⟩
 ·rcases h with ⟨l, hl, hi, ho, hcap, hm, hlen⟩ | ⟨rfl, hb, hs, hv⟩
  ·obtain ⟨hlt, hle⟩ := List.getElem?_eq_some_iff.1 hl
   have hpd : qw d b s = d.set b.t (qM l b.p s) := by unfold qw; rw [if_neg (by omega), List.getD_eq_getElem?_getD, hl]; rfl
   -- the other tours
   have hoth : ∀ j m, j ≠ b.t → d[j]? = some m → zF x m = 0 := by
    intro j m hj hm'
    refine Classical.byContradiction fun hbad => ?_
    have h13 : 0 < yx x d := by
     rcases Nat.eq_zero_or_pos (yx x d) with e | e
     ·exact absurd (uF.1 e m (List.mem_of_getElem? hm')) hbad
     ·exact e
    by_cases hf : zF x l = 13
    ·rw [if_pos hf] at ho
     have h2 : 2 ≤ yx x d := by
      unfold yx
      obtain ⟨hjl, hje⟩ := List.getElem?_eq_some_iff.1 hm'
      have key : ∀ (i j : Nat), i < j → ∀ (a c : zv), d[i]? = some a → d[j]? = some c → zF x a ≠ 0 → zF x c ≠ 0 → 2 ≤ (d.filter fun t => decide (zF x t ≠ 0)).length := by
       intro i j hij a c ha hc na nc
       obtain ⟨hil, rfl⟩ := List.getElem?_eq_some_iff.1 ha
       obtain ⟨hjl, rfl⟩ := List.getElem?_eq_some_iff.1 hc
       have e : d = d.take (i + 1) ++ d.drop (i + 1) := (List.take_append_drop _ _).symm
       rw [e, List.filter_append, List.length_append]
       have m1 : d[i] ∈ (d.take (i + 1)).filter fun t => decide (zF x t ≠ 0) := List.mem_filter.2 ⟨List.mem_of_getElem? (i := i) (by rw [List.getElem?_take_of_lt (by omega)]; exact ha), by simp [na]⟩
       have m2 : d[j] ∈ (d.drop (i + 1)).filter fun t => decide (zF x t ≠ 0) := List.mem_filter.2 ⟨List.mem_of_getElem? (i := j - (i + 1)) (by rw [List.getElem?_drop, show i + 1 + (j - (i + 1)) = j from by omega]; exact hc), by simp [nc]⟩
       have := List.length_pos_of_mem m1
       have := List.length_pos_of_mem m2
       omega
      have nl : zF x l ≠ 0 := by rw [hf]; decide
      rcases Nat.lt_or_ge j b.t with h3 | h3
      ·exact key j b.t h3 m l hm' hl hbad nl
      ·exact key b.t j (by omega) l m hl hm' nl hbad
     omega
    ·rw [if_neg hf] at ho; omega
   -- the tour itself
   have hself : zF x l = 0 ∨ zF x l = 13 := by
    by_cases hf : zF x l = 13
    ·exact .inr hf
    ·rw [if_neg hf] at ho
     exact .inl (uF.1 (by omega) l (List.mem_of_getElem? hl))
   have hst : yW x l = true := by
    cases e : yW x l with
    | true => rfl
    | false => rw [XU e] at hself; rcases hself with h | h <;> cases h
   have hne := Jk hst
   intro t ht
   rw [hpd] at ht
   obtain ⟨j, hj⟩ := List.mem_iff_getElem?.1 ht
   rw [List.getElem?_set] at hj
   by_cases hjb : b.t = j
   ·rw [if_pos hjb, if_pos hlt] at hj
    cases hj
    rw [Zn]
    refine ⟨?_, ?_, ?_, ?_⟩
    ·rw [Zg2 (Y4 l s b.p)]
     unfold yW at hst ⊢
     simp only [List.all_cons, List.isEmpty_cons, Bool.and_eq_true] at hst ⊢
     exact ⟨⟨hg, hst.1⟩, rfl⟩
    ·have hsub : (qM l b.p s).Sublist (qw d b s).flatten := by rw [hpd]; exact wU ht
     exact hn.sublist (hsub.map _)
    ·have := ZaS l s b.p
     unfold qp at this
     rw [this]; exact hcap
    ·have := ZaR x l s b.p hne hi
     unfold qn at this
     rw [this, ← hm]; exact hlen
   ·rw [if_neg hjb] at hj
    exact hoth j t (fun e => hjb e.symm) hj
  ·unfold qw
   rw [if_pos rfl]
   intro t ht
   rw [List.mem_append] at ht
   rcases ht with ht | ht
   ·exact uF.1 hb t ht
   ·simp at ht; subst ht; exact hs
 ·rcases h with ⟨l, hl, -⟩ | ⟨rfl, -, -, hv⟩
  ·have hlt := (List.getElem?_eq_some_iff.1 hl).1
   unfold qw; rw [if_neg (by omega), List.length_set]; exact q4
  ·unfold qw; rw [if_pos rfl, List.length_append]; simp; omega
def jF (c : Int) (t : zv) : zv := t.filter fun s => decide (s.c ≠ c)
def qW (c : Int) (d : zg) : zg := (d.map (jF c)).filter fun t => !t.isEmpty
def ZaV (c : Int) (d : zg) : Int := W ((d.flatten.filter fun s => decide (s.c = c)).map (·.q)).sum
theorem Zg3 (c : Int) (a b : zg) : qW c (a ++ b) = qW c a ++ qW c b := by simp [qW]
open Go Hp
theorem JI.begin : ∀ (l pre : List Stop) (T : zg) (g : Int → Option Int), JI pre T g → ((pre ++ l).map (·.c)).Nodup → ∃ g', JI (pre ++ l) (T ++ l.map fun s => [s]) g'
 | [], pre, T, g, h, _ => ⟨g, by simpa using h⟩
 | s :: l, pre, T, g, h, hn => by
  have hs : s.c ∉ pre.map (·.c) := by
   rw [List.map_append, List.nodup_append] at hn
   exact fun hm => hn.2.2 _ hm s.c (by simp) rfl
  obtain ⟨g', h'⟩ := JI.begin l (pre ++ [s]) (T ++ [[s]]) _ (h.snoc s hs) (by simpa using hn)
  exact ⟨g', by simpa using h'⟩
theorem Y5 {α : Type} (f : α → Int) : ∀ (T : List α) (i : Nat) (a b : α), T[i]? = some a → ((T.set i b).map f).sum = (T.map f).sum - f a + f b
 | [], i, a, b, h => by simp at h
 | t :: T, 0, a, b, h => by simp at h; subst h; simp; omega
 | t :: T, i + 1, a, b, h => by
  simp only [List.getElem?_cons_succ] at h
  simp only [List.set_cons_succ, List.map_cons, List.sum_cons]
  rw [Y5 f T i a b h]; omega
theorem Zg4 (x : Inst) : zV x [] = 0 := by simp [zV]
theorem Zg5 {x : Inst} {a b : List Int} {u v : Int} (hu : a[a.length - 1]? = some u) (hv : b[0]? = some v) : zV x (a ++ b) = zV x a + zV x b - jD x u v := by
 have ha : 0 < a.length := by
  have := (List.getElem?_eq_some_iff.1 hu).1; omega
 have h1 := ZfE x (a ++ b) (a.length - 1) u v (by rw [List.getElem?_append_left (by omega)]; exact hu) (by rw [Nat.sub_add_cancel ha, List.getElem?_append_right (Nat.le_refl _), Nat.sub_self]; exact hv)
 rw [Nat.sub_add_cancel ha, List.take_left', List.drop_left'] at h1
 ·exact h1
 ·rfl
 ·rfl
structure KI (x : Inst) (ss : List Stop) (C : Int) (st : zg × Int) : Prop where
 j : ∃ g, JI ss st.1 g
 may : ∀ t ∈ st.1, 1 < t.length → zF x t = 0
 num : st.2 ≤ x.veh
 cost : zZ x st.1 ≤ C
theorem KI.step {x : Inst} {ss : List Stop} {C : Int} {st : zg × Int} (h : KI x ss C st) {p : Pr} (ha : p.a ∈ ss.map (·.c)) (hb : p.b ∈ ss.map (·.c)) (hs : p.s = jD x p.a p.b) : KI x ss C (qa x st p) := by
 obtain ⟨g, hI⟩ := h.j
 obtain ⟨i, a, sa, hia, hsa, hsac, hga, hpi⟩ := hI.there ha
 obtain ⟨k, b, sb, hkb, hsb, hsbc, hgb, hpk⟩ := hI.there hb
 have hgi : st.1.getD i [] = a := by rw [List.getD_eq_getElem?_getD, hia]; rfl
 have hgk : st.1.getD k [] = b := by rw [List.getD_eq_getElem?_getD, hkb]; rfl
 unfold qa Z2
 rw [hpi, hpk, hgi, hgk]
 cases hc : yI x st.2 p i k a b with
 | false => exact h
 | true =>
  simp only [cond_true]
  unfold yI at hc
  simp only [Bool.and_eq_true, decide_eq_true_eq, Bool.not_eq_true', Bool.and_eq_false_iff, decide_eq_false_iff_not] at hc
  obtain ⟨⟨⟨⟨h1, h2⟩, h3⟩, h4⟩, h5⟩ := hc
  have hn := h.num
  have hpos : 0 < p.s := by rcases h4 with h4 | h4 <;> omega
  refine ⟨⟨_, hI.join hia hkb h1⟩, fun t ht hl => ?_, by simp only; omega, ?_⟩
  ·rcases List.mem_or_eq_of_mem_set ht with ht | ht
   ·rcases List.mem_or_eq_of_mem_set ht with ht | ht
    ·exact h.may t ht hl
    ·rw [ht]; exact h5
   ·rw [ht] at hl; simp at hl
  ·have hk2 : (st.1.set i (a ++ b))[k]? = some b := by rw [List.getElem?_set_ne h1]; exact hkb
   have e1 := Y5 (fun t : zv => zV x (t.map (·.c))) (st.1.set i (a ++ b)) k b [] hk2
   have e2 := Y5 (fun t : zv => zV x (t.map (·.c))) st.1 i a (a ++ b) hia
   have e3 := Zg5 (x := x) (a := a.map (·.c)) (b := b.map (·.c)) (u := p.a) (v := p.b) (by
    unfold uf at h2; rw [List.getElem?_map, List.length_map]; exact h2) (by unfold uC at h3; rw [List.getElem?_map]; exact h3)
   have hcst := h.cost
   unfold zZ at hcst ⊢
   simp only [List.map_append, List.map_nil, Zg4] at e1 e2
   rw [e3] at e2
   simp only
   omega
open Go Go.Proofs
theorem ZaW {x : Inst} (h : qU x) : ∀ (l : List Int) (a : Int), 0 ≤ y8 x a l ∧ y8 x a l ≤ 2147483648 * ((l.length : Int) + 1)
 | [], a => by
  have := h a 0
  simp only [y8, List.length_nil]; omega
 | c :: l, a => by
  have h1 := h a (c + 1)
  have h2 := ZaW h l (c + 1)
  simp only [y8, List.length_cons]; omega
theorem Y6 {x : Inst} (h : qU x) (l : List Int) : 0 ≤ zV x l ∧ zV x l ≤ 2147483648 * ((l.length : Int) + 1) := by
 unfold zV; split
 ·omega
 ·exact ZaW h l 0
def uG (d : zg) : List (Nat × Nat) := (List.range (d.length + 1)).flatMap fun t => (List.range ((d.getD t []).length + 1)).map fun p => (t, p)
def vA (d : zg) (s : Stop) (c : Nat × Nat) : zg := qw d ⟨c.1, c.2, 0⟩ s
def XW (x : Inst) (d : zg) (s : Stop) (c : Nat × Nat) : Int := if c.1 = d.length then W (zV x [s.c]) else xL x (d.getD c.1 []) s c.2
def Zo (x : Inst) (d : zg) (s : Stop) (c : Nat × Nat) : Option Spot := if yh x (vA d s c) = 0 then some ⟨c.1, c.2, XW x d s c⟩ else none
theorem ZaX (d : zg) (s : Stop) (b : Spot) : qw d b s = vA d s (b.t, b.p) := rfl
theorem ZaY {d : zg} {c : Nat × Nat} : c ∈ uG d ↔ c.1 ≤ d.length ∧ c.2 ≤ (d.getD c.1 []).length := by
 unfold uG
 rw [List.mem_flatMap]
 constructor
 ·rintro ⟨t, ht, hc⟩
  obtain ⟨p, hp, rfl⟩ := List.mem_map.1 hc
  rw [List.mem_range] at ht hp
  simp only; omega
 ·rintro ⟨h1, h2⟩
  exact ⟨c.1, List.mem_range.2 (by omega), List.mem_map.2 ⟨c.2, List.mem_range.2 (by omega), rfl⟩⟩
abbrev Jl (x : Inst) (d : zg) (s : Stop) : Prop := zF x [s] = 1 ∨ s.c ∈ d.flatten.map (·.c) ∨ ¬ (d.flatten.map (·.c)).Nodup ∨ x.veh < d.length
theorem ZaZ {d : zg} {s : Stop} {t p : Nat} {l : zv} (hl : d[t]? = some l) : vA d s (t, p) = d.set t (qM l p s) := by
 have hlt := (List.getElem?_eq_some_iff.1 hl).1
 unfold vA qw; rw [if_neg (by simp only; omega), List.getD_eq_getElem?_getD, hl]; rfl
theorem Za0 (d : zg) (s : Stop) (p : Nat) : vA d s (d.length, p) = d ++ [[s]] := by
 unfold vA qw; rw [if_pos rfl]
theorem Zg6 {d : zg} {s : Stop} {c : Nat × Nat} (hc : c ∈ uG d) : (vA d s c).flatten.Perm (s :: d.flatten) := by
 obtain ⟨t, p⟩ := c
 obtain ⟨h1, h2⟩ := ZaY.1 hc
 simp only at h1 h2
 by_cases ht : t = d.length
 ·subst ht
  rw [Za0]
  simp only [List.flatten_append, List.flatten_cons, List.flatten_nil, List.append_nil]
  exact List.perm_append_comm
 ·have hl : d[t]? = some (d.getD t []) := by rw [List.getD_eq_getElem?_getD, List.getElem?_eq_getElem (by omega)]; rfl
  rw [ZaZ hl]
  exact XP d t _ _ s hl (Y4 _ s p)
theorem Zg7 {x : Inst} {d : zg} {s : Stop} (hd : yh x d = 0) {c : Nat × Nat} (hc : c ∈ uG d) (h : yh x (vA d s c) = 0) : ¬ Jl x d s := by
 have hp := Zg6 (s := s) hc
 obtain ⟨g1, g2, g3⟩ := (xc x _).1 h
 obtain ⟨e1, e2, e3⟩ := (xc x _).1 hd
 rw [(hp.map _).nodup_iff, List.map_cons, List.nodup_cons] at g2
 rintro (q | q | q | q)
 ·obtain ⟨u, hu, hsu⟩ := List.mem_flatten.1 (hp.symm.subset (List.mem_cons_self (a := s)))
  have hm := ((Zn x u).1 (g1 u hu)).1
  unfold yW at hm
  simp only [Bool.and_eq_true, List.all_eq_true] at hm
  have hgs := hm.1 s hsu
  have : zF x [s] ≠ 1 := by
   unfold zF yW
   rw [if_neg (by simp [hgs])]
   split
   ·decide
   ·split
    ·decide
    ·split <;> decide
  exact this q
 ·exact g2.1 q
 ·exact q e2
 ·omega
theorem Za1 {x : Inst} {d : zg} {s : Stop} (hd : yh x d = 0) (ho : ¬ Jl x d s) {t p : Nat} {l : zv} (hl : d[t]? = some l) (hp : p ≤ l.length) :
  yh x (vA d s (t, p)) = 0 ↔ W (qp l + s.q) ≤ x.cap ∧ W (qn x l + xL x l s p) ≤ x.len := by
 obtain ⟨e1, e2, e3⟩ := (xc x _).1 hd
 have hlm := List.mem_of_getElem? hl
 have hlt := (List.getElem?_eq_some_iff.1 hl).1
 have hm0 := e1 l hlm
 have hne : l ≠ [] := Jk ((Zn x l).1 hm0).1
 have hb : yx x d = 0 := uF.2 e1
 have hg : d.getD t [] = l := by rw [List.getD_eq_getElem?_getD, hl]; rfl
 constructor
 ·intro h
  obtain ⟨g1, -, -⟩ := (xc x _).1 h
  rw [ZaZ hl] at g1
  have := g1 (qM l p s) (List.mem_of_getElem? (i := t) (by simp [hlt]))
  obtain ⟨-, -, a, b⟩ := (Zn x _).1 this
  have ha := ZaS l s p
  have hw := ZaR x l s p hne hp
  unfold qp at ha
  unfold qn at hw
  rw [ha] at a; rw [hw] at b
  exact ⟨a, b⟩
 ·rintro ⟨a, b⟩
  have hmem : (⟨t, p, xL x l s p⟩ : Spot) ∈ yt x d s := by
   unfold yt
   rw [if_neg ho]
   refine List.mem_append_left _ (List.mem_flatMap.2 ⟨t, List.mem_range.2 hlt, ?_⟩)
   rw [hg, hb, hm0]
   unfold wz
   rw [if_neg (by simp; omega)]
   refine List.mem_filterMap.2 ⟨p, List.mem_range.2 (by omega), ?_⟩
   unfold x5; rw [if_pos b]
  have := XV hmem
  rwa [ZaX] at this
theorem Zg8 {x : Inst} {d : zg} {s : Stop} (hd : yh x d = 0) (ho : ¬ Jl x d s) : yh x (vA d s (d.length, 0)) = 0 ↔ zF x [s] = 0 ∧ (d.length : Int) < x.veh := by
 obtain ⟨e1, e2, e3⟩ := (xc x _).1 hd
 have hb : yx x d = 0 := uF.2 e1
 constructor
 ·intro h
  obtain ⟨g1, -, g3⟩ := (xc x _).1 h
  rw [Za0] at g1 g3
  rw [List.length_append] at g3
  simp at g3
  exact ⟨g1 [s] (by simp), by omega⟩
 ·rintro ⟨a, b⟩
  have hmem : (⟨d.length, 0, W (zV x [s.c])⟩ : Spot) ∈ yt x d s := by
   unfold yt
   rw [if_neg ho, if_pos ⟨hb, a, b⟩]
   exact List.mem_append_right _ (by simp)
  have := XV hmem
  rwa [ZaX] at this
theorem Za2 {α β : Type} {f : α → Option β} {l : List α} (h : ∀ a ∈ l, f a = none) : l.filterMap f = [] := by
 rw [List.filterMap_eq_nil_iff]; exact h
theorem Za3 {α β : Type} {f g : α → List β} : ∀ {l : List α}, (∀ a ∈ l, f a = g a) → l.flatMap f = l.flatMap g
 | [], _ => rfl
 | a :: l, h => by rw [List.flatMap_cons, List.flatMap_cons, h a (by simp), Za3 fun b hb => h b (by simp [hb])]
theorem Za4 {α β : Type} {f g : α → Option β} : ∀ {l : List α}, (∀ a ∈ l, f a = g a) → l.filterMap f = l.filterMap g
 | [], _ => rfl
 | a :: l, h => by
  have ih := Za4 (f := f) (g := g) (l := l) fun b hb => h b (by simp [hb])
  rw [List.filterMap_cons, List.filterMap_cons, h a (by simp), ih]
def ug (x : Inst) (d : zg) (s : Stop) (t : Nat) : List Spot := ((List.range ((d.getD t []).length + 1)).map fun p => (t, p)).filterMap (Zo x d s)
theorem Za5 {x : Inst} {d : zg} {s : Stop} (hd : yh x d = 0) : yt x d s = (List.range (d.length + 1)).flatMap (ug x d s) := by
 by_cases ho : Jl x d s
 ·unfold yt
  rw [if_pos ho]
  symm
  rw [List.flatMap_eq_nil_iff]
  intro t ht
  rw [List.mem_range] at ht
  refine Za2 fun c hc => ?_
  obtain ⟨p, hp, rfl⟩ := List.mem_map.1 hc
  rw [List.mem_range] at hp
  unfold Zo
  rw [if_neg]
  intro h
  exact Zg7 hd (ZaY.2 ⟨by simp only; omega, by simp only; omega⟩) h ho
 ·unfold yt
  obtain ⟨e1, e2, e3⟩ := (xc x _).1 hd
  have hb : yx x d = 0 := uF.2 e1
  rw [if_neg ho, List.range_succ, List.flatMap_append]
  congr 1
  ·refine Za3 fun t ht => ?_
   rw [List.mem_range] at ht
   have hl : d[t]? = some (d.getD t []) := by rw [List.getD_eq_getElem?_getD, List.getElem?_eq_getElem ht]; rfl
   have hm0 := e1 _ (List.mem_of_getElem? hl)
   unfold ug wz
   rw [hm0, hb, List.filterMap_map]
   by_cases hcap : x.cap < W (qp (d.getD t []) + s.q)
   ·rw [if_pos (.inr hcap)]
    symm
    refine Za2 fun p hp => ?_
    rw [List.mem_range] at hp
    simp only [Function.comp_apply]
    unfold Zo
    rw [if_neg]
    rw [Za1 hd ho hl (by omega)]
    omega
   ·rw [if_neg (show ¬ (0 < ((0 : Nat) : Int) - (if (0 : Int) = 13 then 1 else 0) ∨ x.cap < W (qp (d.getD t []) + s.q)) from by rintro (q | q); exact absurd q (by decide); exact hcap q)]
    refine Za4 fun p hp => ?_
    rw [List.mem_range] at hp
    simp only [Function.comp_apply]
    have hi := Za1 (p := p) hd ho hl (by omega)
    unfold Zo x5 XW
    simp only
    rw [if_neg (show ¬ t = d.length by omega)]
    by_cases hw : W (qn x (d.getD t []) + xL x (d.getD t []) s p) ≤ x.len
    ·rw [if_pos hw, if_pos (hi.2 ⟨by omega, hw⟩)]
    ·rw [if_neg hw, if_neg fun e => hw (hi.1 e).2]
  ·have hi := Zg8 hd ho
   simp only [List.flatMap_cons, List.flatMap_nil, List.append_nil]
   unfold ug
   rw [show d.getD d.length [] = ([] : zv) from by rw [List.getD_eq_getElem?_getD, List.getElem?_eq_none (Nat.le_refl _)]; rfl]
   simp only [List.length_nil, Nat.zero_add, List.range_one, List.map_cons, List.map_nil, List.filterMap_cons, List.filterMap_nil]
   unfold Zo XW
   simp only [if_true]
   by_cases hc : zF x [s] = 0 ∧ (d.length : Int) < x.veh
   ·rw [if_pos ⟨hb, hc⟩, if_pos (hi.2 hc)]
   ·rw [if_neg fun e => hc e.2, if_neg fun e => hc (hi.1 e)]
theorem Za6 {α β γ : Type} (f : α → List β) (g : β → Option γ) : ∀ l : List α, (l.flatMap f).filterMap g = l.flatMap fun a => (f a).filterMap g
 | [] => rfl
 | a :: l => by rw [List.flatMap_cons, List.filterMap_append, Za6 f g l, List.flatMap_cons]
theorem Zg9 {x : Inst} {d : zg} {s : Stop} (hd : yh x d = 0) : yt x d s = (uG d).filterMap (Zo x d s) := by
 rw [Za5 hd]; unfold uG; rw [Za6]; rfl
theorem Jm {x : Inst} {d : zg} (h : yh x d = 0) : ∀ t ∈ d, t ≠ [] := fun t ht => Jk ((Zn x t).1 (((xc x d).1 h).1 t ht)).1
def uH (st : Int × Bool) (m : Int) : Int × Bool := if st.2 = false ∨ m < st.1 then (m, true) else st
def uI (l : List Int) : Int × Bool := l.foldl uH (0, false)
def Z5 (x : Inst) (d : zg) (s : Stop) (n : Nat) : List Int := (List.range n).filterMap fun t => bif (uI ((ug x d s t).map (·.m))).2 then some (uI ((ug x d s t).map (·.m))).1 else none
def Z6 (x : Inst) (d : zg) (s : Stop) : List Int := yq (Z5 x d s (d.length + 1))
theorem XX : ∀ (l : List Int) (m : Int), (l.foldl uH (m, true)).2 = true
 | [], _ => rfl
 | a :: l, m => by
  rw [List.foldl_cons]
  unfold uH
  split
  ·exact XX l a
  ·exact XX l m
theorem Zha : uI [] = (0, false) := rfl
theorem Zhb (a : Int) (l : List Int) : uI (a :: l) = l.foldl uH (a, true) := by
 unfold uI; rw [List.foldl_cons]; unfold uH; simp
def jQ (st : List Int × Int) (p : Spot) : List Int × Int :=
 if (p.t : Int) ≠ st.2 then (st.1 ++ [p.m], (p.t : Int)) else (st.1.set (st.1.length - 1) (if p.m < st.1.getD (st.1.length - 1) 0 then p.m else st.1.getD (st.1.length - 1) 0), st.2)
theorem Za7 (t : Nat) : ∀ (g : List Spot) (l : List Int) (m : Int), (∀ p ∈ g, p.t = t) → g.foldl jQ (l ++ [m], (t : Int)) = (l ++ [((g.map (·.m)).foldl uH (m, true)).1], (t : Int))
 | [], l, m, _ => rfl
 | p :: g, l, m, h => by
  have hp := h p (by simp)
  have hs : jQ (l ++ [m], (t : Int)) p = (l ++ [if p.m < m then p.m else m], (t : Int)) := by
   unfold jQ
   rw [hp, if_neg (by simp)]
   simp
  have hm : uH (m, true) p.m = (if p.m < m then p.m else m, true) := by
   unfold uH
   by_cases q : p.m < m <;> simp [q]
  rw [List.foldl_cons, hs, List.map_cons, List.foldl_cons, hm]
  exact Za7 t g l _ fun q hq => h q (by simp [hq])
theorem Zhc {t : Nat} {g : List Spot} (hg : ∀ p ∈ g, p.t = t) (l : List Int) (last : Int) (hl : last < t) :
  g.foldl jQ (l, last) = (l ++ (bif (uI (g.map (·.m))).2 then [(uI (g.map (·.m))).1] else []), if g = [] then last else (t : Int)) := by
 cases g with
 | nil => simp [Zha]
 | cons p g =>
  have hp := hg p (by simp)
  have hs : jQ (l, last) p = (l ++ [p.m], (t : Int)) := by
   unfold jQ; rw [hp, if_pos (by simp only [ne_eq]; omega)]
  rw [List.foldl_cons, hs, Za7 t g l p.m fun q hq => hg q (by simp [hq]), List.map_cons, Zhb, XX]
  simp
theorem Zhd {x : Inst} {d : zg} {s : Stop} {t : Nat} : ∀ p ∈ ug x d s t, p.t = t := by
 intro b hb
 unfold ug at hb
 obtain ⟨c, hc, he⟩ := List.mem_filterMap.1 hb
 obtain ⟨p, -, rfl⟩ := List.mem_map.1 hc
 unfold Zo at he
 split at he
 ·cases he; rfl
 ·cases he
theorem Za8 (x : Inst) (d : zg) (s : Stop) : ∀ n : Nat, ∃ last : Int, last < n ∧ ((List.range n).flatMap (ug x d s)).foldl jQ ([], -1) = (Z5 x d s n, last)
 | 0 => ⟨-1, by omega, rfl⟩
 | n + 1 => by
  obtain ⟨last, h1, h2⟩ := Za8 x d s n
  rw [List.range_succ, List.flatMap_append, List.foldl_append, h2]
  simp only [List.flatMap_cons, List.flatMap_nil, List.append_nil]
  rw [Zhc Zhd _ _ h1]
  refine ⟨_, ?_, by
   congr 1
   unfold Z5
   rw [List.range_succ, List.filterMap_append]
   congr 1
   cases hm : (uI ((ug x d s n).map (·.m))).2 <;> simp [hm]⟩
  split <;> omega
theorem Zhe {x : Inst} {d : zg} {s : Stop} (hd : yh x d = 0) : ((yt x d s).foldl jQ ([], -1)).1 = Z5 x d s (d.length + 1) := by
 rw [Za5 hd]
 obtain ⟨last, -, h⟩ := Za8 x d s (d.length + 1)
 rw [h]
theorem Za9 : ∀ {a b : List Int}, a.Perm b → a.Pairwise (· ≤ ·) → b.Pairwise (· ≤ ·) → a = b
 | [], b, h, _, _ => (List.nil_perm.1 h).symm
 | x :: a, [], h, _, _ => absurd h.symm (by simp)
 | x :: a, y :: b, h, ha, hb => by
  rw [List.pairwise_cons] at ha hb
  have hxy : x = y := by
   have h1 : x ∈ y :: b := h.subset (by simp)
   have h2 : y ∈ x :: a := h.symm.subset (by simp)
   have q1 : y ≤ x := by
    rcases List.mem_cons.1 h1 with e | e
    ·omega
    ·exact hb.1 x e
   have q2 : x ≤ y := by
    rcases List.mem_cons.1 h2 with e | e
    ·omega
    ·exact ha.1 y e
   omega
  subst hxy
  rw [Za9 ((List.perm_cons x).1 h) ha.2 hb.2]
open Go Go.Proofs
theorem Zhf (x : Inst) (d : zg) (s : Stop) (t : Nat) : (Z5 x d s t).length ≤ t := by
 unfold Z5; exact Nat.le_trans (List.length_filterMap_le _ _) (by simp)
open Go Go.Proofs
theorem Sim.drewN {C : Ctx} {S : Store} {w : World} (h : Sim C S w) : ∀ q : Nat, Sim C S (w.drewN q) ∧ Step C S w C S (w.drewN q)
 | 0 => by
  have e : w.drewN 0 = w := rfl
  rw [e]; exact ⟨h, .refl _ _ _⟩
 | q + 1 => by
  obtain ⟨a, b⟩ := Sim.drewN h q
  obtain ⟨c, d⟩ := a.drew
  have e : w.drewN (q + 1) = (w.drewN q).drew := by unfold World.drewN World.drew; simp [Nat.add_assoc]
  rw [e]
  exact ⟨c, b.trans d⟩
theorem Zhg (zs : List Int) (c : Int) (hn : zs.length ≤ 1048576) (hs : zs.Pairwise (· ≤ ·)) : Pure Tryz.prog 139 [L zs, I c] (.tup [I (zs.countP (· < c) : Nat), B (zs.contains c)]) := by
 intro S
 refine ⟨qh Tryz.func139 (by rfl) rfl, ?_⟩
 intro C w vs hS hl hr
 obtain ⟨u, v, rfl⟩ : ∃ u v, vs = #[u, v] := Zat hl
 obtain rfl := Ze (hr 1 _ v rfl rfl)
 have h0 : Rel C S w (.lst zs.length (zs.flatMap Enc.enc)) u := hr 0 _ u rfl rfl
 have hret : ∀ (k : Int) (b : Bool), Rel C S w (.tup [I k, B b]) (.tuple #[.int .i64 k, .bool b]) := by
  intro k b
  refine .tup rfl ?_
  intro i p v hc hv
  match i with
  | 0 => have hc : some (I k) = some p := hc; have hv : some (Value.int .i64 k) = some v := hv; cases hc; cases hv; exact .sc _
  | 1 => have hc : some (B b) = some p := hc; have hv : some (Value.bool b) = some v := hv; cases hc; cases hv; exact .sc _
  | i + 2 => simp at hc
 rw [Q4] at h0
 generalize hcs : zs.map I = cs at h0
 generalize hzl : zs.length = n at h0 hn
 cases h0 with
 | lst0 =>
  obtain rfl : zs = [] := List.eq_nil_of_length_eq_zero hzl
  refine (Tryz.slices_BinarySearch_int_empty _ _ c w).mono ?_
  rintro e w' ⟨rfl, rfl⟩
  exact ⟨_, _, _, _, rfl, ⟨rfl, rfl⟩, hret 0 false, hS, .refl _ _ _⟩
 | lst1 g1 g2 g3 g4 g5 g6 g7 =>
  rename_i cap b o ca e fz
  by_cases hz : zs = []
  ·subst hz
   simp at hzl
   subst hzl
   refine (Tryz.slices_BinarySearch_int_empty _ _ c w).mono ?_
   rintro e w' ⟨rfl, rfl⟩
   exact ⟨_, _, _, _, rfl, ⟨rfl, rfl⟩, hret 0 false, hS, .refl _ _ _⟩
  ·subst hcs
   have g5' := g5 (by simpa using hz)
   rw [List.length_map] at g5'
   have hcell : ∀ j, j < zs.length → w.cell? ⟨b, o + j, none⟩ = some (.int .i64 (zs.getD j 0)) := by
    intro j hj
    have e2 : ca[o + j]? = some ca[o + j] := by rw [Array.getElem?_eq_getElem]
    have e3 := Ze (g7 j (I (zs.getD j 0)) _ (by simp [hj]) e2)
    rw [e3] at e2
    simp [World.cell?, g3, e2]
   refine (Tryz.slices_BinarySearch_int b o n cap zs c w (by omega) (by omega) hcell (hs.sublist (List.take_sublist _ _))).mono ?_
   rintro e w' ⟨rfl, q, rfl⟩
   obtain ⟨s1, s2⟩ := hS.drewN q
   rw [List.take_of_length_le (by omega)]
   exact ⟨_, _, _, _, rfl, ⟨rfl, rfl⟩, (hret _ _).mono s2, s1, s2⟩
theorem Zhh {n k : Nat} (hk : k < n) (W : Nat → List Spot) (E : List Spot) (i : Nat) (x : List PV) (h : ((W k).map wT)[i]? = some x) : (((List.range n).flatMap W ++ E).map wT)[((List.range k).flatMap W).length + i]? = some x := by
 obtain ⟨m, rfl⟩ : ∃ m, n = k + (m + 1) := ⟨n - k - 1, by omega⟩
 rw [List.getElem?_map] at h ⊢
 rw [List.range_add, List.flatMap_append, List.append_assoc, List.getElem?_append_right (Nat.le_add_right _ _), Nat.add_sub_cancel_left, List.range_succ_eq_map]
 have hi : i < (W k).length := by
  rcases Nat.lt_or_ge i (W k).length with e | e
  ·exact e
  ·rw [List.getElem?_eq_none e] at h; cases h
 rw [List.getElem?_append_left (by simp; omega)]
 simp only [List.map_cons, List.flatMap_cons, Nat.add_zero]
 rw [List.getElem?_append_left (by omega)]
 exact h
theorem Zhi (W : Nat → List Spot) (k : Nat) : ((List.range (k + 1)).flatMap W).length = ((List.range k).flatMap W).length + (W k).length := by
 rw [List.range_succ, List.flatMap_append, List.length_append]; simp
theorem Zhj (l : List Int) (c : Int) : (yq l).contains c = l.contains c := by
 rw [Bool.eq_iff_iff, List.contains_iff_mem, List.contains_iff_mem]
 exact (List.mergeSort_perm l _).mem_iff
theorem Zba {x : Inst} {s : Stop} (hx : x.cust.length ≤ 1048576) (h : zF x [s] ≠ 1) : small s.c := by
 have := ZaU h
 unfold qE at this
 simp only [Bool.and_eq_true, decide_eq_true_eq] at this
 unfold small; omega
theorem Zbb (x : Inst) (d : zg) (s : Stop) (hx : x.cust.length ≤ 1048576) (hdo : DayOk d) (hf : d.flatten.length ≤ 1048576) : uy Tryz.prog 138 [.ip [I s.c, I s.q], .ip (wS x d)] ((yt x d s).map wT) := by
 have hmay := YU x [s] hx (by simp)
 have hse := Zhg (yq (d.flatten.map (·.c))) s.c (by rw [uA, List.length_map]; exact hf) (YS _)
 rw [Zhj] at hse
 generalize ((yq (d.flatten.map (·.c))).countP (· < s.c) : Nat) = cnt at hse
 obtain ⟨tw, htw⟩ : ∃ tw, tw = decide (¬ (yq (d.flatten.map (·.c))).Nodup) := ⟨_, rfl⟩
 have htw' : tw = decide (¬ (d.flatten.map (·.c)).Nodup) := by rw [htw]; exact decide_eq_decide.2 (not_congr (List.mergeSort_perm _ _).nodup_iff)
 obtain ⟨th, hth⟩ : ∃ th, th = (d.flatten.map (·.c)).contains s.c := ⟨_, rfl⟩
 rw [← hth] at hse
 have hlk : wS x d = x6 x d (yq (d.flatten.map (·.c))) tw (d.map (zF x)) (yx x d) (d.map qp) (d.map (qn x)) := by rw [htw]
 rw [hlk]
 obtain ⟨on, hon⟩ : ∃ on, on = yq (d.flatten.map (·.c)) := ⟨_, rfl⟩
 rw [← hon] at hse ⊢
 obtain ⟨fa, hfa⟩ : ∃ fa, fa = zF x [s] := ⟨_, rfl⟩
 rw [← hfa] at hmay
 have hdn := hdo.n
 refine YL Tryz.func138 (by rfl) rfl Tryz.ntmps138 (congrArg Array.toList Tryz.results138) (by simp) fun l V keep nx J hJd hY A0 hA0 => ?_
 repeat apply za
 refine zD (some []) (Row.pures [0, 1, 2, 3, 4, 5] (.alt 6 (.alt 7 (Row.pures [8] .done) .stop) .stop)) mixed trivial ?_
 refine zN (Xp s) trivial ?_
 intro v0
 repeat apply za
 refine zb ?_
 refine zB hmay ?_
 repeat apply za
 refine zb ?_
 refine zB hse ?_
 by_cases hout : zF x [s] = 1 ∨ s.c ∈ d.flatten.map (·.c) ∨ ¬ (d.flatten.map (·.c)).Nodup ∨ x.veh < d.length
 ·have hz : yt x d s = [] := by unfold yt; rw [if_pos hout]
  rw [hz] at hY ⊢
  by_cases h1 : fa = 1
  ·repeat apply za
   refine ze [(2, 30), (5, 33), (9, 37)] (zm h1 zL) ?_
   refine zo rfl ?_
   exact zh (ww (hJd _ _ hA0) rfl (by simpa using hA0))
  cases h2 : th with
  | true =>
   repeat apply za
   refine ze [(2, 30), (5, 33), (9, 37)] (zm h1 zL) ?_
   refine zo rfl ?_
   exact zh (ww (hJd _ _ hA0) rfl (by simpa using hA0))
  | false =>
   cases h3 : tw with
   | true =>
    repeat apply za
    refine ze [(2, 30), (5, 33), (9, 37)] (zm h1 zL) ?_
    refine zo rfl ?_
    exact zh (ww (hJd _ _ hA0) rfl (by simpa using hA0))
   | false =>
    have h4 : x.veh < d.length := by
     rcases hout with e | e | e | e
     ·exact absurd (hfa.trans e) h1
     ·have : th = true := by rw [hth, List.contains_iff_mem]; exact e
      rw [h2] at this; cases this
     ·have : tw = true := by rw [htw']; exact decide_eq_true e
      rw [h3] at this; cases this
     ·exact e
    repeat apply za
    refine ze [(2, 30), (5, 33), (9, 37)] (zJ h1 h4 zL) ?_
    refine zo rfl ?_
    exact zh (ww (hJd _ _ hA0) rfl (by simpa using hA0))
 have h1 : ¬ fa = 1 := fun e => hout (.inl (hfa ▸ e))
 have h2 : th = false := by
  cases e : th with
  | false => rfl
  | true => rw [hth, List.contains_iff_mem] at e; exact absurd (.inr (.inl e)) hout
 have h3 : tw = false := by
  cases e : tw with
  | false => rfl
  | true => rw [htw'] at e; exact absurd (.inr (.inr (.inl (of_decide_eq_true e)))) hout
 have h4 : ¬ x.veh < d.length := fun e => hout (.inr (.inr (.inr e)))
 have hsm := Zba hx (s := s) (fun e => hout (.inl e))
 obtain ⟨WW, hWW⟩ : ∃ WW : Nat → List Spot, WW = fun t => wz x t (d.getD t []) (zF x (d.getD t [])) (yx x d) (qp (d.getD t [])) (qn x (d.getD t [])) s := ⟨_, rfl⟩
 obtain ⟨EE, hEE⟩ : ∃ EE : List Spot, EE = if yx x d = 0 ∧ zF x [s] = 0 ∧ (d.length : Int) < x.veh then [⟨d.length, 0, W (zV x [s.c])⟩] else [] := ⟨_, rfl⟩
 have hz : yt x d s = (List.range d.length).flatMap WW ++ EE := by unfold yt; rw [if_neg hout, hWW, hEE]
 rw [hz] at hY ⊢
 subst h2 h3
 repeat apply za
 refine ze [(2, 30), (5, 33), (9, 37)] (zJ h1 h4 zL) ?_
 refine zp rfl ?_
 refine zi ?_
 repeat apply za
 refine zb ?_
 refine zj (qP (σ := Nat × Store) (fun s' => s'.1 ≤ d.length ∧ J ((List.range s'.1).flatMap WW).length s'.2) (fun s' => [(0, qL l), (1, .ip [I s.c, I s.q]), (2, .ip (x6 x d on false (d.map (zF x)) (yx x d) (d.map qp) (d.map (qn x)))), (4, .ptr nx v0 0), (5, I d.length), (6, I fa), (44, I d.length), (45, I s'.1)]) (fun s' => s'.2)
  (fun _ => [.cells v0 72 [L [s]]]) (fun s' => d.length - s'.1) (zS (0, A0) [] (by simpa using hA0) (by simp) rfl (by simp)) ?_)
 rintro ⟨k, A⟩ ⟨hk, hJ⟩
 simp only at hk hJ ⊢
 repeat apply za
 refine zb ?_
 repeat apply za
 refine zt rfl (fun hc => ?_) (fun hc => ?_)
 ·simp at hc
  have hdk : d[k]? = some d[k] := List.getElem?_eq_getElem hc
  have hg : d.getD k [] = d[k] := by rw [List.getD_eq_getElem?_getD, hdk]; rfl
  have hb : zF x d[k] = 13 → 0 < yx x d := by
   intro e
   rcases Nat.eq_zero_or_pos (yx x d) with q | q
   ·rw [uF.1 q _ (List.getElem_mem hc)] at e; cases e
   ·exact q
  have hw := ZgV x d on false (d.map (zF x)) (yx x d) (d.map qp) (d.map (qn x)) k d[k] s (zF x d[k]) (qp d[k]) (qn x d[k]) (Nat.le_trans (ZaH x d) hdn) hdn hdk (by rw [List.getElem?_map, hdk]; rfl) (by rw [List.getElem?_map, hdk]; rfl) (by rw [List.getElem?_map, hdk]; rfl) (by simp) (by simp) (by simp) hb (hdo.t _ (List.getElem_mem hc)) (hdo.s _ (List.getElem_mem hc)) hsm
  have hWk : WW k = wz x k d[k] (zF x d[k]) (yx x d) (qp d[k]) (qn x d[k]) s := by rw [hWW]; simp only [hg]
  rw [← hWk] at hw
  have hlen := Zhi WW k
  refine zi (za (zj ?_))
  repeat apply za
  refine zb ?_
  repeat apply za
  refine zQ [] (by rfl) (by rfl) fun K Gc Gh hK hGc hGh X hX0 hX => ?_
  simp -implicitDefEqProofs [hX0, hX]
  try clear hX0 hX X
  refine hGc _ _ _ _ _ _ _ fun hsuf => ((ZaK hw keep hY _ (Zhh hc WW EE) hJ _).mono ?_)
  rintro _ _ ⟨A', rfl, hJ', rfl⟩
  rw [List.length_map, ← hlen] at hJ'
  refine ⟨_, _, rfl, ?_⟩
  clear hGc hGh
  clear Gc Gh
  refine zP hsuf (D := []) (by rfl) fun Gc Gh hGc hGh X hX0 hX => ?_
  simp -implicitDefEqProofs [hX0, hX]
  clear hX0 hX X
  refine hK _ _ _ ?_
  clear hK hGc hGh
  clear K Gc Gh
  refine zp rfl ?_
  refine zi ?_
  refine zb ?_
  exact zr (k + 1, A') [] ⟨hc, hJ'⟩ (by simp; omega) (by simp [zx k (by omega)]) rfl (by simp)
 ·simp at hc
  obtain rfl : k = d.length := by omega
  refine zC ?_
  by_cases he : yx x d = 0 ∧ zF x [s] = 0 ∧ (d.length : Int) < x.veh
  ·have hE : EE = [⟨d.length, 0, W (zV x [s.c])⟩] := by rw [hEE, if_pos he]
   obtain ⟨e1, e2, e3⟩ := he
   have hlw := YR x [s] (by simp) (by simpa using hsm)
   have h5 : fa = 0 := hfa.trans e2
   have hy : (((List.range d.length).flatMap WW ++ EE).map wT)[((List.range d.length).flatMap WW).length]? = some (wT ⟨d.length, 0, W (zV x [s.c])⟩) := by
    rw [List.getElem?_map, List.getElem?_append_right (Nat.le_refl _), Nat.sub_self, hE]; rfl
   simp only [List.map_cons, List.map_nil] at hlw
   repeat apply za
   refine ze [(3, 58), (7, 62)] (ye e1 h5 e3 zL) ?_
   refine zo rfl ?_
   refine zQ [] (by rfl) (by rfl) fun K Gc Gh hK hGc hGh X hX0 hX => ?_
   simp -implicitDefEqProofs [hX0, hX]
   try clear hX0 hX X
   refine hGc _ _ _ _ _ _ _ fun hsuf => ((hlw _).mono ?_).v
   rintro _ _ ⟨rfl, rfl⟩
   refine ⟨_, _, rfl, ?_⟩
   clear hGc hGh
   clear Gc Gh
   refine zP hsuf (D := []) (by rfl) fun Gc Gh hGc hGh X hX0 hX => ?_
   simp -implicitDefEqProofs [hX0, hX]
   try clear hX0 hX X
   refine hGh _ _ _ _ _ fun hsuf => ZU rfl rfl rfl (hY _ _ _ _ hy hJ) ?_
   rintro _ ⟨A', hJ', rfl⟩
   refine ⟨_, _, rfl, ?_⟩
   clear hGc hGh
   clear Gc Gh
   refine zP hsuf (D := []) (by rfl) fun Gc Gh hGc hGh X hX0 hX => ?_
   simp -implicitDefEqProofs [hX0, hX]
   try clear hX0 hX X
   refine hK _ _ _ ?_
   clear hK hGc hGh
   clear K Gc Gh
   exact ww (hJd _ _ hJ') rfl (by rw [List.length_map, List.length_append, hE]; exact hJ')
  ·have hE : EE = [] := by rw [hEE, if_neg he]
   have hfin : J (((List.range d.length).flatMap WW ++ EE).map wT).length A := by rw [hE, List.append_nil, List.length_map]; exact hJ
   by_cases e1 : yx x d = 0
   ·by_cases e2 : fa = 0
    ·have e3 : ¬ (d.length : Int) < x.veh := fun e => he ⟨e1, hfa ▸ e2, e⟩
     repeat apply za
     refine ze [(3, 58), (7, 62)] (ye e1 e2 e3 zL) ?_
     refine zp rfl ?_
     refine zi ?_
     exact ww (hJd _ _ hJ) rfl hfin
    ·repeat apply za
     refine ze [(3, 58), (7, 62)] (zJ e1 e2 zL) ?_
     refine zp rfl ?_
     refine zi ?_
     exact ww (hJd _ _ hJ) rfl hfin
   ·repeat apply za
    refine ze [(3, 58), (7, 62)] (zm e1 zL) ?_
    refine zp rfl ?_
    refine zi ?_
    exact ww (hJd _ _ hJ) rfl hfin
open Go Go.Proofs
theorem Zbc (id v : Nat) (cs : List PV) (d : zg) : (d.flatMap Enc.enc).map (yG id v cs) = (d.flatMap Enc.enc : List PV) := by
 induction d with
 | nil => rfl
 | cons l d ih => rw [List.flatMap_cons, List.map_append, ih]; rfl
theorem Zhk (id v : Nat) (cs : List PV) (d : zg) (t : Nat) (p : PV) : ((d.flatMap Enc.enc).set t p).map (yG id v cs) = (d.flatMap Enc.enc : List PV).set t (yG id v cs p) := by
 rw [List.map_set, Zbc]
theorem Zbd : ∀ (d : zg) (t : Nat) (l : zv), (d.flatMap Enc.enc : List PV).set t (L l) = (d.set t l).flatMap Enc.enc
 | [], t, l => rfl
 | m :: d, 0, l => rfl
 | m :: d, t + 1, l => by
  rw [List.set_cons_succ, List.flatMap_cons, List.flatMap_cons, ← Zbd d t l]
  rfl
theorem Zhl {S : Store} {nx m : Nat} {obs : List Ob} (x y : Ob) (hm : m = nx + obs.length) : ((ext S nx obs).set (m + 3) x).set (m + 4) y = ext S nx (obs ++ [.dead, .dead, .dead, x, y]) := by
 subst hm
 rw [Q1 3]
 have := qO (S := S) (nx := nx) (obs := obs ++ List.replicate 3 .dead ++ [x]) y
 simpa [Nat.add_assoc] using this
theorem Zhm (d : zg) (hd0 : d.length ≤ 1048576) (hd1 : ∀ l ∈ d, l.length ≤ 1048576) (S : Store) (nx : Nat) (hd : zR nx S) :
  Spec Tryz.prog 100 [.agg [L d]] S (fun p S' => ∃ v, p = .agg [.sl (nx + 3) v 1 0 d.length] ∧ S' = S.set (nx + 3) (.cells v 72 (d.flatMap Enc.enc))) := by
 refine (XN d d.length hd0 hd1 (by simp) S nx hd).mono ?_
 rintro _ _ ⟨v, ts, ob, ⟨h1, h2, -⟩, rfl, rfl⟩
 obtain ⟨rfl, rfl⟩ := h2 (Nat.le_refl _)
 rw [List.take_length]
 refine ⟨v, rfl, ?_⟩
 funext o
 by_cases h4 : o = nx + 4
 ·subst h4
  rw [Store.set_same, Store.set_other _ _ _ _ (by omega), hd _ (by omega)]
 ·rw [Store.set_other _ _ _ _ h4]
theorem Zhn (cs : List PV) (i : Nat) (p q : PV) (h : i < cs.length) : zX (cs.set i p) i [q] = cs.set i q := by
 unfold zX
 rw [List.set_eq_take_append_cons_drop, if_pos h, List.set_eq_take_append_cons_drop, if_pos h]
 have hl : (cs.take i).length = i := by rw [List.length_take]; omega
 rw [List.take_append_of_le_length (by omega), List.take_of_length_le (by omega), List.drop_append, hl, List.drop_of_length_le (by rw [hl]; simp)]
 simp
theorem Zbe (id v sz k : Nat) (cs : List PV) (h : k * sz = cs.length) : yG id v cs (.sl id v sz 0 k) = .lst k cs := by simp [yG, h]
theorem XY {α β : Type} {f : β → α → β} {b : β} {l : List α} {i : Nat} {a : α} (h : l[i]? = some a) : (l.take (i + 1)).foldl f b = f ((l.take i).foldl f b) a := by
 obtain ⟨hi, rfl⟩ := List.getElem?_eq_some_iff.1 h
 rw [List.take_succ_eq_append_getElem hi, List.foldl_append]; rfl
theorem Zho {x : Inst} {d : zg} {s : Stop} {b : Spot} (h : b ∈ yt x d s) (hb : b.t ≠ d.length) : ∃ l, d[b.t]? = some l ∧ 0 < l.length ∧ b.p ≤ l.length := by
 obtain ⟨-, -, -, -, h⟩ := Y2 h
 rcases h with ⟨l, hl, hi, ho, -⟩ | ⟨rfl, -⟩
 ·refine ⟨l, hl, ?_, hi⟩
  have hself : zF x l = 0 ∨ zF x l = 13 := by
   by_cases hf : zF x l = 13
   ·exact .inr hf
   ·rw [if_neg hf] at ho
    exact .inl (uF.1 (by omega) l (List.mem_of_getElem? hl))
  have hst : yW x l = true := by
   cases e : yW x l with
   | true => rfl
   | false => rw [XU e] at hself; rcases hself with h | h <;> cases h
  exact List.length_pos_iff.2 (Jk hst)
 ·exact absurd rfl hb
theorem Zhp {x : Inst} {d : zg} {s : Stop} {b : Spot} (h : b ∈ yt x d s) : b.t ≤ d.length := by
 obtain ⟨-, -, -, -, h⟩ := Y2 h
 rcases h with ⟨l, hl, -⟩ | ⟨rfl, -⟩
 ·exact Nat.le_of_lt (List.getElem?_eq_some_iff.1 hl).1
 ·exact Nat.le_refl _
theorem XZ (x : Inst) (d : zg) (s : Stop) (hx : x.cust.length ≤ 1048576) (hdo : DayOk d) (hf : d.flatten.length ≤ 1000000) : Pure Tryz.prog 57 [.agg (zA x), .agg [L d], .agg [I s.c, I s.q]] (.tup [.agg [L (yi x d s).1], B (yi x d s).2]) := by
 have hit := Zbb x d s hx hdo (by omega)
 have hsee := ZaI x d hx hdo (by omega)
 have hmem := fun h => Ji (l := yt x d s) h
 have hle : ∀ b ∈ yt x d s, b.t ≤ d.length := fun b hb => Zhp hb
 have htour : ∀ b ∈ yt x d s, b.t ≠ d.length → ∃ l, d[b.t]? = some l ∧ 0 < l.length ∧ b.p ≤ l.length := fun b hb => Zho hb
 have hins : yi x d s = bif (xy (yt x d s)).2 then (qw d (xy (yt x d s)).1 s, true) else (d, false) := rfl
 have hsF := ZaF (wS x d) s rfl
 rw [hins]
 clear hins
 generalize yt x d s = xs at *
 generalize hlk : wS x d = lk at *
 have hdn := hdo.n
 have hd1 : ∀ l ∈ d, l.length ≤ 1000000 := fun l hl => Nat.le_trans (wU hl).length_le hf
 refine zy Tryz.func57 Tryz.ntmps57 Tryz.results57 fun S nx hd => ?_
 repeat apply za
 refine zb ?_
 intro v0 v1 v2 v3
 repeat apply za
 refine zb ?_
 intro v4 v5
 repeat apply za
 refine zD none (Row.pures [0, 1, 2, 3, 4] .done) mixed trivial ?_
 refine zN (hsee) trivial ?_
 refine zN (hsF) trivial ?_
 refine zj (ZV (xs := xs.map wT) (σ := Spot × Bool) (fun i st => st = (xs.take i).foldl vz (⟨0, 0, 0⟩, false)) [(3, .ptr nx v0 0), (4, .ptr (nx + 1) v1 0), (5, .ptr (nx + 2) v2 0), (6, .ptr (nx + 3) v3 0), (8, .ptr (nx + 4) v4 0), (9, .ptr (nx + 5) v5 0)] (fun _ => S)
  (fun (b, found) => [.cells v0 25 (zA x), .cells v1 58 [L d], .cells v2 35 [I s.c, I s.q], .cells v3 58 [yD], .cells v4 136 [I b.t, I b.p, I b.m], .cells v5 4 [B found]]) (⟨0, 0, 0⟩, false)
  hit rfl (by intro x hx; obtain ⟨y, _, rfl⟩ := List.mem_map.1 hx; rfl) (by decide) (by simp) (by simp) rfl (by simp) (by simp) ?_ ?_)
 ·rintro l i ⟨b, found⟩ more y hst hy
  simp only at hst ⊢
  rw [List.getElem?_map] at hy
  obtain ⟨p, hp, rfl⟩ := Option.map_eq_some_iff.1 hy
  have hsucc := XY (f := vz) (b := (⟨0, 0, 0⟩, false)) hp
  rw [← hst] at hsucc
  unfold vz at hsucc
  simp only at hsucc
  refine zb ?_
  intro v6
  refine zj ?_
  cases found with
  | false =>
   rw [if_pos (.inl rfl)] at hsucc
   repeat apply za
   refine ze [(2, 21)] zL ?_
   refine zo rfl ?_
   refine zb ?_
   simp only [qC]
   exact j3 (p, true) [_] hsucc.symm rfl (by simp; rfl)
  | true =>
   by_cases hm : p.m < b.m
   ·rw [if_pos (.inr hm)] at hsucc
    repeat apply za
    refine ze [(2, 21)] (zm hm zL) ?_
    refine zo rfl ?_
    refine zb ?_
    simp only [qC]
    exact j3 (p, true) [_] hsucc.symm rfl (by simp; rfl)
   ·rw [if_neg (by simp [hm])] at hsucc
    repeat apply za
    refine ze [(2, 21)] (zm hm zL) ?_
    refine zp rfl ?_
    refine zi ?_
    simp only [qC]
    exact j3 (b, true) [_] hsucc.symm rfl (by simp; rfl)
 ·rintro ⟨b, found⟩ hst
  simp only [List.length_map, List.take_length] at hst ⊢
  have hbz : xy xs = (b, found) := hst.symm
  rw [hbz] at hmem ⊢
  simp only at hmem ⊢
  cases found with
  | false =>
   simp only [cond_false]
   repeat apply za
   refine zb ?_
   refine zB (ZgR d hdn (fun l hl => Nat.le_trans (hd1 l hl) (by decide))) ?_
   repeat apply za
   refine zj ?_
   repeat apply za
   refine zb ?_
   refine zo rfl ?_
   repeat apply za
   refine zb ?_
   exact zh (zk hd (by simp; rfl) (by simp [zn]))
  | true =>
   have hb := hmem rfl
   have hbl := hle b hb
   simp only [cond_true]
   by_cases hbt : b.t = d.length
   ·have hpd : qw d b s = d ++ [[s]] := by unfold qw; rw [if_pos hbt]
    rw [hpd]
    have hfl : (d.flatMap Enc.enc : List PV).length = d.length := qS d
    have htk : (d.flatMap Enc.enc : List PV).take d.length = d.flatMap Enc.enc := List.take_of_length_le (by omega)
    have hsn : ((d ++ [[s]]).flatMap Enc.enc : List PV) = d.flatMap Enc.enc ++ [L [s]] := by rw [List.flatMap_append]; rfl
    repeat apply za
    refine zQ [] (by rfl) (by rfl) fun K Gc Gh hK hGc hGh X hX0 hX => ?_
    simp -implicitDefEqProofs [hX0, hX]
    try clear hX0 hX X
    refine hGc _ _ _ _ _ _ _ fun hsuf => ((Zhm d hdn (fun l hl => Nat.le_trans (hd1 l hl) (by decide)) _ _ jz).mono ?_).v
    rintro _ _ ⟨v7, rfl, rfl⟩
    refine ⟨_, _, Q1 3 _, ?_⟩
    clear hGc hGh
    clear Gc Gh
    refine zP hsuf (D := []) (by rfl) fun Gc Gh hGc hGh X hX0 hX => ?_
    simp -implicitDefEqProofs [hX0, hX, Nat.add_assoc]
    clear hX0 hX X
    refine hK _ _ _ ?_
    clear hK hGc hGh
    clear K Gc Gh
    generalize hds : (d.flatMap Enc.enc : List PV) = ds at *
    repeat apply za
    refine zj ?_
    repeat apply za
    refine zb ?_
    refine zp rfl ?_
    repeat apply za
    refine zb ?_
    refine zo (by simp; omega) ?_
    refine zD (some [nx + 2]) (Row.pures [0, 2, 3, 4] (.alt 1 (.alt 5 (Row.pures [6] (.alt 7 (.done) .stop)) .stop) .stop)) mixed (zm hfl htk) ?_
    refine zN (Xp s) (zm hfl htk) ?_
    refine ⟨by omega, ?_⟩
    refine yc 9 rfl ?_
    repeat apply za
    refine zb ?_
    exact zh (zk hd (by simp; rfl) (by simp [zn, hfl, hds]))
   ·obtain ⟨l, hl, hl0, hp⟩ := htour b hb hbt
    have hblt : b.t < d.length := by omega
    have hpd : qw d b s = d.set b.t (qM l b.p s) := by unfold qw; rw [if_neg hbt, List.getD_eq_getElem?_getD, hl]; rfl
    have hl1 := hd1 l (List.mem_of_getElem? hl)
    rw [hpd]
    repeat apply za
    refine zQ [] (by rfl) (by rfl) fun K Gc Gh hK hGc hGh X hX0 hX => ?_
    simp -implicitDefEqProofs [hX0, hX]
    try clear hX0 hX X
    refine hGc _ _ _ _ _ _ _ fun hsuf => ((ZgS d b.t l hdn (fun l hl => Nat.le_trans (hd1 l hl) (by decide)) hl hl0 _ _ jz).mono ?_).v
    rintro _ _ ⟨v7, w7, rfl, rfl⟩
    refine ⟨_, _, Zhl _ _ rfl, ?_⟩
    clear hGc hGh
    clear Gc Gh
    refine zP hsuf (D := []) (by rfl) fun Gc Gh hGc hGh X hX0 hX => ?_
    simp -implicitDefEqProofs [hX0, hX, Nat.add_assoc]
    clear hX0 hX X
    refine hK _ _ _ ?_
    clear hK hGc hGh
    clear K Gc Gh
    repeat apply za
    refine zj ?_
    repeat apply za
    refine zb ?_
    refine zp rfl ?_
    repeat apply za
    refine zb ?_
    refine zp (by simp; omega) ?_
    repeat apply za
    refine ze [] hblt ?_
    refine wP (some [nx + 4, nx + 2]) (Row.pures [0, 1, 2, 3, 5, 6, 7, 8] (.alt 4 (.alt 9 (Row.pures [10, 11] (.alt 12 (.done) .stop)) .stop) .stop)) mixed (by rfl) (by rfl) (by rfl) fun K Gp Gc Gh hK hGp hGc hGh X hX0 hX1 hX2 hX => ?_
    simp -implicitDefEqProofs [hX0, hX1, hX2, hX, hblt]
    try clear hX0 hX1 hX2 hX X
    refine hGc _ _ _ _ _ _ _ ?_
    refine ((ZgO l b.p s hp hl1 (by simp)).mono ?_).v
    rintro _ _ ⟨rfl, rfl⟩
    have hcl : ((qM l b.p s).flatMap Enc.enc : List PV).length = (l.length + 1) * 2 := by
     have e := (Y4 l s b.p).length_eq
     rw [uz, e]; simp
    have hLi : L (qM l b.p s) = .lst (l.length + 1) ((qM l b.p s).flatMap Enc.enc) := by
     have e := (Y4 l s b.p).length_eq
     show PV.lst _ _ = _
     rw [e]; rfl
    rw [show l.take b.p ++ s :: l.drop b.p = qM l b.p s from rfl]
    generalize hcs : ((qM l b.p s).flatMap Enc.enc : List PV) = cs at *
    rw [yN _ (by omega) (by simp), Nat.add_sub_cancel_left]
    refine ⟨by simp [yl], ?_⟩
    clear hGp hGc hGh
    clear Gp Gc Gh
    refine jA fun Gp Gc Gh hGp hGc hGh X hX0 hX1 hX2 hX => ?_
    simp -implicitDefEqProofs [hX0, hX1, hX2, hX, hblt]
    try clear hX0 hX1 hX2 hX X
    refine ⟨by omega, ?_⟩
    refine hK _ _ _ ?_
    clear hK hGp hGc hGh
    clear K Gp Gc Gh
    rw [Zhn _ _ _ _ (by rw [qS]; exact hblt)]
    have e10 : yG (nx + 10) (w7 + 1) cs (.sl (nx + 10) (w7 + 1) 2 0 (l.length + 1)) = L (qM l b.p s) := by
     rw [Zbe _ _ _ _ _ hcl.symm, hLi]
    have e9 : yG (nx + 9) v7 ((d.set b.t (qM l b.p s)).flatMap Enc.enc) (.sl (nx + 9) v7 1 0 d.length) = L (d.set b.t (qM l b.p s)) := by
     rw [Zbe _ _ _ _ _ (by rw [qS]; simp)]
     show _ = PV.lst _ _
     rw [List.length_set]
    have n9 : yG (nx + 10) (w7 + 1) cs (.sl (nx + 9) v7 1 0 d.length) = .sl (nx + 9) v7 1 0 d.length := by
     simp only [yG]; rw [if_neg (by omega)]
    refine yc 10 rfl ?_
    simp only [List.map_cons, List.map_nil, List.set_cons_succ, List.set_cons_zero, js, Zhk, e10, Zbd, n9]
    refine yc 9 rfl ?_
    simp only [List.map_cons, List.map_nil, List.set_cons_succ, List.set_cons_zero, js, e9]
    repeat apply za
    refine ze [] (zm e9 n9) ?_
    exact zh (zk hd (by simp; rfl) (by simp [zn]))
open Go Go.Proofs
theorem Zbf {α : Type} (f : Nat → List α) (m : Nat) : ∀ n, (∀ t, t < n → (f t).length ≤ m) → ((List.range n).flatMap f).length ≤ n * m
 | 0, _ => by simp
 | n + 1, h => by
  rw [List.range_succ, List.flatMap_append, List.length_append]
  have h1 := Zbf f m n fun t ht => h t (by omega)
  have h2 := h n (by omega)
  simp only [List.flatMap_cons, List.flatMap_nil, List.append_nil]
  rw [Nat.add_mul, Nat.one_mul]; omega
theorem Zhq {d : zg} (h1 : d.length ≤ 1000000) (h2 : d.flatten.length ≤ 1000000) : (uG d).length ≤ 1000001 * 1000001 := by
 unfold uG
 refine Nat.le_trans (Zbf _ 1000001 _ fun t _ => ?_) (Nat.mul_le_mul_right _ (by omega))
 rw [List.length_map, List.length_range, List.getD_eq_getElem?_getD]
 cases hq : d[t]? with
 | none => simp
 | some l =>
  have := (wU (List.mem_of_getElem? hq)).length_le
  simp only [Option.getD_some]; omega
theorem Zhr {x : Inst} {d : zg} {s : Stop} (hd : yh x d = 0) (h1 : d.length ≤ 1000000) (h2 : d.flatten.length ≤ 1000000) : (yt x d s).length ≤ 1000001 * 1000001 := by
 rw [Zg9 hd]; exact Nat.le_trans (List.length_filterMap_le _ _) (Zhq h1 h2)
theorem Zhs (cs : List PV) (v : PV) (h : 0 < cs.length) : zX cs (cs.length - 1) [v] = cs.set (cs.length - 1) v := by
 unfold zX
 rw [List.set_eq_take_append_cons_drop, if_pos (by omega)]; simp
theorem Zbg : ∀ (l : List Int) (k : Nat) (v : Int), (l.flatMap Enc.enc : List PV).set k (I v) = (l.set k v).flatMap Enc.enc
 | [], k, v => rfl
 | a :: l, 0, v => rfl
 | a :: l, k + 1, v => by
  rw [List.set_cons_succ, List.flatMap_cons, List.flatMap_cons, ← Zbg l k v]
  rfl
theorem Zht (st : List Int × Int) (p : Spot) : (jQ st p).1.length ≤ st.1.length + 1 := by
 unfold jQ; split <;> simp
def X0 (st : List Int × Int) : Prop := st.2 = -1 ∨ 0 < st.1.length
theorem Zhu {st : List Int × Int} (h : X0 st) (p : Spot) : X0 (jQ st p) := by
 unfold jQ
 split
 ·exact .inr (by simp)
 ·rename_i e
  rcases h with h | h
  ·exfalso; simp only [ne_eq] at e; omega
  ·exact .inr (by simpa using h)
theorem Zhv (x : Inst) (d : zg) (s : Stop) (hx : x.cust.length ≤ 1048576) (hdo : DayOk d) (h0 : yh x d = 0) (h1 : d.length ≤ 1000000) (h2 : d.flatten.length ≤ 1000000) : Pure Tryz.prog 266 [.agg (wS x d), .agg [I s.c, I s.q]] (L (Z6 x d s)) := by
 have hit := Zbb x d s hx hdo (by omega)
 have hfold := Zhe (s := s) h0
 have hlen := Zhr (s := s) h0 h1 h2
 have hml := Zhf x d s (d.length + 1)
 have hsF := ZaF (wS x d) s rfl
 unfold Z6
 rw [← hfold] at hml ⊢
 clear hfold
 generalize yt x d s = xs at *
 obtain ⟨on, tw, fs, bd, ls, ws, hlk⟩ : ∃ on tw fs bd ls ws, wS x d = x6 x d on tw fs bd ls ws := ⟨_, _, _, _, _, _, rfl⟩
 rw [hlk] at hit hsF ⊢
 clear hlk
 refine zy Tryz.func266 Tryz.ntmps266 Tryz.results266 fun S nx hd => ?_
 repeat apply za
 refine zb ?_
 intro v0 v1
 repeat apply za
 refine zb ?_
 intro v2
 repeat apply za
 refine zb ?_
 intro v3
 repeat apply za
 refine zb ?_
 refine zB hsF ?_
 refine je 2 0 3 1 rfl rfl fun v4 => ?_
 refine zj (ZV (xs := xs.map wT) (σ := (List Int × Int) × Nat) (fun i st => st.1 = (xs.take i).foldl jQ ([], -1) ∧ X0 st.1 ∧ st.1.1.length ≤ i ∧ i ≤ xs.length) [(2, .ptr nx v0 0), (3, .ptr (nx + 1) v1 0), (5, .ptr (nx + 2) v2 0), (6, .ptr (nx + 3) v3 0)] (fun _ => S)
  (fun ((l, last), v4) => [.cells v0 140 (x6 x d on tw fs bd ls ws), .cells v1 35 [I s.c, I s.q], .cells v2 45 [.sl (nx + 4) v4 1 0 l.length], .cells v3 3 [I last], .cells v4 3 (l.flatMap Enc.enc)]) (([], -1), v4)
  hit rfl (by intro x hx; obtain ⟨y, _, rfl⟩ := List.mem_map.1 hx; rfl) (by decide) (by simp) ⟨rfl, .inl rfl, by simp, by simp⟩ rfl (by simp) (by simp) ?_ ?_)
 ·rintro lp i ⟨⟨l, last⟩, v4⟩ more y ⟨hst, hok, hli, hi⟩ hy
  simp only at hst hok hli hi ⊢
  rw [List.getElem?_map] at hy
  obtain ⟨p, hp, rfl⟩ := Option.map_eq_some_iff.1 hy
  have hsucc := XY (f := jQ) (b := ([], -1)) hp
  rw [← hst] at hsucc
  have hok2 := Zhu hok p
  have hln2 := Zht (l, last) p
  simp only at hln2
  have hil := (List.getElem?_eq_some_iff.1 hp).1
  have hdef : jQ (l, last) p = jQ (l, last) p := rfl
  conv at hdef => rhs; unfold jQ
  simp only at hdef
  have hlf : (l.flatMap Enc.enc : List PV).length = l.length := qQ l
  have hlt : (l.flatMap Enc.enc : List PV).take l.length = l.flatMap Enc.enc := List.take_of_length_le (by omega)
  refine zb ?_
  intro v5
  refine zj ?_
  repeat apply za
  refine zb ?_
  by_cases hpl : (p.t : Int) = last
  ·have hl0 : 0 < l.length := by
    rcases hok with e | e
    ·simp only at e; omega
    ·exact e
   obtain ⟨m, hm⟩ : ∃ m, l.length = m + 1 := ⟨l.length - 1, by omega⟩
   obtain ⟨z, tz, z1, z2, z3, z0⟩ := zI rfl l m (by omega)
   rw [if_neg (by simp [hpl])] at hdef
   have hgz : l.getD (l.length - 1) 0 = z := by rw [hm, Nat.add_sub_cancel, List.getD_eq_getElem?_getD, z1]; rfl
   rw [hgz] at hdef
   have wm : IntKind.i64.wrap ((l.length : Int) - 1) = (m : Int) := by rw [wr _ (by omega) (by omega)]; omega
   have hml1 : m < l.length := by omega
   have hml2 : 1 ≤ l.length - m := by omega
   have hsp := Zhs (l.flatMap Enc.enc) (I (if p.m < z then p.m else z)) (by omega)
   rw [hlf, Zbg] at hsp
   have hmin : wK z p.m = if p.m < z then p.m else z := rfl
   refine zp (by simp [hpl]) ?_
   refine zi ?_
   rw [show l.length - 1 = m by omega] at hsp
   refine zD (some [nx + 2, nx + (more.length + 5)]) (Row.pures [0, 1, 2, 3, 4, 5, 6, 7, 8, 10, 11] (.alt 9 (Row.pures [12, 13] (.alt 14 (.done) .stop)) .stop)) mixed (yg wm hml1 hml2 z0 hmin hlf) ?_
   refine ⟨by omega, ?_⟩
   simp only [qC]
   rw [hm, Nat.add_sub_cancel] at hdef
   rw [hdef] at hsucc hok2
   refine j3 ((l.set m (if p.m < z then p.m else z), last), v4) [_] ⟨hsucc.symm, hok2, by simp; omega, by omega⟩ rfl (by simp [hsp]; rfl)
  ·rw [if_pos hpl] at hdef
   rw [hdef] at hsucc hok2 hln2
   have w0 : IntKind.i64.wrap (l.length : Int) = (l.length : Int) := wr _ (by omega) (by omega)
   have w2 : (l.length : Int) < (l.length : Int) + 1 := by omega
   have hmin : wK p.m p.m = p.m := by unfold wK; split <;> rfl
   have hat : (l.flatMap Enc.enc ++ [I p.m] : List PV)[l.length]? = some (I p.m) := by rw [List.getElem?_append_right (by omega), hlf, Nat.sub_self]; rfl
   have hdl : (l.flatMap Enc.enc ++ [I p.m] : List PV).drop l.length = [I p.m] := by rw [← hlf, List.drop_left]
   have hspl : zX (l.flatMap Enc.enc ++ [I p.m] : List PV) l.length [I p.m] = l.flatMap Enc.enc ++ [I p.m] := by
    unfold zX
    rw [← hlf, List.take_left, List.drop_of_length_le (by simp)]; simp
   refine zo (by simp [hpl]) ?_
   refine zD (some [nx + (more.length + 5)]) (Row.pures [1, 2, 3, 5, 6] (.alt 0 (.alt 4 (.alt 7 (.alt 8 (.done) .stop) .stop) .stop) .stop)) mixed (zm hlf hlt) ?_
   refine ⟨by omega, ?_⟩
   refine zD (some [nx + 2, nx + (more.length + 5)]) (Row.pures [0, 1, 2, 3, 4, 5, 6, 7, 8, 10, 11] (.alt 9 (Row.pures [12, 13] (.alt 14 (.done) .stop)) .stop)) mixed (qv w0 w2 hmin hat hlf) ?_
   simp only [qC]
   refine j3 ((l ++ [p.m], (p.t : Int)), v4 + 1) [_] ⟨hsucc.symm, hok2, by simp; omega, by omega⟩ rfl (by simp [hspl]; rfl)
 ·rintro ⟨⟨l, last⟩, v4⟩ ⟨hst, -⟩
  simp only [List.length_map, List.take_length] at hst ⊢
  rw [← hst] at hml ⊢
  simp only at hml ⊢
  have hz4 := uA l
  repeat apply za
  refine zQ [] (by rfl) (by rfl) fun K Gc Gh hK hGc hGh X hX0 hX => ?_
  simp -implicitDefEqProofs [hX0, hX]
  try clear hX0 hX X
  refine hGc _ _ _ _ _ _ _ fun hsuf => ((Q5 l (by simp) (by omega)).mono ?_).v
  rintro _ _ rfl
  refine ⟨_, _, yN _ (by omega) (by simp), ?_⟩
  clear hGc hGh
  clear Gc Gh
  refine zP hsuf (D := []) (by rfl) fun Gc Gh hGc hGh X hX0 hX => ?_
  simp -implicitDefEqProofs [hX0, hX, (show nx + 4 - nx = 4 by omega)]
  clear hX0 hX X
  refine hK _ _ _ ?_
  clear hK hGc hGh
  clear K Gc Gh
  generalize yq l = c at *
  rw [← hz4]
  refine yc 4 rfl ?_
  repeat apply za
  refine zb ?_
  exact zh (zk hd (by simp; rfl) rfl)
open Go Go.Proofs Go.Shelf Go.RowKit Go.Lib
theorem Zhw {P : Program} (b o : Nat) (vs : List Value) (w : World) (cur : Array Value) (t : TypeId) (hw : w.heap[b]? = some (.cells cur t (0, 0))) (hl : o + vs.length ≤ cur.size) (h1 : ∀ v ∈ vs, v.oneCell' = true) :
  w.setCells b o vs = w.setRow b (cur.toList.take o ++ vs ++ cur.toList.drop (o + vs.length)).toArray := by
 have a := run_storeCells_cells (P := P) b o vs 0 w (fun j hj => by simp [World.cell?, hw]; omega) (fun j _ => by simp [World.frozen?, hw]) h1
 have c := run_storeCells_at (P := P) b o t vs 0 cur w hw (by simpa using hl) h1
 rw [a] at c
 simpa using c
theorem Zhx (zc : Array Value) : (Builtin.zeroCells zc 1).toList = zc.toList := by
 apply List.ext_getElem
 ·simp [Builtin.zeroCells]
 ·intro i h1 h2
  simp [Builtin.zeroCells, Nat.mod_eq_of_lt (show i < zc.size by simpa using h2)]
  exact getElem!_pos zc i (by simpa using h2)
theorem Zhy {P : Program} (w : World) (t e ty : TypeId) (zc : Array Value) (ht : P.underlying t = some (.slice e)) (hv : ∀ w, (zeroValue e).run P w = .ok (.agg zc) w) (h1 : ∀ v ∈ zc.toList, v.oneCell' = true) (b o c : Nat) (cur : Array Value) (t' : TypeId) (hw : w.heap[b]? = some (.cells cur t' (0, 0))) (hl : o + zc.size ≤ cur.size) :
  (Builtin.clear_ #[t] ty #[.slice (some ⟨b, o, none⟩) 1 c]).run P w = .ok (.tuple #[]) (w.setRow b (cur.toList.take o ++ zc.toList ++ cur.toList.drop (o + zc.size)).toArray) := by
 have c := run_storeCells_at (P := P) b o t' zc.toList 0 cur w hw (by simpa using hl) h1
 simp only [Nat.add_zero, Array.length_toList] at c
 simp [Builtin.clear_, run_underlying ht, hv, Zhx, c]
theorem Zhz (b n c i : Nat) (V : List Value) (w : World) (i0 : TypeInfo) (hi0 : Tryz.prog.info? 35 = some i0) (hzs : i0.size = 2) (cur : Array Value) (hcur : w.heap[b]? = some (.cells cur 35 (0, 0))) (hcc : cur.size = c * 2)
  (hi : i < n) (hnc : n ≤ c) (hc63 : c ≤ 9223372036854775807) (hn : n ≤ 1048576) (hV : V.length = n * 2) (hcV : cur.toList.take (n * 2) = V) (h1 : ∀ v ∈ V, v.oneCell' = true) (R1 R2 : Array Value)
  (hR1 : R1 = (cur.toList.take (i * 2) ++ V.drop ((i + 1) * 2) ++ cur.toList.drop (i * 2 + (V.drop ((i + 1) * 2)).length)).toArray) (hR2 : R2 = (R1.toList.take ((i + (n - (i + 1))) * 2) ++ ([.int .i64 0, .int .i64 0] : List Value) ++ R1.toList.drop ((i + (n - (i + 1))) * 2 + 2)).toArray) :
  Calls Tryz.prog 244 #[.slice (some ⟨b, 0, none⟩) n c, .int .i64 i, .int .i64 ((i : Int) + 1)] w fun e w' =>
   e = .returned (.slice (some ⟨b, 0, none⟩) (i + (n - (i + 1))) c) ∧ w' = (w.drew.setRow b R1).setRow b R2 := by
 obtain ⟨news, hnews⟩ : ∃ news, news = V.drop ((i + 1) * 2) := ⟨_, rfl⟩
 have hlen : news.length = (n - (i + 1)) * 2 := by rw [hnews, List.length_drop, hV]; omega
 have hget : ∀ t u, news[t]? = some u → w.drew.cell? ⟨b, (i + 1) * 2 + t, none⟩ = some u := by
  intro t u hu
  rw [hnews, List.getElem?_drop, ← hcV, List.getElem?_take] at hu
  split at hu
  ·rw [Array.getElem?_toList] at hu
   show w.cell? _ = _
   simp [World.cell?, hcur, hu]
  ·cases hu
 obtain ⟨A, hA, hsrc⟩ : ∃ A : Addr, (if c = i + 1 then some (⟨b, 0, none⟩ : Addr) else some ⟨b, (i + 1) * 2, none⟩) = some A ∧ Hid (∀ t u, news[t]? = some u → w.drew.cell? (A.add t) = some u) := by
  by_cases h : c = i + 1
  ·refine ⟨⟨b, 0, none⟩, by simp [h], fun t u hu => ?_⟩
   have h0 : news.length = 0 := by rw [hlen]; omega
   rw [List.length_eq_zero_iff.1 h0] at hu
   simp at hu
  ·refine ⟨⟨b, (i + 1) * 2, none⟩, by simp [h], fun t u hu => ?_⟩
   rw [Addr.add_lit]
   exact hget t u hu
 have s1 : Hid (news.length = (n - (i + 1)) * 2) := hlen
 have s2 : Hid (∀ u ∈ news, u.oneCell' = true) := fun u hu => h1 u (by rw [hnews] at hu; exact List.mem_of_mem_drop hu)
 have s3 : Hid (∀ t, t < news.length → (w.drew.cell? ⟨b, 0 + i * 2 + t, none⟩).isSome = true ∧ w.drew.frozen? ⟨b, 0 + i * 2 + t, none⟩ = false) := by
  intro t ht
  rw [hlen] at ht
  refine ⟨?_, ?_⟩
  ·show (w.cell? _).isSome = true
   simp [World.cell?, hcur]; omega
  ·show w.frozen? _ = false
   simp [World.frozen?, hcur]
 obtain ⟨W1, hW1⟩ : ∃ W1, W1 = w.drew.setCells b (0 + i * 2) news := ⟨_, rfl⟩
 have hW1' : W1 = w.drew.setRow b R1 := by
  rw [hW1, Zhw (P := Tryz.prog) b (0 + i * 2) news w.drew cur 35 hcur (by rw [hlen, hcc]; omega) s2, hR1, hnews, Nat.zero_add]
 have hW1h : W1.heap[b]? = some (.cells R1 35 (0, 0)) := by rw [hW1']; exact setRow_heap _ _ _ _ _ _ hcur
 have hR1s : R1.size = c * 2 := by rw [hR1, ← hnews]; simp [hlen]; omega
 have hcl : ∀ ty, (Builtin.clear_ #[31] ty #[.slice (some ⟨b, (i + (n - (i + 1))) * 2, none⟩) (n - (i + (n - (i + 1)))) (c - (i + (n - (i + 1))))]).run Tryz.prog W1 = .ok (.tuple #[]) (W1.setRow b R2) := fun ty => by
  have := Zhy (P := Tryz.prog) W1 31 35 ty #[.int .i64 0, .int .i64 0] Tryz.underlying31 Tryz.zeroValue35 (by intro v hv; simp at hv; rcases hv with rfl | rfl <;> rfl) b ((i + (n - (i + 1))) * 2) (c - (i + (n - (i + 1)))) R1 35 hW1h (by simp; omega)
  rw [show n - (i + (n - (i + 1))) = 1 by omega, this, hR2]
  simp
 have hW : Hid (W1 = w.drew.setCells b (0 + i * 2) news) := hW1
 have hX : Hid (W1 = w.drew.setRow b R1) := hW1'
 clear hW1 hW1' hW1h hR1 hR2 hR1s hcur hcV hget hnews hlen h1 hV hcc
 have hic : i ≤ c := by omega
 have hjc : i + 1 ≤ c := by omega
 have hin : i ≤ n := by omega
 have hjn : i + 1 ≤ n := by omega
 have hne : ¬ (i : Int) = (i : Int) + 1 := by omega
 have hb1 : (0 : Int) ≤ (i : Int) + 1 := by omega
 have htn : ((i : Int) + 1).toNat = i + 1 := by omega
 have hb2 : (i : Int) + 1 ≤ (n : Int) := by omega
 have hb3 : (i : Int) ≤ (i : Int) + 1 := by omega
 have hcn : ¬ c = i + (n - (i + 1)) := by omega
 have hnn : i + (n - (i + 1)) ≤ n := by omega
 have mixed : Tryz.prog.follows .mixedOrders = true := by kernel_rfl
 go_enter Tryz.func244, Tryz.ntmps244
 go_wp2_with fail
 go_region_law_o (refine step_append_room rfl (.tmp 22) (.tmp 25) 31 rfl 35 i0 2 Tryz.underlying31 hi0 hzs b 0 i c (by simp [Act.eval, Act.put]) A (n - (i + 1)) (c - (i + 1)) news (by simp [Act.eval, Act.put]) s1.out hsrc.out s2.out (by omega) s3.out ?_; rw [← hW.out])
 go_wp2
 go_ret
 exact ⟨rfl, by rw [hX.out]⟩
theorem ZhA (l : List Stop) (i : Nat) (h : i < l.length) : zY (l.eraseIdx i) = (zY l).take (i * 2) ++ (zY l).drop ((i + 1) * 2) := by
 rw [List.eraseIdx_eq_take_drop_succ, Q6, VZ l i (by omega), V1 l (i + 1) (by omega)]
theorem ZhB {S : Store} {id ver : Nat} (cs : List Stop) (i : Nat) (hi : i < cs.length) (hn : cs.length ≤ 1000000) (hid : S id = .cells ver 35 (cs.flatMap Enc.enc)) :
  Spec Tryz.prog 244 [.sl id ver 2 0 cs.length, I i, I ((i : Int) + 1)] S (fun p S' => p = .sl id (ver + 1) 2 0 (cs.eraseIdx i).length ∧ S' = S.set id (.cells (ver + 1) 35 ((cs.eraseIdx i).flatMap Enc.enc))) := by
 refine ⟨qh Tryz.func244 (by rfl) rfl, ?_⟩
 intro C w vs hS hl hr
 obtain ⟨u, v, x, rfl⟩ := V2 hl
 obtain rfl := Ze (hr 1 _ v rfl rfl)
 obtain rfl := Ze (hr 2 _ x rfl rfl)
 have hu := hr 0 _ u rfl rfl
 have hvl : (zY cs).length = cs.length * 2 := ZY cs
 have hel : (cs.eraseIdx i).length = i + (cs.length - (i + 1)) := by rw [List.length_eraseIdx_of_lt hi]; omega
 have hnew := ZhA cs i hi
 have hnl : (zY (cs.eraseIdx i)).length = (i + (cs.length - (i + 1))) * 2 := by rw [ZY, hel]
 rw [VY] at hid ⊢
 rw [hel]
 generalize cs.eraseIdx i = es at *
 obtain ⟨i0, hi0⟩ := Option.isSome_iff_exists.1 Xj
 have hc := Xi
 simp only [Program.cellsOf, hi0, Option.map_some, Option.getD_some] at hc
 cases hu with
 | sl h1 h2 h3 =>
  obtain ⟨ad, cap, rfl, q1, q2, q3, q4⟩ := h1
  have hloc := (h3 ver (by rw [hid]; rfl)).2 rfl
  rcases hS.cells id ver _ _ hid with ⟨hno, hnil⟩ | ⟨b, k, c, g1, g2, g3, g4, g5, g6⟩
  ·have := congrArg List.length hnil
   simp [hvl] at this
   exfalso; omega
  rcases hloc with ⟨z1, _⟩ | ⟨b', k', ad', cap', z1, z2, z3, z4⟩
  ·rw [g1] at z1; cases z1
  rw [g1] at z1; cases z1; cases z2
  obtain ⟨rfl, hcap⟩ := z3 rfl
  rw [List.length_map, hvl] at g4
  have hcells : ∀ (j : Nat) v, (zY cs)[j]? = some v → c[j]? = some v := by
   intro j v hj
   have hjl := (List.getElem?_eq_some_iff.1 hj).1
   have e2 : c[j]? = some c[j] := Array.getElem?_eq_getElem (by omega)
   have := g6 j (.sc v) _ (by rw [List.getElem?_map, hj]; rfl) e2
   rw [e2]
   generalize c[j] = y at this
   cases this; rfl
  have hcur : c.toList.take (cs.length * 2) = zY cs := by
   apply List.ext_getElem?
   intro j
   by_cases hj : j < cs.length * 2
   ·rw [List.getElem?_take_of_lt hj, Array.getElem?_toList]
    have e : (zY cs)[j]? = some (zY cs)[j] := List.getElem?_eq_getElem (by omega)
    rw [e, hcells j _ e]
   ·rw [List.getElem?_eq_none (by simp; omega), List.getElem?_eq_none (by omega)]
  have hcsz : c.size = cap * 2 := g3.trans hcap.symm
  have hdl : ((zY cs).drop ((i + 1) * 2)).length = (cs.length - (i + 1)) * 2 := by rw [List.length_drop, hvl]; omega
  obtain ⟨R1, hR1⟩ : ∃ R1 : Array Value, R1 = (c.toList.take (i * 2) ++ (zY cs).drop ((i + 1) * 2) ++ c.toList.drop (i * 2 + ((zY cs).drop ((i + 1) * 2)).length)).toArray := ⟨_, rfl⟩
  obtain ⟨R2, hR2⟩ : ∃ R2 : Array Value, R2 = (R1.toList.take ((i + (cs.length - (i + 1))) * 2) ++ ([.int .i64 0, .int .i64 0] : List Value) ++ R1.toList.drop ((i + (cs.length - (i + 1))) * 2 + 2)).toArray := ⟨_, rfl⟩
  have htk : c.toList.take (i * 2) = (zY cs).take (i * 2) := by rw [← hcur, List.take_take, Nat.min_eq_left (by omega)]
  have hR1l : R1.toList.take ((i + (cs.length - (i + 1))) * 2) = zY es := by
   rw [hR1]
   simp only []
   rw [htk, ← hnew, ← hnl, List.take_left]
  have hR1s : R1.size = cap * 2 := by rw [hR1]; simp [hdl]; omega
  have hR2l : R2.toList = zY es ++ (([.int .i64 0, .int .i64 0] : List Value) ++ R1.toList.drop ((i + (cs.length - (i + 1))) * 2 + 2)) := by
   rw [hR2, hR1l]
   simp
  have hR2s : R2.size = cap * 2 := by
   rw [← Array.length_toList, hR2l]
   simp [hnl, hR1s]
   omega
  refine (Zhz b cs.length cap i (zY cs) w i0 hi0 hc c g2 hcsz hi q1 (by unfold maxLen at q3; omega) (by omega) hvl hcur (ZZ cs) R1 R2 hR1 hR2).mono ?_
  rintro e w' ⟨rfl, rfl⟩
  obtain ⟨r1, r2⟩ := Xn (C := C) (S := S) (w := w) hR2l (ZZ _)
  have hb1 := setRow_heap w.drew b c R1 _ _ g2
  obtain ⟨t1, t2⟩ := hS.turn (l := some (b, cap * 2)) (ver' := ver + 1) (cs' := (zY es).map .sc) hid (by omega) (fun h => absurd h (by omega)) (w' := (w.drew.setRow b R1).setRow b R2)
   (by
    rw [g1]
    refine ⟨⟨rfl, rfl, rfl, by simp [World.setRow], fun j hj hne => ?_⟩, Nat.le_succ _⟩
    have hjb : j ≠ b := fun e => hne (by rw [e]; rfl)
    rw [setRow_other _ _ _ _ hjb, setRow_other _ _ _ _ hjb]; rfl)
   (.inr ⟨b, cap * 2, R2, rfl, .inr (by rw [g1]; rfl), setRow_heap _ _ _ _ _ _ hb1, hR2s, by rw [List.length_map, hnl]; omega, r1, r2⟩)
  refine ⟨_, _, _, _, rfl, ⟨rfl, rfl⟩, ?_, t1, t2⟩
  refine .sl ⟨_, _, rfl, by omega, by unfold qN; omega, q3, fun _ => ⟨_, _, rfl⟩⟩ ⟨h2.1, by simp only [Ctx.at]; omega⟩ fun v0 hv0 => ?_
  rw [Store.set_same] at hv0; cases hv0
  exact ⟨Nat.le_refl _, fun _ => .inr ⟨b, _, _, _, by simp [Ctx.at], rfl, fun _ => ⟨rfl, rfl⟩, fun _ => rfl⟩⟩
open Go Go.Proofs
def Zp (c : Int) (l : List Stop) : Int := ((l.filter fun s => decide (s.c = c)).map (·.q)).sum
theorem ZhC (c : Int) (d : zg) : ZaV c d = W (Zp c d.flatten) := rfl
theorem ZhD (c : Int) (l : List Stop) (s : Stop) : Zp c (l ++ [s]) = Zp c l + if s.c = c then s.q else 0 := by
 unfold Zp
 rw [List.filter_append, List.map_append, List.sum_append]
 by_cases h : s.c = c <;> simp [h]
theorem ZhE (c : Int) (l : List Stop) (s : Stop) : jF c (l ++ [s]) = jF c l ++ if s.c = c then [] else [s] := by
 unfold jF
 rw [List.filter_append]
 by_cases h : s.c = c <;> simp [h]
theorem ZhF (c : Int) (d : zg) (t : zv) : qW c (d ++ [t]) = qW c d ++ if (jF c t).length = 0 then [] else [jF c t] := by
 rw [Zg3]
 congr 1
 unfold qW
 rw [List.map_cons, List.map_nil]
 generalize jF c t = u
 cases u <;> simp
theorem X1 (c : Int) (t : zv) : (jF c t).length ≤ t.length := List.length_filter_le _ _
theorem Zbh (c : Int) (d : zg) : (qW c d).length ≤ d.length := by
 unfold qW
 exact Nat.le_trans (List.length_filter_le _ _) (by simp)
theorem ZhG (d : zg) (c : Int) (hdn : d.length ≤ 1048576) (hdt : ∀ t ∈ d, t.length ≤ 1048576) : Pure Tryz.prog 54 [.agg [L d], I c] (.tup [.agg [L (qW c d)], I (ZaV c d)]) := by
 rw [ZhC]
 refine zy Tryz.func54 Tryz.ntmps54 Tryz.results54 fun S nx hd => ?_
 repeat apply za
 refine zb ?_
 intro v0 v1
 repeat apply za
 refine zb ?_
 intro v2
 refine je 2 0 72 1 rfl rfl fun v3 => ?_
 repeat apply za
 refine zb ?_
 repeat apply za
 refine zb ?_
 refine zj (zM (fun (s : Nat × Nat) => s.1 ≤ d.length) (fun (k, v3) => [(1, I c), (4, .ptr (nx + 1) v1 0), (6, .ptr (nx + 2) v2 0), (7, I (W (Zp c (d.take k).flatten))), (14, L d), (15, I d.length), (16, I k)]) (fun (k, v3) => [.cells v0 58 [L d], .cells v1 58 [yD], .cells v2 58 [.sl (nx + 3) v3 1 0 (qW c (d.take k)).length], .cells v3 72 ((qW c (d.take k)).flatMap Enc.enc)]) (fun s => d.length - s.1) (0, v3) [] (by simp) (by simp [Zp]) (by simp [qW]) ?_)
 rintro ⟨k, v3⟩ hk
 simp only at hk ⊢
 repeat apply za
 refine zb ?_
 repeat apply za
 refine zt rfl (fun hc => ?_) (fun hc => ?_)
 ·simp at hc
  obtain ⟨t, tl, a1, a2, a3, e0⟩ := zI rfl d k hc
  have hk1 : 1 ≤ d.length - k := by omega
  have htm := List.mem_of_getElem? a1
  have htn := hdt t htm
  have hrd := ZhF c (d.take k) t
  rw [← a3] at hrd
  have hfl : (d.take (k + 1)).flatten = (d.take k).flatten ++ t := by rw [a3, List.flatten_append]; simp
  generalize (d.take k).flatten = pre at *
  have hrl : (qW c (d.take k)).length ≤ 1048576 := Nat.le_trans (Zbh _ _) (by rw [List.length_take]; omega)
  refine zi (za (zj ?_))
  generalize hrk : qW c (d.take k) = rk at *
  have hfz : ∀ id v cs, (rk.flatMap Enc.enc).map (yG id v cs) = (rk.flatMap Enc.enc : List PV) := fun id v cs => Zbc id v cs rk
  have hrf : (rk.flatMap Enc.enc : List PV).length = rk.length := qS rk
  have hrt : (rk.flatMap Enc.enc : List PV).take rk.length = rk.flatMap Enc.enc := List.take_of_length_le (by omega)
  repeat apply za
  refine ze [] (zJ hc e0 hk1) ?_
  intro v4
  repeat apply za
  refine zb ?_
  refine jB 10 35 2 rfl fun v5 => ?_
  repeat apply za
  refine zb ?_
  refine zj (zM (fun (s : Nat × Nat) => s.1 ≤ t.length) (fun (j, v5) => [(1, I c), (4, .ptr (nx + 1) v1 0), (6, .ptr (nx + 2) v2 0), (7, I (W (Zp c (pre ++ t.take j)))), (10, .sl (nx + 5) v5 2 0 (jF c (t.take j)).length), (14, L d), (15, I d.length), (16, I k), (21, L t), (22, I t.length), (23, I j)]) (fun (j, v5) => [.cells v0 58 [L d], .cells v1 58 [yD], .cells v2 58 [.sl (nx + 3) v3 1 0 rk.length], .cells v3 72 (rk.flatMap Enc.enc), .cells v4 72 [L t], .cells v5 35 ((jF c (t.take j)).flatMap Enc.enc)]) (fun s => t.length - s.1) (0, v5) [] (by simp) (by simp [jF]) (by simp [jF]) ?_)
  rintro ⟨j, v5⟩ hj
  simp only at hj ⊢
  repeat apply za
  refine zb ?_
  repeat apply za
  refine zt rfl (fun hcj => ?_) (fun hcj => ?_)
  ·simp at hcj
   obtain ⟨s, ts, b1, b2, b3, b4, b5⟩ := el 2 rfl t j hcj
   have hj2 : 2 ≤ t.length * 2 - j * 2 := by omega
   have hsum := ZhD c (pre ++ t.take j) s
   rw [List.append_assoc, ← b3] at hsum
   have hrs := ZhE c (t.take j) s
   rw [← b3] at hrs
   have hul : (jF c (t.take j)).length ≤ 1048576 := Nat.le_trans (X1 _ _) (by rw [List.length_take]; omega)
   generalize jF c (t.take j) = u at *
   have huf : (u.flatMap Enc.enc : List PV).length = u.length * 2 := uz u
   have hut : (u.flatMap Enc.enc : List PV).take (u.length * 2) = u.flatMap Enc.enc := List.take_of_length_le (by omega)
   refine zi (za (zj ?_))
   repeat apply za
   refine ze [] (zJ hcj b5 hj2) ?_
   intro v6
   repeat apply za
   refine zb ?_
   refine zt rfl (fun hq => ?_) (fun hq => ?_)
   ·simp at hq
    rw [if_pos hq] at hsum hrs
    rw [List.append_nil] at hrs
    refine zb ?_
    refine zb ?_
    exact zr (j + 1, v5) [_] (by simp; omega) (by simp; omega) (by simp [zx j (by omega), hsum, wQ, hrs]) rfl (by simp [hrs]; rfl)
   ·simp at hq
    rw [if_neg hq] at hsum hrs
    rw [Int.add_zero] at hsum
    have hul' : ((jF c (t.take (j + 1))).flatMap Enc.enc : List PV) = u.flatMap Enc.enc ++ [I s.c, I s.q] := by rw [hrs, List.flatMap_append]; rfl
    refine ze [] (zm huf hut) ?_
    refine ⟨by omega, ?_⟩
    refine zb ?_
    exact zr (j + 1, v5 + 1) [_] (by simp; omega) (by simp; omega) (by simp [zx j (by omega), hsum, hrs]) rfl (by simp [hul']; rfl)
  ·simp at hcj
   obtain rfl : j = t.length := by omega
   refine zC ?_
   rw [List.take_length]
   have hul : (jF c t).length ≤ 1048576 := Nat.le_trans (X1 _ _) htn
   generalize jF c t = u at *
   have huf : (u.flatMap Enc.enc : List PV).length = u.length * 2 := uz u
   refine yc 5 rfl ?_
   simp only [List.map_cons, List.map_nil, List.set_cons_succ, List.set_cons_zero, js, hfz]
   repeat apply za
   refine zb ?_
   refine zt rfl (fun hq => ?_) (fun hq => ?_)
   ·simp at hq
    rw [if_neg (by omega)] at hrd
    have hrl' : ((rk ++ [u]).flatMap Enc.enc : List PV) = rk.flatMap Enc.enc ++ [L u] := by rw [List.flatMap_append]; rfl
    refine ze [] (zm hrf hrt) ?_
    refine ⟨by omega, ?_⟩
    refine zb ?_
    exact zr (k + 1, v3 + 1) [_, _] (by simp; omega) (by simp; omega) (by simp [zx k (by omega), hfl]) rfl (by simp [hrd, hrl']; exact ⟨rfl, rfl⟩)
   ·simp at hq
    rw [if_pos (by rw [hq]; rfl), List.append_nil] at hrd
    refine zi ?_
    refine zb ?_
    exact zr (k + 1, v3) [_, _] (by simp; omega) (by simp; omega) (by simp [zx k (by omega), hfl]) rfl (by simp [hrd]; exact ⟨rfl, rfl⟩)
 ·simp at hc
  obtain rfl : k = d.length := by omega
  refine zC ?_
  refine yc 3 rfl ?_
  have g1 : d.take d.length = d := List.take_length
  repeat apply za
  refine zb ?_
  exact zh (zk hd (by simp; rfl) (by simp [zn, g1]))
open Go Hp
theorem ZhH {x : Inst} (h : ∀ row ∈ x.dist, ∀ d ∈ row, 0 ≤ d ∧ d ≤ 2147483648) : qU x := by
 intro a b
 unfold arc
 split
 ·omega
 ·rw [List.getD_eq_getElem?_getD, List.getD_eq_getElem?_getD]
  cases hr : x.dist[a.toNat]? with
  | none => simp
  | some row =>
   simp only [Option.getD_some]
   cases hd : row[b.toNat]? with
   | none => simp
   | some d => exact h row (List.mem_of_getElem? hr) d (List.mem_of_getElem? hd)
open Go Go.Proofs
theorem Zbi {x : Inst} {d : zg} {s : Stop} (hx : x.cust.length ≤ 1048576) (hdo : DayOk d) (hd1 : d.length ≤ 1000000) (hf : d.flatten.length ≤ 1000000) : DayOk (yi x d s).1 := by
 unfold yi
 cases hb : (xy (yt x d s)).2 with
 | false => exact hdo
 | true =>
  have hm := Ji hb
  have hp := XT hm
  have hs := Zba hx (Y2 hm).1
  simp only [cond_true]
  have hfl : (qw d (xy (yt x d s)).1 s).flatten.length ≤ 1000001 := by rw [hp.length_eq, List.length_cons]; omega
  refine ⟨?_, fun t ht => ?_, fun t ht a ha => ?_⟩
  ·unfold qw; split
   ·simp; omega
   ·simp; omega
  ·have := (wU ht).length_le; omega
  ·have := hp.subset ((wU ht).subset ha)
   rw [List.mem_cons] at this
   rcases this with rfl | h
   ·exact hs
   ·obtain ⟨u, hu, hau⟩ := List.mem_flatten.1 h
    exact hdo.s u hu a hau
open Go Go.Proofs
def wV (l : List Int) : Int := if 1 < l.length then W (l.getD 1 0 - l.getD 0 0) else 1099511627776
def xM (c : Stop → List Int) : List Stop → Nat → Int → Int → Int
 | [], _, place, _ => place
 | s :: l, i, place, most => if (c s).length = 0 then (i : Int) else if place < 0 ∨ most < wV (c s) then xM c l (i + 1) (i : Int) (wV (c s)) else xM c l (i + 1) place most
def vB (x : Inst) (d : zg) (l : List Stop) : Int := xM (Z6 x d) l 0 (-1) 0
theorem X2 (c : Stop → List Int) : ∀ (l : List Stop) (i : Nat) (place most : Int), (l ≠ [] ∨ 0 ≤ place) → place < i → 0 ≤ xM c l i place most ∧ xM c l i place most < (i + l.length : Nat)
 | [], i, place, most, h, hp => by
  rcases h with h | h
  ·exact absurd rfl h
  ·simp only [xM, List.length_nil]; omega
 | s :: l, i, place, most, _, hp => by
  unfold xM
  split
  ·simp only [List.length_cons]; omega
  ·split
   ·have := X2 c l (i + 1) i (wV (c s)) (.inr (by omega)) (by omega)
    simp only [List.length_cons]; omega
   ·rename_i hc
    have := X2 c l (i + 1) place most (.inr (by omega)) (by omega)
    simp only [List.length_cons]; omega
theorem Zbj {x : Inst} {d : zg} {l : List Stop} (h : l ≠ []) : ∃ k : Nat, vB x d l = k ∧ k < l.length := by
 have := X2 (Z6 x d) l 0 (-1) 0 (.inl h) (by omega)
 exact ⟨(vB x d l).toNat, by unfold vB; omega, by unfold vB; omega⟩
def xN (x : Inst) : Nat → zg → List Stop → zg × Bool
 | 0, d, _ => (d, true)
 | n + 1, d, l => bif (yi x d (l.getD (vB x d l).toNat default)).2 then xN x n (yi x d (l.getD (vB x d l).toNat default)).1 (l.eraseIdx (vB x d l).toNat) else (d, false)
def qi (x : Inst) (l : List Stop) : zg × Bool := xN x l.length [] l
structure RgOk (x : Inst) (d : zg) (l : List Stop) : Prop where
 ok : DayOk d
 may : yh x d = 0
 len : d.flatten.length + l.length ≤ 1000
theorem RgOk.dl {x : Inst} {d : zg} {l : List Stop} (h : RgOk x d l) : d.length ≤ 1000 := by
 have h1 := Y1 d (Jm h.may)
 have h2 := h.len
 omega
theorem RgOk.step {x : Inst} {d : zg} {l : List Stop} (hx : x.cust.length ≤ 1048576) (h : RgOk x d l) {i : Nat} (hi : i < l.length) {s : Stop} (hs : (yi x d s).2 = true) : RgOk x (yi x d s).1 (l.eraseIdx i) := by
 have hf := h.len
 have hl := h.dl
 refine ⟨Zbi hx h.ok (by omega) (by omega), ?_, ?_⟩
 ·unfold yi at hs ⊢
  cases hb : (xy (yt x d s)).2 with
  | false => rw [hb] at hs; cases hs
  | true => exact XV (Ji hb)
 ·rw [(Jj hs).length_eq, List.length_cons, List.length_eraseIdx_of_lt hi]; omega
theorem X3 {x : Inst} (hv : 0 ≤ x.veh) {l : List Stop} (hl : l.length ≤ 1000) : RgOk x [] l :=
 ⟨⟨by simp, by simp, by simp⟩, (xc x []).2 ⟨by simp, by simp, by simpa using hv⟩, by simpa using hl⟩
theorem ZhI {c : Stop → List Int} {l : List Stop} {k : Nat} {s : Stop} {place most : Int} (hd : l.drop k = s :: l.drop (k + 1)) :
  xM c (l.drop k) k place most = if (c s).length = 0 then (k : Int) else if place < 0 ∨ most < wV (c s) then xM c (l.drop (k + 1)) (k + 1) (k : Int) (wV (c s)) else xM c (l.drop (k + 1)) (k + 1) place most := by
 rw [hd]; rfl
theorem ZhJ (x : Inst) (d : zg) (l : List Stop) (hx : x.cust.length ≤ 1048576) (h : RgOk x d l) {S : Store} {id ver : Nat} (hid : S id = .cells ver 35 (l.flatMap Enc.enc)) :
  Spec Tryz.prog 243 [.agg (wS x d), .sl id ver 2 0 l.length] S (fun p S' => p = I (vB x d l) ∧ S' = S) := by
 have hf := h.len
 have hl := h.dl
 have hco := fun s => Zhv x d s hx h.ok h.may (by omega) (by omega)
 have hu : vB x d l = xM (Z6 x d) (l.drop 0) 0 (-1) 0 := rfl
 rw [hu]
 clear hu
 obtain ⟨on, tw, fs, bd, ls, ws, hlk⟩ : ∃ on tw fs bd ls ws, wS x d = x6 x d on tw fs bd ls ws := ⟨_, _, _, _, _, _, rfl⟩
 rw [hlk] at hco ⊢
 clear hlk
 generalize hcz : Z6 x d = cz at *
 refine yH Tryz.func243 Tryz.ntmps243 Tryz.results243 fun nx hd => ?_
 have hlt : id < nx := yk hd hid (by simp)
 have xid := fun obs => zE (S := S) (obs := obs) hlt
 repeat apply za
 refine zb ?_
 intro v0
 repeat apply za
 refine zb ?_
 repeat apply za
 refine zb ?_
 refine zj (zM (fun s' : Nat × Int × Int => s'.1 ≤ l.length ∧ xM cz (l.drop s'.1) s'.1 s'.2.1 s'.2.2 = xM cz (l.drop 0) 0 (-1) 0) (fun (k, place, most) => [(2, .ptr nx v0 0), (5, I place), (6, I most), (11, .sl id ver 2 0 l.length), (12, I l.length), (13, I k)]) (fun _ => [.cells v0 140 (x6 x d on tw fs bd ls ws)]) (fun s' => l.length - s'.1) (0, -1, 0) [] ⟨by simp, rfl⟩ (by simp) (by simp) ?_)
 rintro ⟨k, place, most⟩ ⟨hk, hg⟩
 simp only at hk hg ⊢
 rw [← hg]
 repeat apply za
 refine zb ?_
 repeat apply za
 refine zt rfl (fun hc => ?_) (fun hc => ?_)
 ·simp at hc
  obtain ⟨s, tl, a1, a2, a3, e1, e0⟩ := el 2 rfl l k hc
  have hk2 : 2 ≤ l.length * 2 - k * 2 := by omega
  have hun := ZhI (c := cz) (place := place) (most := most) a2
  have hcs := hco s
  generalize hc0 : cz s = c at *
  have wk := zx k (by omega)
  refine zi (za (zj ?_))
  repeat apply za
  refine ze [] (qv xid hid e0 hc hk2) ?_
  intro v1
  repeat apply za
  refine zb ?_
  refine zB hcs ?_
  by_cases h0 : c.length = 0
  ·rw [if_pos h0] at hun
   repeat apply za
   refine ze [] h0 ?_
   refine zo rfl ?_
   repeat apply za
   refine zb ?_
   exact zh ⟨_, S, (by simp; rfl), ⟨by simp [zn, hun], rfl⟩, zW hd⟩
  rw [if_neg h0] at hun
  repeat apply za
  refine zb ?_
  refine zp (by simp; exact fun e => h0 (by rw [e]; rfl)) ?_
  refine zi ?_
  repeat apply za
  refine zb ?_
  refine qK (nx := nx) (fun _ : Unit => True) (fun _ => [(2, .ptr nx v0 0), (5, I place), (6, I most), (7, I k), (10, I (wV c)), (11, .sl id ver 2 0 l.length), (12, I l.length), (13, I k)]) (fun _ => S) (fun _ => [.cells v0 140 (x6 x d on tw fs bd ls ws)]) ?_ ?_
  ·by_cases h1 : 1 < c.length
   ·obtain ⟨a, ta, q1, -, -, q0⟩ := zI rfl c 1 h1
    obtain ⟨b, tb, r1, -, -, r0⟩ := zI rfl c 0 (by omega)
    have hab : wV c = W (a - b) := by unfold wV; rw [if_pos h1, List.getD_eq_getElem?_getD, List.getD_eq_getElem?_getD, q1, r1]; rfl
    have g1 : 1 ≤ c.length - 1 := by omega
    have g2 : 0 < c.length := by omega
    have g3 : 1 ≤ c.length := by omega
    have r0' : (c.flatMap Enc.enc : List PV) = Enc.enc b ++ tb := by simpa using r0
    have h1' : (1 : Int) < c.length := by omega
    refine zo (by simp; omega) ?_
    rw [r0'] at q0
    have htb : tb = I a :: ta := by simpa using q0
    rw [htb] at r0'
    refine zD none (Row.pures [0, 1, 2, 3, 4, 5, 6, 7] .done) mixed (yg r0' h1 h1' g1 g2 g3) ?_
    exact zS () [_] trivial (by simp [hab]) rfl (by simp; rfl)
   ·have hab : wV c = 1099511627776 := by unfold wV; rw [if_neg h1]
    refine zp (by simp; omega) ?_
    refine zi ?_
    exact zS () [_] trivial (by simp [hab]) rfl (by simp; rfl)
  ·rintro ⟨⟩ -
   generalize wV c = ab at *
   by_cases hq : place < 0
   ·rw [if_pos (.inl hq)] at hun
    repeat apply za
    refine ze [(2, 37)] (zm hq zL) ?_
    refine zo rfl ?_
    refine zb ?_
    refine zb ?_
    exact zr (k + 1, (k : Int), ab) [] ⟨hc, by rw [← hun, hg]⟩ (by simp; omega) (by simp [wk]) rfl (by simp)
   ·by_cases hq2 : most < ab
    ·rw [if_pos (.inr hq2)] at hun
     repeat apply za
     refine ze [(2, 37)] (zm hq hq2) ?_
     refine zo rfl ?_
     refine zb ?_
     refine zb ?_
     exact zr (k + 1, (k : Int), ab) [] ⟨hc, by rw [← hun, hg]⟩ (by simp; omega) (by simp [wk]) rfl (by simp)
    ·rw [if_neg (by rintro (q | q); exact hq q; exact hq2 q)] at hun
     repeat apply za
     refine ze [(2, 37)] (zm hq hq2) ?_
     refine zp rfl ?_
     refine zi ?_
     refine zb ?_
     exact zr (k + 1, place, most) [] ⟨hc, by rw [← hun, hg]⟩ (by simp; omega) (by simp [wk]) rfl (by simp)
 ·simp at hc
  obtain rfl : k = l.length := by omega
  refine zC ?_
  have hgl : xM cz (l.drop l.length) l.length place most = place := by rw [List.drop_length]; rfl
  repeat apply za
  refine zb ?_
  exact zh ⟨_, S, (by simp; rfl), ⟨by simp [zn]; rfl, rfl⟩, zW hd⟩
open Go Go.Proofs
theorem ZhK {x : Inst} {d : zg} {l : List Stop} {k : Nat} {s : Stop} (hu : vB x d l = k) (hk : l[k]? = some s) :
  xN x l.length d l = bif (yi x d s).2 then xN x (l.eraseIdx k).length (yi x d s).1 (l.eraseIdx k) else (d, false) := by
 have hlt := (List.getElem?_eq_some_iff.1 hk).1
 obtain ⟨n, hn⟩ : ∃ n, l.length = n + 1 := ⟨l.length - 1, by omega⟩
 have he : (l.eraseIdx k).length = n := by rw [List.length_eraseIdx_of_lt hlt]; omega
 have hg : l.getD k default = s := by rw [List.getD_eq_getElem?_getD, hk]; rfl
 rw [hn, he, xN, hu, Int.toNat_natCast, hg]
theorem ZhL {x : Inst} {d : zg} {l : List Stop} (h : RgOk x d l) : d.length ≤ 1000 ∧ d.flatten.length ≤ 1000 ∧ l.length ≤ 1000 := by
 have h1 := h.dl
 have h2 := h.len
 omega
theorem ZhM (x : Inst) (l : List Stop) (hx : x.cust.length ≤ 1048576) (hv : 0 ≤ x.veh) (hl : l.length ≤ 1000) : Pure Tryz.prog 215 [.agg (zA x), L l] (.tup [.agg [L (qi x l).1], B (qi x l).2]) := by
 have hb := X3 hv hl
 unfold qi
 by_cases h0 : 0 < l.length
 case neg =>
  obtain rfl : l = [] := List.eq_nil_of_length_eq_zero (by omega)
  have hcl := Jf [] (by simp)
  refine zy Tryz.func215 Tryz.ntmps215 Tryz.results215 fun S nx hd => ?_
  repeat apply za
  refine zb ?_
  intro v0 v1
  repeat apply za
  refine zb ?_
  intro v2
  refine Zb 2 0 rfl rfl ?_
  repeat apply za
  refine zb ?_
  refine zB hcl ?_
  repeat apply za
  refine zj (zM (fun _ : Nat => True) (fun _ => [(2, .ptr nx v0 0), (4, .ptr (nx + 1) v1 0), (6, .ptr (nx + 2) v2 0), (7, L ([] : List Stop))]) (fun _ => [.cells v0 25 (zA x), .cells v1 58 [yD], .cells v2 58 [L ([] : zg)]]) (fun k => k) 0 [] trivial (by simp) (by simp) ?_)
  rintro k -
  repeat apply za
  refine zb ?_
  refine zp rfl ?_
  refine zC ?_
  repeat apply za
  refine zb ?_
  exact zh (zk hd (by simp; rfl) (by simp [zn, xN]))
 refine zy Tryz.func215 Tryz.ntmps215 Tryz.results215 fun S nx hd => ?_
 repeat apply za
 refine zb ?_
 intro v0 v1
 repeat apply za
 refine zb ?_
 intro v2
 refine Zb 2 0 rfl rfl ?_
 repeat apply za
 refine zQ [] (by rfl) (by rfl) fun K Gc Gh hK hGc hGh X hX0 hX => ?_
 simp -implicitDefEqProofs [hX0, hX]
 try clear hX0 hX X
 refine hGc _ _ _ _ _ _ _ fun hsuf => ((XM l h0 (by omega) _ _ vn).mono ?_).v
 rintro _ _ ⟨v3, rfl, rfl⟩
 refine ⟨_, _, qO _, ?_⟩
 clear hGc hGh
 clear Gc Gh
 refine zP hsuf (D := []) (by rfl) fun Gc Gh hGc hGh X hX0 hX => ?_
 simp -implicitDefEqProofs [hX0, hX]
 clear hX0 hX X
 refine hK _ _ _ ?_
 clear hK hGc hGh
 clear K Gc Gh
 repeat apply za
 refine zj (zM (fun s' : zg × List Stop × Nat => xN x s'.2.1.length s'.1 s'.2.1 = xN x l.length [] l ∧ RgOk x s'.1 s'.2.1) (fun (d, m, v3) => [(2, .ptr nx v0 0), (4, .ptr (nx + 1) v1 0), (6, .ptr (nx + 2) v2 0), (7, .sl (nx + 3) v3 2 0 m.length)]) (fun (d, m, v3) => [.cells v0 25 (zA x), .cells v1 58 [yD], .cells v2 58 [L d], .cells v3 35 (m.flatMap Enc.enc)]) (fun s' => s'.2.1.length) ([], l, v3) [] ⟨rfl, hb⟩ (by simp) (by simp) ?_)
 rintro ⟨d, m, v3⟩ ⟨hr, hok⟩
 simp only at hr hok ⊢
 rw [← hr]
 by_cases hm : m = []
 ·subst hm
  repeat apply za
  refine zb ?_
  refine zp rfl ?_
  refine zC ?_
  repeat apply za
  refine zb ?_
  exact zh (zk hd (by simp; rfl) (by simp [zn, xN]))
 ·have hm0 : 0 < m.length := List.length_pos_iff.2 hm
  obtain ⟨k, hu, hk⟩ := Zbj (x := x) (d := d) hm
  obtain ⟨s, tl, a1, a2, a3, e1, e0⟩ := el 2 rfl m k hk
  have hk2 : 2 ≤ m.length * 2 - k * 2 := by omega
  have hst := ZhK hu a1
  obtain ⟨b1, b2, b3⟩ := ZhL hok
  have hsee := ZaI x d hx hok.ok (by omega)
  have hins := XZ x d s hx hok.ok (by omega)
  have hnx := fun h => hok.step hx hk (s := s) h
  have hurg := fun (S : Store) (id ver : Nat) h => ZhJ x d m hx hok (S := S) (id := id) (ver := ver) h
  rw [hu] at hurg
  obtain ⟨on, tw, fs, bd, ls, ws, hlk⟩ : ∃ on tw fs bd ls ws, wS x d = x6 x d on tw fs bd ls ws := ⟨_, _, _, _, _, _, rfl⟩
  rw [hlk] at hsee hurg
  clear hlk
  have hno := ZaT (x := x) (d := d) (s := s)
  generalize hi : yi x d s = r at *
  obtain ⟨d2, ok⟩ := r
  simp only at hst hnx hno
  have wk := zx k (by omega)
  have hm0' : (0 : Int) < m.length := by omega
  repeat apply za
  refine ze [] hm0' ?_
  refine zo (by simp; exact hm0) ?_
  refine zi (zj ?_)
  repeat apply za
  refine zQ [] (by rfl) (by rfl) fun K Gc Gh hK hGc hGh X hX0 hX => ?_
  simp -implicitDefEqProofs [hX0, hX]
  try clear hX0 hX X
  refine hGc _ _ _ _ _ _ _ fun hsuf => ((hsee _).mono ?_).v
  rintro _ _ ⟨rfl, rfl⟩
  refine ⟨_, _, rfl, ?_⟩
  clear hGc hGh
  clear Gc Gh
  refine zP hsuf (D := []) (by rfl) fun Gc Gh hGc hGh X hX0 hX => ?_
  simp -implicitDefEqProofs [hX0, hX]
  clear hX0 hX X
  refine hGc _ _ _ _ _ _ _ fun hsuf => ((hurg _ _ _ (by rw [yC]; rfl)).mono ?_).v
  rintro _ _ ⟨rfl, rfl⟩
  refine ⟨_, _, rfl, ?_⟩
  clear hGc hGh
  clear Gc Gh
  refine zP hsuf (D := []) (by rfl) fun Gc Gh hGc hGh X hX0 hX => ?_
  simp -implicitDefEqProofs [hX0, hX]
  clear hX0 hX X
  refine hK _ _ _ ?_
  clear hK hGc hGh
  clear K Gc Gh
  repeat apply za
  refine zD (some [nx, nx + 2, nx + 3]) (Row.pures [0, 1, 2, 3, 4, 5, 6, 7, 8, 9] (.alt 10 (.alt 11 (Row.pures [12] .done) .stop) .stop)) mixed (zJ e0 hk hk2) ?_
  refine zN (hins) trivial ?_
  intro v4
  repeat apply za
  refine zb ?_
  cases ok with
  | false =>
   simp only [cond_false] at hst
   refine zo rfl ?_
   repeat apply za
   refine zb ?_
   exact zh (zk hd (by simp; rfl) (by simp [zn, hst]))
  | true =>
   simp only [cond_true] at hst
   refine zp rfl ?_
   refine zi ?_
   have hkl := List.length_eraseIdx_of_lt hk
   refine wP (some [nx + 4]) (Row.pures [0, 1, 2, 3, 4] (.alt 5 (.alt 6 (Row.pures [7] .done) .stop) .stop)) mixed (by rfl) (by rfl) (by rfl) fun K Gp Gc Gh hK hGp hGc hGh X hX0 hX1 hX2 hX => ?_
   simp -implicitDefEqProofs [hX0, hX1, hX2, hX, wk]
   try clear hX0 hX1 hX2 hX X
   refine hGc _ _ _ _ _ _ _ ?_
   refine ((ZhB m k hk (by omega) (by rw [yC]; rfl)).mono ?_).v
   rintro _ _ ⟨rfl, rfl⟩
   rw [yN _ (by omega) (by simp), Nat.add_sub_cancel_left]
   refine ⟨by simp [yl], ?_⟩
   clear hGp hGc hGh
   clear Gp Gc Gh
   refine jA fun Gp Gc Gh hGp hGc hGh X hX0 hX1 hX2 hX => ?_
   simp -implicitDefEqProofs [hX0, hX1, hX2, hX]
   try clear hX0 hX1 hX2 hX X
   refine hK _ _ _ ?_
   clear hK hGp hGc hGh
   clear K Gp Gc Gh
   exact zr (d2, m.eraseIdx k, v3 + 1) [_] ⟨hst.symm, hnx rfl⟩ (by simp only; omega) (by simp) rfl (by simp; rfl)
open Go Go.Proofs
def xe (step : zg → Option zg) : Nat → zg → zg
 | 0, d => d
 | n + 1, d => match step d with
  | none => d
  | some e => xe step n e
def wW (step : zg → Option zg) : Nat → zg → Nat
 | 0, _ => 0
 | n + 1, d => match step d with
  | none => 0
  | some e => wW step n e + 1
def Zbk (x : Inst) (step : zg → Option zg) (G : zg → Prop) : Prop := ∀ d, G d → ∃ mk ma mb mi mj least, Pure Tryz.prog 106 [.agg (zA x), .agg [L d]] (.tup [.agg [I mk, I ma, I mb, I mi, I mj], I least, B (step d).isSome]) ∧
 ∀ e, step d = some e → Pure Tryz.prog 107 [.agg (zA x), .agg [L d], .agg [I mk, I ma, I mb, I mi, I mj]] (.tup [.agg [L e], I 0]) ∧ G e
theorem Zbl (x : Inst) (d : zg) (b : Int) (step : zg → Option zg) (G : zg → Prop) (hb : b ≤ 9223372036854775807) (hdn : d.length ≤ 1048576) (hdt : ∀ t ∈ d, t.length ≤ 1048576) (hd' : 0 < b → G d) (hs : Zbk x step G) : Pure Tryz.prog 62 [.agg (zA x), .agg [L d], I b] (.tup [.agg [L (xe step b.toNat d)], I (if wW step b.toNat d < b.toNat then (wW step b.toNat d : Int) else jW b 0)]) := by
 refine zy Tryz.func62 Tryz.ntmps62 Tryz.results62 fun S nx hd => ?_
 repeat apply za
 refine zb ?_
 intro v0 v1 v2
 repeat apply za
 refine zb ?_
 intro v3
 refine je 3 0 72 1 rfl rfl fun v4 => ?_
 repeat apply za
 refine zb ?_
 refine zj (zM (fun s' : Nat × Nat => s'.1 ≤ d.length) (fun (k, v4) => [(2, I b), (3, .ptr nx v0 0), (6, .ptr (nx + 2) v2 0), (7, I 0), (8, .ptr (nx + 3) v3 0), (16, L d), (17, I d.length), (18, I k)]) (fun (k, v4) => [.cells v0 25 (zA x), .cells v1 58 [L d], .cells v2 58 [yD], .cells v3 58 [.sl (nx + 4) v4 1 0 k], .cells v4 72 ((d.take k).flatMap Enc.enc)]) (fun s' => d.length - s'.1) (0, v4) [] (by simp) (by simp) (by simp) ?_)
 rintro ⟨k, v4⟩ hk
 simp only at hk ⊢
 repeat apply za
 refine zb ?_
 repeat apply za
 refine zt rfl (fun hc => ?_) (fun hc => ?_)
 ·simp at hc
  obtain ⟨t, tl, a1, a2, a3, e0⟩ := zI rfl d k hc
  have hk1 : 1 ≤ d.length - k := by omega
  have hcl := Jf t (hdt t (List.mem_of_getElem? a1))
  have hcl' : ((d.take k).flatMap Enc.enc : List PV).length = k := by rw [qS, List.length_take]; omega
  have hct : ((d.take k).flatMap Enc.enc : List PV).take k = (d.take k).flatMap Enc.enc := List.take_of_length_le (by omega)
  have hcn : ((d.take (k + 1)).flatMap Enc.enc : List PV) = (d.take k).flatMap Enc.enc ++ [L t] := by rw [a3, List.flatMap_append]; rfl
  generalize ((d.take k).flatMap Enc.enc : List PV) = cs at *
  refine zi (za (zj ?_))
  repeat apply za
  refine ze [] (zJ e0 hc hk1) ?_
  intro v5
  refine zD (some [nx + 5]) (Row.pures [0, 2, 3, 4, 5, 6] (.alt 1 (.alt 7 (Row.pures [8] (.alt 9 (.done) .stop)) .stop) .stop)) mixed (zm hcl' hct) ?_
  refine zN (hcl) (zm hcl' hct) ?_
  refine ⟨by omega, ?_⟩
  refine zb ?_
  exact zr (k + 1, v4 + 1) [_] hc (by simp; omega) (by simp [zx k (by omega)]) rfl (by simp [hcn]; rfl)
 ·simp at hc
  obtain rfl : k = d.length := by omega
  have g1 : d.take d.length = d := List.take_length
  refine zC ?_
  rw [g1]
  refine yc 4 rfl ?_
  repeat apply za
  refine zb ?_
  clear hk hc g1
  refine zj (zM (fun s' : Nat × zg => s'.1 ≤ b.toNat ∧ (0 < b → G s'.2) ∧ xe step (b.toNat - s'.1) s'.2 = xe step b.toNat d ∧ s'.1 + wW step (b.toNat - s'.1) s'.2 = wW step b.toNat d) (fun (k, e) => [(2, I b), (3, .ptr nx v0 0), (6, .ptr (nx + 2) v2 0), (8, .ptr (nx + 3) v3 0), (11, I k)]) (fun (k, e) => [.cells v0 25 (zA x), .cells v1 58 [L d], .cells v2 58 [yD], .cells v3 58 [L e]]) (fun s' => b.toNat - s'.1) (0, d) [.dead] ⟨by simp, hd', by simp, by simp⟩ (by simp) (by simp) ?_)
  rintro ⟨k, e⟩ ⟨hk, hG, hi, hco⟩
  simp only at hk hG hi hco ⊢
  rw [← hi]
  repeat apply za
  refine zb ?_
  refine zt rfl (fun hc => ?_) (fun hc => ?_)
  ·simp at hc
   obtain ⟨mk, ma, mb, mi, mj, least, hB, hM⟩ := hs e (hG (by omega))
   obtain ⟨n, hn⟩ : ∃ n, b.toNat - k = n + 1 := ⟨b.toNat - k - 1, by omega⟩
   refine zi (za (zj ?_))
   repeat apply za
   refine zb ?_
   refine zB hB ?_
   intro v5
   repeat apply za
   refine zb ?_
   cases hst : step e with
   | none =>
    have hr : xe step (b.toNat - k) e = e := by rw [hn]; unfold xe; rw [hst]
    have hr2 : wW step (b.toNat - k) e = 0 := by rw [hn]; unfold wW; rw [hst]
    rw [hr2] at hco
    rw [hr, ← hco, if_pos (by omega)]
    refine zo rfl ?_
    repeat apply za
    refine zb ?_
    exact zh (zk hd (by simp; rfl) (by simp [zn]))
   | some e2 =>
    have hr : xe step (b.toNat - k) e = xe step (b.toNat - (k + 1)) e2 := by rw [hn, show b.toNat - (k + 1) = n by omega]; conv => lhs; unfold xe; rw [hst]
    have hr2 : wW step (b.toNat - k) e = wW step (b.toNat - (k + 1)) e2 + 1 := by rw [hn, show b.toNat - (k + 1) = n by omega]; conv => lhs; unfold wW; rw [hst]
    obtain ⟨hM1, hG2⟩ := hM e2 hst
    refine zp rfl ?_
    refine zi ?_
    refine zb ?_
    refine zB hM1 ?_
    refine zb ?_
    exact zr (k + 1, e2) [_] ⟨by simp; omega, fun _ => hG2, hr.symm, by simp only; omega⟩ (by simp; omega) (by simp [zx k (by omega)]) rfl (by simp; rfl)
  ·simp at hc
   have hz : b.toNat - k = 0 := by omega
   rw [hz] at hco ⊢
   have hco' : wW step b.toNat d = k := by rw [← hco]; rfl
   rw [hco', if_neg (by omega)]
   refine zC ?_
   repeat apply za
   refine zb ?_
   exact zh (zk hd (by simp; rfl) (by simp [zn, xe]))
open Go Go.Proofs
structure Pc where
 t : Nat
 f : Nat
 o : Nat
 b : Bool
 deriving DecidableEq
def z7 : Pc := ⟨0, 0, 0, false⟩
abbrev pcL (p : Pc) : List PV := [I p.t, I p.f, I p.o, B p.b]
structure Rw5 where
 a : Pc
 b : Pc
 c : Pc
 d : Pc
 e : Pc
abbrev z6 (r : Rw5) : List PV := [I r.a.t, I r.a.f, I r.a.o, B r.a.b, I r.b.t, I r.b.f, I r.b.o, B r.b.b, I r.c.t, I r.c.f, I r.c.o, B r.c.b, I r.d.t, I r.d.f, I r.d.o, B r.d.b, I r.e.t, I r.e.f, I r.e.o, B r.e.b]
def Rw5.l (r : Rw5) : List Pc := [r.a, r.b, r.c, r.d, r.e]
def jk : Rw5 := ⟨z7, z7, z7, z7, z7⟩
structure Mv where
 k : Nat
 a : Nat
 b : Nat
 i : Nat
 j : Nat
 deriving DecidableEq
abbrev wA (m : Mv) : List PV := [I m.k, I m.a, I m.b, I m.i, I m.j]
abbrev wX (m : Mv) (la lb : Nat) : List PV := [I m.k, I m.a, I m.b, I m.i, I m.j, I la, I lb]
def xz (m : Mv) (la lb : Nat) : Bool :=
 if m.k = 0 then decide (m.b = m.a ∧ m.i < m.j ∧ m.j < la)
 else if m.k = 1 then decide (m.i < la ∧ (if m.a = m.b then m.j < lb else m.j ≤ lb))
 else if m.k = 2 then decide (¬ (m.b < m.a ∨ m.a = m.b ∧ m.j ≤ m.i) ∧ m.i < la ∧ m.j < lb)
 else decide (m.a < m.b ∧ m.i ≤ la ∧ m.j ≤ lb)
def jl (m : Mv) (la lb : Nat) : Rw5 × Rw5 :=
 if m.k = 0 then (⟨⟨m.a, 0, m.i, false⟩, ⟨m.a, m.i, m.j + 1, true⟩, ⟨m.a, m.j + 1, la, false⟩, z7, z7⟩, jk)
 else if m.k = 1 then
  (if m.a ≠ m.b then (⟨⟨m.a, 0, m.i, false⟩, ⟨m.a, m.i + 1, la, false⟩, z7, z7, z7⟩, ⟨⟨m.b, 0, m.j, false⟩, ⟨m.a, m.i, m.i + 1, false⟩, ⟨m.b, m.j, lb, false⟩, z7, z7⟩)
  else if m.i < m.j then (⟨⟨m.a, 0, m.i, false⟩, ⟨m.a, m.i + 1, m.j + 1, false⟩, ⟨m.a, m.i, m.i + 1, false⟩, ⟨m.a, m.j + 1, la, false⟩, z7⟩, jk)
  else (⟨⟨m.a, 0, m.j, false⟩, ⟨m.a, m.i, m.i + 1, false⟩, ⟨m.a, m.j, m.i, false⟩, ⟨m.a, m.i + 1, la, false⟩, z7⟩, jk))
 else if m.k = 2 then
  (if m.a = m.b then (⟨⟨m.a, 0, m.i, false⟩, ⟨m.b, m.j, m.j + 1, false⟩, ⟨m.a, m.i + 1, m.j, false⟩, ⟨m.a, m.i, m.i + 1, false⟩, ⟨m.a, m.j + 1, la, false⟩⟩, jk)
  else (⟨⟨m.a, 0, m.i, false⟩, ⟨m.b, m.j, m.j + 1, false⟩, ⟨m.a, m.i + 1, la, false⟩, z7, z7⟩, ⟨⟨m.b, 0, m.j, false⟩, ⟨m.a, m.i, m.i + 1, false⟩, ⟨m.b, m.j + 1, lb, false⟩, z7, z7⟩))
 else (⟨⟨m.a, 0, m.i, false⟩, ⟨m.b, m.j, lb, false⟩, z7, z7, z7⟩, ⟨⟨m.b, 0, m.j, false⟩, ⟨m.a, m.i, la, false⟩, z7, z7, z7⟩)
theorem ZhO (m : Mv) (la lb : Nat) (hk : m.k = 0) : Pure Tryz.prog 225 [.agg (wX m la lb)] (B (xz m la lb)) := by
 unfold xz
 rw [if_pos hk]
 refine zy Tryz.func225 Tryz.ntmps225 Tryz.results225 fun S nx hd => ?_
 repeat apply za
 refine zb ?_
 intro v0
 by_cases h1 : m.b = m.a
 case neg =>
  have h1' : ¬ (m.b : Int) = m.a := by omega
  repeat apply za
  refine ze [(7, 10), (13, 16), (22, 25)] (zm h1' zL) ?_
  exact zh (zk hd rfl (by simp [h1, zn]))
 have h1' : (m.b : Int) = m.a := by omega
 by_cases h2 : m.i < m.j
 case neg =>
  have h2' : ¬ (m.i : Int) < m.j := by omega
  repeat apply za
  refine ze [(7, 10), (13, 16), (22, 25)] (zJ h1' h2 zL) ?_
  exact zh (zk hd rfl (by simp [h2, zn]))
 by_cases h3 : m.j < la
 case neg =>
  repeat apply za
  refine ze [(7, 10), (13, 16), (22, 25)] (ye h1' h2 h3 zL) ?_
  exact zh (zk hd rfl (by simp [h3, zn]))
 repeat apply za
 refine ze [(7, 10), (13, 16), (22, 25)] (zJ h1' h2 h3) ?_
 exact zh (zk hd rfl (by simp [h1, h2, h3, zn]))
theorem ZhP (m : Mv) (la lb : Nat) (hk : m.k = 1) (hlb : lb ≤ 1048576) : Pure Tryz.prog 227 [.agg (wX m la lb)] (B (xz m la lb)) := by
 unfold xz
 rw [if_neg (by omega), if_pos hk]
 refine zy Tryz.func227 Tryz.ntmps227 Tryz.results227 fun S nx hd => ?_
 repeat apply za
 refine zb ?_
 intro v0
 repeat apply za
 refine zb ?_
 refine za ?_
 refine qK (nx := nx) (fun z : Int => (m.j : Int) ≤ z ↔ (if m.a = m.b then m.j < lb else m.j ≤ lb)) (fun z => [(1, .ptr nx v0 0), (3, I z)]) (fun _ => S) (fun _ => [.cells v0 251 (wX m la lb)]) ?_ ?_
 ·by_cases h1 : m.a = m.b
  ·have h1' : (m.a : Int) = m.b := by omega
   have w1 : IntKind.i64.wrap ((lb : Int) - 1) = (lb : Int) - 1 := wr _ (by omega) (by omega)
   repeat apply za
   refine ze [] h1' ?_
   refine zo rfl ?_
   refine ze [] w1 ?_
   exact zS ((lb : Int) - 1) [] (by rw [if_pos h1]; omega) (by simp) rfl (by simp)
  ·have h1' : ¬ (m.a : Int) = m.b := by omega
   repeat apply za
   refine ze [] h1' ?_
   refine zp rfl ?_
   refine zi ?_
   exact zS (lb : Int) [] (by rw [if_neg h1]; omega) (by simp) rfl (by simp)
 ·intro z hz
  by_cases h2 : m.i < la
  case neg =>
   repeat apply za
   refine ze [(4, 19), (12, 27), (18, 33)] (zm h2 zL) ?_
   exact zh (zk hd rfl (by simp [h2, zn]))
  by_cases h3 : (m.j : Int) ≤ z
  case neg =>
   have h4 := (not_congr hz).1 h3
   repeat apply za
   refine ze [(4, 19), (12, 27), (18, 33)] (zm h2 h3) ?_
   exact zh (zk hd rfl (by simp [h2, h4, zn]))
  have h4 := hz.1 h3
  repeat apply za
  refine ze [(4, 19), (12, 27), (18, 33)] (zm h2 h3) ?_
  exact zh (zk hd rfl (by simp [h2, h4, zn]))
theorem ZhQ (m : Mv) (la lb : Nat) (hk : m.k = 2) : Pure Tryz.prog 229 [.agg (wX m la lb)] (B (xz m la lb)) := by
 unfold xz
 rw [if_neg (by omega), if_neg (by omega), if_pos hk]
 refine zy Tryz.func229 Tryz.ntmps229 Tryz.results229 fun S nx hd => ?_
 repeat apply za
 refine zb ?_
 intro v0
 have rest : ∀ (P : Prop), (m.i < la → m.j < lb → P) → (¬ (m.i < la ∧ m.j < lb) → P) → P := fun P a b => by
  by_cases q : m.i < la ∧ m.j < lb
  ·exact a q.1 q.2
  ·exact b q
 by_cases h1 : m.b < m.a
 ·repeat apply za
  refine ze [(7, 10), (15, 18)] (zm h1 zL) ?_
  refine zo rfl ?_
  repeat apply za
  refine zb ?_
  exact zh (zk hd rfl (by simp [h1, zn]))
 by_cases h2 : m.a = m.b
 ·have h2' : (m.a : Int) = m.b := by omega
  by_cases h3 : m.j ≤ m.i
  ·have h1' : ¬ m.b < m.b := by omega
   repeat apply za
   refine ze [(7, 10), (15, 18)] (zJ h2' h1' h3) ?_
   refine zo rfl ?_
   repeat apply za
   refine zb ?_
   exact zh (zk hd rfl (by simp [h2, h3, zn]))
  ·have h1' : ¬ m.b < m.b := by omega
   have h0 : ¬ (m.b < m.a ∨ m.a = m.b ∧ m.j ≤ m.i) := by omega
   repeat apply za
   refine ze [(7, 10), (15, 18)] (zJ h2' h1' h3) ?_
   refine zp rfl ?_
   refine zi ?_
   by_cases h4 : m.i < la
   case neg =>
    repeat apply za
    refine ze [(4, 32), (12, 40), (18, 46)] (zm h4 zL) ?_
    exact zh (zk hd rfl (by simp [h4, zn]))
   by_cases h5 : m.j < lb
   case neg =>
    repeat apply za
    refine ze [(4, 32), (12, 40), (18, 46)] (zm h4 h5) ?_
    exact zh (zk hd rfl (by simp [h5, zn]))
   repeat apply za
   refine ze [(4, 32), (12, 40), (18, 46)] (zm h4 h5) ?_
   exact zh (zk hd rfl (by simp [h0, h4, h5, zn]))
 ·have h2' : ¬ (m.a : Int) = m.b := by omega
  have h0 : ¬ (m.b < m.a ∨ m.a = m.b ∧ m.j ≤ m.i) := by omega
  repeat apply za
  refine ze [(7, 10), (15, 18)] (zJ h1 h2' zL) ?_
  refine zp rfl ?_
  refine zi ?_
  by_cases h4 : m.i < la
  case neg =>
   repeat apply za
   refine ze [(4, 32), (12, 40), (18, 46)] (zm h4 zL) ?_
   exact zh (zk hd rfl (by simp [h4, zn]))
  by_cases h5 : m.j < lb
  case neg =>
   repeat apply za
   refine ze [(4, 32), (12, 40), (18, 46)] (zm h4 h5) ?_
   exact zh (zk hd rfl (by simp [h5, zn]))
  repeat apply za
  refine ze [(4, 32), (12, 40), (18, 46)] (zm h4 h5) ?_
  exact zh (zk hd rfl (by simp [h0, h4, h5, zn]))
theorem ZhR (m : Mv) (la lb : Nat) (hk : 3 ≤ m.k) : Pure Tryz.prog 231 [.agg (wX m la lb)] (B (xz m la lb)) := by
 unfold xz
 rw [if_neg (by omega), if_neg (by omega), if_neg (by omega)]
 refine zy Tryz.func231 Tryz.ntmps231 Tryz.results231 fun S nx hd => ?_
 repeat apply za
 refine zb ?_
 intro v0
 by_cases h1 : m.a < m.b
 case neg =>
  repeat apply za
  refine ze [(7, 10), (13, 16), (21, 24), (27, 30)] (zm h1 zL) ?_
  exact zh (zk hd rfl (by simp [h1, zn]))
 by_cases h2 : m.i ≤ la
 case neg =>
  repeat apply za
  refine ze [(7, 10), (13, 16), (21, 24), (27, 30)] (zJ h1 h2 zL) ?_
  exact zh (zk hd rfl (by simp [h2, zn]))
 by_cases h3 : m.j ≤ lb
 case neg =>
  repeat apply za
  refine ze [(7, 10), (13, 16), (21, 24), (27, 30)] (zJ h1 h2 h3) ?_
  exact zh (zk hd rfl (by simp [h3, zn]))
 repeat apply za
 refine ze [(7, 10), (13, 16), (21, 24), (27, 30)] (zJ h1 h2 h3) ?_
 exact zh (zk hd rfl (by simp [h1, h2, h3, zn]))
theorem ZhS (m : Mv) (la lb : Nat) (hk : m.k = 0) (hi : m.i ≤ 1048576) (hj : m.j ≤ 1048576) : Pure Tryz.prog 226 [.agg (wX m la lb)] (.tup [.agg (z6 (jl m la lb).1), .agg (z6 (jl m la lb).2)]) := by
 have wi := zx m.i (by omega)
 have wj := zx m.j (by omega)
 unfold jl
 rw [if_pos hk]
 refine zy Tryz.func226 Tryz.ntmps226 Tryz.results226 fun S nx hd => ?_
 repeat apply za
 refine zb ?_
 intro v0 v1 v2
 repeat apply za
 refine zD (some [nx]) (Row.pures [0, 1, 2, 3, 4, 5, 6, 7, 8, 9, 10, 11] .done) mixed trivial ?_
 repeat apply za
 refine ze [] wj ?_
 exact zh (zk hd (by simp; rfl) (by simp [zn, jk, z7]))
theorem ZhT (m : Mv) (la lb : Nat) (hk : 3 ≤ m.k) : Pure Tryz.prog 232 [.agg (wX m la lb)] (.tup [.agg (z6 (jl m la lb).1), .agg (z6 (jl m la lb).2)]) := by
 unfold jl
 rw [if_neg (by omega), if_neg (by omega), if_neg (by omega)]
 refine zy Tryz.func232 Tryz.ntmps232 Tryz.results232 fun S nx hd => ?_
 repeat apply za
 refine zb ?_
 intro v0 v1 v2
 repeat apply za
 refine zD (some [nx]) (Row.pures [0, 1, 2, 3, 4, 5, 6, 7, 8, 9, 10, 11, 12, 13, 14, 15] .done) mixed trivial ?_
 repeat apply za
 refine zD (some [nx]) (Row.pures [0, 1, 2, 3, 4, 5, 6, 7, 8, 9, 10, 11, 12, 13, 14, 15, 16, 17] (.alt 18 (.alt 19 (.done) .stop) .stop)) mixed trivial ?_
 exact zh (zk hd (by simp; rfl) (by simp [zn, jk, z7]))
theorem ZhU (m : Mv) (la lb : Nat) (hk : m.k = 1) (hi : m.i ≤ 1048576) (hj : m.j ≤ 1048576) : Pure Tryz.prog 228 [.agg (wX m la lb)] (.tup [.agg (z6 (jl m la lb).1), .agg (z6 (jl m la lb).2)]) := by
 have wi := zx m.i (by omega)
 have wj := zx m.j (by omega)
 unfold jl
 rw [if_neg (by omega), if_pos hk]
 refine zy Tryz.func228 Tryz.ntmps228 Tryz.results228 fun S nx hd => ?_
 repeat apply za
 refine zb ?_
 intro v0 v1 v2
 repeat apply za
 refine zD (some [nx]) (Row.pures [0, 1, 2, 3, 4, 5, 6, 7, 8, 9, 10, 11, 12, 13, 14, 15] .done) mixed trivial ?_
 repeat apply za
 refine ze [] wi ?_
 intro v3
 refine za (zj ?_)
 by_cases h1 : m.a = m.b
 case neg =>
  have h1' : ¬ (m.a : Int) = m.b := by omega
  rw [if_pos h1]
  repeat apply za
  refine ze [] h1' ?_
  refine zo rfl ?_
  repeat apply za
  refine zD (some [nx, nx + 3]) (Row.pures [0, 1, 2, 3, 4, 5, 6, 7, 8, 9, 10, 11, 12, 13, 14, 15, 16, 17, 18, 19] (.alt 20 (.alt 21 (.done) .stop) .stop)) mixed wi ?_
  exact zh (zk hd (by simp; rfl) (by simp [zn, jk, z7]))
 have h1' : (m.a : Int) = m.b := by omega
 rw [if_neg (by simpa using h1)]
 repeat apply za
 refine ze [] h1' ?_
 refine zp rfl ?_
 by_cases h2 : m.i < m.j
 ·rw [if_pos h2]
  repeat apply za
  refine ze [] h2 ?_
  refine zo rfl ?_
  repeat apply za
  refine ze [] (zm wi wj) ?_
  exact zh (zk hd (by simp; rfl) (by simp [zn, jk, z7, h1]))
 ·rw [if_neg h2]
  repeat apply za
  refine ze [] h2 ?_
  refine zp rfl ?_
  refine zi ?_
  repeat apply za
  refine ze [] (zm wi wj) ?_
  exact zh (zk hd (by simp; rfl) (by simp [zn, jk, z7, h1]))
theorem ZhV (m : Mv) (la lb : Nat) (hk : m.k = 2) (hi : m.i ≤ 1048576) (hj : m.j ≤ 1048576) : Pure Tryz.prog 230 [.agg (wX m la lb)] (.tup [.agg (z6 (jl m la lb).1), .agg (z6 (jl m la lb).2)]) := by
 have wi := zx m.i (by omega)
 have wj := zx m.j (by omega)
 unfold jl
 rw [if_neg (by omega), if_neg (by omega), if_pos hk]
 refine zy Tryz.func230 Tryz.ntmps230 Tryz.results230 fun S nx hd => ?_
 repeat apply za
 refine zb ?_
 intro v0 v1 v2
 repeat apply za
 refine zD (some [nx]) (Row.pures [0, 1, 2, 3, 4, 5, 6, 7, 8, 9, 10, 11, 12, 13, 14, 15] .done) mixed trivial ?_
 repeat apply za
 refine ze [] (zm wi wj) ?_
 intro v3 v4
 by_cases h1 : m.a = m.b
 ·have h1' : (m.a : Int) = m.b := by omega
  rw [if_pos h1]
  repeat apply za
  refine ze [] h1' ?_
  refine zo rfl ?_
  repeat apply za
  refine ze [] (zm wi wj) ?_
  exact zh (zk hd (by simp; rfl) (by simp [zn, jk, z7, h1]))
 ·have h1' : ¬ (m.a : Int) = m.b := by omega
  rw [if_neg h1]
  repeat apply za
  refine ze [] h1' ?_
  refine zp rfl ?_
  refine zi ?_
  repeat apply za
  refine zD (some [nx, nx + 3, nx + 4]) (Row.pures [0, 1, 2, 3, 4, 5, 6, 7, 8, 9, 10, 11, 12, 13, 14, 15, 16, 17, 18, 19, 20, 21] (.alt 22 (.alt 23 (.done) .stop) .stop)) mixed (zm wi wj) ?_
  exact zh (zk hd (by simp; rfl) (by simp [zn, jk, z7]))
open Go Go.Proofs
abbrev Jn : List PV := [.fn (.func 225) [] [], .fn (.func 226) [] [], .fn (.func 227) [] [], .fn (.func 228) [] [], .fn (.func 229) [] [], .fn (.func 230) [] [], .fn (.func 231) [] [], .fn (.func 232) [] []]
theorem Zbm : Pure Tryz.prog 181 [] (.agg Jn) := by
 refine zy Tryz.func181 Tryz.ntmps181 Tryz.results181 fun S nx hd => ?_
 repeat apply za
 refine zb ?_
 intro v0
 repeat apply za
 refine zb ?_
 exact zh (zk hd (by simp; rfl) rfl)
def tlen (d : zg) (t : Nat) : Nat := (d.getD t []).length
def jG (d : zg) (m : Mv) : Bool := decide (m.k ≤ 3 ∧ m.a < d.length ∧ m.b < d.length) && xz m (tlen d m.a) (tlen d m.b)
def zU (d : zg) (m : Mv) : Rw5 × Rw5 := jl m (tlen d m.a) (tlen d m.b)
def vC (d : zg) (m : Mv) : Rw5 × Rw5 × Bool := if jG d m = true then ((zU d m).1, (zU d m).2, true) else (jk, jk, false)
theorem X4 (d : zg) (m : Mv) (hdn : d.length ≤ 1048576) (hdt : ∀ t ∈ d, t.length ≤ 1048576) (hk : m.k ≤ 3) (ha : m.a < d.length) (hb : m.b < d.length) (hi : m.i ≤ 1048576) (hj : m.j ≤ 1048576) : Pure Tryz.prog 146 [.agg [L d], .agg (wA m)]
  (.tup [.agg (z6 (vC d m).1), .agg (z6 (vC d m).2.1), B (vC d m).2.2]) := by
 obtain ⟨ta, xa, a1, -, -, a0⟩ := zI rfl d m.a ha
 obtain ⟨tb, xb, b1, -, -, b0⟩ := zI rfl d m.b hb
 have ha1 : 1 ≤ d.length - m.a := by omega
 have hb1 : 1 ≤ d.length - m.b := by omega
 have la : tlen d m.a = ta.length := by unfold tlen; rw [List.getD_eq_getElem?_getD, a1]; rfl
 have lb : tlen d m.b = tb.length := by unfold tlen; rw [List.getD_eq_getElem?_getD, b1]; rfl
 have hbl := hdt tb (List.mem_of_getElem? b1)
 have hmay : jG d m = xz m ta.length tb.length := by unfold jG; rw [la, lb, decide_eq_true ⟨hk, ha, hb⟩]; rfl
 have hcut : zU d m = jl m ta.length tb.length := by unfold zU; rw [la, lb]
 unfold vC
 rw [hmay, hcut]
 clear hmay hcut la lb
 have call : ∀ f g : Nat, m.k = m.k → True := fun _ _ _ => trivial
 clear call
 have g1 : ¬ (m.k : Int) < 0 := by omega
 have g2 : ¬ (3 : Int) < m.k := by omega
 have g3 : ¬ (m.a : Int) < 0 := by omega
 have g4 : ¬ d.length ≤ m.a := by omega
 have g5 : ¬ (m.b : Int) < 0 := by omega
 have g6 : ¬ d.length ≤ m.b := by omega
 refine zy Tryz.func146 Tryz.ntmps146 Tryz.results146 fun S nx hd => ?_
 repeat apply za
 refine zb ?_
 intro v0 v1 v2 v3
 repeat apply za
 refine zb ?_
 repeat apply za
 refine ze [(3, 18), (8, 23), (13, 28), (19, 34), (24, 39)] (yg g1 g2 g3 g4 g5 g6) ?_
 refine zp rfl ?_
 refine zi ?_
 repeat apply za
 refine zD (some [nx, nx + 1]) (Row.pures [0, 1, 2, 3, 4, 5, 6, 7, 8, 9, 10, 11, 12, 13, 14, 15, 16, 17] (.alt 18 (.alt 19 (.done) .stop) .stop)) mixed (yg a0 b0 ha hb ha1 hb1) ?_
 intro v4
 obtain ⟨mf, cf, hmf, hcf, hidx⟩ : ∃ mf cf : Nat, Pure Tryz.prog mf [.agg (wX m ta.length tb.length)] (B (xz m ta.length tb.length)) ∧ Pure Tryz.prog cf [.agg (wX m ta.length tb.length)] (.tup [.agg (z6 (jl m ta.length tb.length).1), .agg (z6 (jl m ta.length tb.length).2)]) ∧
   ∃ k : Nat, (k : Int) = m.k ∧ k < 4 ∧ (Jn.drop (k * 2)).take 2 = [.fn (.func mf) [] [], .fn (.func cf) [] []] := by
  have h4 : m.k = 0 ∨ m.k = 1 ∨ m.k = 2 ∨ m.k = 3 := by omega
  rcases h4 with h | h | h | h
  ·exact ⟨_, _, ZhO m _ _ h, ZhS m _ _ h hi hj, 0, by omega, by omega, rfl⟩
  ·exact ⟨_, _, ZhP m _ _ h hbl, ZhU m _ _ h hi hj, 1, by omega, by omega, rfl⟩
  ·exact ⟨_, _, ZhQ m _ _ h, ZhV m _ _ h hi hj, 2, by omega, by omega, rfl⟩
  ·exact ⟨_, _, ZhR m _ _ (by omega), ZhT m _ _ (by omega), 3, by omega, by omega, rfl⟩
 obtain ⟨k, hkk, hk4, hkt⟩ := hidx
 obtain rfl : k = m.k := by omega
 have hk4' : (m.k : Int) < 4 := by omega
 have hk5 : 2 ≤ 8 - m.k * 2 := by omega
 generalize hmz : xz m ta.length tb.length = mz at *
 generalize hcz : jl m ta.length tb.length = cz at *
 obtain ⟨r1, r2⟩ := cz
 generalize hkl : Jn = kl at hkt
 have hkinds := Zbm
 rw [hkl] at hkinds
 have hkll : kl.length = 8 := by rw [← hkl]; rfl
 clear hkl
 repeat apply za
 refine zD (some [nx + 1]) (Row.pures [0, 1, 2, 3] (.alt 4 (.alt 5 (.done) .stop) .stop)) mixed (qv hkt hk4 hk4' hkll hk5) ?_
 refine zN (hkinds) (qv hkt hk4 hk4' hkll hk5) ?_
 intro v5
 repeat apply za
 refine zb ?_
 refine zB hmf ?_
 cases mz with
 | false =>
  refine zo rfl ?_
  repeat apply za
  refine zb ?_
  exact zh (zk hd (by simp; rfl) (by simp [zn, jk, z7]))
 | true =>
  refine zp rfl ?_
  refine zi ?_
  repeat apply za
  refine zb ?_
  refine zB hcf ?_
  intro v6 v7
  repeat apply za
  refine zD (some [nx + 6, nx + 7]) (Row.pures [0, 1] (.alt 2 (.alt 3 (Row.pures [4] .done) .stop) .stop)) mixed trivial ?_
  exact zh (zk hd (by simp; rfl) (by simp [zn]))
open Go Go.Proofs
theorem Zbn (l : List Stop) (k : Nat) (s : Stop) (h : k < l.length) : zX (l.flatMap Enc.enc) (k * 2) [I s.c, I s.q] = (l.set k s).flatMap Enc.enc := by
 unfold zX
 rw [List.set_eq_take_append_cons_drop, if_pos h, List.flatMap_append, List.flatMap_cons, ← Za Enc.enc 2 (fun _ => rfl) l k, ← ZK Enc.enc 2 (fun _ => rfl) l (k + 1)]
 simp [show k * 2 + 2 = (k + 1) * 2 by omega]
def qq (l : List Stop) (k : Nat) : List Stop := (List.range l.length).map fun q => if q < k ∨ l.length - 1 - q < k then l.getD (l.length - 1 - q) default else l.getD q default
theorem x7 (l : List Stop) (k : Nat) : (qq l k).length = l.length := by simp [qq]
theorem Z7 {l : List Stop} {k q : Nat} (hq : q < l.length) : (qq l k)[q]? = some (if q < k ∨ l.length - 1 - q < k then l.getD (l.length - 1 - q) default else l.getD q default) := by
 unfold qq; rw [List.getElem?_map, List.getElem?_range hq]; rfl
theorem ZhW (l : List Stop) : qq l 0 = l := by
 apply List.ext_getElem?
 intro q
 by_cases h : q < l.length
 ·rw [Z7 h, if_neg (by omega), List.getD_eq_getElem?_getD, List.getElem?_eq_getElem h]; rfl
 ·rw [List.getElem?_eq_none (by rw [x7]; omega), List.getElem?_eq_none (by omega)]
theorem ZhX {l : List Stop} {k : Nat} (hk : l.length - 1 ≤ k + k) : qq l k = l.reverse := by
 apply List.ext_getElem?
 intro q
 by_cases h : q < l.length
 ·rw [Z7 h, List.getElem?_reverse h]
  by_cases h1 : q < k ∨ l.length - 1 - q < k
  ·rw [if_pos h1, List.getD_eq_getElem?_getD, List.getElem?_eq_getElem (by omega)]; rfl
  ·rw [if_neg h1, List.getD_eq_getElem?_getD]
   have : q = l.length - 1 - q := by omega
   rw [← this, List.getElem?_eq_getElem h]; rfl
 ·rw [List.getElem?_eq_none (by rw [x7]; omega), List.getElem?_eq_none (by simp; omega)]
theorem ZhY {l : List Stop} {k : Nat} (h : k < l.length - 1 - k) {a b : Stop} (ha : (qq l k)[k]? = some a) (hb : (qq l k)[l.length - 1 - k]? = some b) : ((qq l k).set k b).set (l.length - 1 - k) a = qq l (k + 1) := by
 rw [Z7 (by omega), if_neg (by omega)] at ha
 rw [Z7 (by omega), if_neg (by omega)] at hb
 cases ha; cases hb
 apply List.ext_getElem?
 intro q
 by_cases hq : q < l.length
 ·rw [Z7 hq, List.getElem?_set, List.getElem?_set]
  by_cases e1 : l.length - 1 - k = q
  ·rw [if_pos e1, if_pos (by rw [List.length_set, x7]; omega), if_pos (by omega)]
   congr 2; omega
  ·rw [if_neg e1]
   by_cases e2 : k = q
   ·subst e2
    rw [if_pos rfl, if_pos (by rw [x7]; exact hq), if_pos (by omega)]
   ·rw [if_neg e2, Z7 hq]
    by_cases h1 : q < k ∨ l.length - 1 - q < k
    ·rw [if_pos h1, if_pos (by omega)]
    ·rw [if_neg h1, if_neg (by omega)]
 ·rw [List.getElem?_eq_none (by rw [List.length_set, List.length_set, x7]; omega), List.getElem?_eq_none (by rw [x7]; omega)]
theorem Jo (S : Store) (i : Nat) (a b : Ob) : (S.set i a).set i b = S.set i b := by
 funext o
 by_cases h : o = i
 ·subst h; rw [Store.set_same, Store.set_same]
 ·rw [Store.set_other _ _ _ _ h, Store.set_other _ _ _ _ h, Store.set_other _ _ _ _ h]
theorem ZhZ {S : Store} {id ver : Nat} (pre l : List Stop) (hn : (pre ++ l).length ≤ 1048576) (hid : S id = .cells ver 35 ((pre ++ l).flatMap Enc.enc)) :
  Spec Tryz.prog 185 [.sl id ver 2 (pre.length * 2) l.length] S (fun _ S' => S' = S.set id (.cells ver 35 ((pre ++ l.reverse).flatMap Enc.enc))) := by
 refine yH Tryz.func185 Tryz.ntmps185 Tryz.results185 fun nx hd => ?_
 have hlt : id < nx := yk hd hid (by simp)
 simp only [List.length_append] at hn
 have w0 : IntKind.i64.wrap ((l.length : Int) - 1) = (l.length : Int) - 1 := wr _ (by omega) (by omega)
 repeat apply za
 refine ze [] w0 ?_
 refine zj (qP (σ := Nat) (fun k => k ≤ l.length) (fun k => [(0, .sl id ver 2 (pre.length * 2) l.length), (2, I k), (3, I ((l.length : Int) - 1 - k))]) (fun k => S.set id (.cells ver 35 ((pre ++ qq l k).flatMap Enc.enc))) (fun _ => []) (fun k => l.length - k) (zS 0 [] (by simp) (by simp) (by rw [ZhW]; exact ZX S id _ hid) (by simp)) ?_)
 rintro k hk
 show PW _ _ _ _ _ _ _ (ext (S.set id (.cells ver 35 ((pre ++ qq l k).flatMap Enc.enc))) nx [])
 obtain ⟨T, hT⟩ : ∃ T, T = S.set id (.cells ver 35 ((pre ++ qq l k).flatMap Enc.enc)) := ⟨_, rfl⟩
 rw [← hT]
 repeat apply za
 refine zb ?_
 refine zt rfl (fun hc => ?_) (fun hc => ?_)
 ·simp at hc
  have h1 : k < l.length - 1 - k := by omega
  have x1 := x7 l k
  obtain ⟨a, ta, a1, -, -, -, a0⟩ := el 2 rfl (pre ++ qq l k) (pre.length + k) (by simp [x7]; omega)
  obtain ⟨b, tb, b1, -, -, -, b0⟩ := el 2 rfl (pre ++ qq l k) (pre.length + (l.length - 1 - k)) (by simp [x7]; omega)
  have hst := ZhY h1 (a := a) (b := b) (by rw [← a1, List.getElem?_append_right (by omega), Nat.add_sub_cancel_left]) (by rw [← b1, List.getElem?_append_right (by omega), Nat.add_sub_cancel_left])
  have sp1 := Zbn (pre ++ qq l k) (pre.length + k) b (by simp [x7]; omega)
  have sp2 := Zbn ((pre ++ qq l k).set (pre.length + k) b) (pre.length + (l.length - 1 - k)) a (by simp [x7]; omega)
  have hs2 : ((pre ++ qq l k).set (pre.length + k) b).set (pre.length + (l.length - 1 - k)) a = pre ++ qq l (k + 1) := by
   rw [List.set_append_right _ _ (by omega), List.set_append_right _ _ (by omega), Nat.add_sub_cancel_left, Nat.add_sub_cancel_left, hst]
  rw [hs2] at sp2
  have hjj : (l.length : Int) - 1 - k = ((l.length - 1 - k : Nat) : Int) := by omega
  generalize l.length - 1 - k = j at *
  generalize hw0 : ((pre ++ qq l k).flatMap Enc.enc : List PV) = c0 at *
  generalize hw1 : (((pre ++ qq l k).set (pre.length + k) b).flatMap Enc.enc : List PV) = c1 at *
  have l0 : c0.length = (pre.length + l.length) * 2 := by rw [← hw0, uz]; simp [x7]
  have l1 : c1.length = (pre.length + l.length) * 2 := by rw [← hw1, uz]; simp [x7]
  have hTid : T id = .cells ver 35 c0 := by rw [hT]; exact Store.set_same _ _ _
  have xid := fun obs => zE (S := T) (obs := obs) hlt
  have xid1 := fun obs => zE (S := T.set id (.cells ver 35 c1)) (obs := obs) hlt
  have hs1 : (T.set id (.cells ver 35 c1)) id = .cells ver 35 c1 := Store.set_same _ _ _
  have hq1 : k + 1 ≤ l.length := by omega
  have q1 : pre.length * 2 + k * 2 = (pre.length + k) * 2 := by omega
  have q2 : pre.length * 2 + j * 2 = (pre.length + j) * 2 := by omega
  have q3 : j < l.length := by omega
  have q4 : k < l.length := by omega
  have q5 : ¬ nx ≤ id := by omega
  refine zi (za (zj ?_))
  rw [hjj]
  refine zD (some []) (Row.pures [0, 1, 2, 3, 4, 5, 6, 8, 9, 10] (.alt 7 (.alt 11 (Row.pures [12] (.alt 13 (Row.pures [14] (.alt 15 (.done) .stop)) .stop)) .stop) (.alt 11 (.alt 7 (Row.pures [12] (.alt 13 (Row.pures [14] (.alt 15 (.done) .stop)) .stop)) .stop) .stop))) mixed (yg xid hTid q1 q2 a0 (zm (yg b0 q3 q4 q5 l0 sp1) (ye hs1 xid1 sp2 l1))) ?_
  have wj : IntKind.i64.wrap ((j : Int) - 1) = (l.length : Int) - 1 - ((k + 1 : Nat) : Int) := by rw [wr _ (by omega) (by omega)]; omega
  have wk := zx k (by omega)
  have hfin : S.set id (.cells ver 35 ((pre ++ qq l (k + 1)).flatMap Enc.enc)) = (T.set id (.cells ver 35 c1)).set id (.cells ver 35 ((pre ++ qq l (k + 1)).flatMap Enc.enc)) := by rw [hT, Jo, Jo]
  have happ : ((pre ++ qq l (k + 1)).flatMap Enc.enc : List PV) = pre.flatMap Enc.enc ++ (qq l (k + 1)).flatMap Enc.enc := by rw [List.flatMap_append]
  rw [happ] at hfin
  refine ⟨?_, ?_⟩
  ·refine ⟨by omega, by omega, ?_⟩
   refine ze [] (zm wk wj) ?_
   exact zr (k + 1) [] hq1 (by omega) (by simp) (by rw [happ, hT]; simp only [Jo]) (by simp)
  ·refine ⟨by omega, by omega, ?_⟩
   refine ze [] (zm wk wj) ?_
   exact zr (k + 1) [] hq1 (by omega) (by simp) (by rw [happ, hT]; simp only [Jo]) (by simp)
 ·simp at hc
  refine zC ?_
  refine ⟨[], T, rfl, ?_, zW ?_⟩
  ·rw [hT, ZhX (by omega)]
  ·rw [hT]
   intro i hi
   rw [Store.set_other _ _ _ _ (by omega)]; exact hd i hi
open Go Go.Proofs
def yP (d : zg) (p : Pc) : List Stop := if p.f < p.o then (bif p.b then (((d.getD p.t []).drop p.f).take (p.o - p.f)).reverse else ((d.getD p.t []).drop p.f).take (p.o - p.f)) else []
def yn (d : zg) (r : Rw5) : List Stop := r.l.flatMap (yP d)
def Z8 (d : zg) (p : Pc) : Prop := p.f < p.o → p.t < d.length ∧ p.o ≤ tlen d p.t
def x8 (d : zg) (r : Rw5) : Prop := ∀ p ∈ r.l, Z8 d p
theorem Zh0 (d : zg) : x8 d jk := by
 intro p hp h
 simp [Rw5.l, jk] at hp
 subst hp
 exact absurd h (by decide)
theorem Jp (r : Rw5) {k : Nat} (h : k < 5) : ∃ p, r.l[k]? = some p ∧ ((z6 r).drop (k * 4)).take 4 = pcL p ∧ r.l.take (k + 1) = r.l.take k ++ [p] := by
 have h5 : k = 0 ∨ k = 1 ∨ k = 2 ∨ k = 3 ∨ k = 4 := by omega
 rcases h5 with rfl | rfl | rfl | rfl | rfl <;> exact ⟨_, rfl, rfl, rfl⟩
theorem Zbo {d : zg} {p : Pc} {m : Nat} (h : ∀ t ∈ d, t.length ≤ m) : (yP d p).length ≤ m := by
 have hg : (d.getD p.t []).length ≤ m := by
  rw [List.getD_eq_getElem?_getD]
  cases hq : d[p.t]? with
  | none => simp
  | some l => exact h l (List.mem_of_getElem? hq)
 unfold yP
 generalize d.getD p.t [] = l at *
 split
 ·cases p.b <;> simp <;> omega
 ·simp
theorem Zbp (d : zg) (r : Rw5) (hdn : d.length ≤ 1048576) (hdt : ∀ t ∈ d, t.length ≤ 1000) (hr : x8 d r) : Pure Tryz.prog 149 [.agg [L d], .agg (z6 r)] (L (yn d r)) := by
 have hat := fun k (h : k < 5) => Jp r h
 have hz : yn d r = (r.l.take 5).flatMap (yP d) := by unfold yn; rw [List.take_of_length_le (by simp [Rw5.l])]
 rw [hz]
 clear hz
 have hcl : (z6 r).length = 20 := rfl
 have hct : (z6 r).take 20 = z6 r := rfl
 have hpl := fun p => Zbo (d := d) (p := p) hdt
 have hgl : ∀ k, ((r.l.take k).flatMap (yP d)).length ≤ 1000 * k := by
  intro k
  induction k with
  | zero => simp
  | succ k ih =>
   by_cases hk : k < 5
   ·obtain ⟨p, -, -, e⟩ := hat k hk
    rw [e, List.flatMap_append, List.length_append]
    have := hpl p
    simp only [List.flatMap_cons, List.flatMap_nil, List.append_nil]; omega
   ·rw [List.take_of_length_le (by simp [Rw5.l]; omega)] at ih ⊢; omega
 have hrl : r.l.length = 5 := rfl
 generalize hrc : z6 r = rc at *
 refine zy Tryz.func149 Tryz.ntmps149 Tryz.results149 fun S nx hd => ?_
 repeat apply za
 refine zb ?_
 intro v0 v1
 repeat apply za
 refine zb ?_
 refine za (jB 5 35 2 rfl fun v2 => ?_)
 repeat apply za
 refine ze [] (zm hcl hct) ?_
 refine zj (zM (fun s' : Nat × Nat => s'.1 ≤ 5) (fun (k, v2) => [(2, .ptr nx v0 0), (3, .ptr (nx + 1) v1 0), (5, .sl (nx + 2) v2 2 0 ((r.l.take k).flatMap (yP d)).length), (9, .agg rc), (10, I k)]) (fun (k, v2) => [.cells v0 58 [L d], .cells v1 195 rc, .cells v2 35 (((r.l.take k).flatMap (yP d)).flatMap Enc.enc)]) (fun s' => 5 - s'.1) (0, v2) [] (by simp) (by simp) (by simp) ?_)
 rintro ⟨k, v2⟩ hk
 simp only at hk ⊢
 by_cases hk5 : k < 5
 ·obtain ⟨p, hp1, hp2, hp3⟩ := hat k hk5
  have hk5' : (k : Int) < 5 := by omega
  have hk6 : 4 ≤ 20 - k * 4 := by omega
  have hok := hr p (List.mem_of_getElem? hp1)
  have hol := hgl k
  have hnx : (r.l.take (k + 1)).flatMap (yP d) = (r.l.take k).flatMap (yP d) ++ yP d p := by rw [hp3, List.flatMap_append]; simp
  have hol2 := hpl p
  generalize (r.l.take k).flatMap (yP d) = out at *
  have wk := zx k (by omega)
  repeat apply za
  refine ze [] hk5' ?_
  repeat apply za
  refine zo rfl ?_
  refine zi (za (zj ?_))
  repeat apply za
  refine ze [] (qv hp2 hk5 hk5' hcl hk6) ?_
  intro v3
  by_cases hfo : p.f < p.o
  case neg =>
   have hpz : yP d p = [] := by unfold yP; rw [if_neg hfo]
   have hfo' : p.o ≤ p.f := by omega
   repeat apply za
   refine ze [] hfo' ?_
   refine zo (by simp [hfo']) ?_
   refine zC ?_
   refine zb ?_
   exact zr (k + 1, v2) [_] (by simp; omega) (by simp; omega) (by simp [wk, hnx, hpz]) rfl (by simp [hnx, hpz]; rfl)
  obtain ⟨ht, ho⟩ := hok hfo
  obtain ⟨t, tt, t1, -, -, t0⟩ := zI rfl d p.t ht
  have ht1 : 1 ≤ d.length - p.t := by omega
  have htg : d.getD p.t [] = t := by rw [List.getD_eq_getElem?_getD, t1]; rfl
  unfold tlen at ho
  rw [htg] at ho
  have hpz : yP d p = bif p.b then ((t.drop p.f).take (p.o - p.f)).reverse else (t.drop p.f).take (p.o - p.f) := by unfold yP; rw [if_pos hfo, htg]
  have hfo' : ¬ p.o ≤ p.f := by omega
  have hsl : ((t.flatMap Enc.enc : List PV).drop (p.f * 2)).take ((p.o - p.f) * 2) = ((t.drop p.f).take (p.o - p.f)).flatMap Enc.enc := by rw [ZK Enc.enc 2 (fun _ => rfl) t p.f, Za Enc.enc 2 (fun _ => rfl) (t.drop p.f) (p.o - p.f)]
  have hsl2 : ((t.drop p.f).take (p.o - p.f)).length = p.o - p.f := by simp; omega
  have hsl3 : (((t.drop p.f).take (p.o - p.f)).flatMap Enc.enc : List PV).length = (p.o - p.f) * 2 := by rw [uz, hsl2]
  generalize (t.drop p.f).take (p.o - p.f) = sg at *
  have hof : (out.flatMap Enc.enc : List PV).length = out.length * 2 := uz out
  have hot : (out.flatMap Enc.enc : List PV).take (out.length * 2) = out.flatMap Enc.enc := List.take_of_length_le (by omega)
  have q1 : p.f ≤ p.o := by omega
  have htl := hdt t (List.mem_of_getElem? t1)
  repeat apply za
  refine ze [] hfo' ?_
  refine zp (by simp [hfo']) ?_
  refine zi ?_
  repeat apply za
  refine zb ?_
  repeat apply za
  refine zD (some [nx, nx + 3]) (Row.pures [0, 1, 2, 3, 4, 5, 6, 7, 8, 9, 10, 11, 12] (.alt 13 (Row.pures [14] .done) .stop)) mixed (yg t0 ht ht1 hof hot (ye hsl hsl2 q1 ho)) ?_
  refine ⟨by omega, ?_⟩
  have hsgl : sg.length ≤ 1000 := by
   have h1 := hdt t (List.mem_of_getElem? t1)
   omega
  cases hpb : p.b with
  | false =>
   rw [hpb] at hpz
   simp only [cond_false] at hpz
   repeat apply za
   refine ze [] hpb ?_
   refine zp rfl ?_
   refine zi ?_
   refine zb ?_
   exact zr (k + 1, v2 + 1) [_] (by simp; omega) (by simp; omega) (by simp [wk, hnx, hpz, hsl2]) rfl (by simp [hnx, hpz]; rfl)
  | true =>
   rw [hpb] at hpz
   simp only [cond_true] at hpz
   have hrev := fun (S : Store) (id ver : Nat) h => ZhZ (S := S) (id := id) (ver := ver) out sg (by simp; omega) h
   rw [hsl2] at hrev
   repeat apply za
   refine ze [] hpb ?_
   refine zo rfl ?_
   refine zQ [] (by rfl) (by rfl) fun K Gc Gh hK hGc hGh X hX0 hX => ?_
   simp -implicitDefEqProofs [hX0, hX]
   try clear hX0 hX X
   refine hGc _ _ _ _ _ _ _ fun hsuf => ((hrev _ _ _ (by rw [yC, List.flatMap_append]; rfl)).mono ?_).v
   rintro _ _ rfl
   refine ⟨_, _, yN _ (by omega) (by simp), ?_⟩
   clear hGc hGh
   clear Gc Gh
   refine zP hsuf (D := []) (by rfl) fun Gc Gh hGc hGh X hX0 hX => ?_
   simp -implicitDefEqProofs [hX0, hX, (show nx + 2 - nx = 2 by omega)]
   clear hX0 hX X
   refine hK _ _ _ ?_
   clear hK hGc hGh
   clear K Gc Gh
   refine zb ?_
   exact zr (k + 1, v2 + 1) [_] (by simp; omega) (by simp; omega) (by simp [wk, hnx, hpz, hsl2]) rfl (by simp [hnx, hpz]; rfl)
 ·obtain rfl : k = 5 := by omega
  generalize (r.l.take 5).flatMap (yP d) = out at *
  repeat apply za
  refine zb ?_
  repeat apply za
  refine zp rfl ?_
  refine zC ?_
  refine yc 2 rfl ?_
  repeat apply za
  refine zb ?_
  exact zh (zk hd (by simp; rfl) (by simp [zn]))
open Go Hp
theorem Zbq {α : Type} {d : List α} (hn : d.Nodup) {i j : Nat} {t : α} (hi : d[i]? = some t) (hj : d[j]? = some t) : i = j := by
 obtain ⟨g1, g2⟩ := List.getElem?_eq_some_iff.1 hi
 obtain ⟨g3, g4⟩ := List.getElem?_eq_some_iff.1 hj
 have hp := List.pairwise_iff_getElem.1 hn
 rcases Nat.lt_trichotomy i j with h | h | h
 ·exact absurd (g2.trans g4.symm) (hp i j g1 g3 h)
 ·exact h
 ·exact absurd (g4.trans g2.symm) (hp j i g3 g1 h)
def qX (f : zv → Bool) : zg → Int
 | [] => -1
 | t :: d => if 0 ≤ qX f d then qX f d + 1 else if f t then 0 else -1
theorem Zbr (f : zv → Bool) : ∀ d : zg, (qX f d = -1 ∧ ∀ t ∈ d, f t = false) ∨ ∃ (k : Nat) (t : zv), d[k]? = some t ∧ f t = true ∧ qX f d = k
 | [] => .inl ⟨rfl, fun t h => by cases h⟩
 | u :: d => by
  unfold qX
  rcases Zbr f d with ⟨h1, h2⟩ | ⟨k, t, h1, h2, h3⟩
  ·rw [h1, if_neg (by omega)]
   cases hu : f u with
   | true => exact .inr ⟨0, u, rfl, hu, by simp⟩
   | false =>
    refine .inl ⟨by simp, fun t ht => ?_⟩
    rcases List.mem_cons.1 ht with rfl | ht
    ·exact hu
    ·exact h2 t ht
  ·rw [h3, if_pos (by omega)]
   exact .inr ⟨k + 1, t, by simpa using h1, h2, by simp⟩
def X5 (d : zg) (a b : Nat) (t : zv) (k : Nat) : zg := (List.range k).flatMap fun j => if j = a then [t] else if j = b then [] else [d.getD j []]
def uh (c : Int) (t : zv) : Bool := decide (uf t = some c)
def ui (c : Int) (t : zv) : Bool := decide (uC t = some c)
def uj (x : Inst) (d : zg) (p : Pr) : zg :=
 if qX (uh p.a) d < 0 ∨ qX (ui p.b) d < 0 ∨ qX (uh p.a) d = qX (ui p.b) d ∨ (p.s ≤ 0 ∧ (d.length : Int) ≤ x.veh) then d
 else if zF x (d.getD (qX (uh p.a) d).toNat [] ++ d.getD (qX (ui p.b) d).toNat []) = 0 then
  X5 d (qX (uh p.a) d).toNat (qX (ui p.b) d).toNat (d.getD (qX (uh p.a) d).toNat [] ++ d.getD (qX (ui p.b) d).toNat []) d.length
 else d
theorem X6 {α β γ : Type} {f : α → List γ} {g : β → List γ} : ∀ (A : List α) (B : List β), A.length = B.length → (∀ (j : Nat) a b, A[j]? = some a → B[j]? = some b → f a = g b) → A.flatMap f = B.flatMap g
 | [], [], _, _ => rfl
 | a :: A, b :: B, hl, h => by
  rw [List.flatMap_cons, List.flatMap_cons, h 0 a b rfl rfl, X6 A B (by simpa using hl) fun j a b ha hb => h (j + 1) a b (by simpa using ha) (by simpa using hb)]
 | [], _ :: _, hl, _ => by simp at hl
 | _ :: _, [], hl, _ => by simp at hl
theorem X7 {α : Type} (p : α → Bool) : ∀ l : List α, l.filter p = l.flatMap fun a => if p a then [a] else []
 | [] => rfl
 | a :: l => by
  rw [List.flatMap_cons, ← X7 p l, List.filter_cons]
  cases p a <;> simp
structure Apt (T : zg) : Prop where
 u : ∀ (i j : Nat) t s s', T[i]? = some t → s ∈ t → ∀ t', T[j]? = some t' → s' ∈ t' → s.c = s'.c → i = j
theorem JI.apt {ss : List Stop} {T : zg} {g : Int → Option Int} (h : JI ss T g) : Apt T := ⟨fun i j t s s' hi hs t' hj hs' e => by
 have e1 := h.g i t s hi hs
 have e2 := h.g j t' s' hj hs'
 rw [e, e2] at e1
 have := Option.some.inj e1
 omega⟩
abbrev ne (t : zv) : Bool := !t.isEmpty
theorem Y7 {t : zv} (h : ne t = true) : ∃ s, s ∈ t := by
 cases t with
 | nil => cases h
 | cons s t => exact ⟨s, by simp⟩
theorem Y8 {t : zv} {s : Stop} (h : s ∈ t) : ne t = true := by
 cases t with
 | nil => cases h
 | cons s t => rfl
def Z9 (ta tb u : zv) : zg := if u = ta then [ta ++ tb] else if u = tb then [] else [u]
theorem Zh1 {T : zg} (hA : Apt T) {i k : Nat} {ta tb : zv} (hi : T[i]? = some ta) (hk : T[k]? = some tb) (hik : i ≠ k) (ha : ne ta = true) (hb : ne tb = true) :
  ((T.set i (ta ++ tb)).set k []).filter ne = (T.filter ne).flatMap (Z9 ta tb) := by
 rw [X7 ne T, List.flatMap_assoc, X7]
 refine X6 _ _ (by simp) fun j u v hu hv => ?_
 obtain ⟨sa, hsa⟩ := Y7 ha
 obtain ⟨sb, hsb⟩ := Y7 hb
 have hjl := (List.getElem?_eq_some_iff.1 hv).1
 by_cases h1 : k = j
 ·subst h1
  rw [List.getElem?_set_self (by simpa using hjl)] at hu
  cases hu
  obtain rfl : tb = v := by rw [hk] at hv; exact Option.some.inj hv
  have hne : tb ≠ ta := by
   rintro rfl
   exact hik (hA.u i k tb sb sb hi hsb tb hk hsb rfl)
  rw [if_pos hb]
  simp [Z9, hne]
 ·rw [List.getElem?_set_ne h1] at hu
  by_cases h2 : i = j
  ·subst h2
   rw [List.getElem?_set_self hjl] at hu
   cases hu
   obtain rfl : ta = v := by rw [hi] at hv; exact Option.some.inj hv
   rw [if_pos ha, if_pos (Y8 (s := sa) (by simp [hsa]))]
   simp [Z9]
  ·rw [List.getElem?_set_ne h2] at hu
   obtain rfl : u = v := by rw [hv] at hu; exact (Option.some.inj hu).symm
   cases hn : ne u with
   | false => simp
   | true =>
    obtain ⟨su, hsu⟩ := Y7 hn
    have n1 : u ≠ ta := by rintro rfl; exact h2 (hA.u i j u su su hi hsu u hv hsu rfl)
    have n2 : u ≠ tb := by rintro rfl; exact h1 (hA.u k j u su su hk hsu u hv hsu rfl)
    simp [Z9, n1, n2]
theorem Zh2 {T : zg} (hA : Apt T) : (T.filter ne).Nodup := by
 rw [List.nodup_iff_pairwise_ne, List.pairwise_filter, List.pairwise_iff_getElem]
 intro i j hi hj hij h1 h2 e
 obtain ⟨s, hs⟩ := Y7 h1
 have := hA.u i j T[i] s s (List.getElem?_eq_getElem hi) hs T[j] (List.getElem?_eq_getElem hj) (e ▸ hs) rfl
 omega
theorem Zh3 {d : zg} (hn : d.Nodup) {a b : Nat} {ta tb : zv} (ha : d[a]? = some ta) (hb : d[b]? = some tb) : X5 d a b (ta ++ tb) d.length = d.flatMap (Z9 ta tb) := by
 unfold X5
 refine X6 _ _ (by simp) fun j n u hj hu => ?_
 rw [List.getElem?_range (List.getElem?_eq_some_iff.1 hu).1] at hj
 cases hj
 have same : ∀ {k : Nat} {t : zv}, d[k]? = some t → (j = k ↔ u = t) := by
  intro k t hk
  constructor
  ·rintro rfl; rw [hu] at hk; exact Option.some.inj hk
  ·rintro rfl; exact Zbq hn hu hk
 have e1 := same ha
 have e2 := same hb
 have hg : d.getD j [] = u := by rw [List.getD_eq_getElem?_getD, hu]; rfl
 unfold Z9
 by_cases h1 : j = a
 ·rw [if_pos h1, if_pos (e1.1 h1)]
 ·rw [if_neg h1, if_neg fun e => h1 (e1.2 e)]
  by_cases h2 : j = b
  ·rw [if_pos h2, if_pos (e2.1 h2)]
  ·rw [if_neg h2, if_neg fun e => h2 (e2.2 e), hg]
theorem Zbs {T : zg} (hA : Apt T) {i : Nat} {t : zv} {s : Stop} (hi : T[i]? = some t) (hs : s ∈ t) (f : zv → Bool) (hf : ∀ u, f u = true → ∃ s' ∈ u, s'.c = s.c) :
  (f t = false ∧ qX f (T.filter ne) = -1) ∨ (f t = true ∧ ∃ k : Nat, (T.filter ne)[k]? = some t ∧ qX f (T.filter ne) = k) := by
 have uniq : ∀ u ∈ T.filter ne, f u = true → u = t := by
  intro u hu hfu
  obtain ⟨s', hs', e⟩ := hf u hfu
  obtain ⟨j, hj⟩ := List.mem_iff_getElem?.1 (List.mem_filter.1 hu).1
  have := hA.u i j t s s' hi hs u hj hs' e.symm
  subst this
  rw [hi] at hj; exact (Option.some.inj hj).symm
 have ht : t ∈ T.filter ne := List.mem_filter.2 ⟨List.mem_of_getElem? hi, Y8 hs⟩
 rcases Zbr f (T.filter ne) with ⟨h1, h2⟩ | ⟨k, u, h1, h2, h3⟩
 ·exact .inl ⟨h2 t ht, h1⟩
 ·have := uniq u (List.mem_of_getElem? h1) h2
  subst this
  exact .inr ⟨h2, k, h1, h3⟩
theorem Zh4 {c : Int} {t : zv} (h : uh c t = true) : ∃ s ∈ t, s.c = c := by
 have h : uf t = some c := of_decide_eq_true h
 unfold uf at h
 obtain ⟨s, h1, h2⟩ := Option.map_eq_some_iff.1 h
 exact ⟨s, List.mem_of_getElem? h1, h2⟩
theorem Zh5 {c : Int} {t : zv} (h : ui c t = true) : ∃ s ∈ t, s.c = c := by
 have h : uC t = some c := of_decide_eq_true h
 unfold uC at h
 obtain ⟨s, h1, h2⟩ := Option.map_eq_some_iff.1 h
 exact ⟨s, List.mem_of_getElem? h1, h2⟩
theorem X8 (p : zv → Bool) : ∀ T : zg, ((T.filter p).length : Int) = (T.map fun t => if p t then (1 : Int) else 0).sum
 | [] => rfl
 | t :: T => by
  rw [List.filter_cons, List.map_cons, List.sum_cons, ← X8 p T]
  cases p t <;> simp <;> omega
theorem Zh6 {T : zg} {i k : Nat} {ta tb : zv} (hi : T[i]? = some ta) (hk : T[k]? = some tb) (hik : i ≠ k) (ha : ne ta = true) (hb : ne tb = true) :
  ((((T.set i (ta ++ tb)).set k []).filter ne).length : Int) = ((T.filter ne).length : Int) - 1 := by
 obtain ⟨sa, hsa⟩ := Y7 ha
 rw [X8, X8, Y5 _ _ k tb [] (by rw [List.getElem?_set_ne hik]; exact hk), Y5 _ _ i ta (ta ++ tb) hi]
 have hn : ne (ta ++ tb) = true := Y8 (s := sa) (by simp [hsa])
 simp only [ha, hb, hn, if_true]
 simp
theorem Zh7 {x : Inst} {ss : List Stop} {st : zg × Int} {g : Int → Option Int} (h : JI ss st.1 g) (hnum : st.2 = ((st.1.filter ne).length : Int)) {p : Pr} (hpa : p.a ∈ ss.map (·.c)) (hpb : p.b ∈ ss.map (·.c)) :
  uj x (st.1.filter ne) p = (qa x st p).1.filter ne ∧ (qa x st p).2 = (((qa x st p).1.filter ne).length : Int) ∧ ∃ g', JI ss (qa x st p).1 g' := by
 obtain ⟨i, a, sa, hia, hsa, hsac, hga, hpi⟩ := h.there hpa
 obtain ⟨k, b, sb, hkb, hsb, hsbc, hgb, hpk⟩ := h.there hpb
 have hgi : st.1.getD i [] = a := by rw [List.getD_eq_getElem?_getD, hia]; rfl
 have hgk : st.1.getD k [] = b := by rw [List.getD_eq_getElem?_getD, hkb]; rfl
 have hdef : qa x st p = bif yI x st.2 p i k a b then ((st.1.set i (a ++ b)).set k [], st.2 - 1) else st := by
  unfold qa Z2
  simp only [hpi, hpk, hgi, hgk]
 have hA := h.apt
 have hna := Y8 hsa
 have hnb := Y8 hsb
 have hnd := Zh2 hA
 rw [hdef]
 have stay : yI x st.2 p i k a b = false → uj x (st.1.filter ne) p = st.1.filter ne → uj x (st.1.filter ne) p = (bif yI x st.2 p i k a b then ((st.1.set i (a ++ b)).set k [], st.2 - 1) else st).1.filter ne ∧ (bif yI x st.2 p i k a b then ((st.1.set i (a ++ b)).set k [], st.2 - 1) else st).2 = (((bif yI x st.2 p i k a b then ((st.1.set i (a ++ b)).set k [], st.2 - 1) else st).1.filter ne).length : Int) ∧ ∃ g', JI ss (bif yI x st.2 p i k a b then ((st.1.set i (a ++ b)).set k [], st.2 - 1) else st).1 g' := by
  intro e1 e2
  rw [e1]
  exact ⟨e2, hnum, g, h⟩
 rcases Zbs hA hia hsa (uh p.a) (fun u hu => by rw [hsac]; exact Zh4 hu) with ⟨fa, la⟩ | ⟨fa, ka, ha1, la⟩
 ·have e1 : uf a ≠ some p.a := of_decide_eq_false fa
  refine stay (by simp [yI, e1]) ?_
  unfold uj; rw [if_pos (.inl (by omega))]
 rcases Zbs hA hkb hsb (ui p.b) (fun u hu => by rw [hsbc]; exact Zh5 hu) with ⟨fb, lb⟩ | ⟨fb, kb, hb1, lb⟩
 ·have e1 : uC b ≠ some p.b := of_decide_eq_false fb
  refine stay (by simp [yI, e1]) ?_
  unfold uj; rw [if_pos (.inr (.inl (by omega)))]
 have e1 : uf a = some p.a := of_decide_eq_true fa
 have e2 : uC b = some p.b := of_decide_eq_true fb
 have hab : ka = kb ↔ i = k := by
  constructor
  ·rintro rfl
   obtain rfl : a = b := by rw [ha1] at hb1; exact Option.some.inj hb1
   exact hA.u i k a sa sa hia hsa a hkb hsa rfl
  ·rintro rfl
   obtain rfl : a = b := by rw [hia] at hkb; exact Option.some.inj hkb
   exact Zbq hnd ha1 hb1
 have ga : (st.1.filter ne).getD (ka : Int).toNat [] = a := by rw [Int.toNat_natCast, List.getD_eq_getElem?_getD, ha1]; rfl
 have gb : (st.1.filter ne).getD (kb : Int).toNat [] = b := by rw [Int.toNat_natCast, List.getD_eq_getElem?_getD, hb1]; rfl
 by_cases hik : i = k
 ·refine stay (by simp [yI, hik]) ?_
  unfold uj; rw [if_pos (.inr (.inr (.inl (by rw [la, lb, hab.2 hik]))))]
 by_cases hfew : p.s ≤ 0 ∧ st.2 ≤ x.veh
 ·refine stay (by simp [yI, hfew.1, hfew.2]) ?_
  unfold uj; rw [if_pos (.inr (.inr (.inr ⟨hfew.1, by omega⟩)))]
 have hcond : ¬ (qX (uh p.a) (st.1.filter ne) < 0 ∨ qX (ui p.b) (st.1.filter ne) < 0 ∨ qX (uh p.a) (st.1.filter ne) = qX (ui p.b) (st.1.filter ne) ∨ (p.s ≤ 0 ∧ ((st.1.filter ne).length : Int) ≤ x.veh)) := by
  rw [la, lb]
  rintro (q | q | q | q)
  ·omega
  ·omega
  ·exact hik (hab.1 (by omega))
  ·exact hfew ⟨q.1, by omega⟩
 by_cases hmay : zF x (a ++ b) = 0
 ·have hc : yI x st.2 p i k a b = true := by
   unfold yI
   simp only [hik, e1, e2, hmay, Bool.and_eq_true, decide_eq_true_eq, ne_eq, not_false_eq_true, Bool.not_eq_true', Bool.and_eq_false_iff, decide_eq_false_iff_not, and_true, true_and]
   by_cases q : p.s ≤ 0
   ·exact .inr fun e => hfew ⟨q, e⟩
   ·exact .inl q
  rw [hc]
  simp only [cond_true]
  refine ⟨?_, ?_, _, h.join hia hkb hik⟩
  ·unfold uj
   rw [if_neg hcond, la, lb, ga, gb, if_pos hmay, Zh1 hA hia hkb hik hna hnb, ← Zh3 hnd ha1 hb1]
   rfl
  ·rw [Zh6 hia hkb hik hna hnb, hnum]
 ·refine stay (by simp [yI, hmay]) ?_
  unfold uj
  rw [if_neg hcond, la, lb, ga, gb, if_neg hmay]
theorem Zh8 (ss : List Stop) : (ss.map fun s => [s]).filter ne = yT ss := by
 unfold yT; rw [List.filter_eq_self]; intro t ht; obtain ⟨s, _, rfl⟩ := List.mem_map.1 ht; rfl
open Go Hp
theorem X9 (l : List Stop) : (yT l).length = l.length := by simp [yT]
theorem Zh9 {x : Inst} {ss : List Stop} {T : zg} {g : Int → Option Int} (h : JI ss T g) (hss : ss.length ≤ 1000) : (T.filter ne).length ≤ 1000 ∧ (T.filter ne).flatten.length ≤ 1000 ∧ ∀ t ∈ T.filter ne, t ≠ [] := by
 have hf : (T.filter ne).flatten = T.flatten := by
  induction T with
  | nil => rfl
  | cons t T ih =>
   clear h
   have key : ∀ T : zg, (T.filter ne).flatten = T.flatten := by
    intro T
    induction T with
    | nil => rfl
    | cons t T ih =>
     rw [List.filter_cons]
     cases t with
     | nil => simpa using ih
     | cons s t => simp [ih]
   exact key _
 have hne : ∀ t ∈ T.filter ne, t ≠ [] := fun t ht e => by
  have := (List.mem_filter.1 ht).2
  rw [e] at this; cases this
 have hl := h.perm.length_eq
 have h1 := Y1 (T.filter ne) hne
 rw [hf] at h1
 exact ⟨by omega, by rw [hf]; omega, hne⟩
open Go Go.Proofs Hp
structure SOk (x : Inst) (l : List Stop) : Prop where
 cust : x.cust.length ≤ 1048576
 arc : qU x
 veh : 0 ≤ x.veh
 len : l.length ≤ 1000
 sm : ∀ s ∈ l, small s.c
 nd : (l.map (·.c)).Nodup
def uk (x : Inst) (l : List Stop) : List zg := [j7 x l, yT l] ++ (bif (qi x l).2 then [(qi x l).1] else [])
def wY (x : Inst) (imp : zg → zg) (l : List Stop) : List zg := [yT l, imp (j7 x l), imp (yT l)] ++ (bif (qi x l).2 then [imp (qi x l).1] else [])
theorem Zbt {x : Inst} (hx : x.cust.length ≤ 1048576) : ∀ (n : Nat) (d : zg) (l : List Stop), l.length = n → RgOk x d l → RgOk x (xN x n d l).1 [] ∧ ((xN x n d l).2 = true → (xN x n d l).1.flatten.Perm (d.flatten ++ l))
 | 0, d, l, hl, h => by
  obtain rfl : l = [] := List.eq_nil_of_length_eq_zero hl
  exact ⟨h, fun _ => by simp [xN]⟩
 | n + 1, d, l, hl, h => by
  have hne : l ≠ [] := fun e => by rw [e] at hl; cases hl
  obtain ⟨k, hu, hk⟩ := Zbj (x := x) (d := d) hne
  have hg : l.getD k default = l[k] := by rw [List.getD_eq_getElem?_getD, List.getElem?_eq_getElem hk]; rfl
  unfold xN
  rw [hu, Int.toNat_natCast, hg]
  cases hi : (yi x d l[k]).2 with
  | false =>
   refine ⟨⟨h.ok, h.may, ?_⟩, fun e => by cases e⟩
   have := h.len
   simp only [cond_false, List.length_nil]; omega
  | true =>
   simp only [cond_true]
   obtain ⟨h1, h2⟩ := Zbt hx n (yi x d l[k]).1 (l.eraseIdx k) (by rw [List.length_eraseIdx_of_lt hk]; omega) (h.step hx hk hi)
   refine ⟨h1, fun e => (h2 e).trans ?_⟩
   have hp := Jj hi
   refine (hp.append_right _).trans ?_
   have he : (l[k] :: l.eraseIdx k).Perm l := by
    rw [List.eraseIdx_eq_take_drop_succ]
    have := List.perm_middle (a := l[k]) (l₁ := l.take k) (l₂ := l.drop (k + 1))
    refine this.symm.trans ?_
    rw [← List.drop_eq_getElem_cons hk, List.take_append_drop]
   rw [List.cons_append]
   refine List.perm_middle.symm.trans ?_
   exact he.append_left _
section
variable {x : Inst} {l : List Stop} (h : SOk x l)
include h
theorem SOk.apart : DayOk (yT l) ∧ (yT l).flatten = l ∧ (yT l).length ≤ 1000 := by
 have hf : (yT l).flatten = l := by
  unfold yT
  clear h
  induction l with
  | nil => rfl
  | cons s l ih => simpa using ih
 refine ⟨⟨?_, fun t ht => ?_, fun t ht a ha => ?_⟩, hf, ?_⟩
 ·rw [X9]; have := h.len; omega
 ·obtain ⟨s, _, rfl⟩ := List.mem_map.1 ht; simp
 ·obtain ⟨s, hs, rfl⟩ := List.mem_map.1 ht
  simp at ha; subst ha; exact h.sm _ hs
 ·rw [X9]; exact h.len
theorem SOk.join : DayOk (j7 x l) ∧ (j7 x l).flatten.Perm l ∧ (j7 x l).length ≤ 1000 ∧ ∀ t ∈ j7 x l, t ≠ [] := by
 obtain ⟨g, hg⟩ := JI.begin l [] [] _ JI.nil (by simpa using h.nd)
 have key : ∀ (ps : List Pr) (st : zg × Int), (∃ g, JI l st.1 g) → st.2 = ((st.1.filter ne).length : Int) → (∀ p ∈ ps, p.a ∈ l.map (·.c) ∧ p.b ∈ l.map (·.c)) → ∃ g, JI l (ps.foldl (qa x) st).1 g := by
  intro ps
  induction ps with
  | nil => intro st hg _ _; exact hg
  | cons p ps ih =>
   rintro st ⟨g, hg⟩ hn hp
   obtain ⟨h1, h2⟩ := hp p (by simp)
   obtain ⟨e1, e2, e3⟩ := Zh7 (x := x) hg hn h1 h2
   rw [List.foldl_cons]
   exact ih _ e3 e2 fun q hq => hp q (by simp [hq])
 obtain ⟨g', hg'⟩ := key (qe x (l.map (·.c))) (l.map fun s => [s], (l.length : Int)) ⟨g, by simpa using hg⟩ (by rw [Zh8]; simp [yT]) fun p hp => by
  have := YY.1 ((Zi x _).subset hp)
  exact ⟨this.1, this.2.1⟩
 have hjp : j7 x l = ((qe x (l.map (·.c))).foldl (qa x) (l.map fun s => [s], (l.length : Int))).1.filter ne := rfl
 obtain ⟨w1, w2, w3⟩ := Zh9 (x := x) hg' h.len
 have hfl : ∀ T : zg, (T.filter ne).flatten = T.flatten := by
  intro T
  induction T with
  | nil => rfl
  | cons t T ih =>
   rw [List.filter_cons]
   cases t with
   | nil => simpa using ih
   | cons s t => simp [ih]
 have hp : (j7 x l).flatten.Perm l := by rw [hjp, hfl]; exact hg'.perm
 rw [← hjp] at w1 w2 w3
 refine ⟨⟨by omega, fun t ht => ?_, fun t ht a ha => ?_⟩, hp, w1, w3⟩
 ·have := (wU ht).length_le; omega
 ·exact h.sm a (hp.subset ((wU ht).subset ha))
theorem SOk.regret : RgOk x (qi x l).1 [] ∧ ((qi x l).2 = true → (qi x l).1.flatten.Perm l) := by
 have := Zbt h.cust l.length [] l rfl (X3 h.veh h.len)
 simpa [qi] using this
end
def Zbu (x : Inst) (b : Int) (imp : zg → zg) (ds : List zg) : Prop := ∀ d ∈ ds, (∃ n, Pure Tryz.prog 62 [.agg (zA x), .agg [L d], I b] (.tup [.agg [L (imp d)], I n])) ∧ DayOk (imp d) ∧ (imp d).flatten.length ≤ 1048576
theorem Zia (x : Inst) (l : List Stop) (b : Int) (imp : zg → zg) (h : SOk x l) (hI : jh x l = 0 → Zbu x b imp (uk x l)) :
  Pure Tryz.prog 126 [.agg (zA x), L l, I b] (.tup [.agg [L (jE x (jh x l) (wY x imp l)).1], I (jE x (jh x l) (wY x imp l)).2]) := by
 have hF := ZeY x l h.cust (by have := h.len; omega)
 by_cases he : jh x l = 0
 case neg => exact ZaE x (L l) b _ _ (Zk l) h.cust hF (fun e => absurd e he) fun e => absurd e he
 have hI := hI he
 have hA := ZeX l (by have := h.len; omega)
 have hJ := ZgE x l h.arc h.cust h.len h.sm h.nd
 have hR := ZhM x l h.cust h.veh h.len
 obtain ⟨⟨n1, i1⟩, o1, f1⟩ := hI (j7 x l) (by simp [uk])
 obtain ⟨⟨n2, i2⟩, o2, f2⟩ := hI (yT l) (by simp [uk])
 obtain ⟨a1, a2, a3⟩ := h.apart
 have h3 : (qi x l).2 = true → (∃ n, Pure Tryz.prog 62 [.agg (zA x), .agg [L (qi x l).1], I b] (.tup [.agg [L (imp (qi x l).1)], I n])) ∧ DayOk (imp (qi x l).1) ∧ (imp (qi x l).1).flatten.length ≤ 1048576 := fun e => hI _ (by simp [uk, e])
 have hlen := h.len
 have hit := ZgJ (XK x (L l) b) [some (yT l), some (imp (j7 x l)), some (imp (yT l)), bif (qi x l).2 then some (imp (qi x l).1) else none] rfl (by simp) (by
  intro k f hf
  match k with
  | 0 => cases hf; exact ⟨_, _, L (yT l), rfl, ZgG (L l) (yT l) (Zk l) hA, fun d hd => by cases hd; rfl⟩
  | 1 => cases hf; exact ⟨_, _, L (imp (j7 x l)), rfl, ZgH x (L l) b _ _ _ (Zk l) hJ i1, fun d hd => by cases hd; rfl⟩
  | 2 => cases hf; exact ⟨_, _, L (imp (yT l)), rfl, ZgI x (L l) b _ _ _ (Zk l) hA i2, fun d hd => by cases hd; rfl⟩
  | 3 =>
   cases hf
   cases hall : (qi x l).2 with
   | true =>
    obtain ⟨⟨n3, i3⟩, -⟩ := h3 hall
    rw [hall] at hR
    exact ⟨_, _, L (imp (qi x l).1), rfl, ZaD x (L l) b _ _ true n3 (Zk l) hR (fun _ => i3), fun d hd => by cases hd; rfl⟩
   | false =>
    rw [hall] at hR
    exact ⟨_, _, yD, rfl, ZaD x (L l) b _ [] false 0 (Zk l) hR (fun e => by cases e), fun d hd => by cases hd⟩
  | k + 4 => cases hf)
 have hds : ([some (yT l), some (imp (j7 x l)), some (imp (yT l)), bif (qi x l).2 then some (imp (qi x l).1) else none] : List (Option zg)).filterMap id = wY x imp l := by
  unfold wY
  cases (qi x l).2 <;> rfl
 rw [hds] at hit
 refine ZaE x (L l) b (jh x l) (wY x imp l) (Zk l) h.cust hF (fun _ => hit) fun _ d hd => ?_
 unfold wY at hd
 simp only [List.cons_append, List.nil_append, List.mem_cons] at hd
 rcases hd with rfl | rfl | rfl | hd
 ·exact ⟨a1, by rw [a2]; omega⟩
 ·exact ⟨o1, f1⟩
 ·exact ⟨o2, f2⟩
 ·cases hall : (qi x l).2 with
  | true =>
   rw [hall] at hd
   simp at hd; subst hd
   exact (h3 hall).2
  | false => rw [hall] at hd; simp at hd
open Go Go.Proofs Hp
theorem Zib {P : Program} {r : Rd} {n : Nat} {F : Nat → PV} {S : Store} {o : Oper} {t e : TypeId} {len : Nat} {parts : Array (Nat × Operand)} {cs : List PV} {K : PV → Store → Prop} (ho : o.op = .buildSlice t len parts) (ht : P.underlying t = some (.slice e)) (h0 : P.cellsOf e ≠ 0) (hlen : len ≤ 1048576)
  (hl : vU P e len (parts.toList.map fun x => (x.1, ev F x.2)) = some cs)
  (hK : ∀ C : Ctx, S C.next = .dead → ∃ id v, Fresh C S id v ∧ K (.sl id v (P.cellsOf e) 0 len) (S.set id (.cells v e cs))) : PO P r n o F S K := by
 intro G hG C w a N st next Q' hnext
 have hmap : parts.toList.map (fun x => (x.1, ev G x.2)) = parts.toList.map (fun x => (x.1, ev F x.2)) := List.map_congr_left fun x hx => by
  rw [hG x.2 (by simp only [ho, Op.operands, List.mem_toArray, List.mem_map]; first | exact ⟨x, hx, rfl⟩ | (simp; exact ⟨x.1, by simpa using hx⟩))]
 rw [← hmap] at hl
 obtain ⟨vs, hrun, hr, hsz⟩ := Vb (w := w) ht (ev G) a.eval st.ev hl
 obtain ⟨id, ver, hfr, hK⟩ := hK C st.sim.free
 obtain ⟨k1, k2⟩ := st.sim.object' hfr e vs cs (Nat.le_of_eq hr.1) (fun i v _ hv => hr.2.1 i v hv) hr.2.2
 refine y0 (x := .value (.slice (some ⟨w.heap.size, 0, none⟩) len len)) (w' := w.alloc (.cells vs e)) (by intro c hc; rw [ho] at hc; cases hc) ?_
  (hnext _ _ _ _ _ hK (YC C S w _ _ _ _ _ _ _ _ rfl (Nat.le_refl _) (by unfold qN; omega) (by unfold maxLen; omega) hsz.symm) k1 k2)
 unfold execOp
 simp only [ho]
 have e1 : (parts.map fun x => (x.1, a.eval x.2)) = (parts.toList.map fun x => (x.1, a.eval x.2)).toArray := by
  apply Array.toList_inj.1; simp
 simp only [e1, hrun, Sem.run_bind, Sem.run_pure, Result.andThen_ok]
theorem Zic {P : Program} {r : Rd} {n nx : Nat} {F : Nat → PV} {S : Store} {obs : List Ob} {o : Oper} {t e : TypeId} {len : Nat} {parts : Array (Nat × Operand)} {cs : List PV} {K : PV → Store → Prop} (ho : o.op = .buildSlice t len parts) (ht : P.underlying t = some (.slice e)) (h0 : P.cellsOf e ≠ 0) (hlen : len ≤ 1048576)
  (hl : vU P e len (parts.toList.map fun x => (x.1, ev F x.2)) = some cs) (hK : ∀ v, K (.sl (nx + obs.length) v (P.cellsOf e) 0 len) (ext S nx (obs ++ [.cells v e cs]))) : PO P r n o F (ext S nx obs) K :=
 Zib ho ht h0 hlen hl (vi (X := fun id v => K (.sl id v (P.cellsOf e) 0 len) ((ext S nx obs).set id (.cells v e cs))) _ vn fun v => by rw [qO]; exact hK v)
open Go Go.Proofs
theorem Zid {P : Program} {r : Rd} {n nx N : Nat} {Q : Exit → (Nat → PV) → Store → Prop} {F : Nat → PV} {S : Store} {obs : List Ob} {A : Prop} {R : Nat → KT → CT → HT → Prop} {id : Nat} {ops : Array Oper} {o : Oper} {os : List Oper} {t e : TypeId} {len : Nat} {parts : Array (Nat × Operand)}
  (D : List (Nat × Nat)) (cs : List PV) (ht : P.underlying t = some (.slice e)) (a : A) (h : ∀ v, R v (fun F' S' obs' => Q .normal F' (ext S' nx obs')) (CQ P r n nx ops fun F' S' obs' => Q .normal F' (ext S' nx obs')) (HQ P r n nx ops fun F' S' obs' => Q .normal F' (ext S' nx obs')))
  (hops : ops.toList = o :: os := by rfl) (hg : o.guard = none := by rfl) (ho : o.op = .buildSlice t len parts := by rfl) (h0 : P.cellsOf e ≠ 0 := by simp) (hlen : len ≤ 1048576 := by decide)
  (hl : vU P e len (parts.toList.map fun x => (x.1, ev F x.2)) = some cs := by simp [vU, vT]) (hN : jY N ops = true := by rfl) (hD : wO ops D = true := by rfl)
  (hR : A → ∀ v, XQ P nx D os (zK F o.dst (.sl (nx + obs.length) v (P.cellsOf e) 0 len)) S (obs ++ [.cells v e cs]) (R v) := by intro a v K Gc Gh X hX0 hX h; simp -implicitDefEqProofs [hX0, hX, a]; exact h) : PW P r n N (.region id ops false) Q F (ext S nx obs) := by
 refine Xg hN ?_
 rw [hops]
 unfold XS
 have : gd ops F o = some true := by unfold gd; rw [hg]
 rw [this]
 exact Zic ho ht h0 hlen hl fun v => ⟨_, _, rfl, YN (by rw [hops]; exact List.suffix_cons _ _) hD (hR a v) (h v)⟩
def z8 (x : Inst) (t : zv) : Nat → Int
 | 0 => 0
 | i + 1 => z8 x t i + arc x ((t.getD i default).c + 1) ((t.getD (i + 1) default).c + 1)
def yb (x : Inst) (t : zv) : Nat → Int
 | 0 => 0
 | i + 1 => yb x t i + arc x ((t.getD (i + 1) default).c + 1) ((t.getD i default).c + 1)
theorem Ya {x : Inst} (h : qU x) (t : zv) : ∀ i : Nat, 0 ≤ z8 x t i ∧ z8 x t i ≤ 2147483648 * (i : Int)
 | 0 => by simp [z8]
 | i + 1 => by
  have h1 := Ya h t i
  have h2 := h ((t.getD i default).c + 1) ((t.getD (i + 1) default).c + 1)
  unfold z8; omega
theorem Yb {x : Inst} (h : qU x) (t : zv) : ∀ i : Nat, 0 ≤ yb x t i ∧ yb x t i ≤ 2147483648 * (i : Int)
 | 0 => by simp [yb]
 | i + 1 => by
  have h1 := Yb h t i
  have h2 := h ((t.getD (i + 1) default).c + 1) ((t.getD i default).c + 1)
  unfold yb; omega
structure Sm where
 f : List Int
 b : List Int
 l : List Int
 n : Int
instance : Enc Sm := ⟨fun s => [L s.f, L s.b, L s.l, I s.n], 4, fun _ => rfl, fun _ => rfl⟩
@[simp] theorem Zoe (s : Sm) : Enc.enc s = [L s.f, L s.b, L s.l, I s.n] := rfl
@[simp high] theorem Zbv (l : List Sm) : (l.flatMap Enc.enc).length = l.length * 4 := jf l
@[simp high] theorem Zof (l : List Sm) : (l.flatMap Enc.enc).take (l.length * 4) = l.flatMap Enc.enc := uc l
def qY (x : Inst) (t : zv) : Sm := ⟨(List.range t.length).map (z8 x t), (List.range t.length).map (yb x t), (List.range (t.length + 1)).map fun i => zG (t.take i), zV x (t.map (·.c))⟩
abbrev x9 (x : Inst) (d : zg) : List PV := [I x.days, I x.veh, I x.cap, I x.len, L x.cust, L x.dist, L d, L (d.map (qY x))]
structure MvDay (d : zg) : Prop where
 n : d.length ≤ 1000
 t : ∀ t ∈ d, t.length ≤ 1000
 s : ∀ t ∈ d, ∀ s ∈ t, small s.c ∧ 0 ≤ s.q ∧ s.q ≤ 2147483648
theorem Zie {t : zv} {i : Nat} {s : Stop} (h : t.take (i + 1) = t.take i ++ [s]) : zG (t.take (i + 1)) = zG (t.take i) + s.q := by rw [h, Q7]
theorem Wa {α : Type} (f : Nat → α) (k : Nat) : (List.range (k + 1)).map f = (List.range k).map f ++ [f k] := by rw [List.range_succ, List.map_append]; rfl
theorem Zif (id v : Nat) (cs : List PV) (l : List Sm) : (l.flatMap Enc.enc).map (yG id v cs) = (l.flatMap Enc.enc : List PV) := by
 induction l with
 | nil => rfl
 | cons s l ih => rw [List.flatMap_cons, List.map_append, ih]; rfl
theorem Zig (x : Inst) (d : zg) (hx : qU x) (hd' : MvDay d) : Pure Tryz.prog 144 [.agg (zA x), .agg [L d]] (.ip (x9 x d)) := by
 have hdn := hd'.n
 refine zy Tryz.func144 Tryz.ntmps144 Tryz.results144 fun S nx hd => ?_
 repeat apply za
 refine zb ?_
 intro v0 v1
 repeat apply za
 refine zb ?_
 intro v2
 refine je 2 7 241 4 rfl rfl fun v3 => ?_
 repeat apply za
 refine zb ?_
 refine zj (zM (fun s' : Nat × Nat => s'.1 ≤ d.length) (fun (k, v3) => [(2, .ptr nx v0 0), (5, .ptr (nx + 2) v2 0), (20, L d), (21, I d.length), (22, I k)]) (fun (k, v3) => [.cells v0 25 (zA x), .cells v1 58 [L d], .cells v2 239 [I x.days, I x.veh, I x.cap, I x.len, L x.cust, L x.dist, L d, .sl (nx + 3) v3 4 0 k], .cells v3 241 (((d.map (qY x)).take k).flatMap Enc.enc)]) (fun s' => d.length - s'.1) (0, v3) [] (by simp) (by simp) (by simp) ?_)
 rintro ⟨k, v3⟩ hk
 simp only at hk ⊢
 repeat apply za
 refine zb ?_
 repeat apply za
 refine zt rfl (fun hc => ?_) (fun hc => ?_)
 ·simp at hc
  obtain ⟨t, tl, a1, a2, a3, e0⟩ := zI rfl d k hc
  have hk1 : 1 ≤ d.length - k := by omega
  have htm := List.mem_of_getElem? a1
  have htl := hd'.t t htm
  have hts := hd'.s t htm
  have hlw := YR x t (by omega) (fun s hs => (hts s hs).1)
  have hwz := Y6 hx (t.map (·.c))
  rw [List.length_map] at hwz
  rw [show W (zV x (t.map (·.c))) = zV x (t.map (·.c)) from wr _ (by omega) (by omega)] at hlw
  refine zi (za (zj ?_))
  repeat apply za
  refine ze [] (zJ e0 hc hk1) ?_
  intro v4
  repeat apply za
  refine Zid [] [I 0] Tryz.underlying45 trivial ?_
  intro v5
  refine zB hlw ?_
  intro v6
  repeat apply za
  refine zb ?_
  refine je 6 0 3 1 rfl rfl fun v7 => ?_
  refine je 6 1 3 1 rfl rfl fun v8 => ?_
  repeat apply za
  refine zb ?_
  generalize hpc : (((d.map (qY x)).take k).flatMap Enc.enc : List PV) = pc at *
  generalize hwl : zV x (t.map (·.c)) = wl at *
  refine zj (zM (fun s' : Nat × Nat × Nat × Nat => s'.1 ≤ t.length) (fun (i, v5, v7, v8) => [(2, .ptr nx v0 0), (5, .ptr (nx + 2) v2 0), (7, .ptr (nx + 4) v4 0), (8, .ptr (nx + 6) v6 0), (9, I (z8 x t (i - 1))), (10, I (yb x t (i - 1))), (20, L d), (21, I d.length), (22, I k), (32, L t), (33, I t.length), (34, I i)])
   (fun (i, v5, v7, v8) => [.cells v0 25 (zA x), .cells v1 58 [L d], .cells v2 239 [I x.days, I x.veh, I x.cap, I x.len, L x.cust, L x.dist, L d, .sl (nx + 3) v3 4 0 k], .cells v3 241 pc, .cells v4 72 [L t], .cells v5 3 (((List.range (i + 1)).map fun i => zG (t.take i)).flatMap Enc.enc),
    .cells v6 241 [.sl (nx + 7) v7 1 0 i, .sl (nx + 8) v8 1 0 i, .sl (nx + 5) v5 1 0 (i + 1), I wl], .cells v7 3 (((List.range i).map (z8 x t)).flatMap Enc.enc), .cells v8 3 (((List.range i).map (yb x t)).flatMap Enc.enc)]) (fun s' => t.length - s'.1) (0, v5, v7, v8) [] (by simp) (by simp [z8, yb]) (by simp [zG]) ?_)
  rintro ⟨i, v5, v7, v8⟩ hi
  simp only at hi ⊢
  repeat apply za
  refine zb ?_
  repeat apply za
  refine zt rfl (fun hci => ?_) (fun hci => ?_)
  ·simp at hci
   obtain ⟨s, ts, s1, s2, s3, -, s0⟩ := el 2 rfl t i hci
   have hi2 : 2 ≤ t.length * 2 - i * 2 := by omega
   obtain ⟨hsm, hq0, hq1⟩ := hts s (List.mem_of_getElem? s1)
   have hgs : t.getD i default = s := by rw [List.getD_eq_getElem?_getD, s1]; rfl
   have wi := zx i (by omega)
   have f1 := Wa (z8 x t) i
   have f2 := Wa (yb x t) i
   have f3 := Wa (fun i => zG (t.take i)) (i + 1)
   have hlz := Zie s3
   have hlb := XO (t := t.take i) (fun a ha => (hts a (List.mem_of_mem_take ha)).2)
   have hlt : (t.take i).length ≤ 1000 := by rw [List.length_take]; omega
   have wl1 : IntKind.i64.wrap (zG (t.take i) + s.q) = zG (t.take (i + 1)) := by rw [hlz]; exact wr _ (by omega) (by omega)
   have g1 : (((List.range i).map (z8 x t)).flatMap Enc.enc : List PV).length = i := by rw [qQ]; simp
   have g2 : (((List.range i).map (yb x t)).flatMap Enc.enc : List PV).length = i := by rw [qQ]; simp
   have g3 : (((List.range (i + 1)).map fun i => zG (t.take i)).flatMap Enc.enc : List PV).length = i + 1 := by rw [qQ]; simp
   obtain ⟨lz, tlz, z1, -, -, z0⟩ := zI rfl ((List.range (i + 1)).map fun i => zG (t.take i)) i (by simp)
   have hlzz : lz = zG (t.take i) := by simpa using z1.symm
   have c1 : (((List.range (i + 1)).map (z8 x t)).flatMap Enc.enc : List PV) = ((List.range i).map (z8 x t)).flatMap Enc.enc ++ [I (z8 x t i)] := by rw [f1, List.flatMap_append]; rfl
   have c2 : (((List.range (i + 1)).map (yb x t)).flatMap Enc.enc : List PV) = ((List.range i).map (yb x t)).flatMap Enc.enc ++ [I (yb x t i)] := by rw [f2, List.flatMap_append]; rfl
   have c3 : (((List.range (i + 1 + 1)).map fun i => zG (t.take i)).flatMap Enc.enc : List PV) = ((List.range (i + 1)).map fun i => zG (t.take i)).flatMap Enc.enc ++ [I (zG (t.take (i + 1)))] := by rw [f3, List.flatMap_append]; rfl
   rw [hlzz] at z0
   clear f1 f2 f3 z1 hlzz hlz
   generalize (((List.range i).map (z8 x t)).flatMap Enc.enc : List PV) = fc at *
   generalize (((List.range i).map (yb x t)).flatMap Enc.enc : List PV) = bc at *
   generalize (((List.range (i + 1)).map fun i => zG (t.take i)).flatMap Enc.enc : List PV) = lc at *
   have t1 : fc.take i = fc := List.take_of_length_le (by omega)
   have t2 : bc.take i = bc := List.take_of_length_le (by omega)
   have t3 : lc.take (i + 1) = lc := List.take_of_length_le (by omega)
   refine zi (za (zj ?_))
   repeat apply za
   refine ze [] (zJ s0 hci hi2) ?_
   intro v9
   refine za ?_
   refine qK (nx := nx) (fun _ : Unit => True) (fun _ => [(2, .ptr nx v0 0), (5, .ptr (nx + 2) v2 0), (7, .ptr (nx + 4) v4 0), (8, .ptr (nx + 6) v6 0), (9, I (z8 x t i)), (10, I (yb x t i)), (11, I i), (12, .ptr (nx + 9) v9 0), (20, L d), (21, I d.length), (22, I k), (32, L t), (33, I t.length), (34, I i)]) (fun _ => S)
    (fun _ => [.cells v0 25 (zA x), .cells v1 58 [L d], .cells v2 239 [I x.days, I x.veh, I x.cap, I x.len, L x.cust, L x.dist, L d, .sl (nx + 3) v3 4 0 k], .cells v3 241 pc, .cells v4 72 [L t], .cells v5 3 lc,
    .cells v6 241 [.sl (nx + 7) v7 1 0 i, .sl (nx + 8) v8 1 0 i, .sl (nx + 5) v5 1 0 (i + 1), I wl], .cells v7 3 fc, .cells v8 3 bc, .cells v9 35 [I s.c, I s.q]]) ?_ ?_
   ·by_cases h0 : 0 < i
    ·obtain ⟨j, rfl⟩ : ∃ j, i = j + 1 := ⟨i - 1, by omega⟩
     obtain ⟨p, tp, p1, -, -, -, p0⟩ := el 2 rfl t j (by omega)
     obtain ⟨hpm, -, -⟩ := hts p (List.mem_of_getElem? p1)
     have hgp : t.getD j default = p := by rw [List.getD_eq_getElem?_getD, p1]; rfl
     have hj2 : 2 ≤ t.length * 2 - j * 2 := by omega
     have hjl : j < t.length := by omega
     have wj : IntKind.i64.wrap (j : Int) = (j : Int) := wr _ (by omega) (by omega)
     have wp := Zd hpm
     have ws := Zd hsm
     have ar1 := xX x (p.c + 1) (s.c + 1)
     have ar2 := xX x (s.c + 1) (p.c + 1)
     have hfz : z8 x t (j + 1) = z8 x t j + arc x (p.c + 1) (s.c + 1) := by conv => lhs; unfold z8; rw [hgs, hgp]
     have hbz : yb x t (j + 1) = yb x t j + arc x (s.c + 1) (p.c + 1) := by conv => lhs; unfold yb; rw [hgs, hgp]
     have b1 := Ya hx t (j + 1)
     have b2 := Yb hx t (j + 1)
     have wf : IntKind.i64.wrap (z8 x t j + arc x (p.c + 1) (s.c + 1)) = z8 x t (j + 1) := by rw [hfz] at b1 ⊢; exact wr _ (by omega) (by omega)
     have wb : IntKind.i64.wrap (yb x t j + arc x (s.c + 1) (p.c + 1)) = yb x t (j + 1) := by rw [hbz] at b2 ⊢; exact wr _ (by omega) (by omega)
     simp only [Nat.add_sub_cancel]
     have h0' : (0 : Int) < ((j + 1 : Nat) : Int) := by omega
     repeat apply za
     refine ze [] (zm h0 h0') ?_
     refine zo (by simp) ?_
     repeat apply za
     refine zD (some [nx + 4, nx + 9]) (Row.pures [0, 1, 2, 3, 4, 5, 6, 7, 8, 9, 10, 11, 12] .done) mixed (yg wj p0 hjl hj2 wp ws) ?_
     repeat apply za
     refine zb ?_
     refine jg [] ar1 wf ?_
     refine zb ?_
     refine jg [] ar2 wb ?_
     exact zS () [] trivial (by simp) rfl (by simp)
    ·obtain rfl : i = 0 := by omega
     repeat apply za
     refine zb ?_
     refine zp rfl ?_
     refine zi ?_
     exact zS () [] trivial (by simp) rfl (by simp)
   ·rintro ⟨⟩ -
    refine za ?_
    refine qK (nx := nx) (fun _ : Unit => True) (fun _ => [(2, .ptr nx v0 0), (5, .ptr (nx + 2) v2 0), (7, .ptr (nx + 4) v4 0), (8, .ptr (nx + 6) v6 0), (9, I (z8 x t i)), (10, I (yb x t i)), (11, I i), (12, .ptr (nx + 9) v9 0), (20, L d), (21, I d.length), (22, I k), (32, L t), (33, I t.length), (34, I i)]) (fun _ => S)
     (fun _ => [.cells v0 25 (zA x), .cells v1 58 [L d], .cells v2 239 [I x.days, I x.veh, I x.cap, I x.len, L x.cust, L x.dist, L d, .sl (nx + 3) v3 4 0 k], .cells v3 241 pc, .cells v4 72 [L t], .cells v5 3 lc,
     .cells v6 241 [.sl (nx + 7) (v7 + 1) 1 0 (i + 1), .sl (nx + 8) (v8 + 1) 1 0 (i + 1), .sl (nx + 5) v5 1 0 (i + 1), I wl], .cells (v7 + 1) 3 (fc ++ [I (z8 x t i)]), .cells (v8 + 1) 3 (bc ++ [I (yb x t i)]), .cells v9 35 [I s.c, I s.q]]) ?_ ?_
    ·repeat apply za
     refine zD (some []) (Row.pures [0, 2, 3, 5, 7, 8] (.alt 1 (.alt 4 (.alt 6 (Row.pures [10] (.alt 9 (.alt 11 (Row.pures [12] (.alt 13 (.done) .stop)) .stop) .stop)) .stop) (.alt 6 (.alt 4 (Row.pures [10] (.alt 9 (.alt 11 (Row.pures [12] (.alt 13 (.done) .stop)) .stop) .stop)) .stop) .stop)) (.alt 6 (.alt 1 (.alt 4 (Row.pures [10] (.alt 9 (.alt 11 (Row.pures [12] (.alt 13 (.done) .stop)) .stop) .stop)) .stop) .stop) .stop))) mixed (ye g1 g2 t1 t2) ?_
     repeat' (first | refine And.intro (by omega) ?_ | apply And.intro)
     all_goals exact zS () [] trivial (by simp) rfl (by simp)
    ·rintro ⟨⟩ -
     have z1 : (i : Int) < (i : Int) + 1 := by omega
     have z2 : i < i + 1 := by omega
     have z3 : 1 ≤ i + 1 - i := by omega
     refine zD (some [nx + 9]) (Row.pures [0, 2, 4, 7, 8] (.alt 1 (.alt 3 (Row.pures [5] (.alt 6 (Row.pures [9, 10] (.alt 11 (Row.pures [12] (.alt 13 (.done) .stop)) .stop)) .stop)) .stop) (.alt 3 (Row.pures [5] (.alt 1 (.alt 6 (Row.pures [9, 10] (.alt 11 (Row.pures [12] (.alt 13 (.done) .stop)) .stop)) .stop) (.alt 6 (Row.pures [9, 10] (.alt 1 (.alt 11 (Row.pures [12] (.alt 13 (.done) .stop)) .stop) .stop)) .stop))) .stop))) mixed (yg z0 z1 z2 z3 wl1 (zm g3 t3)) ?_
     repeat' (first | refine And.intro (by omega) ?_ | apply And.intro)
     all_goals
      refine ze [] wi ?_
      exact zr (i + 1, v5 + 1, v7 + 1, v8 + 1) [_] hci (by simp; omega) (by simp [wi]) rfl (by simp [c1, c2, c3]; rfl)
  ·simp at hci
   obtain rfl : i = t.length := by omega
   refine zC ?_
   clear hi hci
   have hsm : qY x t = ⟨(List.range t.length).map (z8 x t), (List.range t.length).map (yb x t), (List.range (t.length + 1)).map fun i => zG (t.take i), wl⟩ := by unfold qY; rw [hwl]
   have g1 : (((List.range t.length).map (z8 x t)).flatMap Enc.enc : List PV).length = t.length := by rw [qQ]; simp
   have g2 : (((List.range t.length).map (yb x t)).flatMap Enc.enc : List PV).length = t.length := by rw [qQ]; simp
   have g3 : (((List.range (t.length + 1)).map fun i => zG (t.take i)).flatMap Enc.enc : List PV).length = t.length + 1 := by rw [qQ]; simp
   have hfz : ∀ id v cs, pc.map (yG id v cs) = pc := fun id v cs => by rw [← hpc]; exact Zif id v cs _
   have hpl : pc.length = k * 4 := by rw [← hpc, Zbv]; simp; omega
   have hpt : pc.take (k * 4) = pc := List.take_of_length_le (by omega)
   have hnew : (((d.map (qY x)).take (k + 1)).flatMap Enc.enc : List PV) = pc ++ [L ((List.range t.length).map (z8 x t)), L ((List.range t.length).map (yb x t)), L ((List.range (t.length + 1)).map fun i => zG (t.take i)), I wl] := by
    rw [← hpc, ← List.map_take, a3, List.map_append, List.flatMap_append, ← List.map_take, List.map_cons, hsm]; rfl
   have l1 : ((List.range t.length).map (z8 x t)).length = t.length := by simp
   have l2 : ((List.range t.length).map (yb x t)).length = t.length := by simp
   have l3 : ((List.range (t.length + 1)).map fun i => zG (t.take i)).length = t.length + 1 := by simp
   generalize (List.range t.length).map (z8 x t) = fl at *
   generalize (List.range t.length).map (yb x t) = bl at *
   generalize ((List.range (t.length + 1)).map fun i => zG (t.take i)) = ll at *
   clear g1 g2 g3
   refine yc 8 rfl ?_
   simp only [List.map_cons, List.map_nil, List.set_cons_succ, List.set_cons_zero, js, hfz]
   refine yc 7 rfl ?_
   simp only [List.map_cons, List.map_nil, List.set_cons_succ, List.set_cons_zero, js, hfz]
   refine yc 5 rfl ?_
   simp only [List.map_cons, List.map_nil, List.set_cons_succ, List.set_cons_zero, js, hfz]
   refine zD (some [nx + 6]) (Row.pures [0, 1, 2, 3, 5, 6] (.alt 4 (.alt 7 (Row.pures [8, 9] (.alt 10 (.done) .stop)) .stop) .stop)) mixed (qv l1 l2 l3 hpl hpt) ?_
   refine ⟨by omega, ?_⟩
   refine zb ?_
   exact zr (k + 1, v3 + 1) [_, _, _, _, _] hc (by simp; omega) (by simp [zx k (by omega)]) rfl (by simp [hnew, l1, l2, l3]; exact ⟨rfl, rfl, rfl, rfl, rfl⟩)
 ·simp at hc
  obtain rfl : k = d.length := by omega
  rw [List.take_of_length_le (by simp)]
  refine zC ?_
  have hml : ((d.map (qY x)).flatMap Enc.enc : List PV).length = d.length * 4 := by rw [Zbv]; simp
  refine yc 3 rfl ?_
  repeat apply za
  refine ze [] hml ?_
  refine jC 2 rfl ?_
  exact zh (zk hd (by simp; rfl) (by simp [zn, hml]))
open Go Go.Proofs
def qZ (x : Inst) : Int → List Int → Int
 | _, [] => 0
 | a, c :: l => arc x a (c + 1) + qZ x (c + 1) l
theorem Wb (x : Inst) : ∀ (l : List Int) (a : Int) (m : List Int), qZ x a (l ++ m) = qZ x a l + qZ x (yu a l) m
 | [], a, m => by simp [qZ, yu]
 | c :: l, a, m => by
  simp only [List.cons_append, qZ, yu]
  rw [Wb x l (c + 1) m]; omega
theorem Wc : ∀ (l : List Int) (a : Int) (m : List Int), yu a (l ++ m) = yu (yu a l) m
 | [], a, m => rfl
 | c :: l, a, m => by simp only [List.cons_append, yu]; exact Wc l (c + 1) m
theorem Zbw (x : Inst) : ∀ (l : List Int) (a : Int), y8 x a l = qZ x a l + arc x (yu a l) 0
 | [], a => by simp [y8, qZ, yu]
 | c :: l, a => by
  simp only [y8, qZ, yu]
  rw [Zbw x l (c + 1)]; omega
def xg (t : zv) (f n : Nat) : zv := (t.drop f).take n
theorem Y9 {t : zv} {f n : Nat} {s : Stop} (h : t[f + n]? = some s) : xg t f (n + 1) = xg t f n ++ [s] := by
 have h' : (t.drop f)[n]? = some s := by rw [List.getElem?_drop]; exact h
 obtain ⟨h1, h2⟩ := List.getElem?_eq_some_iff.1 h'
 unfold xg
 rw [List.take_succ_eq_append_getElem h1, h2]
theorem getD_some {t : zv} {i : Nat} {s : Stop} (h : t[i]? = some s) : t.getD i default = s := by rw [List.getD_eq_getElem?_getD, h]; rfl
theorem Zbx (x : Inst) (t : zv) (f : Nat) (a : Int) : ∀ n, f + n < t.length → qZ x a ((xg t f (n + 1)).map (·.c)) = arc x a ((t.getD f default).c + 1) + (z8 x t (f + n) - z8 x t f) ∧ yu a ((xg t f (n + 1)).map (·.c)) = (t.getD (f + n) default).c + 1
 | 0, h => by
  have h0 : t[f + 0]? = some t[f] := List.getElem?_eq_getElem (by omega)
  rw [Y9 h0]
  have : xg t f 0 = [] := by simp [xg]
  rw [this, getD_some h0]
  simp only [Nat.add_zero] at *
  rw [getD_some h0]
  simp [qZ, yu]
 | n + 1, h => by
  obtain ⟨i1, i2⟩ := Zbx x t f a n (by omega)
  have h0 : t[f + (n + 1)]? = some t[f + (n + 1)] := List.getElem?_eq_getElem (by omega)
  rw [Y9 h0, List.map_append, Wb, Wc, i1, i2, getD_some h0]
  simp only [List.map_cons, List.map_nil, qZ, yu]
  have e : z8 x t (f + (n + 1)) = z8 x t (f + n) + arc x ((t.getD (f + n) default).c + 1) ((t.getD (f + (n + 1)) default).c + 1) := rfl
  rw [e, getD_some h0]
  exact ⟨by omega, trivial⟩
theorem Zby (x : Inst) (t : zv) (f : Nat) : ∀ (n : Nat) (a : Int), f + n < t.length → qZ x a ((xg t f (n + 1)).reverse.map (·.c)) = arc x a ((t.getD (f + n) default).c + 1) + (yb x t (f + n) - yb x t f) ∧ yu a ((xg t f (n + 1)).reverse.map (·.c)) = (t.getD f default).c + 1
 | 0, a, h => by
  have h0 : t[f + 0]? = some t[f] := List.getElem?_eq_getElem (by omega)
  rw [Y9 h0]
  have : xg t f 0 = [] := by simp [xg]
  rw [this, getD_some h0]
  simp only [Nat.add_zero] at *
  rw [getD_some h0]
  simp [qZ, yu]
 | n + 1, a, h => by
  have h0 : t[f + (n + 1)]? = some t[f + (n + 1)] := List.getElem?_eq_getElem (by omega)
  obtain ⟨i1, i2⟩ := Zby x t f n ((t.getD (f + (n + 1)) default).c + 1) (by omega)
  rw [Y9 h0, List.reverse_append]
  simp only [List.reverse_cons, List.reverse_nil, List.nil_append, List.cons_append, List.map_cons, qZ, yu]
  rw [getD_some h0] at i1 i2 ⊢
  rw [i1, i2]
  have e : yb x t (f + (n + 1)) = yb x t (f + n) + arc x ((t.getD (f + (n + 1)) default).c + 1) ((t.getD (f + n) default).c + 1) := rfl
  rw [e, getD_some h0]
  exact ⟨by omega, rfl⟩
theorem Zbz (t : zv) (f : Nat) : ∀ n, f + n ≤ t.length → zG (xg t f n) = zG (t.take (f + n)) - zG (t.take f)
 | 0, _ => by simp [xg, zG]
 | n + 1, h => by
  have h0 : t[f + n]? = some t[f + n] := List.getElem?_eq_getElem (by omega)
  have e : t.take (f + n + 1) = t.take (f + n) ++ [t[f + n]] := List.take_succ_eq_append_getElem (by omega)
  rw [Y9 h0, Q7, Zbz t f n (by omega), ← Nat.add_assoc, e, Q7]; omega
def qr (x : Inst) (d : zg) (st : Int × Int) (p : Pc) : Int × Int :=
 if p.f < p.o then
  (bif p.b then (((d.getD p.t []).getD p.f default).c + 1, st.2 + (arc x st.1 (((d.getD p.t []).getD (p.o - 1) default).c + 1) + yb x (d.getD p.t []) (p.o - 1) - yb x (d.getD p.t []) p.f))
  else (((d.getD p.t []).getD (p.o - 1) default).c + 1, st.2 + (arc x st.1 (((d.getD p.t []).getD p.f default).c + 1) + z8 x (d.getD p.t []) (p.o - 1) - z8 x (d.getD p.t []) p.f)))
 else st
def jR (x : Inst) (d : zg) (r : Rw5) : Int := (r.l.foldl (qr x d) (0, 0)).2 + arc x (r.l.foldl (qr x d) (0, 0)).1 0
def xh (d : zg) (st : Int) (p : Pc) : Int := if p.f < p.o then st + (zG ((d.getD p.t []).take p.o) - zG ((d.getD p.t []).take p.f)) else st
def uJ (d : zg) (r : Rw5) : Int := r.l.foldl (xh d) 0
theorem Zih {x : Inst} {d : zg} {p : Pc} (h : Z8 d p) (g : List Stop) : qr x d (yu 0 (g.map (·.c)), qZ x 0 (g.map (·.c))) p = (yu 0 ((g ++ yP d p).map (·.c)), qZ x 0 ((g ++ yP d p).map (·.c))) := by
 unfold qr yP
 by_cases hfo : p.f < p.o
 ·obtain ⟨ht, ho⟩ := h hfo
  unfold tlen at ho
  rw [if_pos hfo, if_pos hfo]
  generalize d.getD p.t [] = t at *
  obtain ⟨n, hn⟩ : ∃ n, p.o = p.f + n + 1 := ⟨p.o - p.f - 1, by omega⟩
  have e1 : p.o - 1 = p.f + n := by omega
  have e2 : p.o - p.f = n + 1 := by omega
  rw [e1, e2, List.map_append, Wb, Wc]
  cases p.b with
  | true =>
   simp only [cond_true]
   obtain ⟨i1, i2⟩ := Zby x t p.f n (yu 0 (g.map (·.c))) (by omega)
   unfold xg at i1 i2
   rw [i1, i2]
   congr 1; omega
  | false =>
   simp only [cond_false]
   obtain ⟨i1, i2⟩ := Zbx x t p.f (yu 0 (g.map (·.c))) n (by omega)
   unfold xg at i1 i2
   rw [i1, i2]
   congr 1; omega
 ·rw [if_neg hfo, if_neg hfo, List.append_nil]
theorem ZbA {x : Inst} {d : zg} : ∀ (l : List Pc) (g : List Stop), (∀ p ∈ l, Z8 d p) → l.foldl (qr x d) (yu 0 (g.map (·.c)), qZ x 0 (g.map (·.c))) = (yu 0 ((g ++ l.flatMap (yP d)).map (·.c)), qZ x 0 ((g ++ l.flatMap (yP d)).map (·.c)))
 | [], g, _ => by simp
 | p :: l, g, h => by
  rw [List.foldl_cons, Zih (h p (by simp)), ZbA l _ fun q hq => h q (by simp [hq]), List.flatMap_cons, List.append_assoc]
theorem Wd {x : Inst} {d : zg} {r : Rw5} (h : x8 d r) (h0 : arc x 0 0 = 0) : jR x d r = zV x ((yn d r).map (·.c)) := by
 have := ZbA (x := x) r.l [] h
 simp only [List.map_nil, yu, qZ, List.nil_append] at this
 unfold jR
 rw [this]
 simp only
 unfold yn zV
 split
 ·rename_i e
  rw [e]; simp [qZ, yu, h0]
 ·rw [Zbw]
theorem Zii {d : zg} {p : Pc} (h : Z8 d p) (g : List Stop) : xh d (zG g) p = zG (g ++ yP d p) := by
 unfold xh yP
 by_cases hfo : p.f < p.o
 ·obtain ⟨ht, ho⟩ := h hfo
  unfold tlen at ho
  rw [if_pos hfo, if_pos hfo, ZgY]
  generalize d.getD p.t [] = t at *
  have := Zbz t p.f (p.o - p.f) (by omega)
  rw [show p.f + (p.o - p.f) = p.o by omega] at this
  have hr : ∀ l : zv, zG l.reverse = zG l := fun l => by unfold zG; exact ZgX ((List.reverse_perm l).map _)
  unfold xg at this
  cases p.b with
  | true => simp only [cond_true]; rw [hr, this]
  | false => simp only [cond_false]; rw [this]
 ·rw [if_neg hfo, if_neg hfo, List.append_nil]
theorem Zij {d : zg} {r : Rw5} (h : x8 d r) : uJ d r = zG (yn d r) := by
 have key : ∀ (l : List Pc) (g : List Stop), (∀ p ∈ l, Z8 d p) → l.foldl (xh d) (zG g) = zG (g ++ l.flatMap (yP d)) := by
  intro l
  induction l with
  | nil => intro g _; simp
  | cons p l ih =>
   intro g h
   rw [List.foldl_cons, Zii (h p (by simp)), ih _ fun q hq => h q (by simp [hq]), List.flatMap_cons, List.append_assoc]
 have := key r.l [] h
 simpa [uJ, yn, zG] using this
end Go.Proofs.YtcnbiofjmioaiaaGreat.Pv
