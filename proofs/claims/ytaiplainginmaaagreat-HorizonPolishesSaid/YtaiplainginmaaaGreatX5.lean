/- A part of the proof of the statement that the last text of this claim proves; no condition is added. Packed by a program of the prover. -/
import Derived.Test.YtaiplainginmaaaGreatX4
namespace Go.Proofs.YtaiplainginmaaaGreat.Pv
open Go Go.Proofs
theorem ZgH {x : Inst} {d : Day} {l : List Stop} {k : Nat} {s : Stop} (hu : x4 x d l = k) (hk : l[k]? = some s) :
  jM x l.length d l = bif (qp x d s).2 then jM x (l.eraseIdx k).length (qp x d s).1 (l.eraseIdx k) else (d, false) := by
 have hlt := (List.getElem?_eq_some_iff.1 hk).1
 obtain ⟨n, hn⟩ : ∃ n, l.length = n + 1 := ⟨l.length - 1, by omega⟩
 have he : (l.eraseIdx k).length = n := by rw [List.length_eraseIdx_of_lt hlt]; omega
 have hg : l.getD k default = s := by rw [List.getD_eq_getElem?_getD, hk]; rfl
 rw [hn, he, jM, hu, Int.toNat_natCast, hg]
theorem ZgI {x : Inst} {d : Day} {l : List Stop} (h : RgOk x d l) : d.length ≤ 1000 ∧ d.flatten.length ≤ 1000 ∧ l.length ≤ 1000 := by
 have h1 := h.dl
 have h2 := h.len
 omega
set_option maxRecDepth 20000 in
set_option maxHeartbeats 1600000 in
theorem ZgJ (x : Inst) (l : List Stop) (hx : x.cust.length ≤ 1048576) (hv : 0 ≤ x.veh) (hl : l.length ≤ 1000) : Pure Tryz.prog 221 [.agg (zo x), L l] (.tup [.agg [L (yH x l).1], B (yH x l).2]) := by
 have hb := Zai hv hl
 unfold yH
 by_cases h0 : 0 < l.length
 case neg =>
  obtain rfl : l = [] := List.eq_nil_of_length_eq_zero (by omega)
  have hcl := Y0 [] (by simp)
  refine pwe Tryz.func221 Tryz.ntmps221 Tryz.results221 fun S nx hd => ?_
  repeat apply za
  refine pwn ?_
  intro v0 v1
  repeat apply za
  refine pwn ?_
  intro v2
  refine vN 2 0 rfl rfl ?_
  repeat apply za
  refine pwn ?_
  refine pwc hcl ?_
  intros
  repeat apply za
  refine ze (zq (fun _ : Nat => True) (fun _ => [(2, .ptr nx v0 0), (4, .ptr (nx + 1) v1 0), (6, .ptr (nx + 2) v2 0), (7, L ([] : List Stop))]) (fun _ => [.cells v0 25 (zo x), .cells v1 66 [yi], .cells v2 66 [L ([] : Day)]]) (fun k => k) 0 [] trivial (by simp) (by simp) ?_)
  rintro k -
  (repeat apply za); refine pwn ?_; intros
  repeat apply za
  refine zj rfl ?_
  refine zm ?_
  (repeat apply za); refine pwn ?_; intros
  repeat apply za
  exact zb (zg hd (by simp; rfl) (by simp [zi, jM]))
 refine pwe Tryz.func221 Tryz.ntmps221 Tryz.results221 fun S nx hd => ?_
 repeat apply za
 refine pwn ?_
 intro v0 v1
 repeat apply za
 refine pwn ?_
 intro v2
 refine vN 2 0 rfl rfl ?_
 repeat apply za
 refine zO [] (by rfl) (by rfl) fun K Gc Gh hK hGc hGh X hX0 hX => ?_
 simp -implicitDefEqProofs [hX0, hX]
 try clear hX0 hX X
 refine hGc _ _ _ _ _ _ _ fun hsuf => ((JC l h0 (by omega) _ _ xO).mono ?_).v
 rintro _ _ ⟨v3, rfl, rfl⟩
 refine ⟨_, _, qh _, ?_⟩
 clear hGc hGh
 clear Gc Gh
 refine zJ hsuf (D := []) (by rfl) fun Gc Gh hGc hGh X hX0 hX => ?_
 simp -implicitDefEqProofs [hX0, hX]
 clear hX0 hX X
 intros
 refine hK _ _ _ ?_
 clear hK hGc hGh
 clear K Gc Gh
 repeat apply za
 refine ze (zq (fun s' : Day × List Stop × Nat => jM x s'.2.1.length s'.1 s'.2.1 = jM x l.length [] l ∧ RgOk x s'.1 s'.2.1) (fun (d, m, v3) => [(2, .ptr nx v0 0), (4, .ptr (nx + 1) v1 0), (6, .ptr (nx + 2) v2 0), (7, .sl (nx + 3) v3 2 0 m.length)]) (fun (d, m, v3) => [.cells v0 25 (zo x), .cells v1 66 [yi], .cells v2 66 [L d], .cells v3 50 (m.flatMap Enc.enc)]) (fun s' => s'.2.1.length) ([], l, v3) [] ⟨rfl, hb⟩ (by simp) (by simp) ?_)
 rintro ⟨d, m, v3⟩ ⟨hr, hok⟩
 simp only at hr hok ⊢
 rw [← hr]
 by_cases hm : m = []
 ·subst hm
  (repeat apply za); refine pwn ?_; intros
  repeat apply za
  refine zj rfl ?_
  refine zm ?_
  (repeat apply za); refine pwn ?_; intros
  repeat apply za
  exact zb (zg hd (by simp; rfl) (by simp [zi, jM]))
 ·have hm0 : 0 < m.length := List.length_pos_iff.2 hm
  obtain ⟨k, hu, hk⟩ := Zah (x := x) (d := d) hm
  obtain ⟨s, tl, a1, a2, a3, e1, e0⟩ := el 2 rfl m k hk
  have hk2 : 2 ≤ m.length * 2 - k * 2 := by omega
  have hst := ZgH hu a1
  obtain ⟨b1, b2, b3⟩ := ZgI hok
  have hsee := VF x d hx hok.ok (by omega)
  have hins := Zgk x d s hx hok.ok (by omega)
  have hnx := fun h => hok.step hx hk (s := s) h
  have hurg := fun (S : Store) (id ver : Nat) h => ZgG x d m hx hok (S := S) (id := id) (ver := ver) h
  rw [hu] at hurg
  obtain ⟨on, tw, fs, bd, ls, ws, hlk⟩ : ∃ on tw fs bd ls ws, xz x d = j4 x d on tw fs bd ls ws := ⟨_, _, _, _, _, _, rfl⟩
  rw [hlk] at hsee hurg
  clear hlk
  have hno := ZfV (x := x) (d := d) (s := s)
  generalize hi : qp x d s = r at *
  obtain ⟨d2, ok⟩ := r
  simp only at hst hnx hno
  have wk := wrN k (by omega)
  have hm0' : (0 : Int) < m.length := by omega
  repeat apply za
  refine pwN [] hm0' ?_
  intros
  repeat apply za
  refine zh (by simp; exact hm0) ?_
  refine zd (ze ?_)
  repeat apply za
  refine zO [] (by rfl) (by rfl) fun K Gc Gh hK hGc hGh X hX0 hX => ?_
  simp -implicitDefEqProofs [hX0, hX]
  try clear hX0 hX X
  refine hGc _ _ _ _ _ _ _ fun hsuf => ((hsee _).mono ?_).v
  rintro _ _ ⟨rfl, rfl⟩
  refine ⟨_, _, rfl, ?_⟩
  clear hGc hGh
  clear Gc Gh
  refine zJ hsuf (D := []) (by rfl) fun Gc Gh hGc hGh X hX0 hX => ?_
  simp -implicitDefEqProofs [hX0, hX]
  clear hX0 hX X
  refine hGc _ _ _ _ _ _ _ fun hsuf => ((hurg _ _ _ (by rw [yK]; rfl)).mono ?_).v
  rintro _ _ ⟨rfl, rfl⟩
  refine ⟨_, _, rfl, ?_⟩
  clear hGc hGh
  clear Gc Gh
  refine zJ hsuf (D := []) (by rfl) fun Gc Gh hGc hGh X hX0 hX => ?_
  simp -implicitDefEqProofs [hX0, hX]
  clear hX0 hX X
  intros
  refine hK _ _ _ ?_
  clear hK hGc hGh
  clear K Gc Gh
  repeat apply za
  refine pwY (some [nx, nx + 2, nx + 3]) (Row.pures [0, 1, 2, 3, 4, 5, 6, 7, 8, 9] (.alt 10 (.alt 11 (Row.pures [12] .done) .stop) .stop)) mixed (jn3 e0 hk hk2) ?_
  refine pwP (hins) trivial ?_
  intro v4
  intros
  (repeat apply za); refine pwn ?_; intros
  cases ok with
  | false =>
   simp only [cond_false] at hst
   repeat apply za
   refine zh rfl ?_
   (repeat apply za); refine pwn ?_; intros
   repeat apply za
   exact zb (zg hd (by simp; rfl) (by simp [zi, hst]))
  | true =>
   simp only [cond_true] at hst
   repeat apply za
   refine zj rfl ?_
   refine zd ?_
   have hkl := List.length_eraseIdx_of_lt hk
   repeat apply za
   refine xQ (some [nx + 4]) (Row.pures [0, 1, 2, 3, 4] (.alt 5 (.alt 6 (Row.pures [7] .done) .stop) .stop)) mixed (by rfl) (by rfl) (by rfl) fun K Gp Gc Gh hK hGp hGc hGh X hX0 hX1 hX2 hX => ?_
   simp -implicitDefEqProofs [hX0, hX1, hX2, hX, wk]
   try clear hX0 hX1 hX2 hX X
   refine hGc _ _ _ _ _ _ _ ?_
   refine ((Zgw m k hk (by omega) (by rw [yK]; rfl)).mono ?_).v
   rintro _ _ ⟨rfl, rfl⟩
   rw [qb _ (by omega) (by simp), Nat.add_sub_cancel_left]
   refine ⟨by simp [yd], ?_⟩
   clear hGp hGc hGh
   clear Gp Gc Gh
   refine js fun Gp Gc Gh hGp hGc hGh X hX0 hX1 hX2 hX => ?_
   simp -implicitDefEqProofs [hX0, hX1, hX2, hX]
   try clear hX0 hX1 hX2 hX X
   refine hK _ _ _ ?_
   clear hK hGp hGc hGh
   clear K Gp Gc Gh
   exact zk (d2, m.eraseIdx k, v3 + 1) [_] ⟨hst.symm, hnx rfl⟩ (by simp only; omega) (by simp) rfl (by simp; rfl)
open Go Go.Proofs
def jl (step : Day → Option Day) : Nat → Day → Day
 | 0, d => d
 | n + 1, d => match step d with
  | none => d
  | some e => jl step n e
def xD (step : Day → Option Day) : Nat → Day → Nat
 | 0, _ => 0
 | n + 1, d => match step d with
  | none => 0
  | some e => xD step n e + 1
def Zaj (x : Inst) (step : Day → Option Day) (G : Day → Prop) : Prop := ∀ d, G d → ∃ mk ma mb mi mj least, Pure Tryz.prog 115 [.agg (zo x), .agg [L d]] (.tup [.agg [I mk, I ma, I mb, I mi, I mj], I least, B (step d).isSome]) ∧
 ∀ e, step d = some e → Pure Tryz.prog 116 [.agg (zo x), .agg [L d], .agg [I mk, I ma, I mb, I mi, I mj]] (.tup [.agg [L e], I 0]) ∧ G e
set_option maxRecDepth 20000 in
set_option maxHeartbeats 1600000 in
theorem Zak (x : Inst) (d : Day) (b : Int) (step : Day → Option Day) (G : Day → Prop) (hb : b ≤ 9223372036854775807) (hdn : d.length ≤ 1048576) (hdt : ∀ t ∈ d, t.length ≤ 1048576) (hd' : 0 < b → G d) (hs : Zaj x step G) : Pure Tryz.prog 76 [.agg (zo x), .agg [L d], I b] (.tup [.agg [L (jl step b.toNat d)], I (if xD step b.toNat d < b.toNat then (xD step b.toNat d : Int) else ut b 0)]) := by
 refine pwe Tryz.func76 Tryz.ntmps76 Tryz.results76 fun S nx hd => ?_
 repeat apply za
 refine pwn ?_
 intro v0 v1 v2
 repeat apply za
 refine pwn ?_
 intro v3
 refine qc 3 0 72 1 rfl rfl fun v4 => ?_
 (repeat apply za); refine pwn ?_; intros
 repeat apply za
 refine ze (zq (fun s' : Nat × Nat => s'.1 ≤ d.length) (fun (k, v4) => [(2, I b), (3, .ptr nx v0 0), (6, .ptr (nx + 2) v2 0), (7, I 0), (8, .ptr (nx + 3) v3 0), (16, L d), (17, I d.length), (18, I k)]) (fun (k, v4) => [.cells v0 25 (zo x), .cells v1 66 [L d], .cells v2 66 [yi], .cells v3 66 [.sl (nx + 4) v4 1 0 k], .cells v4 72 ((d.take k).flatMap Enc.enc)]) (fun s' => d.length - s'.1) (0, v4) [] (by simp) (by simp) (by simp) ?_)
 rintro ⟨k, v4⟩ hk
 simp only at hk ⊢
 (repeat apply za); refine pwn ?_; intros
 repeat apply za
 refine zl rfl (fun hc => ?_) (fun hc => ?_)
 ·simp at hc
  obtain ⟨t, tl, a1, a2, a3, e0⟩ := el1 rfl d k hc
  have hk1 : 1 ≤ d.length - k := by omega
  have hcl := Y0 t (hdt t (List.mem_of_getElem? a1))
  have hcl' : ((d.take k).flatMap Enc.enc : List PV).length = k := by rw [qw, List.length_take]; omega
  have hct : ((d.take k).flatMap Enc.enc : List PV).take k = (d.take k).flatMap Enc.enc := List.take_of_length_le (by omega)
  have hcn : ((d.take (k + 1)).flatMap Enc.enc : List PV) = (d.take k).flatMap Enc.enc ++ [L t] := by rw [a3, List.flatMap_append]; rfl
  generalize ((d.take k).flatMap Enc.enc : List PV) = cs at *
  refine zd (za (ze ?_))
  repeat apply za
  refine pwN [] (jn3 e0 hc hk1) ?_
  intro v5
  repeat apply za
  refine pwY (some [nx + 5]) (Row.pures [0, 2, 3, 4, 5, 6] (.alt 1 (.alt 7 (Row.pures [8] (.alt 9 (.done) .stop)) .stop) .stop)) mixed (jn2 hcl' hct) ?_
  refine pwP (hcl) (jn2 hcl' hct) ?_
  refine ⟨by omega, ?_⟩
  intros
  (repeat apply za); refine pwn ?_; intros
  exact zk (k + 1, v4 + 1) [_] hc (by simp; omega) (by simp [wrN k (by omega)]) rfl (by simp [hcn]; rfl)
 ·simp at hc
  obtain rfl : k = d.length := by omega
  have g1 : d.take d.length = d := List.take_length
  refine zm ?_
  rw [g1]
  refine zB 4 rfl ?_
  (repeat apply za); refine pwn ?_; intros
  clear hk hc g1
  repeat apply za
  refine ze (zq (fun s' : Nat × Day => s'.1 ≤ b.toNat ∧ (0 < b → G s'.2) ∧ jl step (b.toNat - s'.1) s'.2 = jl step b.toNat d ∧ s'.1 + xD step (b.toNat - s'.1) s'.2 = xD step b.toNat d) (fun (k, e) => [(2, I b), (3, .ptr nx v0 0), (6, .ptr (nx + 2) v2 0), (8, .ptr (nx + 3) v3 0), (11, I k)]) (fun (k, e) => [.cells v0 25 (zo x), .cells v1 66 [L d], .cells v2 66 [yi], .cells v3 66 [L e]]) (fun s' => b.toNat - s'.1) (0, d) [.dead] ⟨by simp, hd', by simp, by simp⟩ (by simp) (by simp) ?_)
  rintro ⟨k, e⟩ ⟨hk, hG, hi, hco⟩
  simp only at hk hG hi hco ⊢
  rw [← hi]
  (repeat apply za); refine pwn ?_; intros
  repeat apply za
  refine zl rfl (fun hc => ?_) (fun hc => ?_)
  ·simp at hc
   obtain ⟨mk, ma, mb, mi, mj, least, hB, hM⟩ := hs e (hG (by omega))
   obtain ⟨n, hn⟩ : ∃ n, b.toNat - k = n + 1 := ⟨b.toNat - k - 1, by omega⟩
   refine zd (za (ze ?_))
   repeat apply za
   refine pwn ?_
   refine pwc hB ?_
   intro v5
   intros
   (repeat apply za); refine pwn ?_; intros
   cases hst : step e with
   | none =>
    have hr : jl step (b.toNat - k) e = e := by rw [hn]; unfold jl; rw [hst]
    have hr2 : xD step (b.toNat - k) e = 0 := by rw [hn]; unfold xD; rw [hst]
    rw [hr2] at hco
    rw [hr, ← hco, if_pos (by omega)]
    repeat apply za
    refine zh rfl ?_
    (repeat apply za); refine pwn ?_; intros
    repeat apply za
    exact zb (zg hd (by simp; rfl) (by simp [zi]))
   | some e2 =>
    have hr : jl step (b.toNat - k) e = jl step (b.toNat - (k + 1)) e2 := by rw [hn, show b.toNat - (k + 1) = n by omega]; conv => lhs; unfold jl; rw [hst]
    have hr2 : xD step (b.toNat - k) e = xD step (b.toNat - (k + 1)) e2 + 1 := by rw [hn, show b.toNat - (k + 1) = n by omega]; conv => lhs; unfold xD; rw [hst]
    obtain ⟨hM1, hG2⟩ := hM e2 hst
    repeat apply za
    refine zj rfl ?_
    refine zd ?_
    repeat apply za
    refine pwn ?_
    refine pwc hM1 ?_
    intros
    (repeat apply za); refine pwn ?_; intros
    exact zk (k + 1, e2) [_] ⟨by simp; omega, fun _ => hG2, hr.symm, by simp only; omega⟩ (by simp; omega) (by simp [wrN k (by omega)]) rfl (by simp; rfl)
  ·simp at hc
   have hz : b.toNat - k = 0 := by omega
   rw [hz] at hco ⊢
   have hco' : xD step b.toNat d = k := by rw [← hco]; rfl
   rw [hco', if_neg (by omega)]
   refine zm ?_
   (repeat apply za); refine pwn ?_; intros
   repeat apply za
   exact zb (zg hd (by simp; rfl) (by simp [zi, jl]))
open Go Go.Proofs
structure Pc where
 t : Nat
 f : Nat
 o : Nat
 b : Bool
 deriving DecidableEq
def pc0 : Pc := ⟨0, 0, 0, false⟩
abbrev pcL (p : Pc) : List PV := [I p.t, I p.f, I p.o, B p.b]
structure Rw5 where
 a : Pc
 b : Pc
 c : Pc
 d : Pc
 e : Pc
abbrev rwL (r : Rw5) : List PV := [I r.a.t, I r.a.f, I r.a.o, B r.a.b, I r.b.t, I r.b.f, I r.b.o, B r.b.b, I r.c.t, I r.c.f, I r.c.o, B r.c.b, I r.d.t, I r.d.f, I r.d.o, B r.d.b, I r.e.t, I r.e.f, I r.e.o, B r.e.b]
def Rw5.l (r : Rw5) : List Pc := [r.a, r.b, r.c, r.d, r.e]
def rw0 : Rw5 := ⟨pc0, pc0, pc0, pc0, pc0⟩
structure Mv where
 k : Nat
 a : Nat
 b : Nat
 i : Nat
 j : Nat
 deriving DecidableEq
abbrev mvL (m : Mv) : List PV := [I m.k, I m.a, I m.b, I m.i, I m.j]
abbrev vwL (m : Mv) (la lb : Nat) : List PV := [I m.k, I m.a, I m.b, I m.i, I m.j, I la, I lb]
def jz (m : Mv) (la lb : Nat) : Bool :=
 if m.k = 0 then decide (m.b = m.a ∧ m.i < m.j ∧ m.j < la)
 else if m.k = 1 then decide (m.i < la ∧ (if m.a = m.b then m.j < lb else m.j ≤ lb))
 else if m.k = 2 then decide (¬ (m.b < m.a ∨ m.a = m.b ∧ m.j ≤ m.i) ∧ m.i < la ∧ m.j < lb)
 else decide (m.a < m.b ∧ m.i ≤ la ∧ m.j ≤ lb)
def qB (m : Mv) (la lb : Nat) : Rw5 × Rw5 :=
 if m.k = 0 then (⟨⟨m.a, 0, m.i, false⟩, ⟨m.a, m.i, m.j + 1, true⟩, ⟨m.a, m.j + 1, la, false⟩, pc0, pc0⟩, rw0)
 else if m.k = 1 then
  (if m.a ≠ m.b then (⟨⟨m.a, 0, m.i, false⟩, ⟨m.a, m.i + 1, la, false⟩, pc0, pc0, pc0⟩, ⟨⟨m.b, 0, m.j, false⟩, ⟨m.a, m.i, m.i + 1, false⟩, ⟨m.b, m.j, lb, false⟩, pc0, pc0⟩)
  else if m.i < m.j then (⟨⟨m.a, 0, m.i, false⟩, ⟨m.a, m.i + 1, m.j + 1, false⟩, ⟨m.a, m.i, m.i + 1, false⟩, ⟨m.a, m.j + 1, la, false⟩, pc0⟩, rw0)
  else (⟨⟨m.a, 0, m.j, false⟩, ⟨m.a, m.i, m.i + 1, false⟩, ⟨m.a, m.j, m.i, false⟩, ⟨m.a, m.i + 1, la, false⟩, pc0⟩, rw0))
 else if m.k = 2 then
  (if m.a = m.b then (⟨⟨m.a, 0, m.i, false⟩, ⟨m.b, m.j, m.j + 1, false⟩, ⟨m.a, m.i + 1, m.j, false⟩, ⟨m.a, m.i, m.i + 1, false⟩, ⟨m.a, m.j + 1, la, false⟩⟩, rw0)
  else (⟨⟨m.a, 0, m.i, false⟩, ⟨m.b, m.j, m.j + 1, false⟩, ⟨m.a, m.i + 1, la, false⟩, pc0, pc0⟩, ⟨⟨m.b, 0, m.j, false⟩, ⟨m.a, m.i, m.i + 1, false⟩, ⟨m.b, m.j + 1, lb, false⟩, pc0, pc0⟩))
 else (⟨⟨m.a, 0, m.i, false⟩, ⟨m.b, m.j, lb, false⟩, pc0, pc0, pc0⟩, ⟨⟨m.b, 0, m.j, false⟩, ⟨m.a, m.i, la, false⟩, pc0, pc0, pc0⟩)
set_option maxRecDepth 20000 in
theorem ZgK (m : Mv) (la lb : Nat) (hk : m.k = 0) : Pure Tryz.prog 231 [.agg (vwL m la lb)] (B (jz m la lb)) := by
 unfold jz
 rw [if_pos hk]
 refine pwe Tryz.func231 Tryz.ntmps231 Tryz.results231 fun S nx hd => ?_
 repeat apply za
 refine pwn ?_
 intro v0
 by_cases h1 : m.b = m.a
 case neg =>
  have h1' : ¬ (m.b : Int) = m.a := by omega
  repeat apply za
  refine pwN [(7, 10), (13, 16), (22, 25)] (jn2 h1' zn) ?_
  intros
  repeat apply za
  exact zb (zg hd rfl (by simp [h1, zi]))
 have h1' : (m.b : Int) = m.a := by omega
 by_cases h2 : m.i < m.j
 case neg =>
  have h2' : ¬ (m.i : Int) < m.j := by omega
  repeat apply za
  refine pwN [(7, 10), (13, 16), (22, 25)] (jn3 h1' h2 zn) ?_
  intros
  repeat apply za
  exact zb (zg hd rfl (by simp [h2, zi]))
 by_cases h3 : m.j < la
 case neg =>
  repeat apply za
  refine pwN [(7, 10), (13, 16), (22, 25)] (jn4 h1' h2 h3 zn) ?_
  intros
  repeat apply za
  exact zb (zg hd rfl (by simp [h3, zi]))
 repeat apply za
 refine pwN [(7, 10), (13, 16), (22, 25)] (jn3 h1' h2 h3) ?_
 intros
 repeat apply za
 exact zb (zg hd rfl (by simp [h1, h2, h3, zi]))
set_option maxRecDepth 20000 in
theorem ZgL (m : Mv) (la lb : Nat) (hk : m.k = 1) (hlb : lb ≤ 1048576) : Pure Tryz.prog 233 [.agg (vwL m la lb)] (B (jz m la lb)) := by
 unfold jz
 rw [if_neg (by omega), if_pos hk]
 refine pwe Tryz.func233 Tryz.ntmps233 Tryz.results233 fun S nx hd => ?_
 repeat apply za
 refine pwn ?_
 intro v0
 (repeat apply za); refine pwn ?_; intros
 refine za ?_
 refine zW (nx := nx) (fun z : Int => (m.j : Int) ≤ z ↔ (if m.a = m.b then m.j < lb else m.j ≤ lb)) (fun z => [(1, .ptr nx v0 0), (3, I z)]) (fun _ => S) (fun _ => [.cells v0 265 (vwL m la lb)]) ?_ ?_
 ·by_cases h1 : m.a = m.b
  ·have h1' : (m.a : Int) = m.b := by omega
   have w1 : IntKind.i64.wrap ((lb : Int) - 1) = (lb : Int) - 1 := wr _ (by omega) (by omega)
   repeat apply za
   refine pwN [] h1' ?_
   intros
   repeat apply za
   refine zh rfl ?_
   repeat apply za
   refine pwN [] w1 ?_
   intros
   exact zu ((lb : Int) - 1) [] (by rw [if_pos h1]; omega) (by simp) rfl (by simp)
  ·have h1' : ¬ (m.a : Int) = m.b := by omega
   repeat apply za
   refine pwN [] h1' ?_
   intros
   repeat apply za
   refine zj rfl ?_
   refine zd ?_
   exact zu (lb : Int) [] (by rw [if_neg h1]; omega) (by simp) rfl (by simp)
 ·intro z hz
  by_cases h2 : m.i < la
  case neg =>
   repeat apply za
   refine pwN [(4, 19), (12, 27), (18, 33)] (jn2 h2 zn) ?_
   intros
   repeat apply za
   exact zb (zg hd rfl (by simp [h2, zi]))
  by_cases h3 : (m.j : Int) ≤ z
  case neg =>
   have h4 := (not_congr hz).1 h3
   repeat apply za
   refine pwN [(4, 19), (12, 27), (18, 33)] (jn2 h2 h3) ?_
   intros
   repeat apply za
   exact zb (zg hd rfl (by simp [h2, h4, zi]))
  have h4 := hz.1 h3
  repeat apply za
  refine pwN [(4, 19), (12, 27), (18, 33)] (jn2 h2 h3) ?_
  intros
  repeat apply za
  exact zb (zg hd rfl (by simp [h2, h4, zi]))
set_option maxRecDepth 20000 in
theorem ZgM (m : Mv) (la lb : Nat) (hk : m.k = 2) : Pure Tryz.prog 235 [.agg (vwL m la lb)] (B (jz m la lb)) := by
 unfold jz
 rw [if_neg (by omega), if_neg (by omega), if_pos hk]
 refine pwe Tryz.func235 Tryz.ntmps235 Tryz.results235 fun S nx hd => ?_
 repeat apply za
 refine pwn ?_
 intro v0
 have rest : ∀ (P : Prop), (m.i < la → m.j < lb → P) → (¬ (m.i < la ∧ m.j < lb) → P) → P := fun P a b => by
  by_cases q : m.i < la ∧ m.j < lb
  ·exact a q.1 q.2
  ·exact b q
 by_cases h1 : m.b < m.a
 ·repeat apply za
  refine pwN [(7, 10), (15, 18)] (jn2 h1 zn) ?_
  intros
  repeat apply za
  refine zh rfl ?_
  (repeat apply za); refine pwn ?_; intros
  repeat apply za
  exact zb (zg hd rfl (by simp [h1, zi]))
 by_cases h2 : m.a = m.b
 ·have h2' : (m.a : Int) = m.b := by omega
  by_cases h3 : m.j ≤ m.i
  ·have h1' : ¬ m.b < m.b := by omega
   repeat apply za
   refine pwN [(7, 10), (15, 18)] (jn3 h2' h1' h3) ?_
   intros
   repeat apply za
   refine zh rfl ?_
   (repeat apply za); refine pwn ?_; intros
   repeat apply za
   exact zb (zg hd rfl (by simp [h2, h3, zi]))
  ·have h1' : ¬ m.b < m.b := by omega
   have h0 : ¬ (m.b < m.a ∨ m.a = m.b ∧ m.j ≤ m.i) := by omega
   repeat apply za
   refine pwN [(7, 10), (15, 18)] (jn3 h2' h1' h3) ?_
   intros
   repeat apply za
   refine zj rfl ?_
   refine zd ?_
   by_cases h4 : m.i < la
   case neg =>
    repeat apply za
    refine pwN [(4, 32), (12, 40), (18, 46)] (jn2 h4 zn) ?_
    intros
    repeat apply za
    exact zb (zg hd rfl (by simp [h4, zi]))
   by_cases h5 : m.j < lb
   case neg =>
    repeat apply za
    refine pwN [(4, 32), (12, 40), (18, 46)] (jn2 h4 h5) ?_
    intros
    repeat apply za
    exact zb (zg hd rfl (by simp [h5, zi]))
   repeat apply za
   refine pwN [(4, 32), (12, 40), (18, 46)] (jn2 h4 h5) ?_
   intros
   repeat apply za
   exact zb (zg hd rfl (by simp [h0, h4, h5, zi]))
 ·have h2' : ¬ (m.a : Int) = m.b := by omega
  have h0 : ¬ (m.b < m.a ∨ m.a = m.b ∧ m.j ≤ m.i) := by omega
  repeat apply za
  refine pwN [(7, 10), (15, 18)] (jn3 h1 h2' zn) ?_
  intros
  repeat apply za
  refine zj rfl ?_
  refine zd ?_
  by_cases h4 : m.i < la
  case neg =>
   repeat apply za
   refine pwN [(4, 32), (12, 40), (18, 46)] (jn2 h4 zn) ?_
   intros
   repeat apply za
   exact zb (zg hd rfl (by simp [h4, zi]))
  by_cases h5 : m.j < lb
  case neg =>
   repeat apply za
   refine pwN [(4, 32), (12, 40), (18, 46)] (jn2 h4 h5) ?_
   intros
   repeat apply za
   exact zb (zg hd rfl (by simp [h5, zi]))
  repeat apply za
  refine pwN [(4, 32), (12, 40), (18, 46)] (jn2 h4 h5) ?_
  intros
  repeat apply za
  exact zb (zg hd rfl (by simp [h0, h4, h5, zi]))
set_option maxRecDepth 20000 in
theorem ZgN (m : Mv) (la lb : Nat) (hk : 3 ≤ m.k) : Pure Tryz.prog 237 [.agg (vwL m la lb)] (B (jz m la lb)) := by
 unfold jz
 rw [if_neg (by omega), if_neg (by omega), if_neg (by omega)]
 refine pwe Tryz.func237 Tryz.ntmps237 Tryz.results237 fun S nx hd => ?_
 repeat apply za
 refine pwn ?_
 intro v0
 by_cases h1 : m.a < m.b
 case neg =>
  repeat apply za
  refine pwN [(7, 10), (13, 16), (21, 24), (27, 30)] (jn2 h1 zn) ?_
  intros
  repeat apply za
  exact zb (zg hd rfl (by simp [h1, zi]))
 by_cases h2 : m.i ≤ la
 case neg =>
  repeat apply za
  refine pwN [(7, 10), (13, 16), (21, 24), (27, 30)] (jn3 h1 h2 zn) ?_
  intros
  repeat apply za
  exact zb (zg hd rfl (by simp [h2, zi]))
 by_cases h3 : m.j ≤ lb
 case neg =>
  repeat apply za
  refine pwN [(7, 10), (13, 16), (21, 24), (27, 30)] (jn3 h1 h2 h3) ?_
  intros
  repeat apply za
  exact zb (zg hd rfl (by simp [h3, zi]))
 repeat apply za
 refine pwN [(7, 10), (13, 16), (21, 24), (27, 30)] (jn3 h1 h2 h3) ?_
 intros
 repeat apply za
 exact zb (zg hd rfl (by simp [h1, h2, h3, zi]))
set_option maxRecDepth 20000 in
theorem ZgO (m : Mv) (la lb : Nat) (hk : m.k = 0) (hi : m.i ≤ 1048576) (hj : m.j ≤ 1048576) : Pure Tryz.prog 232 [.agg (vwL m la lb)] (.tup [.agg (rwL (qB m la lb).1), .agg (rwL (qB m la lb).2)]) := by
 have wi := wrN m.i (by omega)
 have wj := wrN m.j (by omega)
 unfold qB
 rw [if_pos hk]
 refine pwe Tryz.func232 Tryz.ntmps232 Tryz.results232 fun S nx hd => ?_
 repeat apply za
 refine pwn ?_
 intro v0 v1 v2
 repeat apply za
 refine pwY (some [nx]) (Row.pures [0, 1, 2, 3, 4, 5, 6, 7, 8, 9, 10, 11] .done) mixed trivial ?_
 intros
 repeat apply za
 refine pwN [] wj ?_
 intros
 repeat apply za
 exact zb (zg hd (by simp; rfl) (by simp [zi, rw0, pc0]))
set_option maxRecDepth 20000 in
theorem ZgP (m : Mv) (la lb : Nat) (hk : 3 ≤ m.k) : Pure Tryz.prog 238 [.agg (vwL m la lb)] (.tup [.agg (rwL (qB m la lb).1), .agg (rwL (qB m la lb).2)]) := by
 unfold qB
 rw [if_neg (by omega), if_neg (by omega), if_neg (by omega)]
 refine pwe Tryz.func238 Tryz.ntmps238 Tryz.results238 fun S nx hd => ?_
 repeat apply za
 refine pwn ?_
 intro v0 v1 v2
 repeat apply za
 refine pwY (some [nx]) (Row.pures [0, 1, 2, 3, 4, 5, 6, 7, 8, 9, 10, 11, 12, 13, 14, 15] .done) mixed trivial ?_
 intros
 repeat apply za
 refine pwY (some [nx]) (Row.pures [0, 1, 2, 3, 4, 5, 6, 7, 8, 9, 10, 11, 12, 13, 14, 15, 16, 17] (.alt 18 (.alt 19 (.done) .stop) .stop)) mixed trivial ?_
 intros
 repeat apply za
 exact zb (zg hd (by simp; rfl) (by simp [zi, rw0, pc0]))
set_option maxRecDepth 20000 in
theorem ZgQ (m : Mv) (la lb : Nat) (hk : m.k = 1) (hi : m.i ≤ 1048576) (hj : m.j ≤ 1048576) : Pure Tryz.prog 234 [.agg (vwL m la lb)] (.tup [.agg (rwL (qB m la lb).1), .agg (rwL (qB m la lb).2)]) := by
 have wi := wrN m.i (by omega)
 have wj := wrN m.j (by omega)
 unfold qB
 rw [if_neg (by omega), if_pos hk]
 refine pwe Tryz.func234 Tryz.ntmps234 Tryz.results234 fun S nx hd => ?_
 repeat apply za
 refine pwn ?_
 intro v0 v1 v2
 repeat apply za
 refine pwY (some [nx]) (Row.pures [0, 1, 2, 3, 4, 5, 6, 7, 8, 9, 10, 11, 12, 13, 14, 15] .done) mixed trivial ?_
 intros
 repeat apply za
 refine pwN [] wi ?_
 intro v3
 refine za (ze ?_)
 by_cases h1 : m.a = m.b
 case neg =>
  have h1' : ¬ (m.a : Int) = m.b := by omega
  rw [if_pos h1]
  repeat apply za
  refine pwN [] h1' ?_
  intros
  repeat apply za
  refine zh rfl ?_
  repeat apply za
  refine pwY (some [nx, nx + 3]) (Row.pures [0, 1, 2, 3, 4, 5, 6, 7, 8, 9, 10, 11, 12, 13, 14, 15, 16, 17, 18, 19] (.alt 20 (.alt 21 (.done) .stop) .stop)) mixed wi ?_
  intros
  repeat apply za
  exact zb (zg hd (by simp; rfl) (by simp [zi, rw0, pc0]))
 have h1' : (m.a : Int) = m.b := by omega
 rw [if_neg (by simpa using h1)]
 repeat apply za
 refine pwN [] h1' ?_
 intros
 repeat apply za
 refine zj rfl ?_
 by_cases h2 : m.i < m.j
 ·rw [if_pos h2]
  repeat apply za
  refine pwN [] h2 ?_
  intros
  repeat apply za
  refine zh rfl ?_
  repeat apply za
  refine pwN [] (jn2 wi wj) ?_
  intros
  repeat apply za
  exact zb (zg hd (by simp; rfl) (by simp [zi, rw0, pc0, h1]))
 ·rw [if_neg h2]
  repeat apply za
  refine pwN [] h2 ?_
  intros
  repeat apply za
  refine zj rfl ?_
  refine zd ?_
  repeat apply za
  refine pwN [] (jn2 wi wj) ?_
  intros
  repeat apply za
  exact zb (zg hd (by simp; rfl) (by simp [zi, rw0, pc0, h1]))
set_option maxRecDepth 20000 in
theorem ZgR (m : Mv) (la lb : Nat) (hk : m.k = 2) (hi : m.i ≤ 1048576) (hj : m.j ≤ 1048576) : Pure Tryz.prog 236 [.agg (vwL m la lb)] (.tup [.agg (rwL (qB m la lb).1), .agg (rwL (qB m la lb).2)]) := by
 have wi := wrN m.i (by omega)
 have wj := wrN m.j (by omega)
 unfold qB
 rw [if_neg (by omega), if_neg (by omega), if_pos hk]
 refine pwe Tryz.func236 Tryz.ntmps236 Tryz.results236 fun S nx hd => ?_
 repeat apply za
 refine pwn ?_
 intro v0 v1 v2
 repeat apply za
 refine pwY (some [nx]) (Row.pures [0, 1, 2, 3, 4, 5, 6, 7, 8, 9, 10, 11, 12, 13, 14, 15] .done) mixed trivial ?_
 intros
 repeat apply za
 refine pwN [] (jn2 wi wj) ?_
 intro v3 v4
 by_cases h1 : m.a = m.b
 ·have h1' : (m.a : Int) = m.b := by omega
  rw [if_pos h1]
  repeat apply za
  refine pwN [] h1' ?_
  intros
  repeat apply za
  refine zh rfl ?_
  repeat apply za
  refine pwN [] (jn2 wi wj) ?_
  intros
  repeat apply za
  exact zb (zg hd (by simp; rfl) (by simp [zi, rw0, pc0, h1]))
 ·have h1' : ¬ (m.a : Int) = m.b := by omega
  rw [if_neg h1]
  repeat apply za
  refine pwN [] h1' ?_
  intros
  repeat apply za
  refine zj rfl ?_
  refine zd ?_
  repeat apply za
  refine pwY (some [nx, nx + 3, nx + 4]) (Row.pures [0, 1, 2, 3, 4, 5, 6, 7, 8, 9, 10, 11, 12, 13, 14, 15, 16, 17, 18, 19, 20, 21] (.alt 22 (.alt 23 (.done) .stop) .stop)) mixed (jn2 wi wj) ?_
  intros
  repeat apply za
  exact zb (zg hd (by simp; rfl) (by simp [zi, rw0, pc0]))
open Go Go.Proofs
abbrev Y6 : List PV := [.fn (.func 231) [] [], .fn (.func 232) [] [], .fn (.func 233) [] [], .fn (.func 234) [] [], .fn (.func 235) [] [], .fn (.func 236) [] [], .fn (.func 237) [] [], .fn (.func 238) [] []]
set_option maxRecDepth 20000 in
theorem Zal : Pure Tryz.prog 197 [] (.agg Y6) := by
 refine pwe Tryz.func197 Tryz.ntmps197 Tryz.results197 fun S nx hd => ?_
 repeat apply za
 refine pwn ?_
 intro v0
 (repeat apply za); refine pwn ?_; intros
 repeat apply za
 exact zb (zg hd (by simp; rfl) rfl)
def tlen (d : Day) (t : Nat) : Nat := (d.getD t []).length
def qM (d : Day) (m : Mv) : Bool := decide (m.k ≤ 3 ∧ m.a < d.length ∧ m.b < d.length) && jz m (tlen d m.a) (tlen d m.b)
def zE (d : Day) (m : Mv) : Rw5 × Rw5 := qB m (tlen d m.a) (tlen d m.b)
def x5 (d : Day) (m : Mv) : Rw5 × Rw5 × Bool := if qM d m = true then ((zE d m).1, (zE d m).2, true) else (rw0, rw0, false)
set_option maxRecDepth 20000 in
set_option maxHeartbeats 1600000 in
theorem JR (d : Day) (m : Mv) (hdn : d.length ≤ 1048576) (hdt : ∀ t ∈ d, t.length ≤ 1048576) (hk : m.k ≤ 3) (ha : m.a < d.length) (hb : m.b < d.length) (hi : m.i ≤ 1048576) (hj : m.j ≤ 1048576) : Pure Tryz.prog 155 [.agg [L d], .agg (mvL m)]
  (.tup [.agg (rwL (x5 d m).1), .agg (rwL (x5 d m).2.1), B (x5 d m).2.2]) := by
 obtain ⟨ta, xa, a1, -, -, a0⟩ := el1 rfl d m.a ha
 obtain ⟨tb, xb, b1, -, -, b0⟩ := el1 rfl d m.b hb
 have ha1 : 1 ≤ d.length - m.a := by omega
 have hb1 : 1 ≤ d.length - m.b := by omega
 have la : tlen d m.a = ta.length := by unfold tlen; rw [List.getD_eq_getElem?_getD, a1]; rfl
 have lb : tlen d m.b = tb.length := by unfold tlen; rw [List.getD_eq_getElem?_getD, b1]; rfl
 have hbl := hdt tb (List.mem_of_getElem? b1)
 have hmay : qM d m = jz m ta.length tb.length := by unfold qM; rw [la, lb, decide_eq_true ⟨hk, ha, hb⟩]; rfl
 have hcut : zE d m = qB m ta.length tb.length := by unfold zE; rw [la, lb]
 unfold x5
 rw [hmay, hcut]
 clear hmay hcut la lb
 have call : ∀ f g : Nat, m.k = m.k → True := fun _ _ _ => trivial
 clear call
 have g1 : ¬ (m.k : Int) < 0 := by omega
 have g2 : ¬ (3 : Int) < m.k := by omega
 have g3 : ¬ (m.a : Int) < 0 := by omega
 have g4 : ¬ d.length ≤ m.a := by omega
 have g5 : ¬ (m.b : Int) < 0 := by omega
 have g6 : ¬ d.length ≤ m.b := by omega
 refine pwe Tryz.func155 Tryz.ntmps155 Tryz.results155 fun S nx hd => ?_
 repeat apply za
 refine pwn ?_
 intro v0 v1 v2 v3
 (repeat apply za); refine pwn ?_; intros
 repeat apply za
 refine pwN [(3, 18), (8, 23), (13, 28), (19, 34), (24, 39)] (jn6 g1 g2 g3 g4 g5 g6) ?_
 intros
 repeat apply za
 refine zj rfl ?_
 refine zd ?_
 repeat apply za
 refine pwY (some [nx, nx + 1]) (Row.pures [0, 1, 2, 3, 4, 5, 6, 7, 8, 9, 10, 11, 12, 13, 14, 15, 16, 17] (.alt 18 (.alt 19 (.done) .stop) .stop)) mixed (jn6 a0 b0 ha hb ha1 hb1) ?_
 intro v4
 obtain ⟨mf, cf, hmf, hcf, hidx⟩ : ∃ mf cf : Nat, Pure Tryz.prog mf [.agg (vwL m ta.length tb.length)] (B (jz m ta.length tb.length)) ∧ Pure Tryz.prog cf [.agg (vwL m ta.length tb.length)] (.tup [.agg (rwL (qB m ta.length tb.length).1), .agg (rwL (qB m ta.length tb.length).2)]) ∧
   ∃ k : Nat, (k : Int) = m.k ∧ k < 4 ∧ (Y6.drop (k * 2)).take 2 = [.fn (.func mf) [] [], .fn (.func cf) [] []] := by
  have h4 : m.k = 0 ∨ m.k = 1 ∨ m.k = 2 ∨ m.k = 3 := by omega
  rcases h4 with h | h | h | h
  ·exact ⟨_, _, ZgK m _ _ h, ZgO m _ _ h hi hj, 0, by omega, by omega, rfl⟩
  ·exact ⟨_, _, ZgL m _ _ h hbl, ZgQ m _ _ h hi hj, 1, by omega, by omega, rfl⟩
  ·exact ⟨_, _, ZgM m _ _ h, ZgR m _ _ h hi hj, 2, by omega, by omega, rfl⟩
  ·exact ⟨_, _, ZgN m _ _ (by omega), ZgP m _ _ (by omega), 3, by omega, by omega, rfl⟩
 obtain ⟨k, hkk, hk4, hkt⟩ := hidx
 obtain rfl : k = m.k := by omega
 have hk4' : (m.k : Int) < 4 := by omega
 have hk5 : 2 ≤ 8 - m.k * 2 := by omega
 generalize hmz : jz m ta.length tb.length = mz at *
 generalize hcz : qB m ta.length tb.length = cz at *
 obtain ⟨r1, r2⟩ := cz
 generalize hkl : Y6 = kl at hkt
 have hkinds := Zal
 rw [hkl] at hkinds
 have hkll : kl.length = 8 := by rw [← hkl]; rfl
 clear hkl
 repeat apply za
 refine pwY (some [nx + 1]) (Row.pures [0, 1, 2, 3] (.alt 4 (.alt 5 (.done) .stop) .stop)) mixed (jn5 hkt hk4 hk4' hkll hk5) ?_
 refine pwP (hkinds) (jn5 hkt hk4 hk4' hkll hk5) ?_
 intro v5
 intros
 repeat apply za
 refine pwn ?_
 refine pwc hmf ?_
 intros
 cases mz with
 | false =>
  repeat apply za
  refine zh rfl ?_
  (repeat apply za); refine pwn ?_; intros
  repeat apply za
  exact zb (zg hd (by simp; rfl) (by simp [zi, rw0, pc0]))
 | true =>
  repeat apply za
  refine zj rfl ?_
  refine zd ?_
  repeat apply za
  refine pwn ?_
  refine pwc hcf ?_
  intro v6 v7
  intros
  repeat apply za
  refine pwY (some [nx + 6, nx + 7]) (Row.pures [0, 1] (.alt 2 (.alt 3 (Row.pures [4] .done) .stop) .stop)) mixed trivial ?_
  intros
  repeat apply za
  exact zb (zg hd (by simp; rfl) (by simp [zi]))
open Go Go.Proofs
theorem Zam (l : List Stop) (k : Nat) (s : Stop) (h : k < l.length) : zK (l.flatMap Enc.enc) (k * 2) [I s.c, I s.q] = (l.set k s).flatMap Enc.enc := by
 unfold zK
 rw [List.set_eq_take_append_cons_drop, if_pos h, List.flatMap_append, List.flatMap_cons, ← wW Enc.enc 2 (fun _ => rfl) l k, ← uz Enc.enc 2 (fun _ => rfl) l (k + 1)]
 simp [show k * 2 + 2 = (k + 1) * 2 by omega]
def yO (l : List Stop) (k : Nat) : List Stop := (List.range l.length).map fun q => if q < k ∨ l.length - 1 - q < k then l.getD (l.length - 1 - q) default else l.getD q default
theorem j6 (l : List Stop) (k : Nat) : (yO l k).length = l.length := by simp [yO]
theorem uS {l : List Stop} {k q : Nat} (hq : q < l.length) : (yO l k)[q]? = some (if q < k ∨ l.length - 1 - q < k then l.getD (l.length - 1 - q) default else l.getD q default) := by
 unfold yO; rw [List.getElem?_map, List.getElem?_range hq]; rfl
theorem ZgS (l : List Stop) : yO l 0 = l := by
 apply List.ext_getElem?
 intro q
 by_cases h : q < l.length
 ·rw [uS h, if_neg (by omega), List.getD_eq_getElem?_getD, List.getElem?_eq_getElem h]; rfl
 ·rw [List.getElem?_eq_none (by rw [j6]; omega), List.getElem?_eq_none (by omega)]
theorem ZgT {l : List Stop} {k : Nat} (hk : l.length - 1 ≤ k + k) : yO l k = l.reverse := by
 apply List.ext_getElem?
 intro q
 by_cases h : q < l.length
 ·rw [uS h, List.getElem?_reverse h]
  by_cases h1 : q < k ∨ l.length - 1 - q < k
  ·rw [if_pos h1, List.getD_eq_getElem?_getD, List.getElem?_eq_getElem (by omega)]; rfl
  ·rw [if_neg h1, List.getD_eq_getElem?_getD]
   have : q = l.length - 1 - q := by omega
   rw [← this, List.getElem?_eq_getElem h]; rfl
 ·rw [List.getElem?_eq_none (by rw [j6]; omega), List.getElem?_eq_none (by simp; omega)]
theorem ZgU {l : List Stop} {k : Nat} (h : k < l.length - 1 - k) {a b : Stop} (ha : (yO l k)[k]? = some a) (hb : (yO l k)[l.length - 1 - k]? = some b) : ((yO l k).set k b).set (l.length - 1 - k) a = yO l (k + 1) := by
 rw [uS (by omega), if_neg (by omega)] at ha
 rw [uS (by omega), if_neg (by omega)] at hb
 cases ha; cases hb
 apply List.ext_getElem?
 intro q
 by_cases hq : q < l.length
 ·rw [uS hq, List.getElem?_set, List.getElem?_set]
  by_cases e1 : l.length - 1 - k = q
  ·rw [if_pos e1, if_pos (by rw [List.length_set, j6]; omega), if_pos (by omega)]
   congr 2; omega
  ·rw [if_neg e1]
   by_cases e2 : k = q
   ·subst e2
    rw [if_pos rfl, if_pos (by rw [j6]; exact hq), if_pos (by omega)]
   ·rw [if_neg e2, uS hq]
    by_cases h1 : q < k ∨ l.length - 1 - q < k
    ·rw [if_pos h1, if_pos (by omega)]
    ·rw [if_neg h1, if_neg (by omega)]
 ·rw [List.getElem?_eq_none (by rw [List.length_set, List.length_set, j6]; omega), List.getElem?_eq_none (by rw [j6]; omega)]
theorem Y7 (S : Store) (i : Nat) (a b : Ob) : (S.set i a).set i b = S.set i b := by
 funext o
 by_cases h : o = i
 ·subst h; rw [Store.set_same, Store.set_same]
 ·rw [Store.set_other _ _ _ _ h, Store.set_other _ _ _ _ h, Store.set_other _ _ _ _ h]
set_option maxRecDepth 20000 in
set_option maxHeartbeats 1600000 in
theorem ZgV {S : Store} {id ver : Nat} (pre l : List Stop) (hn : (pre ++ l).length ≤ 1048576) (hid : S id = .cells ver 50 ((pre ++ l).flatMap Enc.enc)) :
  Spec Tryz.prog 201 [.sl id ver 2 (pre.length * 2) l.length] S (fun _ S' => S' = S.set id (.cells ver 50 ((pre ++ l.reverse).flatMap Enc.enc))) := by
 refine jg Tryz.func201 Tryz.ntmps201 Tryz.results201 fun nx hd => ?_
 have hlt : id < nx := yL hd hid (by simp)
 simp only [List.length_append] at hn
 have w0 : IntKind.i64.wrap ((l.length : Int) - 1) = (l.length : Int) - 1 := wr _ (by omega) (by omega)
 repeat apply za
 refine pwN [] w0 ?_
 intros
 repeat apply za
 refine ze (qT (σ := Nat) (fun k => k ≤ l.length) (fun k => [(0, .sl id ver 2 (pre.length * 2) l.length), (2, I k), (3, I ((l.length : Int) - 1 - k))]) (fun k => S.set id (.cells ver 50 ((pre ++ yO l k).flatMap Enc.enc))) (fun _ => []) (fun k => l.length - k) (zu 0 [] (by simp) (by simp) (by rw [ZgS]; exact uI S id _ hid) (by simp)) ?_)
 rintro k hk
 show PW _ _ _ _ _ _ _ (ext (S.set id (.cells ver 50 ((pre ++ yO l k).flatMap Enc.enc))) nx [])
 obtain ⟨T, hT⟩ : ∃ T, T = S.set id (.cells ver 50 ((pre ++ yO l k).flatMap Enc.enc)) := ⟨_, rfl⟩
 rw [← hT]
 (repeat apply za); refine pwn ?_; intros
 repeat apply za
 refine zl rfl (fun hc => ?_) (fun hc => ?_)
 ·simp at hc
  have h1 : k < l.length - 1 - k := by omega
  have x1 := j6 l k
  obtain ⟨a, ta, a1, -, -, -, a0⟩ := el 2 rfl (pre ++ yO l k) (pre.length + k) (by simp [j6]; omega)
  obtain ⟨b, tb, b1, -, -, -, b0⟩ := el 2 rfl (pre ++ yO l k) (pre.length + (l.length - 1 - k)) (by simp [j6]; omega)
  have hst := ZgU h1 (a := a) (b := b) (by rw [← a1, List.getElem?_append_right (by omega), Nat.add_sub_cancel_left]) (by rw [← b1, List.getElem?_append_right (by omega), Nat.add_sub_cancel_left])
  have sp1 := Zam (pre ++ yO l k) (pre.length + k) b (by simp [j6]; omega)
  have sp2 := Zam ((pre ++ yO l k).set (pre.length + k) b) (pre.length + (l.length - 1 - k)) a (by simp [j6]; omega)
  have hs2 : ((pre ++ yO l k).set (pre.length + k) b).set (pre.length + (l.length - 1 - k)) a = pre ++ yO l (k + 1) := by
   rw [List.set_append_right _ _ (by omega), List.set_append_right _ _ (by omega), Nat.add_sub_cancel_left, Nat.add_sub_cancel_left, hst]
  rw [hs2] at sp2
  have hjj : (l.length : Int) - 1 - k = ((l.length - 1 - k : Nat) : Int) := by omega
  generalize l.length - 1 - k = j at *
  generalize hw0 : ((pre ++ yO l k).flatMap Enc.enc : List PV) = c0 at *
  generalize hw1 : (((pre ++ yO l k).set (pre.length + k) b).flatMap Enc.enc : List PV) = c1 at *
  have l0 : c0.length = (pre.length + l.length) * 2 := by rw [← hw0, w8]; simp [j6]
  have l1 : c1.length = (pre.length + l.length) * 2 := by rw [← hw1, w8]; simp [j6]
  have hTid : T id = .cells ver 50 c0 := by rw [hT]; exact Store.set_same _ _ _
  have xid := fun obs => zy (S := T) (obs := obs) hlt
  have xid1 := fun obs => zy (S := T.set id (.cells ver 50 c1)) (obs := obs) hlt
  have hs1 : (T.set id (.cells ver 50 c1)) id = .cells ver 50 c1 := Store.set_same _ _ _
  have hq1 : k + 1 ≤ l.length := by omega
  have q1 : pre.length * 2 + k * 2 = (pre.length + k) * 2 := by omega
  have q2 : pre.length * 2 + j * 2 = (pre.length + j) * 2 := by omega
  have q3 : j < l.length := by omega
  have q4 : k < l.length := by omega
  have q5 : ¬ nx ≤ id := by omega
  refine zd (za (ze ?_))
  rw [hjj]
  repeat apply za
  refine pwY (some []) (Row.pures [0, 1, 2, 3, 4, 5, 6, 8, 9, 10] (.alt 7 (.alt 11 (Row.pures [12] (.alt 13 (Row.pures [14] (.alt 15 (.done) .stop)) .stop)) .stop) (.alt 11 (.alt 7 (Row.pures [12] (.alt 13 (Row.pures [14] (.alt 15 (.done) .stop)) .stop)) .stop) .stop))) mixed (jn6 xid hTid q1 q2 a0 (jn2 (jn6 b0 q3 q4 q5 l0 sp1) (jn4 hs1 xid1 sp2 l1))) ?_
  have wj : IntKind.i64.wrap ((j : Int) - 1) = (l.length : Int) - 1 - ((k + 1 : Nat) : Int) := by rw [wr _ (by omega) (by omega)]; omega
  have wk := wrN k (by omega)
  have hfin : S.set id (.cells ver 50 ((pre ++ yO l (k + 1)).flatMap Enc.enc)) = (T.set id (.cells ver 50 c1)).set id (.cells ver 50 ((pre ++ yO l (k + 1)).flatMap Enc.enc)) := by rw [hT, Y7, Y7]
  have happ : ((pre ++ yO l (k + 1)).flatMap Enc.enc : List PV) = pre.flatMap Enc.enc ++ (yO l (k + 1)).flatMap Enc.enc := by rw [List.flatMap_append]
  rw [happ] at hfin
  refine ⟨?_, ?_⟩
  ·refine ⟨by omega, by omega, ?_⟩
   intros
   repeat apply za
   refine pwN [] (jn2 wk wj) ?_
   intros
   exact zk (k + 1) [] hq1 (by omega) (by simp) (by rw [happ, hT]; simp only [Y7]) (by simp)
  ·refine ⟨by omega, by omega, ?_⟩
   intros
   repeat apply za
   refine pwN [] (jn2 wk wj) ?_
   intros
   exact zk (k + 1) [] hq1 (by omega) (by simp) (by rw [happ, hT]; simp only [Y7]) (by simp)
 ·simp at hc
  refine zm ?_
  refine ⟨[], T, rfl, ?_, zM ?_⟩
  ·rw [hT, ZgT (by omega)]
  ·rw [hT]
   intro i hi
   rw [Store.set_other _ _ _ _ (by omega)]; exact hd i hi
open Go Go.Proofs
def yk (d : Day) (p : Pc) : List Stop := if p.f < p.o then (bif p.b then (((d.getD p.t []).drop p.f).take (p.o - p.f)).reverse else ((d.getD p.t []).drop p.f).take (p.o - p.f)) else []
def zS (d : Day) (r : Rw5) : List Stop := r.l.flatMap (yk d)
def uT (d : Day) (p : Pc) : Prop := p.f < p.o → p.t < d.length ∧ p.o ≤ tlen d p.t
def j7 (d : Day) (r : Rw5) : Prop := ∀ p ∈ r.l, uT d p
theorem ZgW (d : Day) : j7 d rw0 := by
 intro p hp h
 simp [Rw5.l, rw0] at hp
 subst hp
 exact absurd h (by decide)
theorem Y8 (r : Rw5) {k : Nat} (h : k < 5) : ∃ p, r.l[k]? = some p ∧ ((rwL r).drop (k * 4)).take 4 = pcL p ∧ r.l.take (k + 1) = r.l.take k ++ [p] := by
 have h5 : k = 0 ∨ k = 1 ∨ k = 2 ∨ k = 3 ∨ k = 4 := by omega
 rcases h5 with rfl | rfl | rfl | rfl | rfl <;> exact ⟨_, rfl, rfl, rfl⟩
theorem Zan {d : Day} {p : Pc} {m : Nat} (h : ∀ t ∈ d, t.length ≤ m) : (yk d p).length ≤ m := by
 have hg : (d.getD p.t []).length ≤ m := by
  rw [List.getD_eq_getElem?_getD]
  cases hq : d[p.t]? with
  | none => simp
  | some l => exact h l (List.mem_of_getElem? hq)
 unfold yk
 generalize d.getD p.t [] = l at *
 split
 ·cases p.b <;> simp <;> omega
 ·simp
set_option maxRecDepth 20000 in
set_option maxHeartbeats 1600000 in
theorem Zao (d : Day) (r : Rw5) (hdn : d.length ≤ 1048576) (hdt : ∀ t ∈ d, t.length ≤ 1000) (hr : j7 d r) : Pure Tryz.prog 158 [.agg [L d], .agg (rwL r)] (L (zS d r)) := by
 have hat := fun k (h : k < 5) => Y8 r h
 have hz : zS d r = (r.l.take 5).flatMap (yk d) := by unfold zS; rw [List.take_of_length_le (by simp [Rw5.l])]
 rw [hz]
 clear hz
 have hcl : (rwL r).length = 20 := rfl
 have hct : (rwL r).take 20 = rwL r := rfl
 have hpl := fun p => Zan (d := d) (p := p) hdt
 have hgl : ∀ k, ((r.l.take k).flatMap (yk d)).length ≤ 1000 * k := by
  intro k
  induction k with
  | zero => simp
  | succ k ih =>
   by_cases hk : k < 5
   ·obtain ⟨p, -, -, e⟩ := hat k hk
    rw [e, List.flatMap_append, List.length_append]
    have := hpl p
    simp only [List.flatMap_cons, List.flatMap_nil, List.append_nil]; omega
   ·rw [List.take_of_length_le (by simp [Rw5.l]; omega)] at ih ⊢; omega
 have hrl : r.l.length = 5 := rfl
 generalize hrc : rwL r = rc at *
 refine pwe Tryz.func158 Tryz.ntmps158 Tryz.results158 fun S nx hd => ?_
 repeat apply za
 refine pwn ?_
 intro v0 v1
 (repeat apply za); refine pwn ?_; intros
 refine za (yQ 5 50 2 rfl fun v2 => ?_)
 repeat apply za
 refine pwN [] (jn2 hcl hct) ?_
 intros
 repeat apply za
 refine ze (zq (fun s' : Nat × Nat => s'.1 ≤ 5) (fun (k, v2) => [(2, .ptr nx v0 0), (3, .ptr (nx + 1) v1 0), (5, .sl (nx + 2) v2 2 0 ((r.l.take k).flatMap (yk d)).length), (9, .agg rc), (10, I k)]) (fun (k, v2) => [.cells v0 66 [L d], .cells v1 202 rc, .cells v2 50 (((r.l.take k).flatMap (yk d)).flatMap Enc.enc)]) (fun s' => 5 - s'.1) (0, v2) [] (by simp) (by simp) (by simp) ?_)
 rintro ⟨k, v2⟩ hk
 simp only at hk ⊢
 by_cases hk5 : k < 5
 ·obtain ⟨p, hp1, hp2, hp3⟩ := hat k hk5
  have hk5' : (k : Int) < 5 := by omega
  have hk6 : 4 ≤ 20 - k * 4 := by omega
  have hok := hr p (List.mem_of_getElem? hp1)
  have hol := hgl k
  have hnx : (r.l.take (k + 1)).flatMap (yk d) = (r.l.take k).flatMap (yk d) ++ yk d p := by rw [hp3, List.flatMap_append]; simp
  have hol2 := hpl p
  generalize (r.l.take k).flatMap (yk d) = out at *
  have wk := wrN k (by omega)
  repeat apply za
  refine pwN [] hk5' ?_
  intros
  repeat apply za
  refine zh rfl ?_
  refine zd (za (ze ?_))
  repeat apply za
  refine pwN [] (jn5 hp2 hk5 hk5' hcl hk6) ?_
  intro v3
  by_cases hfo : p.f < p.o
  case neg =>
   have hpz : yk d p = [] := by unfold yk; rw [if_neg hfo]
   have hfo' : p.o ≤ p.f := by omega
   repeat apply za
   refine pwN [] hfo' ?_
   intros
   repeat apply za
   refine zh (by simp [hfo']) ?_
   refine zm ?_
   (repeat apply za); refine pwn ?_; intros
   exact zk (k + 1, v2) [_] (by simp; omega) (by simp; omega) (by simp [wk, hnx, hpz]) rfl (by simp [hnx, hpz]; rfl)
  obtain ⟨ht, ho⟩ := hok hfo
  obtain ⟨t, tt, t1, -, -, t0⟩ := el1 rfl d p.t ht
  have ht1 : 1 ≤ d.length - p.t := by omega
  have htg : d.getD p.t [] = t := by rw [List.getD_eq_getElem?_getD, t1]; rfl
  unfold tlen at ho
  rw [htg] at ho
  have hpz : yk d p = bif p.b then ((t.drop p.f).take (p.o - p.f)).reverse else (t.drop p.f).take (p.o - p.f) := by unfold yk; rw [if_pos hfo, htg]
  have hfo' : ¬ p.o ≤ p.f := by omega
  have hsl : ((t.flatMap Enc.enc : List PV).drop (p.f * 2)).take ((p.o - p.f) * 2) = ((t.drop p.f).take (p.o - p.f)).flatMap Enc.enc := by rw [uz Enc.enc 2 (fun _ => rfl) t p.f, wW Enc.enc 2 (fun _ => rfl) (t.drop p.f) (p.o - p.f)]
  have hsl2 : ((t.drop p.f).take (p.o - p.f)).length = p.o - p.f := by simp; omega
  have hsl3 : (((t.drop p.f).take (p.o - p.f)).flatMap Enc.enc : List PV).length = (p.o - p.f) * 2 := by rw [w8, hsl2]
  generalize (t.drop p.f).take (p.o - p.f) = sg at *
  have hof : (out.flatMap Enc.enc : List PV).length = out.length * 2 := w8 out
  have hot : (out.flatMap Enc.enc : List PV).take (out.length * 2) = out.flatMap Enc.enc := List.take_of_length_le (by omega)
  have q1 : p.f ≤ p.o := by omega
  have htl := hdt t (List.mem_of_getElem? t1)
  repeat apply za
  refine pwN [] hfo' ?_
  intros
  repeat apply za
  refine zj (by simp [hfo']) ?_
  refine zd ?_
  (repeat apply za); refine pwn ?_; intros
  repeat apply za
  refine pwY (some [nx, nx + 3]) (Row.pures [0, 1, 2, 3, 4, 5, 6, 7, 8, 9, 10, 11, 12] (.alt 13 (Row.pures [14] .done) .stop)) mixed (jn6 t0 ht ht1 hof hot (jn4 hsl hsl2 q1 ho)) ?_
  refine ⟨by omega, ?_⟩
  intros
  have hsgl : sg.length ≤ 1000 := by
   have h1 := hdt t (List.mem_of_getElem? t1)
   omega
  cases hpb : p.b with
  | false =>
   rw [hpb] at hpz
   simp only [cond_false] at hpz
   repeat apply za
   refine pwN [] hpb ?_
   intros
   repeat apply za
   refine zj rfl ?_
   refine zd ?_
   (repeat apply za); refine pwn ?_; intros
   exact zk (k + 1, v2 + 1) [_] (by simp; omega) (by simp; omega) (by simp [wk, hnx, hpz, hsl2]) rfl (by simp [hnx, hpz]; rfl)
  | true =>
   rw [hpb] at hpz
   simp only [cond_true] at hpz
   have hrev := fun (S : Store) (id ver : Nat) h => ZgV (S := S) (id := id) (ver := ver) out sg (by simp; omega) h
   rw [hsl2] at hrev
   repeat apply za
   refine pwN [] hpb ?_
   intros
   repeat apply za
   refine zh rfl ?_
   repeat apply za
   refine zO [] (by rfl) (by rfl) fun K Gc Gh hK hGc hGh X hX0 hX => ?_
   simp -implicitDefEqProofs [hX0, hX]
   try clear hX0 hX X
   refine hGc _ _ _ _ _ _ _ fun hsuf => ((hrev _ _ _ (by rw [yK, List.flatMap_append]; rfl)).mono ?_).v
   rintro _ _ rfl
   refine ⟨_, _, qb _ (by omega) (by simp), ?_⟩
   clear hGc hGh
   clear Gc Gh
   refine zJ hsuf (D := []) (by rfl) fun Gc Gh hGc hGh X hX0 hX => ?_
   simp -implicitDefEqProofs [hX0, hX, (show nx + 2 - nx = 2 by omega)]
   clear hX0 hX X
   intros
   refine hK _ _ _ ?_
   clear hK hGc hGh
   clear K Gc Gh
   (repeat apply za); refine pwn ?_; intros
   exact zk (k + 1, v2 + 1) [_] (by simp; omega) (by simp; omega) (by simp [wk, hnx, hpz, hsl2]) rfl (by simp [hnx, hpz]; rfl)
 ·obtain rfl : k = 5 := by omega
  generalize (r.l.take 5).flatMap (yk d) = out at *
  (repeat apply za); refine pwn ?_; intros
  repeat apply za
  refine zj rfl ?_
  refine zm ?_
  refine zB 2 rfl ?_
  (repeat apply za); refine pwn ?_; intros
  repeat apply za
  exact zb (zg hd (by simp; rfl) (by simp [zi]))
open Go Hp
theorem Zap {α : Type} {d : List α} (hn : d.Nodup) {i j : Nat} {t : α} (hi : d[i]? = some t) (hj : d[j]? = some t) : i = j := by
 obtain ⟨g1, g2⟩ := List.getElem?_eq_some_iff.1 hi
 obtain ⟨g3, g4⟩ := List.getElem?_eq_some_iff.1 hj
 have hp := List.pairwise_iff_getElem.1 hn
 rcases Nat.lt_trichotomy i j with h | h | h
 ·exact absurd (g2.trans g4.symm) (hp i j g1 g3 h)
 ·exact h
 ·exact absurd (g4.trans g2.symm) (hp j i g3 g1 h)
def qq (f : zp → Bool) : Day → Int
 | [] => -1
 | t :: d => if 0 ≤ qq f d then qq f d + 1 else if f t then 0 else -1
theorem Zaq (f : zp → Bool) : ∀ d : Day, (qq f d = -1 ∧ ∀ t ∈ d, f t = false) ∨ ∃ (k : Nat) (t : zp), d[k]? = some t ∧ f t = true ∧ qq f d = k
 | [] => .inl ⟨rfl, fun t h => by cases h⟩
 | u :: d => by
  unfold qq
  rcases Zaq f d with ⟨h1, h2⟩ | ⟨k, t, h1, h2, h3⟩
  ·rw [h1, if_neg (by omega)]
   cases hu : f u with
   | true => exact .inr ⟨0, u, rfl, hu, by simp⟩
   | false =>
    refine .inl ⟨by simp, fun t ht => ?_⟩
    rcases List.mem_cons.1 ht with rfl | ht
    ·exact hu
    ·exact h2 t ht
  ·rw [h3, if_pos (by omega)]
   exact .inr ⟨k + 1, t, by simpa using h1, h2, by simp⟩
def JS (d : Day) (a b : Nat) (t : zp) (k : Nat) : Day := (List.range k).flatMap fun j => if j = a then [t] else if j = b then [] else [d.getD j []]
def wH (c : Int) (t : zp) : Bool := decide (wE t = some c)
def wI (c : Int) (t : zp) : Bool := decide (vf t = some c)
def wJ (x : Inst) (d : Day) (p : Pr) : Day :=
 if qq (wH p.a) d < 0 ∨ qq (wI p.b) d < 0 ∨ qq (wH p.a) d = qq (wI p.b) d ∨ (p.s ≤ 0 ∧ (d.length : Int) ≤ x.veh) then d
 else if zr x (d.getD (qq (wH p.a) d).toNat [] ++ d.getD (qq (wI p.b) d).toNat []) = 0 then
  JS d (qq (wH p.a) d).toNat (qq (wI p.b) d).toNat (d.getD (qq (wH p.a) d).toNat [] ++ d.getD (qq (wI p.b) d).toNat []) d.length
 else d
theorem JT {α β γ : Type} {f : α → List γ} {g : β → List γ} : ∀ (A : List α) (B : List β), A.length = B.length → (∀ (j : Nat) a b, A[j]? = some a → B[j]? = some b → f a = g b) → A.flatMap f = B.flatMap g
 | [], [], _, _ => rfl
 | a :: A, b :: B, hl, h => by
  rw [List.flatMap_cons, List.flatMap_cons, h 0 a b rfl rfl, JT A B (by simpa using hl) fun j a b ha hb => h (j + 1) a b (by simpa using ha) (by simpa using hb)]
 | [], _ :: _, hl, _ => by simp at hl
 | _ :: _, [], hl, _ => by simp at hl
theorem JU {α : Type} (p : α → Bool) : ∀ l : List α, l.filter p = l.flatMap fun a => if p a then [a] else []
 | [] => rfl
 | a :: l => by
  rw [List.flatMap_cons, ← JU p l, List.filter_cons]
  cases p a <;> simp
structure Apt (T : Day) : Prop where
 u : ∀ (i j : Nat) t s s', T[i]? = some t → s ∈ t → ∀ t', T[j]? = some t' → s' ∈ t' → s.c = s'.c → i = j
theorem JI.apt {ss : List Stop} {T : Day} {g : Int → Option Int} (h : JI ss T g) : Apt T := ⟨fun i j t s s' hi hs t' hj hs' e => by
 have e1 := h.g i t s hi hs
 have e2 := h.g j t' s' hj hs'
 rw [e, e2] at e1
 have := Option.some.inj e1
 omega⟩
abbrev ne (t : zp) : Bool := !t.isEmpty
theorem ZR {t : zp} (h : ne t = true) : ∃ s, s ∈ t := by
 cases t with
 | nil => cases h
 | cons s t => exact ⟨s, by simp⟩
theorem ZS {t : zp} {s : Stop} (h : s ∈ t) : ne t = true := by
 cases t with
 | nil => cases h
 | cons s t => rfl
def uU (ta tb u : zp) : Day := if u = ta then [ta ++ tb] else if u = tb then [] else [u]
theorem ZgX {T : Day} (hA : Apt T) {i k : Nat} {ta tb : zp} (hi : T[i]? = some ta) (hk : T[k]? = some tb) (hik : i ≠ k) (ha : ne ta = true) (hb : ne tb = true) :
  ((T.set i (ta ++ tb)).set k []).filter ne = (T.filter ne).flatMap (uU ta tb) := by
 rw [JU ne T, List.flatMap_assoc, JU]
 refine JT _ _ (by simp) fun j u v hu hv => ?_
 obtain ⟨sa, hsa⟩ := ZR ha
 obtain ⟨sb, hsb⟩ := ZR hb
 have hjl := (List.getElem?_eq_some_iff.1 hv).1
 by_cases h1 : k = j
 ·subst h1
  rw [List.getElem?_set_self (by simpa using hjl)] at hu
  cases hu
  obtain rfl : tb = v := by rw [hk] at hv; exact Option.some.inj hv
  have hne : tb ≠ ta := by
   rintro rfl
   exact hik (hA.u i k tb sb sb hi hsb tb hk hsb rfl)
  rw [if_pos hb]
  simp [uU, hne]
 ·rw [List.getElem?_set_ne h1] at hu
  by_cases h2 : i = j
  ·subst h2
   rw [List.getElem?_set_self hjl] at hu
   cases hu
   obtain rfl : ta = v := by rw [hi] at hv; exact Option.some.inj hv
   rw [if_pos ha, if_pos (ZS (s := sa) (by simp [hsa]))]
   simp [uU]
  ·rw [List.getElem?_set_ne h2] at hu
   obtain rfl : u = v := by rw [hv] at hu; exact (Option.some.inj hu).symm
   cases hn : ne u with
   | false => simp
   | true =>
    obtain ⟨su, hsu⟩ := ZR hn
    have n1 : u ≠ ta := by rintro rfl; exact h2 (hA.u i j u su su hi hsu u hv hsu rfl)
    have n2 : u ≠ tb := by rintro rfl; exact h1 (hA.u k j u su su hk hsu u hv hsu rfl)
    simp [uU, n1, n2]
theorem ZgY {T : Day} (hA : Apt T) : (T.filter ne).Nodup := by
 rw [List.nodup_iff_pairwise_ne, List.pairwise_filter, List.pairwise_iff_getElem]
 intro i j hi hj hij h1 h2 e
 obtain ⟨s, hs⟩ := ZR h1
 have := hA.u i j T[i] s s (List.getElem?_eq_getElem hi) hs T[j] (List.getElem?_eq_getElem hj) (e ▸ hs) rfl
 omega
theorem ZgZ {d : Day} (hn : d.Nodup) {a b : Nat} {ta tb : zp} (ha : d[a]? = some ta) (hb : d[b]? = some tb) : JS d a b (ta ++ tb) d.length = d.flatMap (uU ta tb) := by
 unfold JS
 refine JT _ _ (by simp) fun j n u hj hu => ?_
 rw [List.getElem?_range (List.getElem?_eq_some_iff.1 hu).1] at hj
 cases hj
 have same : ∀ {k : Nat} {t : zp}, d[k]? = some t → (j = k ↔ u = t) := by
  intro k t hk
  constructor
  ·rintro rfl; rw [hu] at hk; exact Option.some.inj hk
  ·rintro rfl; exact Zap hn hu hk
 have e1 := same ha
 have e2 := same hb
 have hg : d.getD j [] = u := by rw [List.getD_eq_getElem?_getD, hu]; rfl
 unfold uU
 by_cases h1 : j = a
 ·rw [if_pos h1, if_pos (e1.1 h1)]
 ·rw [if_neg h1, if_neg fun e => h1 (e1.2 e)]
  by_cases h2 : j = b
  ·rw [if_pos h2, if_pos (e2.1 h2)]
  ·rw [if_neg h2, if_neg fun e => h2 (e2.2 e), hg]
theorem Zar {T : Day} (hA : Apt T) {i : Nat} {t : zp} {s : Stop} (hi : T[i]? = some t) (hs : s ∈ t) (f : zp → Bool) (hf : ∀ u, f u = true → ∃ s' ∈ u, s'.c = s.c) :
  (f t = false ∧ qq f (T.filter ne) = -1) ∨ (f t = true ∧ ∃ k : Nat, (T.filter ne)[k]? = some t ∧ qq f (T.filter ne) = k) := by
 have uniq : ∀ u ∈ T.filter ne, f u = true → u = t := by
  intro u hu hfu
  obtain ⟨s', hs', e⟩ := hf u hfu
  obtain ⟨j, hj⟩ := List.mem_iff_getElem?.1 (List.mem_filter.1 hu).1
  have := hA.u i j t s s' hi hs u hj hs' e.symm
  subst this
  rw [hi] at hj; exact (Option.some.inj hj).symm
 have ht : t ∈ T.filter ne := List.mem_filter.2 ⟨List.mem_of_getElem? hi, ZS hs⟩
 rcases Zaq f (T.filter ne) with ⟨h1, h2⟩ | ⟨k, u, h1, h2, h3⟩
 ·exact .inl ⟨h2 t ht, h1⟩
 ·have := uniq u (List.mem_of_getElem? h1) h2
  subst this
  exact .inr ⟨h2, k, h1, h3⟩
theorem Zg0 {c : Int} {t : zp} (h : wH c t = true) : ∃ s ∈ t, s.c = c := by
 have h : wE t = some c := of_decide_eq_true h
 unfold wE at h
 obtain ⟨s, h1, h2⟩ := Option.map_eq_some_iff.1 h
 exact ⟨s, List.mem_of_getElem? h1, h2⟩
theorem Zg1 {c : Int} {t : zp} (h : wI c t = true) : ∃ s ∈ t, s.c = c := by
 have h : vf t = some c := of_decide_eq_true h
 unfold vf at h
 obtain ⟨s, h1, h2⟩ := Option.map_eq_some_iff.1 h
 exact ⟨s, List.mem_of_getElem? h1, h2⟩
theorem JV (p : zp → Bool) : ∀ T : Day, ((T.filter p).length : Int) = (T.map fun t => if p t then (1 : Int) else 0).sum
 | [] => rfl
 | t :: T => by
  rw [List.filter_cons, List.map_cons, List.sum_cons, ← JV p T]
  cases p t <;> simp <;> omega
theorem Zg2 {T : Day} {i k : Nat} {ta tb : zp} (hi : T[i]? = some ta) (hk : T[k]? = some tb) (hik : i ≠ k) (ha : ne ta = true) (hb : ne tb = true) :
  ((((T.set i (ta ++ tb)).set k []).filter ne).length : Int) = ((T.filter ne).length : Int) - 1 := by
 obtain ⟨sa, hsa⟩ := ZR ha
 rw [JV, JV, ZQ _ _ k tb [] (by rw [List.getElem?_set_ne hik]; exact hk), ZQ _ _ i ta (ta ++ tb) hi]
 have hn : ne (ta ++ tb) = true := ZS (s := sa) (by simp [hsa])
 simp only [ha, hb, hn, if_true]
 simp
theorem Zg3 {x : Inst} {ss : List Stop} {st : Day × Int} {g : Int → Option Int} (h : JI ss st.1 g) (hnum : st.2 = ((st.1.filter ne).length : Int)) {p : Pr} (hpa : p.a ∈ ss.map (·.c)) (hpb : p.b ∈ ss.map (·.c)) :
  wJ x (st.1.filter ne) p = (yy x st p).1.filter ne ∧ (yy x st p).2 = (((yy x st p).1.filter ne).length : Int) ∧ ∃ g', JI ss (yy x st p).1 g' := by
 obtain ⟨i, a, sa, hia, hsa, hsac, hga, hpi⟩ := h.there hpa
 obtain ⟨k, b, sb, hkb, hsb, hsbc, hgb, hpk⟩ := h.there hpb
 have hgi : st.1.getD i [] = a := by rw [List.getD_eq_getElem?_getD, hia]; rfl
 have hgk : st.1.getD k [] = b := by rw [List.getD_eq_getElem?_getD, hkb]; rfl
 have hdef : yy x st p = bif yf x st.2 p i k a b then ((st.1.set i (a ++ b)).set k [], st.2 - 1) else st := by
  unfold yy uM
  simp only [hpi, hpk, hgi, hgk]
 have hA := h.apt
 have hna := ZS hsa
 have hnb := ZS hsb
 have hnd := ZgY hA
 rw [hdef]
 have stay : yf x st.2 p i k a b = false → wJ x (st.1.filter ne) p = st.1.filter ne → wJ x (st.1.filter ne) p = (bif yf x st.2 p i k a b then ((st.1.set i (a ++ b)).set k [], st.2 - 1) else st).1.filter ne ∧ (bif yf x st.2 p i k a b then ((st.1.set i (a ++ b)).set k [], st.2 - 1) else st).2 = (((bif yf x st.2 p i k a b then ((st.1.set i (a ++ b)).set k [], st.2 - 1) else st).1.filter ne).length : Int) ∧ ∃ g', JI ss (bif yf x st.2 p i k a b then ((st.1.set i (a ++ b)).set k [], st.2 - 1) else st).1 g' := by
  intro e1 e2
  rw [e1]
  exact ⟨e2, hnum, g, h⟩
 rcases Zar hA hia hsa (wH p.a) (fun u hu => by rw [hsac]; exact Zg0 hu) with ⟨fa, la⟩ | ⟨fa, ka, ha1, la⟩
 ·have e1 : wE a ≠ some p.a := of_decide_eq_false fa
  refine stay (by simp [yf, e1]) ?_
  unfold wJ; rw [if_pos (.inl (by omega))]
 rcases Zar hA hkb hsb (wI p.b) (fun u hu => by rw [hsbc]; exact Zg1 hu) with ⟨fb, lb⟩ | ⟨fb, kb, hb1, lb⟩
 ·have e1 : vf b ≠ some p.b := of_decide_eq_false fb
  refine stay (by simp [yf, e1]) ?_
  unfold wJ; rw [if_pos (.inr (.inl (by omega)))]
 have e1 : wE a = some p.a := of_decide_eq_true fa
 have e2 : vf b = some p.b := of_decide_eq_true fb
 have hab : ka = kb ↔ i = k := by
  constructor
  ·rintro rfl
   obtain rfl : a = b := by rw [ha1] at hb1; exact Option.some.inj hb1
   exact hA.u i k a sa sa hia hsa a hkb hsa rfl
  ·rintro rfl
   obtain rfl : a = b := by rw [hia] at hkb; exact Option.some.inj hkb
   exact Zap hnd ha1 hb1
 have ga : (st.1.filter ne).getD (ka : Int).toNat [] = a := by rw [Int.toNat_natCast, List.getD_eq_getElem?_getD, ha1]; rfl
 have gb : (st.1.filter ne).getD (kb : Int).toNat [] = b := by rw [Int.toNat_natCast, List.getD_eq_getElem?_getD, hb1]; rfl
 by_cases hik : i = k
 ·refine stay (by simp [yf, hik]) ?_
  unfold wJ; rw [if_pos (.inr (.inr (.inl (by rw [la, lb, hab.2 hik]))))]
 by_cases hfew : p.s ≤ 0 ∧ st.2 ≤ x.veh
 ·refine stay (by simp [yf, hfew.1, hfew.2]) ?_
  unfold wJ; rw [if_pos (.inr (.inr (.inr ⟨hfew.1, by omega⟩)))]
 have hcond : ¬ (qq (wH p.a) (st.1.filter ne) < 0 ∨ qq (wI p.b) (st.1.filter ne) < 0 ∨ qq (wH p.a) (st.1.filter ne) = qq (wI p.b) (st.1.filter ne) ∨ (p.s ≤ 0 ∧ ((st.1.filter ne).length : Int) ≤ x.veh)) := by
  rw [la, lb]
  rintro (q | q | q | q)
  ·omega
  ·omega
  ·exact hik (hab.1 (by omega))
  ·exact hfew ⟨q.1, by omega⟩
 by_cases hmay : zr x (a ++ b) = 0
 ·have hc : yf x st.2 p i k a b = true := by
   unfold yf
   simp only [hik, e1, e2, hmay, Bool.and_eq_true, decide_eq_true_eq, ne_eq, not_false_eq_true, Bool.not_eq_true', Bool.and_eq_false_iff, decide_eq_false_iff_not, and_true, true_and]
   by_cases q : p.s ≤ 0
   ·exact .inr fun e => hfew ⟨q, e⟩
   ·exact .inl q
  rw [hc]
  simp only [cond_true]
  refine ⟨?_, ?_, _, h.join hia hkb hik⟩
  ·unfold wJ
   rw [if_neg hcond, la, lb, ga, gb, if_pos hmay, ZgX hA hia hkb hik hna hnb, ← ZgZ hnd ha1 hb1]
   rfl
  ·rw [Zg2 hia hkb hik hna hnb, hnum]
 ·refine stay (by simp [yf, hmay]) ?_
  unfold wJ
  rw [if_neg hcond, la, lb, ga, gb, if_neg hmay]
theorem Zg4 (ss : List Stop) : (ss.map fun s => [s]).filter ne = yn ss := by
 unfold yn; rw [List.filter_eq_self]; intro t ht; obtain ⟨s, _, rfl⟩ := List.mem_map.1 ht; rfl
open Go Hp
theorem JW (l : List Stop) : (yn l).length = l.length := by simp [yn]
theorem Zg5 {x : Inst} {ss : List Stop} {T : Day} {g : Int → Option Int} (h : JI ss T g) (hss : ss.length ≤ 1000) : (T.filter ne).length ≤ 1000 ∧ (T.filter ne).flatten.length ≤ 1000 ∧ ∀ t ∈ T.filter ne, t ≠ [] := by
 have hf : (T.filter ne).flatten = T.flatten := by
  induction T with
  | nil => rfl
  | cons t T ih =>
   clear h
   have key : ∀ T : Day, (T.filter ne).flatten = T.flatten := by
    intro T
    induction T with
    | nil => rfl
    | cons t T ih =>
     rw [List.filter_cons]
     cases t with
     | nil => simpa using ih
     | cons s t => simp [ih]
   exact key _
 have hne : ∀ t ∈ T.filter ne, t ≠ [] := fun t ht e => by
  have := (List.mem_filter.1 ht).2
  rw [e] at this; cases this
 have hl := h.perm.length_eq
 have h1 := ZM (T.filter ne) hne
 rw [hf] at h1
 exact ⟨by omega, by rw [hf]; omega, hne⟩
open Go Go.Proofs Hp
structure SOk (x : Inst) (l : List Stop) : Prop where
 cust : x.cust.length ≤ 1048576
 arc : yG x
 veh : 0 ≤ x.veh
 len : l.length ≤ 1000
 sm : ∀ s ∈ l, small s.c
 nd : (l.map (·.c)).Nodup
def wK (x : Inst) (l : List Stop) : List Day := [ji x l, yn l] ++ (bif (yH x l).2 then [(yH x l).1] else [])
def xE (x : Inst) (imp : Day → Day) (l : List Stop) : List Day := [yn l, imp (ji x l), imp (yn l)] ++ (bif (yH x l).2 then [imp (yH x l).1] else [])
theorem Zas {x : Inst} (hx : x.cust.length ≤ 1048576) : ∀ (n : Nat) (d : Day) (l : List Stop), l.length = n → RgOk x d l → RgOk x (jM x n d l).1 [] ∧ ((jM x n d l).2 = true → (jM x n d l).1.flatten.Perm (d.flatten ++ l))
 | 0, d, l, hl, h => by
  obtain rfl : l = [] := List.eq_nil_of_length_eq_zero hl
  exact ⟨h, fun _ => by simp [jM]⟩
 | n + 1, d, l, hl, h => by
  have hne : l ≠ [] := fun e => by rw [e] at hl; cases hl
  obtain ⟨k, hu, hk⟩ := Zah (x := x) (d := d) hne
  have hg : l.getD k default = l[k] := by rw [List.getD_eq_getElem?_getD, List.getElem?_eq_getElem hk]; rfl
  unfold jM
  rw [hu, Int.toNat_natCast, hg]
  cases hi : (qp x d l[k]).2 with
  | false =>
   refine ⟨⟨h.ok, h.may, ?_⟩, fun e => by cases e⟩
   have := h.len
   simp only [cond_false, List.length_nil]; omega
  | true =>
   simp only [cond_true]
   obtain ⟨h1, h2⟩ := Zas hx n (qp x d l[k]).1 (l.eraseIdx k) (by rw [List.length_eraseIdx_of_lt hk]; omega) (h.step hx hk hi)
   refine ⟨h1, fun e => (h2 e).trans ?_⟩
   have hp := VQ hi
   refine (hp.append_right _).trans ?_
   have he : (l[k] :: l.eraseIdx k).Perm l := by
    rw [List.eraseIdx_eq_take_drop_succ]
    have := List.perm_middle (a := l[k]) (l₁ := l.take k) (l₂ := l.drop (k + 1))
    refine this.symm.trans ?_
    rw [← List.drop_eq_getElem_cons hk, List.take_append_drop]
   rw [List.cons_append]
   refine List.perm_middle.symm.trans ?_
   exact he.append_left _
section
variable {x : Inst} {l : List Stop} (h : SOk x l)
include h
theorem SOk.apart : DayOk (yn l) ∧ (yn l).flatten = l ∧ (yn l).length ≤ 1000 := by
 have hf : (yn l).flatten = l := by
  unfold yn
  clear h
  induction l with
  | nil => rfl
  | cons s l ih => simpa using ih
 refine ⟨⟨?_, fun t ht => ?_, fun t ht a ha => ?_⟩, hf, ?_⟩
 ·rw [JW]; have := h.len; omega
 ·obtain ⟨s, _, rfl⟩ := List.mem_map.1 ht; simp
 ·obtain ⟨s, hs, rfl⟩ := List.mem_map.1 ht
  simp at ha; subst ha; exact h.sm _ hs
 ·rw [JW]; exact h.len
theorem SOk.join : DayOk (ji x l) ∧ (ji x l).flatten.Perm l ∧ (ji x l).length ≤ 1000 ∧ ∀ t ∈ ji x l, t ≠ [] := by
 obtain ⟨g, hg⟩ := JI.begin l [] [] _ JI.nil (by simpa using h.nd)
 have key : ∀ (ps : List Pr) (st : Day × Int), (∃ g, JI l st.1 g) → st.2 = ((st.1.filter ne).length : Int) → (∀ p ∈ ps, p.a ∈ l.map (·.c) ∧ p.b ∈ l.map (·.c)) → ∃ g, JI l (ps.foldl (yy x) st).1 g := by
  intro ps
  induction ps with
  | nil => intro st hg _ _; exact hg
  | cons p ps ih =>
   rintro st ⟨g, hg⟩ hn hp
   obtain ⟨h1, h2⟩ := hp p (by simp)
   obtain ⟨e1, e2, e3⟩ := Zg3 (x := x) hg hn h1 h2
   rw [List.foldl_cons]
   exact ih _ e3 e2 fun q hq => hp q (by simp [hq])
 obtain ⟨g', hg'⟩ := key (yB x (l.map (·.c))) (l.map fun s => [s], (l.length : Int)) ⟨g, by simpa using hg⟩ (by rw [Zg4]; simp [yn]) fun p hp => by
  have := ZK.1 ((vX x _).subset hp)
  exact ⟨this.1, this.2.1⟩
 have hjp : ji x l = ((yB x (l.map (·.c))).foldl (yy x) (l.map fun s => [s], (l.length : Int))).1.filter ne := rfl
 obtain ⟨w1, w2, w3⟩ := Zg5 (x := x) hg' h.len
 have hfl : ∀ T : Day, (T.filter ne).flatten = T.flatten := by
  intro T
  induction T with
  | nil => rfl
  | cons t T ih =>
   rw [List.filter_cons]
   cases t with
   | nil => simpa using ih
   | cons s t => simp [ih]
 have hp : (ji x l).flatten.Perm l := by rw [hjp, hfl]; exact hg'.perm
 rw [← hjp] at w1 w2 w3
 refine ⟨⟨by omega, fun t ht => ?_, fun t ht a ha => ?_⟩, hp, w1, w3⟩
 ·have := (xB ht).length_le; omega
 ·exact h.sm a (hp.subset ((xB ht).subset ha))
theorem SOk.regret : RgOk x (yH x l).1 [] ∧ ((yH x l).2 = true → (yH x l).1.flatten.Perm l) := by
 have := Zas h.cust l.length [] l rfl (Zai h.veh h.len)
 simpa [yH] using this
end
def Zat (x : Inst) (b : Int) (imp : Day → Day) (ds : List Day) : Prop := ∀ d ∈ ds, (∃ n, Pure Tryz.prog 76 [.agg (zo x), .agg [L d], I b] (.tup [.agg [L (imp d)], I n])) ∧ DayOk (imp d) ∧ (imp d).flatten.length ≤ 1048576
theorem Zg6 (x : Inst) (l : List Stop) (b : Int) (imp : Day → Day) (h : SOk x l) (hI : qz x l = 0 → Zat x b imp (wK x l)) :
  Pure Tryz.prog 130 [.agg (zo x), L l, I b] (.tup [.agg [L (qK x (qz x l) (xE x imp l)).1], I (qK x (qz x l) (xE x imp l)).2]) := by
 have hF := ZdO x l h.cust (by have := h.len; omega)
 by_cases he : qz x l = 0
 case neg => exact VB x (L l) b _ _ (vZ l) h.cust hF (fun e => absurd e he) fun e => absurd e he
 have hI := hI he
 have hA := ZdN l (by have := h.len; omega)
 have hJ := Zfw x l h.arc h.cust h.len h.sm h.nd
 have hR := ZgJ x l h.cust h.veh h.len
 obtain ⟨⟨n1, i1⟩, o1, f1⟩ := hI (ji x l) (by simp [wK])
 obtain ⟨⟨n2, i2⟩, o2, f2⟩ := hI (yn l) (by simp [wK])
 obtain ⟨a1, a2, a3⟩ := h.apart
 have h3 : (yH x l).2 = true → (∃ n, Pure Tryz.prog 76 [.agg (zo x), .agg [L (yH x l).1], I b] (.tup [.agg [L (imp (yH x l).1)], I n])) ∧ DayOk (imp (yH x l).1) ∧ (imp (yH x l).1).flatten.length ≤ 1048576 := fun e => hI _ (by simp [wK, e])
 have hlen := h.len
 have hit := ZfB (fsL x (L l) b) [some (yn l), some (imp (ji x l)), some (imp (yn l)), bif (yH x l).2 then some (imp (yH x l).1) else none] rfl (by simp) (by
  intro k f hf
  match k with
  | 0 => cases hf; exact ⟨_, _, L (yn l), rfl, Zfy (L l) (yn l) (vZ l) hA, fun d hd => by cases hd; rfl⟩
  | 1 => cases hf; exact ⟨_, _, L (imp (ji x l)), rfl, Zfz x (L l) b _ _ _ (vZ l) hJ i1, fun d hd => by cases hd; rfl⟩
  | 2 => cases hf; exact ⟨_, _, L (imp (yn l)), rfl, ZfA x (L l) b _ _ _ (vZ l) hA i2, fun d hd => by cases hd; rfl⟩
  | 3 =>
   cases hf
   cases hall : (yH x l).2 with
   | true =>
    obtain ⟨⟨n3, i3⟩, -⟩ := h3 hall
    rw [hall] at hR
    exact ⟨_, _, L (imp (yH x l).1), rfl, VA x (L l) b _ _ true n3 (vZ l) hR (fun _ => i3), fun d hd => by cases hd; rfl⟩
   | false =>
    rw [hall] at hR
    exact ⟨_, _, yi, rfl, VA x (L l) b _ [] false 0 (vZ l) hR (fun e => by cases e), fun d hd => by cases hd⟩
  | k + 4 => cases hf)
 have hds : ([some (yn l), some (imp (ji x l)), some (imp (yn l)), bif (yH x l).2 then some (imp (yH x l).1) else none] : List (Option Day)).filterMap id = xE x imp l := by
  unfold xE
  cases (yH x l).2 <;> rfl
 rw [hds] at hit
 refine VB x (L l) b (qz x l) (xE x imp l) (vZ l) h.cust hF (fun _ => hit) fun _ d hd => ?_
 unfold xE at hd
 simp only [List.cons_append, List.nil_append, List.mem_cons] at hd
 rcases hd with rfl | rfl | rfl | hd
 ·exact ⟨a1, by rw [a2]; omega⟩
 ·exact ⟨o1, f1⟩
 ·exact ⟨o2, f2⟩
 ·cases hall : (yH x l).2 with
  | true =>
   rw [hall] at hd
   simp at hd; subst hd
   exact (h3 hall).2
  | false => rw [hall] at hd; simp at hd
open Go Go.Proofs Hp
theorem Zg7 {P : Program} {r : Rd} {n : Nat} {F : Nat → PV} {S : Store} {o : Oper} {t e : TypeId} {len : Nat} {parts : Array (Nat × Operand)} {cs : List PV} {K : PV → Store → Prop} (ho : o.op = .buildSlice t len parts) (ht : P.underlying t = some (.slice e)) (h0 : P.cellsOf e ≠ 0) (hlen : len ≤ 1048576)
  (hl : wv P e len (parts.toList.map fun x => (x.1, ev F x.2)) = some cs)
  (hK : ∀ C : Ctx, S C.next = .dead → ∃ id v, Fresh C S id v ∧ K (.sl id v (P.cellsOf e) 0 len) (S.set id (.cells v e cs))) : PO P r n o F S K := by
 intro G hG C w a N st next Q' hnext
 have hmap : parts.toList.map (fun x => (x.1, ev G x.2)) = parts.toList.map (fun x => (x.1, ev F x.2)) := List.map_congr_left fun x hx => by
  rw [hG x.2 (by simp only [ho, Op.operands, List.mem_toArray, List.mem_map]; first | exact ⟨x, hx, rfl⟩ | (simp; exact ⟨x.1, by simpa using hx⟩))]
 rw [← hmap] at hl
 obtain ⟨vs, hrun, hr, hsz⟩ := XT (w := w) ht (ev G) a.eval st.ev hl
 obtain ⟨id, ver, hfr, hK⟩ := hK C st.sim.free
 obtain ⟨k1, k2⟩ := st.sim.object' hfr e vs cs (Nat.le_of_eq hr.1) (fun i v _ hv => hr.2.1 i v hv) hr.2.2
 refine yI (x := .value (.slice (some ⟨w.heap.size, 0, none⟩) len len)) (w' := w.alloc (.cells vs e)) (by intro c hc; rw [ho] at hc; cases hc) ?_
  (hnext _ _ _ _ _ hK (Zn C S w _ _ _ _ _ _ _ _ rfl (Nat.le_refl _) (by unfold qv; omega) (by unfold maxLen; omega) hsz.symm) k1 k2)
 unfold execOp
 simp only [ho]
 have e1 : (parts.map fun x => (x.1, a.eval x.2)) = (parts.toList.map fun x => (x.1, a.eval x.2)).toArray := by
  apply Array.toList_inj.1; simp
 simp only [e1, hrun, Sem.run_bind, Sem.run_pure, Result.andThen_ok]
theorem Zg8 {P : Program} {r : Rd} {n nx : Nat} {F : Nat → PV} {S : Store} {obs : List Ob} {o : Oper} {t e : TypeId} {len : Nat} {parts : Array (Nat × Operand)} {cs : List PV} {K : PV → Store → Prop} (ho : o.op = .buildSlice t len parts) (ht : P.underlying t = some (.slice e)) (h0 : P.cellsOf e ≠ 0) (hlen : len ≤ 1048576)
  (hl : wv P e len (parts.toList.map fun x => (x.1, ev F x.2)) = some cs) (hK : ∀ v, K (.sl (nx + obs.length) v (P.cellsOf e) 0 len) (ext S nx (obs ++ [.cells v e cs]))) : PO P r n o F (ext S nx obs) K :=
 Zg7 ho ht h0 hlen hl (xL (X := fun id v => K (.sl id v (P.cellsOf e) 0 len) ((ext S nx obs).set id (.cells v e cs))) _ xO fun v => by rw [qh]; exact hK v)
open Go Go.Proofs
theorem Zg9 {P : Program} {r : Rd} {n nx N : Nat} {Q : Exit → (Nat → PV) → Store → Prop} {F : Nat → PV} {S : Store} {obs : List Ob} {A : Prop} {R : Nat → KT → CT → HT → Prop} {id : Nat} {ops : Array Oper} {o : Oper} {os : List Oper} {t e : TypeId} {len : Nat} {parts : Array (Nat × Operand)}
  (D : List (Nat × Nat)) (cs : List PV) (ht : P.underlying t = some (.slice e)) (a : A) (h : ∀ v, R v (fun F' S' obs' => Q .normal F' (ext S' nx obs')) (CQ P r n nx ops fun F' S' obs' => Q .normal F' (ext S' nx obs')) (HQ P r n nx ops fun F' S' obs' => Q .normal F' (ext S' nx obs')))
  (hops : ops.toList = o :: os := by rfl) (hg : o.guard = none := by rfl) (ho : o.op = .buildSlice t len parts := by rfl) (h0 : P.cellsOf e ≠ 0 := by simp) (hlen : len ≤ 1048576 := by decide)
  (hl : wv P e len (parts.toList.map fun x => (x.1, ev F x.2)) = some cs := by simp [wv, wu]) (hN : jd N ops = true := by rfl) (hD : xq ops D = true := by rfl)
  (hR : A → ∀ v, XQ P nx D os (zx F o.dst (.sl (nx + obs.length) v (P.cellsOf e) 0 len)) S (obs ++ [.cells v e cs]) (R v) := by intro a v K Gc Gh X hX0 hX h; simp -implicitDefEqProofs [hX0, hX, a]; exact h) : PW P r n N (.region id ops false) Q F (ext S nx obs) := by
 refine QZ hN ?_
 rw [hops]
 unfold XS
 have : gd ops F o = some true := by unfold gd; rw [hg]
 rw [this]
 exact Zg8 ho ht h0 hlen hl fun v => ⟨_, _, rfl, Zw (by rw [hops]; exact List.suffix_cons _ _) hD (hR a v) (h v)⟩
def fzZ (x : Inst) (t : zp) : Nat → Int
 | 0 => 0
 | i + 1 => fzZ x t i + arc x ((t.getD i default).c + 1) ((t.getD (i + 1) default).c + 1)
def bzZ (x : Inst) (t : zp) : Nat → Int
 | 0 => 0
 | i + 1 => bzZ x t i + arc x ((t.getD (i + 1) default).c + 1) ((t.getD i default).c + 1)
theorem uV {x : Inst} (h : yG x) (t : zp) : ∀ i : Nat, 0 ≤ fzZ x t i ∧ fzZ x t i ≤ 2147483648 * (i : Int)
 | 0 => by simp [fzZ]
 | i + 1 => by
  have h1 := uV h t i
  have h2 := h ((t.getD i default).c + 1) ((t.getD (i + 1) default).c + 1)
  unfold fzZ; omega
theorem uW {x : Inst} (h : yG x) (t : zp) : ∀ i : Nat, 0 ≤ bzZ x t i ∧ bzZ x t i ≤ 2147483648 * (i : Int)
 | 0 => by simp [bzZ]
 | i + 1 => by
  have h1 := uW h t i
  have h2 := h ((t.getD (i + 1) default).c + 1) ((t.getD i default).c + 1)
  unfold bzZ; omega
structure Sm where
 f : List Int
 b : List Int
 l : List Int
 n : Int
instance : Enc Sm := ⟨fun s => [L s.f, L s.b, L s.l, I s.n], 4, fun _ => rfl, fun _ => rfl⟩
@[simp] theorem ZlL (s : Sm) : Enc.enc s = [L s.f, L s.b, L s.l, I s.n] := rfl
@[simp high] theorem Zau (l : List Sm) : (l.flatMap Enc.enc).length = l.length * 4 := jf l
@[simp high] theorem ZlM (l : List Sm) : (l.flatMap Enc.enc).take (l.length * 4) = l.flatMap Enc.enc := wZ l
def smZ (x : Inst) (t : zp) : Sm := ⟨(List.range t.length).map (fzZ x t), (List.range t.length).map (bzZ x t), (List.range (t.length + 1)).map fun i => zt (t.take i), zC x (t.map (·.c))⟩
abbrev rdL (x : Inst) (d : Day) : List PV := [I x.days, I x.veh, I x.cap, I x.len, L x.cust, L x.dist, L d, L (d.map (smZ x))]
structure MvDay (d : Day) : Prop where
 n : d.length ≤ 1000
 t : ∀ t ∈ d, t.length ≤ 1000
 s : ∀ t ∈ d, ∀ s ∈ t, small s.c ∧ 0 ≤ s.q ∧ s.q ≤ 2147483648
theorem Zha {t : zp} {i : Nat} {s : Stop} (h : t.take (i + 1) = t.take i ++ [s]) : zt (t.take (i + 1)) = zt (t.take i) + s.q := by rw [h, ZA]
theorem JX {α : Type} (f : Nat → α) (k : Nat) : (List.range (k + 1)).map f = (List.range k).map f ++ [f k] := by rw [List.range_succ, List.map_append]; rfl
theorem Zhb (id v : Nat) (cs : List PV) (l : List Sm) : (l.flatMap Enc.enc).map (ye id v cs) = (l.flatMap Enc.enc : List PV) := by
 induction l with
 | nil => rfl
 | cons s l ih => rw [List.flatMap_cons, List.map_append, ih]; rfl
set_option maxRecDepth 20000 in
set_option maxHeartbeats 3200000 in
theorem Zhc (x : Inst) (d : Day) (hx : yG x) (hd' : MvDay d) : Pure Tryz.prog 153 [.agg (zo x), .agg [L d]] (.ip (rdL x d)) := by
 have hdn := hd'.n
 refine pwe Tryz.func153 Tryz.ntmps153 Tryz.results153 fun S nx hd => ?_
 repeat apply za
 refine pwn ?_
 intro v0 v1
 repeat apply za
 refine pwn ?_
 intro v2
 refine qc 2 7 255 4 rfl rfl fun v3 => ?_
 (repeat apply za); refine pwn ?_; intros
 repeat apply za
 refine ze (zq (fun s' : Nat × Nat => s'.1 ≤ d.length) (fun (k, v3) => [(2, .ptr nx v0 0), (5, .ptr (nx + 2) v2 0), (20, L d), (21, I d.length), (22, I k)]) (fun (k, v3) => [.cells v0 25 (zo x), .cells v1 66 [L d], .cells v2 253 [I x.days, I x.veh, I x.cap, I x.len, L x.cust, L x.dist, L d, .sl (nx + 3) v3 4 0 k], .cells v3 255 (((d.map (smZ x)).take k).flatMap Enc.enc)]) (fun s' => d.length - s'.1) (0, v3) [] (by simp) (by simp) (by simp) ?_)
 rintro ⟨k, v3⟩ hk
 simp only at hk ⊢
 (repeat apply za); refine pwn ?_; intros
 repeat apply za
 refine zl rfl (fun hc => ?_) (fun hc => ?_)
 ·simp at hc
  obtain ⟨t, tl, a1, a2, a3, e0⟩ := el1 rfl d k hc
  have hk1 : 1 ≤ d.length - k := by omega
  have htm := List.mem_of_getElem? a1
  have htl := hd'.t t htm
  have hts := hd'.s t htm
  have hlw := ZD x t (by omega) (fun s hs => (hts s hs).1)
  have hwz := uP hx (t.map (·.c))
  rw [List.length_map] at hwz
  rw [show W (zC x (t.map (·.c))) = zC x (t.map (·.c)) from wr _ (by omega) (by omega)] at hlw
  refine zd (za (ze ?_))
  repeat apply za
  refine pwN [] (jn3 e0 hc hk1) ?_
  intro v4
  repeat apply za
  refine Zg9 [] [I 0] Tryz.underlying54 trivial ?_
  intro v5
  refine pwc hlw ?_
  intro v6
  (repeat apply za); refine pwn ?_; intros
  refine qc 6 0 3 1 rfl rfl fun v7 => ?_
  refine qc 6 1 3 1 rfl rfl fun v8 => ?_
  (repeat apply za); refine pwn ?_; intros
  generalize hpc : (((d.map (smZ x)).take k).flatMap Enc.enc : List PV) = pc at *
  generalize hwl : zC x (t.map (·.c)) = wl at *
  repeat apply za
  refine ze (zq (fun s' : Nat × Nat × Nat × Nat => s'.1 ≤ t.length) (fun (i, v5, v7, v8) => [(2, .ptr nx v0 0), (5, .ptr (nx + 2) v2 0), (7, .ptr (nx + 4) v4 0), (8, .ptr (nx + 6) v6 0), (9, I (fzZ x t (i - 1))), (10, I (bzZ x t (i - 1))), (20, L d), (21, I d.length), (22, I k), (32, L t), (33, I t.length), (34, I i)])
   (fun (i, v5, v7, v8) => [.cells v0 25 (zo x), .cells v1 66 [L d], .cells v2 253 [I x.days, I x.veh, I x.cap, I x.len, L x.cust, L x.dist, L d, .sl (nx + 3) v3 4 0 k], .cells v3 255 pc, .cells v4 72 [L t], .cells v5 3 (((List.range (i + 1)).map fun i => zt (t.take i)).flatMap Enc.enc),
    .cells v6 255 [.sl (nx + 7) v7 1 0 i, .sl (nx + 8) v8 1 0 i, .sl (nx + 5) v5 1 0 (i + 1), I wl], .cells v7 3 (((List.range i).map (fzZ x t)).flatMap Enc.enc), .cells v8 3 (((List.range i).map (bzZ x t)).flatMap Enc.enc)]) (fun s' => t.length - s'.1) (0, v5, v7, v8) [] (by simp) (by simp [fzZ, bzZ]) (by simp [zt]) ?_)
  rintro ⟨i, v5, v7, v8⟩ hi
  simp only at hi ⊢
  (repeat apply za); refine pwn ?_; intros
  repeat apply za
  refine zl rfl (fun hci => ?_) (fun hci => ?_)
  ·simp at hci
   obtain ⟨s, ts, s1, s2, s3, -, s0⟩ := el 2 rfl t i hci
   have hi2 : 2 ≤ t.length * 2 - i * 2 := by omega
   obtain ⟨hsm, hq0, hq1⟩ := hts s (List.mem_of_getElem? s1)
   have hgs : t.getD i default = s := by rw [List.getD_eq_getElem?_getD, s1]; rfl
   have wi := wrN i (by omega)
   have f1 := JX (fzZ x t) i
   have f2 := JX (bzZ x t) i
   have f3 := JX (fun i => zt (t.take i)) (i + 1)
   have hlz := Zha s3
   have hlb := JE (t := t.take i) (fun a ha => (hts a (List.mem_of_mem_take ha)).2)
   have hlt : (t.take i).length ≤ 1000 := by rw [List.length_take]; omega
   have wl1 : IntKind.i64.wrap (zt (t.take i) + s.q) = zt (t.take (i + 1)) := by rw [hlz]; exact wr _ (by omega) (by omega)
   have g1 : (((List.range i).map (fzZ x t)).flatMap Enc.enc : List PV).length = i := by rw [qi]; simp
   have g2 : (((List.range i).map (bzZ x t)).flatMap Enc.enc : List PV).length = i := by rw [qi]; simp
   have g3 : (((List.range (i + 1)).map fun i => zt (t.take i)).flatMap Enc.enc : List PV).length = i + 1 := by rw [qi]; simp
   obtain ⟨lz, tlz, z1, -, -, z0⟩ := el1 rfl ((List.range (i + 1)).map fun i => zt (t.take i)) i (by simp)
   have hlzz : lz = zt (t.take i) := by simpa using z1.symm
   have c1 : (((List.range (i + 1)).map (fzZ x t)).flatMap Enc.enc : List PV) = ((List.range i).map (fzZ x t)).flatMap Enc.enc ++ [I (fzZ x t i)] := by rw [f1, List.flatMap_append]; rfl
   have c2 : (((List.range (i + 1)).map (bzZ x t)).flatMap Enc.enc : List PV) = ((List.range i).map (bzZ x t)).flatMap Enc.enc ++ [I (bzZ x t i)] := by rw [f2, List.flatMap_append]; rfl
   have c3 : (((List.range (i + 1 + 1)).map fun i => zt (t.take i)).flatMap Enc.enc : List PV) = ((List.range (i + 1)).map fun i => zt (t.take i)).flatMap Enc.enc ++ [I (zt (t.take (i + 1)))] := by rw [f3, List.flatMap_append]; rfl
   rw [hlzz] at z0
   clear f1 f2 f3 z1 hlzz hlz
   generalize (((List.range i).map (fzZ x t)).flatMap Enc.enc : List PV) = fc at *
   generalize (((List.range i).map (bzZ x t)).flatMap Enc.enc : List PV) = bc at *
   generalize (((List.range (i + 1)).map fun i => zt (t.take i)).flatMap Enc.enc : List PV) = lc at *
   have t1 : fc.take i = fc := List.take_of_length_le (by omega)
   have t2 : bc.take i = bc := List.take_of_length_le (by omega)
   have t3 : lc.take (i + 1) = lc := List.take_of_length_le (by omega)
   refine zd (za (ze ?_))
   repeat apply za
   refine pwN [] (jn3 s0 hci hi2) ?_
   intro v9
   refine za ?_
   refine zW (nx := nx) (fun _ : Unit => True) (fun _ => [(2, .ptr nx v0 0), (5, .ptr (nx + 2) v2 0), (7, .ptr (nx + 4) v4 0), (8, .ptr (nx + 6) v6 0), (9, I (fzZ x t i)), (10, I (bzZ x t i)), (11, I i), (12, .ptr (nx + 9) v9 0), (20, L d), (21, I d.length), (22, I k), (32, L t), (33, I t.length), (34, I i)]) (fun _ => S)
    (fun _ => [.cells v0 25 (zo x), .cells v1 66 [L d], .cells v2 253 [I x.days, I x.veh, I x.cap, I x.len, L x.cust, L x.dist, L d, .sl (nx + 3) v3 4 0 k], .cells v3 255 pc, .cells v4 72 [L t], .cells v5 3 lc,
    .cells v6 255 [.sl (nx + 7) v7 1 0 i, .sl (nx + 8) v8 1 0 i, .sl (nx + 5) v5 1 0 (i + 1), I wl], .cells v7 3 fc, .cells v8 3 bc, .cells v9 50 [I s.c, I s.q]]) ?_ ?_
   ·by_cases h0 : 0 < i
    ·obtain ⟨j, rfl⟩ : ∃ j, i = j + 1 := ⟨i - 1, by omega⟩
     obtain ⟨p, tp, p1, -, -, -, p0⟩ := el 2 rfl t j (by omega)
     obtain ⟨hpm, -, -⟩ := hts p (List.mem_of_getElem? p1)
     have hgp : t.getD j default = p := by rw [List.getD_eq_getElem?_getD, p1]; rfl
     have hj2 : 2 ≤ t.length * 2 - j * 2 := by omega
     have hjl : j < t.length := by omega
     have wj : IntKind.i64.wrap (j : Int) = (j : Int) := wr _ (by omega) (by omega)
     have wp := xx hpm
     have ws := xx hsm
     have ar1 := jV x (p.c + 1) (s.c + 1)
     have ar2 := jV x (s.c + 1) (p.c + 1)
     have hfz : fzZ x t (j + 1) = fzZ x t j + arc x (p.c + 1) (s.c + 1) := by conv => lhs; unfold fzZ; rw [hgs, hgp]
     have hbz : bzZ x t (j + 1) = bzZ x t j + arc x (s.c + 1) (p.c + 1) := by conv => lhs; unfold bzZ; rw [hgs, hgp]
     have b1 := uV hx t (j + 1)
     have b2 := uW hx t (j + 1)
     have wf : IntKind.i64.wrap (fzZ x t j + arc x (p.c + 1) (s.c + 1)) = fzZ x t (j + 1) := by rw [hfz] at b1 ⊢; exact wr _ (by omega) (by omega)
     have wb : IntKind.i64.wrap (bzZ x t j + arc x (s.c + 1) (p.c + 1)) = bzZ x t (j + 1) := by rw [hbz] at b2 ⊢; exact wr _ (by omega) (by omega)
     simp only [Nat.add_sub_cancel]
     have h0' : (0 : Int) < ((j + 1 : Nat) : Int) := by omega
     repeat apply za
     refine pwN [] (jn2 h0 h0') ?_
     intros
     repeat apply za
     refine zh (by simp) ?_
     repeat apply za
     refine pwY (some [nx + 4, nx + 9]) (Row.pures [0, 1, 2, 3, 4, 5, 6, 7, 8, 9, 10, 11, 12] .done) mixed (jn6 wj p0 hjl hj2 wp ws) ?_
     intros
     repeat apply za
     refine pwn ?_
     refine pwC [] ar1 wf ?_
     intros
     repeat apply za
     refine pwn ?_
     refine pwC [] ar2 wb ?_
     intros
     exact zu () [] trivial (by simp) rfl (by simp)
    ·obtain rfl : i = 0 := by omega
     (repeat apply za); refine pwn ?_; intros
     repeat apply za
     refine zj rfl ?_
     refine zd ?_
     exact zu () [] trivial (by simp) rfl (by simp)
   ·rintro ⟨⟩ -
    refine za ?_
    refine zW (nx := nx) (fun _ : Unit => True) (fun _ => [(2, .ptr nx v0 0), (5, .ptr (nx + 2) v2 0), (7, .ptr (nx + 4) v4 0), (8, .ptr (nx + 6) v6 0), (9, I (fzZ x t i)), (10, I (bzZ x t i)), (11, I i), (12, .ptr (nx + 9) v9 0), (20, L d), (21, I d.length), (22, I k), (32, L t), (33, I t.length), (34, I i)]) (fun _ => S)
     (fun _ => [.cells v0 25 (zo x), .cells v1 66 [L d], .cells v2 253 [I x.days, I x.veh, I x.cap, I x.len, L x.cust, L x.dist, L d, .sl (nx + 3) v3 4 0 k], .cells v3 255 pc, .cells v4 72 [L t], .cells v5 3 lc,
     .cells v6 255 [.sl (nx + 7) (v7 + 1) 1 0 (i + 1), .sl (nx + 8) (v8 + 1) 1 0 (i + 1), .sl (nx + 5) v5 1 0 (i + 1), I wl], .cells (v7 + 1) 3 (fc ++ [I (fzZ x t i)]), .cells (v8 + 1) 3 (bc ++ [I (bzZ x t i)]), .cells v9 50 [I s.c, I s.q]]) ?_ ?_
    ·repeat apply za
     refine pwY (some []) (Row.pures [0, 2, 3, 5, 7, 8] (.alt 1 (.alt 4 (.alt 6 (Row.pures [10] (.alt 9 (.alt 11 (Row.pures [12] (.alt 13 (.done) .stop)) .stop) .stop)) .stop) (.alt 6 (.alt 4 (Row.pures [10] (.alt 9 (.alt 11 (Row.pures [12] (.alt 13 (.done) .stop)) .stop) .stop)) .stop) .stop)) (.alt 6 (.alt 1 (.alt 4 (Row.pures [10] (.alt 9 (.alt 11 (Row.pures [12] (.alt 13 (.done) .stop)) .stop) .stop)) .stop) .stop) .stop))) mixed (jn4 g1 g2 t1 t2) ?_
     repeat' (first | refine And.intro (by omega) ?_ | apply And.intro)
     all_goals exact zu () [] trivial (by simp) rfl (by simp)
    ·rintro ⟨⟩ -
     have z1 : (i : Int) < (i : Int) + 1 := by omega
     have z2 : i < i + 1 := by omega
     have z3 : 1 ≤ i + 1 - i := by omega
     repeat apply za
     refine pwY (some [nx + 9]) (Row.pures [0, 2, 4, 7, 8] (.alt 1 (.alt 3 (Row.pures [5] (.alt 6 (Row.pures [9, 10] (.alt 11 (Row.pures [12] (.alt 13 (.done) .stop)) .stop)) .stop)) .stop) (.alt 3 (Row.pures [5] (.alt 1 (.alt 6 (Row.pures [9, 10] (.alt 11 (Row.pures [12] (.alt 13 (.done) .stop)) .stop)) .stop) (.alt 6 (Row.pures [9, 10] (.alt 1 (.alt 11 (Row.pures [12] (.alt 13 (.done) .stop)) .stop) .stop)) .stop))) .stop))) mixed (jn6 z0 z1 z2 z3 wl1 (jn2 g3 t3)) ?_
     repeat' (first | refine And.intro (by omega) ?_ | apply And.intro)
     all_goals
      intros
      repeat apply za
      refine pwN [] wi ?_
      intros
      exact zk (i + 1, v5 + 1, v7 + 1, v8 + 1) [_] hci (by simp; omega) (by simp [wi]) rfl (by simp [c1, c2, c3]; rfl)
  ·simp at hci
   obtain rfl : i = t.length := by omega
   refine zm ?_
   clear hi hci
   have hsm : smZ x t = ⟨(List.range t.length).map (fzZ x t), (List.range t.length).map (bzZ x t), (List.range (t.length + 1)).map fun i => zt (t.take i), wl⟩ := by unfold smZ; rw [hwl]
   have g1 : (((List.range t.length).map (fzZ x t)).flatMap Enc.enc : List PV).length = t.length := by rw [qi]; simp
   have g2 : (((List.range t.length).map (bzZ x t)).flatMap Enc.enc : List PV).length = t.length := by rw [qi]; simp
   have g3 : (((List.range (t.length + 1)).map fun i => zt (t.take i)).flatMap Enc.enc : List PV).length = t.length + 1 := by rw [qi]; simp
   have hfz : ∀ id v cs, pc.map (ye id v cs) = pc := fun id v cs => by rw [← hpc]; exact Zhb id v cs _
   have hpl : pc.length = k * 4 := by rw [← hpc, Zau]; simp; omega
   have hpt : pc.take (k * 4) = pc := List.take_of_length_le (by omega)
   have hnew : (((d.map (smZ x)).take (k + 1)).flatMap Enc.enc : List PV) = pc ++ [L ((List.range t.length).map (fzZ x t)), L ((List.range t.length).map (bzZ x t)), L ((List.range (t.length + 1)).map fun i => zt (t.take i)), I wl] := by
    rw [← hpc, ← List.map_take, a3, List.map_append, List.flatMap_append, ← List.map_take, List.map_cons, hsm]; rfl
   have l1 : ((List.range t.length).map (fzZ x t)).length = t.length := by simp
   have l2 : ((List.range t.length).map (bzZ x t)).length = t.length := by simp
   have l3 : ((List.range (t.length + 1)).map fun i => zt (t.take i)).length = t.length + 1 := by simp
   generalize (List.range t.length).map (fzZ x t) = fl at *
   generalize (List.range t.length).map (bzZ x t) = bl at *
   generalize ((List.range (t.length + 1)).map fun i => zt (t.take i)) = ll at *
   clear g1 g2 g3
   refine zB 8 rfl ?_
   simp only [List.map_cons, List.map_nil, List.set_cons_succ, List.set_cons_zero, qD, hfz]
   refine zB 7 rfl ?_
   simp only [List.map_cons, List.map_nil, List.set_cons_succ, List.set_cons_zero, qD, hfz]
   refine zB 5 rfl ?_
   simp only [List.map_cons, List.map_nil, List.set_cons_succ, List.set_cons_zero, qD, hfz]
   repeat apply za
   refine pwY (some [nx + 6]) (Row.pures [0, 1, 2, 3, 5, 6] (.alt 4 (.alt 7 (Row.pures [8, 9] (.alt 10 (.done) .stop)) .stop) .stop)) mixed (jn5 l1 l2 l3 hpl hpt) ?_
   refine ⟨by omega, ?_⟩
   intros
   (repeat apply za); refine pwn ?_; intros
   exact zk (k + 1, v3 + 1) [_, _, _, _, _] hc (by simp; omega) (by simp [wrN k (by omega)]) rfl (by simp [hnew, l1, l2, l3]; exact ⟨rfl, rfl, rfl, rfl, rfl⟩)
 ·simp at hc
  obtain rfl : k = d.length := by omega
  rw [List.take_of_length_le (by simp)]
  refine zm ?_
  have hml : ((d.map (smZ x)).flatMap Enc.enc : List PV).length = d.length * 4 := by rw [Zau]; simp
  refine zB 3 rfl ?_
  repeat apply za
  refine pwN [] hml ?_
  intros
  refine xc 2 rfl ?_
  repeat apply za
  exact zb (zg hd (by simp; rfl) (by simp [zi, hml]))
open Go Go.Proofs
def qr (x : Inst) : Int → List Int → Int
 | _, [] => 0
 | a, c :: l => arc x a (c + 1) + qr x (c + 1) l
theorem JY (x : Inst) : ∀ (l : List Int) (a : Int) (m : List Int), qr x a (l ++ m) = qr x a l + qr x (zY a l) m
 | [], a, m => by simp [qr, zY]
 | c :: l, a, m => by
  simp only [List.cons_append, qr, zY]
  rw [JY x l (c + 1) m]; omega
theorem JZ : ∀ (l : List Int) (a : Int) (m : List Int), zY a (l ++ m) = zY (zY a l) m
 | [], a, m => rfl
 | c :: l, a, m => by simp only [List.cons_append, zY]; exact JZ l (c + 1) m
theorem Zav (x : Inst) : ∀ (l : List Int) (a : Int), yb x a l = qr x a l + arc x (zY a l) 0
 | [], a => by simp [yb, qr, zY]
 | c :: l, a => by
  simp only [yb, qr, zY]
  rw [Zav x l (c + 1)]; omega
def jm (t : zp) (f n : Nat) : zp := (t.drop f).take n
theorem ZT {t : zp} {f n : Nat} {s : Stop} (h : t[f + n]? = some s) : jm t f (n + 1) = jm t f n ++ [s] := by
 have h' : (t.drop f)[n]? = some s := by rw [List.getElem?_drop]; exact h
 obtain ⟨h1, h2⟩ := List.getElem?_eq_some_iff.1 h'
 unfold jm
 rw [List.take_succ_eq_append_getElem h1, h2]
theorem getD_some {t : zp} {i : Nat} {s : Stop} (h : t[i]? = some s) : t.getD i default = s := by rw [List.getD_eq_getElem?_getD, h]; rfl
theorem Zaw (x : Inst) (t : zp) (f : Nat) (a : Int) : ∀ n, f + n < t.length → qr x a ((jm t f (n + 1)).map (·.c)) = arc x a ((t.getD f default).c + 1) + (fzZ x t (f + n) - fzZ x t f) ∧ zY a ((jm t f (n + 1)).map (·.c)) = (t.getD (f + n) default).c + 1
 | 0, h => by
  have h0 : t[f + 0]? = some t[f] := List.getElem?_eq_getElem (by omega)
  rw [ZT h0]
  have : jm t f 0 = [] := by simp [jm]
  rw [this, getD_some h0]
  simp only [Nat.add_zero] at *
  rw [getD_some h0]
  simp [qr, zY]
 | n + 1, h => by
  obtain ⟨i1, i2⟩ := Zaw x t f a n (by omega)
  have h0 : t[f + (n + 1)]? = some t[f + (n + 1)] := List.getElem?_eq_getElem (by omega)
  rw [ZT h0, List.map_append, JY, JZ, i1, i2, getD_some h0]
  simp only [List.map_cons, List.map_nil, qr, zY]
  have e : fzZ x t (f + (n + 1)) = fzZ x t (f + n) + arc x ((t.getD (f + n) default).c + 1) ((t.getD (f + (n + 1)) default).c + 1) := rfl
  rw [e, getD_some h0]
  exact ⟨by omega, trivial⟩
theorem Zax (x : Inst) (t : zp) (f : Nat) : ∀ (n : Nat) (a : Int), f + n < t.length → qr x a ((jm t f (n + 1)).reverse.map (·.c)) = arc x a ((t.getD (f + n) default).c + 1) + (bzZ x t (f + n) - bzZ x t f) ∧ zY a ((jm t f (n + 1)).reverse.map (·.c)) = (t.getD f default).c + 1
 | 0, a, h => by
  have h0 : t[f + 0]? = some t[f] := List.getElem?_eq_getElem (by omega)
  rw [ZT h0]
  have : jm t f 0 = [] := by simp [jm]
  rw [this, getD_some h0]
  simp only [Nat.add_zero] at *
  rw [getD_some h0]
  simp [qr, zY]
 | n + 1, a, h => by
  have h0 : t[f + (n + 1)]? = some t[f + (n + 1)] := List.getElem?_eq_getElem (by omega)
  obtain ⟨i1, i2⟩ := Zax x t f n ((t.getD (f + (n + 1)) default).c + 1) (by omega)
  rw [ZT h0, List.reverse_append]
  simp only [List.reverse_cons, List.reverse_nil, List.nil_append, List.cons_append, List.map_cons, qr, zY]
  rw [getD_some h0] at i1 i2 ⊢
  rw [i1, i2]
  have e : bzZ x t (f + (n + 1)) = bzZ x t (f + n) + arc x ((t.getD (f + (n + 1)) default).c + 1) ((t.getD (f + n) default).c + 1) := rfl
  rw [e, getD_some h0]
  exact ⟨by omega, rfl⟩
theorem Zay (t : zp) (f : Nat) : ∀ n, f + n ≤ t.length → zt (jm t f n) = zt (t.take (f + n)) - zt (t.take f)
 | 0, _ => by simp [jm, zt]
 | n + 1, h => by
  have h0 : t[f + n]? = some t[f + n] := List.getElem?_eq_getElem (by omega)
  have e : t.take (f + n + 1) = t.take (f + n) ++ [t[f + n]] := List.take_succ_eq_append_getElem (by omega)
  rw [ZT h0, ZA, Zay t f n (by omega), ← Nat.add_assoc, e, ZA]; omega
def yP (x : Inst) (d : Day) (st : Int × Int) (p : Pc) : Int × Int :=
 if p.f < p.o then
  (bif p.b then (((d.getD p.t []).getD p.f default).c + 1, st.2 + (arc x st.1 (((d.getD p.t []).getD (p.o - 1) default).c + 1) + bzZ x (d.getD p.t []) (p.o - 1) - bzZ x (d.getD p.t []) p.f))
  else (((d.getD p.t []).getD (p.o - 1) default).c + 1, st.2 + (arc x st.1 (((d.getD p.t []).getD p.f default).c + 1) + fzZ x (d.getD p.t []) (p.o - 1) - fzZ x (d.getD p.t []) p.f)))
 else st
def qY (x : Inst) (d : Day) (r : Rw5) : Int := (r.l.foldl (yP x d) (0, 0)).2 + arc x (r.l.foldl (yP x d) (0, 0)).1 0
def ldS (d : Day) (st : Int) (p : Pc) : Int := if p.f < p.o then st + (zt ((d.getD p.t []).take p.o) - zt ((d.getD p.t []).take p.f)) else st
def ldR (d : Day) (r : Rw5) : Int := r.l.foldl (ldS d) 0
theorem Zhd {x : Inst} {d : Day} {p : Pc} (h : uT d p) (g : List Stop) : yP x d (zY 0 (g.map (·.c)), qr x 0 (g.map (·.c))) p = (zY 0 ((g ++ yk d p).map (·.c)), qr x 0 ((g ++ yk d p).map (·.c))) := by
 unfold yP yk
 by_cases hfo : p.f < p.o
 ·obtain ⟨ht, ho⟩ := h hfo
  unfold tlen at ho
  rw [if_pos hfo, if_pos hfo]
  generalize d.getD p.t [] = t at *
  obtain ⟨n, hn⟩ : ∃ n, p.o = p.f + n + 1 := ⟨p.o - p.f - 1, by omega⟩
  have e1 : p.o - 1 = p.f + n := by omega
  have e2 : p.o - p.f = n + 1 := by omega
  rw [e1, e2, List.map_append, JY, JZ]
  cases p.b with
  | true =>
   simp only [cond_true]
   obtain ⟨i1, i2⟩ := Zax x t p.f n (zY 0 (g.map (·.c))) (by omega)
   unfold jm at i1 i2
   rw [i1, i2]
   congr 1; omega
  | false =>
   simp only [cond_false]
   obtain ⟨i1, i2⟩ := Zaw x t p.f (zY 0 (g.map (·.c))) n (by omega)
   unfold jm at i1 i2
   rw [i1, i2]
   congr 1; omega
 ·rw [if_neg hfo, if_neg hfo, List.append_nil]
theorem Zaz {x : Inst} {d : Day} : ∀ (l : List Pc) (g : List Stop), (∀ p ∈ l, uT d p) → l.foldl (yP x d) (zY 0 (g.map (·.c)), qr x 0 (g.map (·.c))) = (zY 0 ((g ++ l.flatMap (yk d)).map (·.c)), qr x 0 ((g ++ l.flatMap (yk d)).map (·.c)))
 | [], g, _ => by simp
 | p :: l, g, h => by
  rw [List.foldl_cons, Zhd (h p (by simp)), Zaz l _ fun q hq => h q (by simp [hq]), List.flatMap_cons, List.append_assoc]
theorem J0 {x : Inst} {d : Day} {r : Rw5} (h : j7 d r) (h0 : arc x 0 0 = 0) : qY x d r = zC x ((zS d r).map (·.c)) := by
 have := Zaz (x := x) r.l [] h
 simp only [List.map_nil, zY, qr, List.nil_append] at this
 unfold qY
 rw [this]
 simp only
 unfold zS zC
 split
 ·rename_i e
  rw [e]; simp [qr, zY, h0]
 ·rw [Zav]
theorem Zhe {d : Day} {p : Pc} (h : uT d p) (g : List Stop) : ldS d (zt g) p = zt (g ++ yk d p) := by
 unfold ldS yk
 by_cases hfo : p.f < p.o
 ·obtain ⟨ht, ho⟩ := h hfo
  unfold tlen at ho
  rw [if_pos hfo, if_pos hfo, ZfR]
  generalize d.getD p.t [] = t at *
  have := Zay t p.f (p.o - p.f) (by omega)
  rw [show p.f + (p.o - p.f) = p.o by omega] at this
  have hr : ∀ l : zp, zt l.reverse = zt l := fun l => by unfold zt; exact ZfQ ((List.reverse_perm l).map _)
  unfold jm at this
  cases p.b with
  | true => simp only [cond_true]; rw [hr, this]
  | false => simp only [cond_false]; rw [this]
 ·rw [if_neg hfo, if_neg hfo, List.append_nil]
theorem Zhf {d : Day} {r : Rw5} (h : j7 d r) : ldR d r = zt (zS d r) := by
 have key : ∀ (l : List Pc) (g : List Stop), (∀ p ∈ l, uT d p) → l.foldl (ldS d) (zt g) = zt (g ++ l.flatMap (yk d)) := by
  intro l
  induction l with
  | nil => intro g _; simp
  | cons p l ih =>
   intro g h
   rw [List.foldl_cons, Zhe (h p (by simp)), ih _ fun q hq => h q (by simp [hq]), List.flatMap_cons, List.append_assoc]
 have := key r.l [] h
 simpa [ldR, zS, zt] using this
open Go Go.Proofs
abbrev rdG (x : Inst) (d : Day) (sms : List Sm) : List PV := [I x.days, I x.veh, I x.cap, I x.len, L x.cust, L x.dist, L d, L sms]
theorem uX {x : Inst} (h : yG x) (a b : Int) : 0 ≤ arc x a b ∧ arc x a b ≤ 2147483648 := h a b
theorem Y9 {x : Inst} {d : Day} {sms : List Sm} (hs : sms = d.map (smZ x)) {k : Nat} (h : k < d.length) : ∃ (t : zp) (td tf : List PV), d[k]? = some t ∧ d.getD k [] = t ∧ (d.flatMap Enc.enc : List PV).drop k = L t :: td ∧
  (sms.flatMap Enc.enc : List PV).drop (k * 4) = [L (smZ x t).f, L (smZ x t).b, L (smZ x t).l, I (smZ x t).n] ++ tf := by
 obtain ⟨t, td, a1, -, -, e0⟩ := el1 rfl d k h
 rw [hs]
 obtain ⟨s, ts, b1, -, -, -, f0⟩ := el 4 rfl (d.map (smZ x)) k (by simpa using h)
 have : s = smZ x t := by rw [List.getElem?_map, a1] at b1; exact (Option.some.inj b1).symm
 subst this
 exact ⟨t, td, ts, a1, by rw [List.getD_eq_getElem?_getD, a1]; rfl, e0, f0⟩
theorem uY {α : Type} [Enc α] (n : Nat) (hn : Enc.sz α = 1) (f : Nat → α) {i : Nat} (h : i < n) : ∃ tl, (((List.range n).map f).flatMap Enc.enc : List PV).drop i = Enc.enc (f i) ++ tl := by
 obtain ⟨s, ts, b1, -, -, f0⟩ := el1 hn ((List.range n).map f) i (by simpa using h)
 have : s = f i := by rw [List.getElem?_map, List.getElem?_range h] at b1; exact (Option.some.inj b1).symm
 subst this
 exact ⟨ts, f0⟩
set_option maxRecDepth 20000 in
set_option maxHeartbeats 3200000 in
theorem J1 (x : Inst) (d : Day) (r : Rw5) (hx : yG x) (hd' : MvDay d) (hr : j7 d r) : Pure Tryz.prog 199 [.ip (rdL x d), .agg (rwL r)] (I (qY x d r)) := by
 obtain ⟨sms, hsms⟩ : ∃ sms, sms = d.map (smZ x) := ⟨_, rfl⟩
 have hml : sms.length = d.length := by rw [hsms]; simp
 rw [show rdL x d = rdG x d sms from by rw [hsms]]
 have hdn := hd'.n
 have hat := fun k (h : k < 5) => Y8 r h
 have hz : qY x d r = ((r.l.take 5).foldl (yP x d) (0, 0)).2 + arc x ((r.l.take 5).foldl (yP x d) (0, 0)).1 0 := by unfold qY; rw [List.take_of_length_le (by simp [Rw5.l])]
 rw [hz]
 clear hz
 have hcl : (rwL r).length = 20 := rfl
 have hct : (rwL r).take 20 = rwL r := rfl
 generalize hrc : rwL r = rc at *
 refine pwe Tryz.func199 Tryz.ntmps199 Tryz.results199 fun S nx hd => ?_
 repeat apply za
 refine pwn ?_
 intro v0
 (repeat apply za); refine pwn ?_; intros
 repeat apply za
 refine pwN [] (jn2 hcl hct) ?_
 intros
 repeat apply za
 refine ze (zq (fun k : Nat => k ≤ 5 ∧ -(8796093022208 * (k : Int)) ≤ ((r.l.take k).foldl (yP x d) (0, 0)).2 ∧ ((r.l.take k).foldl (yP x d) (0, 0)).2 ≤ 8796093022208 * k) (fun k => [(0, .ip (rdG x d sms)), (3, .ptr nx v0 0), (5, I ((r.l.take k).foldl (yP x d) (0, 0)).1), (6, I ((r.l.take k).foldl (yP x d) (0, 0)).2), (13, .agg rc), (14, I k)]) (fun _ => [.cells v0 202 rc]) (fun k => 5 - k) 0 [] (by simp) (by simp) (by simp) ?_)
 rintro k ⟨hk, hb1, hb2⟩
 by_cases hk5 : k < 5
 ·obtain ⟨p, hp1, hp2, hp3⟩ := hat k hk5
  have hk5' : (k : Int) < 5 := by omega
  have hk6 : 4 ≤ 20 - k * 4 := by omega
  have hok := hr p (List.mem_of_getElem? hp1)
  have hnx : (r.l.take (k + 1)).foldl (yP x d) (0, 0) = yP x d ((r.l.take k).foldl (yP x d) (0, 0)) p := by rw [hp3, List.foldl_append]; rfl
  generalize (r.l.take k).foldl (yP x d) (0, 0) = st at *
  obtain ⟨at_, all⟩ := st
  simp only at hb1 hb2 ⊢
  have wk := wrN k (by omega)
  repeat apply za
  refine pwN [] hk5' ?_
  intros
  repeat apply za
  refine zh rfl ?_
  refine zd (za (ze ?_))
  repeat apply za
  refine pwN [] (jn5 hp2 hk5 hk5' hcl hk6) ?_
  intro v3
  by_cases hfo : p.f < p.o
  case neg =>
   have hpz : yP x d (at_, all) p = (at_, all) := by unfold yP; rw [if_neg hfo]
   rw [hpz] at hnx
   have hfo' : p.o ≤ p.f := by omega
   repeat apply za
   refine pwN [] hfo' ?_
   intros
   repeat apply za
   refine zh (by simp [hfo']) ?_
   refine zm ?_
   (repeat apply za); refine pwn ?_; intros
   exact zk (k + 1) [_] ⟨by omega, by rw [hnx]; simp only; omega, by rw [hnx]; simp only; omega⟩ (by omega) (by simp [wk, hnx]) rfl (by simp; rfl)
  obtain ⟨ht, ho⟩ := hok hfo
  obtain ⟨t, td, tf, a1, hgt, e0, f0⟩ := Y9 hsms ht
  unfold tlen at ho
  rw [hgt] at ho
  have htm := List.mem_of_getElem? a1
  have htl := hd'.t t htm
  have hts := hd'.s t htm
  have ht1 : 1 ≤ d.length - p.t := by omega
  have ht4 : 4 ≤ d.length * 4 - p.t * 4 := by omega
  obtain ⟨n, hn⟩ : ∃ n, p.o = n + 1 := ⟨p.o - 1, by omega⟩
  have hfo' : ¬ p.o ≤ p.f := by omega
  have hst : yP x d (at_, all) p = bif p.b then ((t.getD p.f default).c + 1, all + (arc x at_ ((t.getD n default).c + 1) + bzZ x t n - bzZ x t p.f)) else ((t.getD n default).c + 1, all + (arc x at_ ((t.getD p.f default).c + 1) + fzZ x t n - fzZ x t p.f)) := by
   unfold yP; rw [if_pos hfo, hgt, show p.o - 1 = n by omega]
  rw [hst] at hnx
  clear hst
  obtain ⟨sf, tsf, s1, -, -, -, s0⟩ := el 2 rfl t p.f (by omega)
  obtain ⟨sl, tsl, l1, -, -, -, l0⟩ := el 2 rfl t n (by omega)
  have hgf : t.getD p.f default = sf := getD_some s1
  have hgl : t.getD n default = sl := getD_some l1
  rw [hgf, hgl] at hnx
  have q1 : p.f < t.length := by omega
  have q2 : n < t.length := by omega
  have q3 : 2 ≤ t.length * 2 - p.f * 2 := by omega
  have q4 : 2 ≤ t.length * 2 - n * 2 := by omega
  have wo : IntKind.i64.wrap ((p.o : Int) - 1) = (n : Int) := by rw [wr _ (by omega) (by omega)]; omega
  have wsf := xx (hts sf (List.mem_of_getElem? s1)).1
  have wsl := xx (hts sl (List.mem_of_getElem? l1)).1
  have bf1 := uV hx t p.f
  have bf2 := uV hx t n
  have bb1 := uW hx t p.f
  have bb2 := uW hx t n
  have hlen : ((List.range t.length).map (fzZ x t)).length = t.length ∧ ((List.range t.length).map (bzZ x t)).length = t.length := by simp
  obtain ⟨z1, hz1⟩ := uY t.length rfl (fzZ x t) q1
  obtain ⟨z2, hz2⟩ := uY t.length rfl (fzZ x t) q2
  obtain ⟨z3, hz3⟩ := uY t.length rfl (bzZ x t) q1
  obtain ⟨z4, hz4⟩ := uY t.length rfl (bzZ x t) q2
  have q5 : 1 ≤ t.length - p.f := by omega
  have q6 : 1 ≤ t.length - n := by omega
  simp only [smZ] at f0
  generalize hfl : (List.range t.length).map (fzZ x t) = fl at *
  generalize hbl : (List.range t.length).map (bzZ x t) = bl at *
  generalize ((List.range (t.length + 1)).map fun i => zt (t.take i)) = ll at *
  generalize zC x (t.map (·.c)) = wl at *
  obtain ⟨hl1, hl2⟩ := hlen
  have hfll : (fl.flatMap Enc.enc : List PV).length = t.length := by rw [qi, hl1]
  have hbll : (bl.flatMap Enc.enc : List PV).length = t.length := by rw [qi, hl2]
  repeat apply za
  refine pwN [] hfo' ?_
  intros
  repeat apply za
  refine zj (by simp [hfo']) ?_
  refine zd ?_
  repeat apply za
  refine pwY (some [nx + 1]) (Row.pures [0, 1, 2, 3, 4, 5, 6, 7, 8, 9, 10, 11, 12, 13, 14, 15, 16, 17, 18, 19, 20] .done) mixed (jn6 e0 f0 ht ht1 ht4 hml) ?_
  intros
  repeat apply za
  refine pwY (some [nx + 1]) (Row.pures [0, 1, 2, 3, 4, 5, 6] .done) mixed wo ?_
  intros
  refine za ?_
  cases hpb : p.b with
  | false =>
   rw [hpb] at hnx
   simp only [cond_false] at hnx
   have har := uX hx at_ (sf.c + 1)
   have ar := jV x at_ (sf.c + 1)
   have w1 : IntKind.i64.wrap (arc x at_ (sf.c + 1) + fzZ x t n) = arc x at_ (sf.c + 1) + fzZ x t n := wr _ (by omega) (by omega)
   have w2 : IntKind.i64.wrap (arc x at_ (sf.c + 1) + fzZ x t n - fzZ x t p.f) = arc x at_ (sf.c + 1) + fzZ x t n - fzZ x t p.f := wr _ (by omega) (by omega)
   have w3 : IntKind.i64.wrap (all + (arc x at_ (sf.c + 1) + fzZ x t n - fzZ x t p.f)) = all + (arc x at_ (sf.c + 1) + fzZ x t n - fzZ x t p.f) := wr _ (by omega) (by omega)
   repeat apply za
   refine pwN [] hpb ?_
   intros
   repeat apply za
   refine zj rfl ?_
   refine zd ?_
   repeat apply za
   refine pwY (some [nx + 1]) (Row.pures [0, 1, 2, 3, 4, 5, 6, 7, 8, 9, 10, 11, 12, 13, 14, 15, 16, 17, 18, 19, 20, 21, 22, 23, 24, 25, 26, 27] .done) mixed (jn6 s0 q1 q3 wsf wo (jn2 (jn6 hz1 hz2 hfll hl1 q2 q5) (jn4 q6 w1 w2 w3))) ?_
   refine pwP (ar) (jn6 s0 q1 q3 wsf wo (jn2 (jn6 hz1 hz2 hfll hl1 q2 q5) (jn4 q6 w1 w2 w3))) ?_
   intros
   repeat apply za
   refine pwN [] (jn4 l0 q2 q4 wsl) ?_
   intros
   (repeat apply za); refine pwn ?_; intros
   exact zk (k + 1) [_] ⟨by omega, by rw [hnx]; simp only; omega, by rw [hnx]; simp only; omega⟩ (by omega) (by simp [wk, hnx]) rfl (by simp; rfl)
  | true =>
   rw [hpb] at hnx
   simp only [cond_true] at hnx
   have har := uX hx at_ (sl.c + 1)
   have ar := jV x at_ (sl.c + 1)
   have w1 : IntKind.i64.wrap (arc x at_ (sl.c + 1) + bzZ x t n) = arc x at_ (sl.c + 1) + bzZ x t n := wr _ (by omega) (by omega)
   have w2 : IntKind.i64.wrap (arc x at_ (sl.c + 1) + bzZ x t n - bzZ x t p.f) = arc x at_ (sl.c + 1) + bzZ x t n - bzZ x t p.f := wr _ (by omega) (by omega)
   have w3 : IntKind.i64.wrap (all + (arc x at_ (sl.c + 1) + bzZ x t n - bzZ x t p.f)) = all + (arc x at_ (sl.c + 1) + bzZ x t n - bzZ x t p.f) := wr _ (by omega) (by omega)
   repeat apply za
   refine pwN [] hpb ?_
   intros
   repeat apply za
   refine zh rfl ?_
   repeat apply za
   refine pwY (some [nx + 1]) (Row.pures [0, 1, 2, 3, 4, 5, 6, 7, 8, 9, 10, 11, 12, 13] .done) mixed (jn4 f0 ht ht4 hml) ?_
   intros
   repeat apply za
   refine pwY (some [nx + 1]) (Row.pures [0, 1, 2, 3, 4, 5, 6, 7, 8, 9, 10, 11, 12, 13, 14, 15, 16, 17, 18, 19, 20, 21, 22, 23, 24, 25, 26, 27] .done) mixed (jn6 l0 q2 q4 wsl wo (jn2 (jn6 hz3 hz4 hbll hl2 q1 q5) (jn4 q6 w1 w2 w3))) ?_
   refine pwP (ar) (jn6 l0 q2 q4 wsl wo (jn2 (jn6 hz3 hz4 hbll hl2 q1 q5) (jn4 q6 w1 w2 w3))) ?_
   intros
   repeat apply za
   refine pwN [] (jn4 s0 q1 q3 wsf) ?_
   intros
   (repeat apply za); refine pwn ?_; intros
   exact zk (k + 1) [_] ⟨by omega, by rw [hnx]; simp only; omega, by rw [hnx]; simp only; omega⟩ (by omega) (by simp [wk, hnx]) rfl (by simp; rfl)
 ·obtain rfl : k = 5 := by omega
  generalize (r.l.take 5).foldl (yP x d) (0, 0) = st at *
  obtain ⟨at_, all⟩ := st
  simp only at hb1 hb2 ⊢
  have har := uX hx at_ 0
  have ar := jV x at_ 0
  have w1 : IntKind.i64.wrap (all + arc x at_ 0) = all + arc x at_ 0 := wr _ (by omega) (by omega)
  (repeat apply za); refine pwn ?_; intros
  repeat apply za
  refine zj rfl ?_
  refine zm ?_
  repeat apply za
  refine pwn ?_
  refine pwC [] ar w1 ?_
  intros
  repeat apply za
  exact zb (zg hd rfl rfl)
open Go Go.Proofs
set_option maxRecDepth 20000 in
set_option maxHeartbeats 3200000 in
theorem Zhg (x : Inst) (d : Day) (r : Rw5) (hd' : MvDay d) (hr : j7 d r) : Pure Tryz.prog 200 [.ip (rdL x d), .agg (rwL r)] (I (ldR d r)) := by
 obtain ⟨sms, hsms⟩ : ∃ sms, sms = d.map (smZ x) := ⟨_, rfl⟩
 have hml : sms.length = d.length := by rw [hsms]; simp
 rw [show rdL x d = rdG x d sms from by rw [hsms]]
 have hdn := hd'.n
 have hat := fun k (h : k < 5) => Y8 r h
 have hz : ldR d r = (r.l.take 5).foldl (ldS d) 0 := by unfold ldR; rw [List.take_of_length_le (by simp [Rw5.l])]
 rw [hz]
 clear hz
 have hcl : (rwL r).length = 20 := rfl
 have hct : (rwL r).take 20 = rwL r := rfl
 generalize hrc : rwL r = rc at *
 refine pwe Tryz.func200 Tryz.ntmps200 Tryz.results200 fun S nx hd => ?_
 repeat apply za
 refine pwn ?_
 intro v0
 (repeat apply za); refine pwn ?_; intros
 repeat apply za
 refine pwN [] (jn2 hcl hct) ?_
 intros
 repeat apply za
 refine ze (zq (fun k : Nat => k ≤ 5 ∧ -(8796093022208 * (k : Int)) ≤ (r.l.take k).foldl (ldS d) 0 ∧ (r.l.take k).foldl (ldS d) 0 ≤ 8796093022208 * k) (fun k => [(0, .ip (rdG x d sms)), (3, .ptr nx v0 0), (5, I ((r.l.take k).foldl (ldS d) 0)), (8, .agg rc), (9, I k)]) (fun _ => [.cells v0 202 rc]) (fun k => 5 - k) 0 [] (by simp) (by simp) (by simp) ?_)
 rintro k ⟨hk, hb1, hb2⟩
 by_cases hk5 : k < 5
 ·obtain ⟨p, hp1, hp2, hp3⟩ := hat k hk5
  have hk5' : (k : Int) < 5 := by omega
  have hk6 : 4 ≤ 20 - k * 4 := by omega
  have hok := hr p (List.mem_of_getElem? hp1)
  have hnx : (r.l.take (k + 1)).foldl (ldS d) 0 = ldS d ((r.l.take k).foldl (ldS d) 0) p := by rw [hp3, List.foldl_append]; rfl
  generalize (r.l.take k).foldl (ldS d) 0 = all at *
  have wk := wrN k (by omega)
  repeat apply za
  refine pwN [] hk5' ?_
  intros
  repeat apply za
  refine zh rfl ?_
  refine zd (za (ze ?_))
  repeat apply za
  refine pwN [] (jn5 hp2 hk5 hk5' hcl hk6) ?_
  intro v3
  by_cases hfo : p.f < p.o
  case neg =>
   have hpz : ldS d all p = all := by unfold ldS; rw [if_neg hfo]
   rw [hpz] at hnx
   repeat apply za
   refine pwN [] hfo ?_
   intros
   repeat apply za
   refine zj (by simp [hfo]) ?_
   refine zd ?_
   (repeat apply za); refine pwn ?_; intros
   exact zk (k + 1) [_] ⟨by omega, by rw [hnx]; omega, by rw [hnx]; omega⟩ (by omega) (by simp [wk, hnx]) rfl (by simp; rfl)
  obtain ⟨ht, ho⟩ := hok hfo
  obtain ⟨t, td, tf, a1, hgt, e0, f0⟩ := Y9 hsms ht
  unfold tlen at ho
  rw [hgt] at ho
  have htm := List.mem_of_getElem? a1
  have htl := hd'.t t htm
  have hts := hd'.s t htm
  have ht4 : 4 ≤ d.length * 4 - p.t * 4 := by omega
  have hst : ldS d all p = all + (zt (t.take p.o) - zt (t.take p.f)) := by unfold ldS; rw [if_pos hfo, hgt]
  rw [hst] at hnx
  have b1 := JE (t := t.take p.o) (fun a ha => (hts a (List.mem_of_mem_take ha)).2)
  have b2 := JE (t := t.take p.f) (fun a ha => (hts a (List.mem_of_mem_take ha)).2)
  have b3 : (t.take p.o).length ≤ 1000 := by rw [List.length_take]; omega
  have b4 : (t.take p.f).length ≤ 1000 := by rw [List.length_take]; omega
  have w1 : IntKind.i64.wrap (zt (t.take p.o) - zt (t.take p.f)) = zt (t.take p.o) - zt (t.take p.f) := wr _ (by omega) (by omega)
  have w2 : IntKind.i64.wrap (all + (zt (t.take p.o) - zt (t.take p.f))) = all + (zt (t.take p.o) - zt (t.take p.f)) := wr _ (by omega) (by omega)
  obtain ⟨z1, hz1⟩ := uY (t.length + 1) rfl (fun i => zt (t.take i)) (show p.o < t.length + 1 by omega)
  obtain ⟨z2, hz2⟩ := uY (t.length + 1) rfl (fun i => zt (t.take i)) (show p.f < t.length + 1 by omega)
  have hll : ((List.range (t.length + 1)).map fun i => zt (t.take i)).length = t.length + 1 := by simp
  simp only [smZ] at f0
  generalize (List.range t.length).map (fzZ x t) = fl at *
  generalize (List.range t.length).map (bzZ x t) = bl at *
  generalize ((List.range (t.length + 1)).map fun i => zt (t.take i)) = ll at *
  generalize zC x (t.map (·.c)) = wl at *
  generalize zt (t.take p.o) = lo at *
  generalize zt (t.take p.f) = lf at *
  have hlf : (ll.flatMap Enc.enc : List PV).length = t.length + 1 := by rw [qi, hll]
  have q1 : p.o < t.length + 1 := by omega
  have q2 : p.f < t.length + 1 := by omega
  have q3 : 1 ≤ t.length + 1 - p.o := by omega
  have q4 : 1 ≤ t.length + 1 - p.f := by omega
  have q5 : (p.o : Int) < (t.length : Int) + 1 := by omega
  have q6 : (p.f : Int) < (t.length : Int) + 1 := by omega
  repeat apply za
  refine pwN [] hfo ?_
  intros
  repeat apply za
  refine zh (by simp [hfo]) ?_
  repeat apply za
  refine pwY (some [nx + 1]) (Row.pures [0, 1, 2, 3, 4, 5, 6, 7, 8, 9, 10, 11, 12, 13, 14, 15, 16, 17, 18, 19, 20, 21, 22, 23, 24, 25, 26, 27, 28, 29] .done) mixed (jn6 f0 ht ht4 hml hz1 (jn2 (jn6 hz2 hll hlf q1 q2 q3) (jn5 q4 q5 q6 w1 w2))) ?_
  intros
  (repeat apply za); refine pwn ?_; intros
  exact zk (k + 1) [_] ⟨by omega, by rw [hnx]; omega, by rw [hnx]; omega⟩ (by omega) (by simp [wk, hnx]) rfl (by simp; rfl)
 ·obtain rfl : k = 5 := by omega
  (repeat apply za); refine pwn ?_; intros
  repeat apply za
  refine zj rfl ?_
  refine zm ?_
  (repeat apply za); refine pwn ?_; intros
  repeat apply za
  exact zb (zg hd rfl rfl)
def ZU (x : Inst) (d : Day) (m : Mv) (r1 r2 : Rw5) : Int := qY x d r1 - zC x ((d.getD m.a []).map (·.c)) + (if m.a = m.b then 0 else qY x d r2 - zC x ((d.getD m.b []).map (·.c)))
theorem ZaA {x : Inst} (hx : yG x) {d : Day} (hd' : MvDay d) {r : Rw5} (hr : j7 d r) : -52776558133248 ≤ qY x d r ∧ qY x d r ≤ 52776558133248 := by
 have key : ∀ k : Nat, k ≤ 5 → -(8796093022208 * (k : Int)) ≤ ((r.l.take k).foldl (yP x d) (0, 0)).2 ∧ ((r.l.take k).foldl (yP x d) (0, 0)).2 ≤ 8796093022208 * k := by
  intro k
  induction k with
  | zero => intro _; simp
  | succ k ih =>
   intro hk
   obtain ⟨h1, h2⟩ := ih (by omega)
   obtain ⟨p, hp1, -, hp3⟩ := Y8 r (show k < 5 by omega)
   have hok := hr p (List.mem_of_getElem? hp1)
   rw [hp3, List.foldl_append, List.foldl_cons, List.foldl_nil]
   generalize (r.l.take k).foldl (yP x d) (0, 0) = st at *
   unfold yP
   by_cases hfo : p.f < p.o
   ·obtain ⟨ht, ho⟩ := hok hfo
    have htm : d.getD p.t [] ∈ d := List.mem_of_getElem? (i := p.t) (by rw [List.getD_eq_getElem?_getD, List.getElem?_eq_getElem ht]; rfl)
    have htl := hd'.t _ htm
    unfold tlen at ho
    generalize d.getD p.t [] = t at *
    have b1 := uV hx t p.f
    have b2 := uV hx t (p.o - 1)
    have b3 := uW hx t p.f
    have b4 := uW hx t (p.o - 1)
    rw [if_pos hfo]
    cases p.b with
    | true =>
     have := uX hx st.1 ((t.getD (p.o - 1) default).c + 1)
     simp only [cond_true]; omega
    | false =>
     have := uX hx st.1 ((t.getD p.f default).c + 1)
     simp only [cond_false]; omega
   ·rw [if_neg hfo]; omega
 have h5 := key 5 (by omega)
 rw [List.take_of_length_le (by simp [Rw5.l])] at h5
 have := uX hx (r.l.foldl (yP x d) (0, 0)).1 0
 unfold qY
 omega
set_option maxRecDepth 20000 in
set_option maxHeartbeats 3200000 in
theorem Zhh (x : Inst) (d : Day) (m : Mv) (r1 r2 : Rw5) (hx : yG x) (hd' : MvDay d) (hr1 : j7 d r1) (hr2 : j7 d r2) (ha : m.a < d.length) (hb : m.b < d.length) : Pure Tryz.prog 156 [.ip (rdL x d), .agg (mvL m), .agg (rwL r1), .agg (rwL r2)] (I (ZU x d m r1 r2)) := by
 have l1 := J1 x d r1 hx hd' hr1
 have l2 := J1 x d r2 hx hd' hr2
 have b1 := ZaA hx hd' hr1
 have b2 := ZaA hx hd' hr2
 obtain ⟨sms, hsms⟩ : ∃ sms, sms = d.map (smZ x) := ⟨_, rfl⟩
 have hml : sms.length = d.length := by rw [hsms]; simp
 rw [show rdL x d = rdG x d sms from by rw [hsms]] at l1 l2 ⊢
 have hdn := hd'.n
 obtain ⟨ta, tda, tfa, a1, hga, -, fa⟩ := Y9 hsms ha
 obtain ⟨tb, tdb, tfb, c1, hgb, -, fb⟩ := Y9 hsms hb
 have wa := uP hx (ta.map (·.c))
 have wb := uP hx (tb.map (·.c))
 rw [List.length_map] at wa wb
 have hta := hd'.t ta (List.mem_of_getElem? a1)
 have htb := hd'.t tb (List.mem_of_getElem? c1)
 have hdef : ZU x d m r1 r2 = qY x d r1 - zC x (ta.map (·.c)) + (if m.a = m.b then 0 else qY x d r2 - zC x (tb.map (·.c))) := by unfold ZU; rw [hga, hgb]
 rw [hdef]
 clear hdef
 simp only [smZ] at fa fb
 generalize qY x d r1 = k1 at *
 generalize qY x d r2 = k2 at *
 generalize zC x (ta.map (·.c)) = wl at *
 generalize zC x (tb.map (·.c)) = wm at *
 have ha4 : 4 ≤ d.length * 4 - m.a * 4 := by omega
 have hb4 : 4 ≤ d.length * 4 - m.b * 4 := by omega
 have w1 : IntKind.i64.wrap (k1 - wl) = k1 - wl := wr _ (by omega) (by omega)
 have w2 : IntKind.i64.wrap (k2 - wm) = k2 - wm := wr _ (by omega) (by omega)
 have w3 : IntKind.i64.wrap (k1 - wl + (k2 - wm)) = k1 - wl + (k2 - wm) := wr _ (by omega) (by omega)
 have hc1 : (rwL r1).length = 20 := rfl
 have ht1 : (rwL r1).take 20 = rwL r1 := rfl
 have hc2 : (rwL r2).length = 20 := rfl
 have ht2 : (rwL r2).take 20 = rwL r2 := rfl
 generalize hrc1 : rwL r1 = rc1 at *
 generalize hrc2 : rwL r2 = rc2 at *
 refine pwe Tryz.func156 Tryz.ntmps156 Tryz.results156 fun S nx hd => ?_
 repeat apply za
 refine pwn ?_
 intro v0 v1 v2
 repeat apply za
 refine pwY (some [nx, nx + 1]) (Row.pures [0, 1, 2, 3, 4, 5, 6, 7, 8, 9, 10, 11, 12, 13] .done) mixed (jn6 hc1 ht1 fa ha ha4 (jn2 hml w1)) ?_
 refine pwP (l1) (jn6 hc1 ht1 fa ha ha4 (jn2 hml w1)) ?_
 intros
 by_cases hab : m.a = m.b
 ·have hab' : (m.a : Int) = m.b := by omega
  rw [if_pos hab]
  repeat apply za
  refine pwN [] hab' ?_
  intros
  repeat apply za
  refine zj (by simp [hab']) ?_
  refine zd ?_
  (repeat apply za); refine pwn ?_; intros
  repeat apply za
  exact zb (zg hd rfl (by simp [zi]))
 ·have hab' : ¬ (m.a : Int) = m.b := by omega
  rw [if_neg hab]
  repeat apply za
  refine pwN [] hab' ?_
  intros
  repeat apply za
  refine zh (by simp [hab']) ?_
  repeat apply za
  refine pwY (some [nx, nx + 2]) (Row.pures [0, 1, 2, 3, 4, 5, 6, 7, 8, 9, 10, 11, 12, 13, 14, 15] .done) mixed (jn6 hc2 ht2 fb hb hb4 (jn3 hml w2 w3)) ?_
  refine pwP (l2) (jn6 hc2 ht2 fb hb hb4 (jn3 hml w2 w3)) ?_
  intros
  (repeat apply za); refine pwn ?_; intros
  repeat apply za
  exact zb (zg hd rfl (by simp [zi]))
set_option maxRecDepth 20000 in
theorem ZaB (x : Inst) (d : Day) (r : Rw5) (hx : yG x) (hd' : MvDay d) (hr : j7 d r) : Pure Tryz.prog 157 [.ip (rdL x d), .agg (rwL r)] (B (decide (ldR d r ≤ x.cap ∧ qY x d r ≤ x.len))) := by
 have l1 := J1 x d r hx hd' hr
 have l2 := Zhg x d r hd' hr
 obtain ⟨sms, hsms⟩ : ∃ sms, sms = d.map (smZ x) := ⟨_, rfl⟩
 rw [show rdL x d = rdG x d sms from by rw [hsms]] at l1 l2 ⊢
 generalize qY x d r = k1 at *
 generalize ldR d r = k2 at *
 have hc1 : (rwL r).length = 20 := rfl
 have ht1 : (rwL r).take 20 = rwL r := rfl
 generalize hrc1 : rwL r = rc at *
 refine pwe Tryz.func157 Tryz.ntmps157 Tryz.results157 fun S nx hd => ?_
 repeat apply za
 refine pwn ?_
 intro v0
 by_cases h1 : k2 ≤ x.cap
 ·repeat apply za
  refine pwY (some [nx]) (Row.pures [0, 1, 2, 3, 4, 5, 6, 7, 8, 9, 10, 11, 12, 13, 14, 15, 16, 17, 18, 19, 20] .done) mixed (jn3 hc1 ht1 h1) ?_
  refine pwP (l2) (jn3 hc1 ht1 h1) ?_
  refine pwP (l1) (jn3 hc1 ht1 h1) ?_
  intros
  repeat apply za
  exact zb (zg hd rfl (by simp [zi, h1]))
 ·repeat apply za
  refine pwY (some [nx]) (Row.pures [0, 1, 2, 3, 4, 5, 6, 7, 8, 9, 10, 11, 12, 13, 14, 15, 16, 17, 18, 19, 20] .done) mixed (jn4 hc1 ht1 h1 zn) ?_
  refine pwP (l2) (jn4 hc1 ht1 h1 zn) ?_
  intros
  repeat apply za
  exact zb (zg hd rfl (by simp [zi, h1]))
open Go Go.Proofs
theorem Qa {α : Type} {W : Nat → List α} {n k i : Nat} {x : α} (hk : k < n) (h : (W k)[i]? = some x) : ((List.range n).flatMap W)[((List.range k).flatMap W).length + i]? = some x := by
 obtain ⟨m, rfl⟩ : ∃ m, n = k + (m + 1) := ⟨n - k - 1, by omega⟩
 have hi := (List.getElem?_eq_some_iff.1 h).1
 rw [List.range_add, List.flatMap_append, List.getElem?_append_right (Nat.le_add_right _ _), Nat.add_sub_cancel_left, List.range_succ_eq_map]
 simp only [List.map_cons, List.flatMap_cons, Nat.add_zero]
 rw [List.getElem?_append_left hi]
 exact h
theorem Qb {α : Type} (W : Nat → List α) (k : Nat) : ((List.range (k + 1)).flatMap W).length = ((List.range k).flatMap W).length + (W k).length := by
 rw [List.range_succ, List.flatMap_append, List.length_append]; simp
def wL (d : Day) (k a b i j : Nat) : Option Mv := if qM d ⟨k, a, b, i, j⟩ = true then some ⟨k, a, b, i, j⟩ else none
def xF (d : Day) (k a b i : Nat) : List Mv := (List.range (tlen d b + 1)).filterMap (wL d k a b i)
def x6 (d : Day) (k a b : Nat) : List Mv := (List.range (tlen d a + 1)).flatMap (xF d k a b)
def vn (d : Day) (k a : Nat) : List Mv := (List.range d.length).flatMap (x6 d k a)
def x7 (d : Day) (k : Nat) : List Mv := (List.range d.length).flatMap (vn d k)
def x8 (d : Day) : List Mv := (List.range 4).flatMap (x7 d)
abbrev mvE (m : Mv) : List PV := [.agg (mvL m)]
set_option maxRecDepth 20000 in
set_option maxHeartbeats 3200000 in
theorem Zhi (d : Day) (k a b : Nat) (hdn : d.length ≤ 1048576) (hdt : ∀ t ∈ d, t.length ≤ 1000) (hk : k ≤ 3) (ha : a < d.length) (hb : b < d.length) :
  Y1 Tryz.prog 198 (fun y => [.agg [L d], .agg [I k, I a, I b, I 0, I 0], yld y]) ((x6 d k a b).map mvE) (B true) := by
 refine VG Tryz.func198 (by rfl) rfl Tryz.ntmps198 (congrArg Array.toList Tryz.results198) (by simp) fun y V keep nx J hJd hY A0 hA0 => ?_
 obtain ⟨ta, xa, a1, -, -, a0⟩ := el1 rfl d a ha
 obtain ⟨tb, xb, b1, -, -, b0⟩ := el1 rfl d b hb
 have ha1 : 1 ≤ d.length - a := by omega
 have hb1 : 1 ≤ d.length - b := by omega
 have la : tlen d a = ta.length := by unfold tlen; rw [List.getD_eq_getElem?_getD, a1]; rfl
 have lb : tlen d b = tb.length := by unfold tlen; rw [List.getD_eq_getElem?_getD, b1]; rfl
 have hal := hdt ta (List.mem_of_getElem? a1)
 have hbl := hdt tb (List.mem_of_getElem? b1)
 have hall : ∀ t ∈ d, t.length ≤ 1048576 := fun t ht => Nat.le_trans (hdt t ht) (by decide)
 have hlook := fun i j (hi : i ≤ 1048576) (hj : j ≤ 1048576) => JR d ⟨k, a, b, i, j⟩ hdn hall hk ha hb hi hj
 have hpl : x6 d k a b = (List.range (ta.length + 1)).flatMap (xF d k a b) := by unfold x6; rw [la]
 have hrow : ∀ i, xF d k a b i = (List.range (tb.length + 1)).filterMap (wL d k a b i) := fun i => by unfold xF; rw [lb]
 rw [hpl] at hY ⊢
 clear hpl la lb
 repeat apply za
 refine pwn ?_
 intro v0 v1
 (repeat apply za); refine pwn ?_; intros
 repeat apply za
 refine ze (qT (σ := Nat × Int × Store) (fun s' => s'.1 ≤ ta.length + 1 ∧ J ((List.range s'.1).flatMap (xF d k a b)).length s'.2.2) (fun s' => [(2, yld y), (3, .ptr nx v0 0), (4, .ptr (nx + 1) v1 0)]) (fun s' => s'.2.2)
  (fun (i, jv, _) => [.cells v0 66 [L d], .cells v1 160 [I k, I a, I b, I i, I jv]]) (fun s' => ta.length + 1 - s'.1) (zu (0, 0, A0) [] (by simpa using hA0) (by simp) rfl (by simp)) ?_)
 rintro ⟨i, jv, A⟩ ⟨hi, hJ⟩
 simp only at hi hJ ⊢
 repeat apply za
 refine pwY (some [nx, nx + 1]) (Row.pures [0, 1, 2, 3, 4, 5, 6, 7, 8, 9, 10] .done) mixed (jn3 a0 ha ha1) ?_
 intros
 repeat apply za
 refine zl rfl (fun hc => ?_) (fun hc => ?_)
 ·simp at hc
  have hrl := Qb (xF d k a b) i
  refine zd (za (ze ?_))
  (repeat apply za); refine pwn ?_; intros
  repeat apply za
  refine ze (qT (σ := Nat × Store) (fun s' => s'.1 ≤ tb.length + 1 ∧ J (((List.range i).flatMap (xF d k a b)).length + ((List.range s'.1).filterMap (wL d k a b i)).length) s'.2) (fun s' => [(2, yld y), (3, .ptr nx v0 0), (4, .ptr (nx + 1) v1 0)]) (fun s' => s'.2)
   (fun (j, _) => [.cells v0 66 [L d], .cells v1 160 [I k, I a, I b, I i, I j]]) (fun s' => tb.length + 1 - s'.1) (zu (0, A) [] (by simpa using hJ) (by simp) rfl (by simp)) ?_)
  clear hJ A jv
  rintro ⟨j, A⟩ ⟨hj, hJ⟩
  simp only at hj hJ ⊢
  repeat apply za
  refine pwY (some [nx, nx + 1]) (Row.pures [0, 1, 2, 3, 4, 5, 6, 7, 8, 9, 10] .done) mixed (jn3 b0 hb hb1) ?_
  intros
  repeat apply za
  refine zl rfl (fun hcj => ?_) (fun hcj => ?_)
  ·simp at hcj
   have hlk := hlook i j (by omega) (by omega)
   have wj := wrN j (by omega)
   refine zd (za (ze ?_))
   cases hm : qM d ⟨k, a, b, i, j⟩ with
   | true =>
    have hce : wL d k a b i j = some ⟨k, a, b, i, j⟩ := by unfold wL; rw [if_pos hm]
    have hlo : x5 d ⟨k, a, b, i, j⟩ = ((zE d ⟨k, a, b, i, j⟩).1, (zE d ⟨k, a, b, i, j⟩).2, true) := by unfold x5; rw [if_pos hm]
    rw [hlo] at hlk
    have hat := VI (n := tb.length + 1) (by omega) hce
    rw [← hrow] at hat
    have hat2 := Qa (W := xF d k a b) (n := ta.length + 1) (by omega) hat
    have hy : (((List.range (ta.length + 1)).flatMap (xF d k a b)).map mvE)[((List.range i).flatMap (xF d k a b)).length + ((List.range j).filterMap (wL d k a b i)).length]? = some (mvE ⟨k, a, b, i, j⟩) := by
     rw [List.getElem?_map, hat2]; rfl
    have hnx := VK hce
    generalize (zE d ⟨k, a, b, i, j⟩).1 = r1 at *
    generalize (zE d ⟨k, a, b, i, j⟩).2 = r2 at *
    repeat apply za
    refine pwn ?_
    refine pwc hlk ?_
    intro v2 v3
    intros
    repeat apply za
    refine zO [(1, 50)] (by rfl) (by rfl) fun K Gc Gh hK hGc hGh X hX0 hX => ?_
    simp -implicitDefEqProofs [hX0, hX]
    try clear hX0 hX X
    refine hGh _ _ _ _ _ fun hsuf => Zt rfl rfl rfl (hY _ _ _ _ hy hJ) ?_
    rintro _ ⟨A', hJ', rfl⟩
    refine ⟨_, _, rfl, ?_⟩
    clear hGc hGh
    clear Gc Gh
    refine zJ hsuf (D := [(1, 50)]) (by rfl) fun Gc Gh hGc hGh X hX0 hX => ?_
    simp -implicitDefEqProofs [hX0, hX]
    try clear hX0 hX X
    intros
    refine hK _ _ _ ?_
    clear hK hGc hGh
    clear K Gc Gh
    repeat apply za
    refine zj rfl ?_
    refine zd ?_
    (repeat apply za); refine pwn ?_; intros
    exact zk (j + 1, A') [_, _] ⟨by simp; omega, by rw [hnx]; exact hJ'⟩ (by simp; omega) (by simp) rfl (by simp [wj]; exact ⟨rfl, rfl⟩)
   | false =>
    have hce : wL d k a b i j = none := by unfold wL; rw [if_neg (by simp [hm])]
    have hlo : x5 d ⟨k, a, b, i, j⟩ = (rw0, rw0, false) := by unfold x5; rw [if_neg (by simp [hm])]
    rw [hlo] at hlk
    have hnx := VJ hce
    generalize rw0 = r0 at *
    repeat apply za
    refine pwn ?_
    refine pwc hlk ?_
    intro v2 v3
    intros
    repeat apply za
    refine pwN [(1, 50)] zn ?_
    intros
    repeat apply za
    refine zj rfl ?_
    refine zd ?_
    (repeat apply za); refine pwn ?_; intros
    exact zk (j + 1, A) [_, _] ⟨by simp; omega, by rw [hnx]; exact hJ⟩ (by simp; omega) (by simp) rfl (by simp [wj]; exact ⟨rfl, rfl⟩)
  ·simp at hcj
   obtain rfl : j = tb.length + 1 := by omega
   rw [← hrow, ← hrl] at hJ
   refine zm ?_
   have wi := wrN i (by omega)
   (repeat apply za); refine pwn ?_; intros
   exact zk (i + 1, ((tb.length + 1 : Nat) : Int), A) [] ⟨by simp; omega, hJ⟩ (by simp; omega) (by simp) rfl (by simp [wi])
 ·simp at hc
  obtain rfl : i = ta.length + 1 := by omega
  refine zm ?_
  (repeat apply za); refine pwn ?_; intros
  repeat apply za
  exact zb (Y2 (hJd _ _ hJ) (by simp; rfl) (by simp [zi]) (by simpa using hJ))
set_option maxRecDepth 20000 in
theorem Zhj (d : Day) : Pure Tryz.prog 154 [.agg [L d]] (.fn (.func 196) [] [.ip [L d]]) := by
 refine pwe Tryz.func154 Tryz.ntmps154 Tryz.results154 fun S nx hd => ?_
 repeat apply za
 refine pwn ?_
 intro v0
 (repeat apply za); refine pwn ?_; intros
 refine xc 0 rfl ?_
 repeat apply za
 exact zb (zg hd (by simp; rfl) rfl)
set_option maxRecDepth 20000 in
set_option maxHeartbeats 3200000 in
theorem Zhk (d : Day) (hdn : d.length ≤ 1000) (hdt : ∀ t ∈ d, t.length ≤ 1000) : vO Tryz.prog 196 [.ip [L d]] ((x8 d).map mvE) := by
 have hpl := fun k a b (hk : k ≤ 3) (ha : a < d.length) (hb : b < d.length) => Zhi d k a b (by omega) hdt hk ha hb
 have hkinds := Zal
 generalize Y6 = kl at hkinds
 refine YJ Tryz.func196 (by rfl) rfl Tryz.ntmps196 (congrArg Array.toList Tryz.results196) (by simp) fun l V keep nx J hJd hY A0 hA0 => ?_
 repeat apply za
 refine pwn ?_
 refine pwc hkinds ?_
 intros
 repeat apply za
 refine ze (qT (σ := Nat × Store) (fun s' => s'.1 ≤ 4 ∧ J ((List.range s'.1).flatMap (x7 d)).length s'.2) (fun s' => [(0, yld l), (1, .ip [L d]), (7, I s'.1)]) (fun s' => s'.2) (fun _ => []) (fun s' => 4 - s'.1) (zu (0, A0) [] (by simpa using hA0) (by simp) rfl (by simp)) ?_)
 rintro ⟨k, A⟩ ⟨hk, hJ⟩
 simp only at hk hJ ⊢
 by_cases hk4 : k < 4
 ·have hk4' : (k : Int) < 4 := by omega
  have hlA := Qb (x7 d) k
  repeat apply za
  refine pwN [] hk4' ?_
  intros
  repeat apply za
  refine zh rfl ?_
  refine zd (za (ze ?_))
  (repeat apply za); refine pwn ?_; intros
  (repeat apply za); refine pwn ?_; intros
  repeat apply za
  refine ze (qT (σ := Nat × Store) (fun s' => s'.1 ≤ d.length ∧ J (((List.range k).flatMap (x7 d)).length + ((List.range s'.1).flatMap (vn d k)).length) s'.2) (fun s' => [(0, yld l), (1, .ip [L d]), (3, I k), (7, I k), (12, I d.length), (13, I s'.1)]) (fun s' => s'.2) (fun _ => []) (fun s' => d.length - s'.1) (zu (0, A) [] (by simpa using hJ) (by simp) rfl (by simp)) ?_)
  clear hJ A
  rintro ⟨a, A⟩ ⟨ha, hJ⟩
  simp only at ha hJ ⊢
  (repeat apply za); refine pwn ?_; intros
  repeat apply za
  refine zl rfl (fun hca => ?_) (fun hca => ?_)
  ·simp at hca
   have hlK := Qb (vn d k) a
   refine zd (za (ze ?_))
   (repeat apply za); refine pwn ?_; intros
   (repeat apply za); refine pwn ?_; intros
   repeat apply za
   refine ze (qT (σ := Nat × Store) (fun s' => s'.1 ≤ d.length ∧ J (((List.range k).flatMap (x7 d)).length + ((List.range a).flatMap (vn d k)).length + ((List.range s'.1).flatMap (x6 d k a)).length) s'.2) (fun s' => [(0, yld l), (1, .ip [L d]), (3, I k), (4, I a), (7, I k), (12, I d.length), (13, I a), (18, I d.length), (19, I s'.1)]) (fun s' => s'.2) (fun _ => []) (fun s' => d.length - s'.1) (zu (0, A) [] (by simpa using hJ) (by simp) rfl (by simp)) ?_)
   clear hJ A
   rintro ⟨b, A⟩ ⟨hb, hJ⟩
   simp only at hb hJ ⊢
   (repeat apply za); refine pwn ?_; intros
   repeat apply za
   refine zl rfl (fun hcb => ?_) (fun hcb => ?_)
   ·simp at hcb
    have hw := hpl k a b (by omega) hca hcb
    have hlP := Qb (x6 d k a) b
    have hin : ∀ (i : Nat) (x : List PV), ((x6 d k a b).map mvE)[i]? = some x → ((x8 d).map mvE)[((List.range k).flatMap (x7 d)).length + ((List.range a).flatMap (vn d k)).length + ((List.range b).flatMap (x6 d k a)).length + i]? = some x := by
     intro i x hx
     rw [List.getElem?_map] at hx ⊢
     obtain ⟨m, hm, rfl⟩ := Option.map_eq_some_iff.1 hx
     have e1 := Qa (W := x6 d k a) (n := d.length) hcb hm
     have e2 := Qa (W := vn d k) (n := d.length) hca e1
     have e3 := Qa (W := x7 d) (n := 4) hk4 e2
     rw [Nat.add_assoc, Nat.add_assoc]
     unfold x8
     rw [e3]; rfl
    refine zd (za (ze ?_))
    (repeat apply za); refine pwn ?_; intros
    repeat apply za
    refine zO [] (by rfl) (by rfl) fun K Gc Gh hK hGc hGh X hX0 hX => ?_
    simp -implicitDefEqProofs [hX0, hX]
    try clear hX0 hX X
    refine hGc _ _ _ _ _ _ _ fun hsuf => ((VH hw keep hY _ hin hJ _).mono ?_)
    rintro _ _ ⟨A', rfl, hJ', rfl⟩
    rw [List.length_map, Nat.add_assoc, ← hlP] at hJ'
    refine ⟨_, _, rfl, ?_⟩
    clear hGc hGh
    clear Gc Gh
    refine zJ hsuf (D := []) (by rfl) fun Gc Gh hGc hGh X hX0 hX => ?_
    simp -implicitDefEqProofs [hX0, hX]
    clear hX0 hX X
    intros
    refine hK _ _ _ ?_
    clear hK hGc hGh
    clear K Gc Gh
    repeat apply za
    refine zj rfl ?_
    refine zd ?_
    (repeat apply za); refine pwn ?_; intros
    exact zk (b + 1, A') [] ⟨hcb, hJ'⟩ (by simp; omega) (by simp [wrN b (by omega)]) rfl (by simp)
   ·simp at hcb
    obtain rfl : b = d.length := by omega
    refine zm ?_
    have hJ2 : J (((List.range k).flatMap (x7 d)).length + ((List.range (a + 1)).flatMap (vn d k)).length) A := by rw [hlK, ← Nat.add_assoc]; exact hJ
    (repeat apply za); refine pwn ?_; intros
    exact zk (a + 1, A) [] ⟨hca, hJ2⟩ (by simp; omega) (by simp [wrN a (by omega)]) rfl (by simp)
  ·simp at hca
   obtain rfl : a = d.length := by omega
   refine zm ?_
   have hJ2 : J ((List.range (k + 1)).flatMap (x7 d)).length A := by rw [hlA]; exact hJ
   (repeat apply za); refine pwn ?_; intros
   exact zk (k + 1, A) [] ⟨hk4, hJ2⟩ (by simp; omega) (by simp [wrN k (by omega)]) rfl (by simp)
 ·obtain rfl : k = 4 := by omega
  (repeat apply za); refine pwn ?_; intros
  repeat apply za
  refine zj rfl ?_
  refine zm (xu (hJd _ _ hJ) rfl ?_)
  rw [List.length_map]; exact hJ
open Go Go.Proofs
theorem uh {d : Day} {m : Mv} (h : qM d m = true) : m.k ≤ 3 ∧ m.a < d.length ∧ m.b < d.length ∧ j7 d (zE d m).1 ∧ j7 d (zE d m).2 := by
 unfold qM at h
 rw [Bool.and_eq_true] at h
 obtain ⟨h1, h2⟩ := h
 have h1 := of_decide_eq_true h1
 refine ⟨h1.1, h1.2.1, h1.2.2, ?_⟩
 unfold jz at h2
 unfold zE qB
 have e0 := ZgW d
 have key : ∀ p : Pc, uT d p ↔ (p.f < p.o → p.t < d.length ∧ p.o ≤ tlen d p.t) := fun _ => Iff.rfl
 by_cases k0 : m.k = 0
 ·rw [if_pos k0] at h2 ⊢
  have h2 := of_decide_eq_true h2
  refine ⟨?_, e0⟩
  intro p hp
  simp only [Rw5.l, List.mem_cons, List.not_mem_nil, or_false] at hp
  rcases hp with rfl | rfl | rfl | rfl | rfl <;> refine (key _).2 ?_ <;> simp only [pc0] <;> omega
 rw [if_neg k0] at h2 ⊢
 by_cases k1 : m.k = 1
 ·rw [if_pos k1] at h2 ⊢
  have h2 := of_decide_eq_true h2
  by_cases hab : m.a = m.b
  ·rw [if_pos hab, hab] at h2
   rw [if_neg (by simp [hab])]
   by_cases hij : m.i < m.j
   ·rw [if_pos hij]
    refine ⟨?_, e0⟩
    intro p hp
    simp only [Rw5.l, List.mem_cons, List.not_mem_nil, or_false] at hp
    rcases hp with rfl | rfl | rfl | rfl | rfl <;> refine (key _).2 ?_ <;> simp only [pc0] <;> (try rw [hab]) <;> omega
   ·rw [if_neg hij]
    refine ⟨?_, e0⟩
    intro p hp
    simp only [Rw5.l, List.mem_cons, List.not_mem_nil, or_false] at hp
    rcases hp with rfl | rfl | rfl | rfl | rfl <;> refine (key _).2 ?_ <;> simp only [pc0] <;> (try rw [hab]) <;> omega
  ·rw [if_neg hab] at h2
   rw [if_pos hab]
   constructor <;> intro p hp <;> simp only [Rw5.l, List.mem_cons, List.not_mem_nil, or_false] at hp <;> rcases hp with rfl | rfl | rfl | rfl | rfl <;> refine (key _).2 ?_ <;> simp only [pc0] <;> omega
 rw [if_neg k1] at h2 ⊢
 by_cases k2 : m.k = 2
 ·rw [if_pos k2] at h2 ⊢
  have h2 := of_decide_eq_true h2
  by_cases hab : m.a = m.b
  ·rw [if_pos hab]
   rw [hab] at h2
   refine ⟨?_, e0⟩
   intro p hp
   simp only [Rw5.l, List.mem_cons, List.not_mem_nil, or_false] at hp
   rcases hp with rfl | rfl | rfl | rfl | rfl <;> refine (key _).2 ?_ <;> simp only [pc0, hab] <;> omega
  ·rw [if_neg hab]
   constructor <;> intro p hp <;> simp only [Rw5.l, List.mem_cons, List.not_mem_nil, or_false] at hp <;> rcases hp with rfl | rfl | rfl | rfl | rfl <;> refine (key _).2 ?_ <;> simp only [pc0] <;> omega
 rw [if_neg k2] at h2 ⊢
 have h2 := of_decide_eq_true h2
 constructor <;> intro p hp <;> simp only [Rw5.l, List.mem_cons, List.not_mem_nil, or_false] at hp <;> rcases hp with rfl | rfl | rfl | rfl | rfl <;> refine (key _).2 ?_ <;> simp only [pc0] <;> omega
theorem J2 {d : Day} {m : Mv} : m ∈ x8 d → qM d m = true ∧ m.i ≤ tlen d m.a ∧ m.j ≤ tlen d m.b := by
 unfold x8 x7 vn x6 xF wL
 intro h
 simp only [List.mem_flatMap, List.mem_range, List.mem_filterMap] at h
 obtain ⟨k, hk, a, ha, b, hb, i, hi, j, hj, h⟩ := h
 split at h
 ·rename_i hm
  cases h
  exact ⟨hm, by simp only; omega, by simp only; omega⟩
 ·cases h
def mv0 : Mv := ⟨0, 0, 0, 0, 0⟩
def jn (x : Inst) (d : Day) (r : Rw5) : Prop := ldR d r ≤ x.cap ∧ qY x d r ≤ x.len
instance (x : Inst) (d : Day) (r : Rw5) : Decidable (jn x d r) := by unfold jn; infer_instance
def byM (x : Inst) (d : Day) (m : Mv) : Int := ZU x d m (zE d m).1 (zE d m).2
def mbS (x : Inst) (d : Day) (st : Mv × Int) (m : Mv) : Mv × Int := if byM x d m < st.2 ∧ jn x d (zE d m).1 ∧ jn x d (zE d m).2 then (m, byM x d m) else st
def mbZ (x : Inst) (d : Day) : Mv × Int := (x8 d).foldl (mbS x d) (mv0, 0)
set_option maxRecDepth 20000 in
set_option maxHeartbeats 3200000 in
theorem Zhl (x : Inst) (d : Day) (hx : yG x) (hd' : MvDay d) : Pure Tryz.prog 115 [.agg (zo x), .agg [L d]] (.tup [.agg (mvL (mbZ x d).1), I (mbZ x d).2, B (decide ((mbZ x d).2 < 0))]) := by
 have hdn := hd'.n
 have hit := Zhk d hdn hd'.t
 have hread := Zhc x d hx hd'
 have hfacts : ∀ m ∈ x8 d, Pure Tryz.prog 155 [.agg [L d], .agg (mvL m)] (.tup [.agg (rwL (zE d m).1), .agg (rwL (zE d m).2), B true]) ∧ Pure Tryz.prog 156 [.ip (rdL x d), .agg (mvL m), .agg (rwL (zE d m).1), .agg (rwL (zE d m).2)] (I (byM x d m)) ∧
   Pure Tryz.prog 157 [.ip (rdL x d), .agg (rwL (zE d m).1)] (B (decide (jn x d (zE d m).1))) ∧ Pure Tryz.prog 157 [.ip (rdL x d), .agg (rwL (zE d m).2)] (B (decide (jn x d (zE d m).2))) := by
  intro m hm
  obtain ⟨h1, h2, h3⟩ := J2 hm
  obtain ⟨hk, ha, hb, r1, r2⟩ := uh h1
  have hl : ∀ a, tlen d a ≤ 1000 := by
   intro a
   unfold tlen
   rw [List.getD_eq_getElem?_getD]
   cases hq : d[a]? with
   | none => simp
   | some l => exact hd'.t l (List.mem_of_getElem? hq)
  have hla := hl m.a
  have hlb := hl m.b
  have hlk := JR d m (by omega) (fun t ht => Nat.le_trans (hd'.t t ht) (by decide)) hk ha hb (by omega) (by omega)
  unfold x5 at hlk
  rw [if_pos h1] at hlk
  exact ⟨hlk, Zhh x d m _ _ hx hd' r1 r2 ha hb, ZaB x d _ hx hd' r1, ZaB x d _ hx hd' r2⟩
 unfold mbZ
 generalize x8 d = xs at *
 generalize rdL x d = rd at *
 have hea := Zhj d
 refine pwe Tryz.func115 Tryz.ntmps115 Tryz.results115 fun S nx hd => ?_
 repeat apply za
 refine pwn ?_
 intro v0 v1 v2
 repeat apply za
 refine pwn ?_
 refine pwc hread ?_
 intro v3
 intros
 repeat apply za
 refine pwn ?_
 intro v4 v5
 repeat apply za
 refine pwn ?_
 refine pwc hea ?_
 intros
 repeat apply za
 refine ze (Zv (xs := xs.map mvE) (σ := Mv × Int) (fun i st => st = (xs.take i).foldl (mbS x d) (mv0, 0)) [(2, .ptr nx v0 0), (3, .ptr (nx + 1) v1 0), (4, .ptr (nx + 2) v2 0), (7, .ptr (nx + 3) v3 0), (8, .ptr (nx + 4) v4 0), (9, .ptr (nx + 5) v5 0)] (fun _ => S)
  (fun (b, least) => [.cells v0 25 (zo x), .cells v1 66 [L d], .cells v2 160 [I 0, I 0, I 0, I 0, I 0], .cells v3 194 [.ip rd], .cells v4 160 (mvL b), .cells v5 3 [I least]]) (mv0, 0)
  hit rfl (by intro x hx; obtain ⟨y, _, rfl⟩ := List.mem_map.1 hx; rfl) (by decide) (by simp) (by simp) rfl (by simp [mv0]) (by simp [mv0]) ?_ ?_)
 ·rintro l i ⟨b, least⟩ more y hst hy
  simp only at hst ⊢
  rw [List.getElem?_map] at hy
  obtain ⟨m, hm, rfl⟩ := Option.map_eq_some_iff.1 hy
  have hsucc := JO (f := mbS x d) (b := (mv0, 0)) hm
  rw [← hst] at hsucc
  obtain ⟨f1, f2, f3, f4⟩ := hfacts m (List.mem_of_getElem? hm)
  unfold mbS at hsucc
  simp only at hsucc
  generalize (zE d m).1 = r1 at *
  generalize (zE d m).2 = r2 at *
  generalize byM x d m = by_ at *
  repeat apply za
  refine pwn ?_
  intro v6
  refine ze ?_
  repeat apply za
  refine pwn ?_
  refine pwc f1 ?_
  intro v7 v8
  intros
  repeat apply za
  refine pwn ?_
  refine pwc f2 ?_
  intros
  by_cases hlt : by_ < least
  ·repeat apply za
   refine pwN [(3, 37), (8, 42)] hlt ?_
   refine pwC [(3, 37), (8, 42)] f3 hlt ?_
   by_cases hf1 : jn x d r1
   ·rw [decide_eq_true hf1]
    intros
    refine pwC [(3, 37), (8, 42)] f4 hlt ?_
    intros
    by_cases hf2 : jn x d r2
    ·rw [if_pos ⟨hlt, hf1, hf2⟩] at hsucc
     repeat apply za
     refine zh (by simp [hf2]) ?_
     (repeat apply za); refine pwn ?_; intros
     simp only [qg]
     exact jF (m, by_) [_, _, _] hsucc.symm rfl (by simp; exact ⟨rfl, rfl, rfl⟩)
    ·rw [if_neg fun e => hf2 e.2.2] at hsucc
     repeat apply za
     refine zj (by simp [hf2]) ?_
     refine zd ?_
     simp only [qg]
     exact jF (b, least) [_, _, _] hsucc.symm rfl (by simp; exact ⟨rfl, rfl, rfl⟩)
   ·rw [decide_eq_false hf1]
    rw [if_neg fun e => hf1 e.2.1] at hsucc
    intros
    repeat apply za
    refine zj rfl ?_
    refine zd ?_
    simp only [qg]
    exact jF (b, least) [_, _, _] hsucc.symm rfl (by simp; exact ⟨rfl, rfl, rfl⟩)
  ·rw [if_neg fun e => hlt e.1] at hsucc
   repeat apply za
   refine pwN [(3, 37), (8, 42)] (jn2 hlt zn) ?_
   intros
   repeat apply za
   refine zj rfl ?_
   refine zd ?_
   simp only [qg]
   exact jF (b, least) [_, _, _] hsucc.symm rfl (by simp; exact ⟨rfl, rfl, rfl⟩)
 ·rintro ⟨b, least⟩ hst
  rw [List.take_of_length_le (by simp)] at hst
  simp only at hst ⊢
  rw [← hst]
  repeat apply za
  refine pwY (some [nx + 4, nx + 5]) (Row.pures [0, 1, 2, 3] (.alt 4 (Row.pures [5, 6] .done) .stop)) mixed trivial ?_
  intros
  repeat apply za
  exact zb (zg hd (by simp; rfl) (by simp [zi]))
open Go Go.Proofs
def mkT (d : Day) (m : Mv) (i : Nat) : zp := if i = m.a then zS d (zE d m).1 else if i = m.b then zS d (zE d m).2 else d.getD i []
def y8 (d : Day) (m : Mv) (i : Nat) : Option zp := if (mkT d m i).length = 0 then none else some (mkT d m i)
def mkZ (d : Day) (m : Mv) : Day := (List.range d.length).filterMap (y8 d m)
theorem ZaC {d : Day} {r : Rw5} {k : Nat} (h : ∀ t ∈ d, t.length ≤ k) : (zS d r).length ≤ 5 * k := by
 have h1 := fun p => Zan (d := d) (p := p) h
 have a1 := h1 r.a
 have a2 := h1 r.b
 have a3 := h1 r.c
 have a4 := h1 r.d
 have a5 := h1 r.e
 unfold zS Rw5.l
 simp only [List.flatMap_cons, List.flatMap_nil, List.length_append, List.append_nil]
 omega
set_option maxRecDepth 20000 in
set_option maxHeartbeats 3200000 in
theorem Zhm (x : Inst) (d : Day) (m : Mv) (hdn : d.length ≤ 1000) (hdt : ∀ t ∈ d, t.length ≤ 1000) (hm : qM d m = true) (hi : m.i ≤ 1048576) (hj : m.j ≤ 1048576) : Pure Tryz.prog 116 [.agg (zo x), .agg [L d], .agg (mvL m)] (.tup [.agg [L (mkZ d m)], I 0]) := by
 obtain ⟨hk, ha, hb, r1, r2⟩ := uh hm
 have hlk := JR d m (by omega) (fun t ht => Nat.le_trans (hdt t ht) (by decide)) hk ha hb hi hj
 unfold x5 at hlk
 rw [if_pos hm] at hlk
 have g1 := Zao d _ (by omega) hdt r1
 have g2 := Zao d _ (by omega) hdt r2
 have n1 := ZaC (r := (zE d m).1) hdt
 have n2 := ZaC (r := (zE d m).2) hdt
 have hmk : ∀ i, mkT d m i = if i = m.a then zS d (zE d m).1 else if i = m.b then zS d (zE d m).2 else d.getD i [] := fun _ => rfl
 generalize zS d (zE d m).1 = t1 at *
 generalize zS d (zE d m).2 = t2 at *
 generalize (zE d m).1 = c1 at *
 generalize (zE d m).2 = c2 at *
 have hme : mkZ d m = (List.range d.length).filterMap (y8 d m) := rfl
 rw [hme]
 clear hme
 refine pwe Tryz.func116 Tryz.ntmps116 Tryz.results116 fun S nx hd => ?_
 repeat apply za
 refine pwn ?_
 intro v0 v1 v2 v3
 repeat apply za
 refine pwn ?_
 refine pwc hlk ?_
 intro v4 v5
 intros
 (repeat apply za); refine pwn ?_; intros
 repeat apply za
 refine zj rfl ?_
 refine zd ?_
 repeat apply za
 refine pwn ?_
 intro v6
 refine qc 6 0 72 1 rfl rfl fun v7 => ?_
 (repeat apply za); refine pwn ?_; intros
 repeat apply za
 refine ze (zq (fun s' : Nat × Nat => s'.1 ≤ d.length) (fun (k, v7) => [(4, .ptr (nx + 1) v1 0), (5, .ptr (nx + 2) v2 0), (6, .ptr (nx + 3) v3 0), (8, .ptr (nx + 4) v4 0), (9, .ptr (nx + 5) v5 0), (11, .ptr (nx + 6) v6 0), (26, L d), (27, I d.length), (28, I k)])
  (fun (k, v7) => [.cells v0 25 (zo x), .cells v1 66 [L d], .cells v2 160 (mvL m), .cells v3 66 [yi], .cells v4 202 (rwL c1), .cells v5 202 (rwL c2), .cells v6 66 [.sl (nx + 7) v7 1 0 ((List.range k).filterMap (y8 d m)).length], .cells v7 72 (((List.range k).filterMap (y8 d m)).flatMap Enc.enc)]) (fun s' => d.length - s'.1) (0, v7) [] (by simp) (by simp) (by simp) ?_)
 rintro ⟨k, v7⟩ hk0
 simp only at hk0 ⊢
 (repeat apply za); refine pwn ?_; intros
 repeat apply za
 refine zl rfl (fun hc => ?_) (fun hc => ?_)
 ·simp at hc
  obtain ⟨t, tl, a1, a2, a3, e0⟩ := el1 rfl d k hc
  have hk1 : 1 ≤ d.length - k := by omega
  have htl := hdt t (List.mem_of_getElem? a1)
  have hcl := Y0 t (by omega)
  have hgk : d.getD k [] = t := by rw [List.getD_eq_getElem?_getD, a1]; rfl
  have hmkk := hmk k
  have hlen : ((List.range k).filterMap (y8 d m)).length ≤ k := by have := List.length_filterMap_le (y8 d m) (List.range k); simpa using this
  have hnext : (List.range (k + 1)).filterMap (y8 d m) = (List.range k).filterMap (y8 d m) ++ (y8 d m k).toList := by
   rw [List.range_succ, List.filterMap_append]
   simp only [List.filterMap_cons, List.filterMap_nil]
   cases y8 d m k <;> rfl
  have hT1 : y8 d m k = if (mkT d m k).length = 0 then none else some (mkT d m k) := rfl
  rw [hgk] at hmkk
  have hTl : (mkT d m k).length ≤ 5000 := by rw [hmkk]; (repeat' split) <;> omega
  have hof : (((List.range k).filterMap (y8 d m)).flatMap Enc.enc : List PV).length = ((List.range k).filterMap (y8 d m)).length := qw _
  generalize (List.range k).filterMap (y8 d m) = out at *
  have hot : (out.flatMap Enc.enc : List PV).take out.length = out.flatMap Enc.enc := List.take_of_length_le (by omega)
  have wk := wrN k (by omega)
  refine zd (za (ze ?_))
  repeat apply za
  refine pwN [] (jn3 e0 hc hk1) ?_
  intro v8
  repeat apply za
  refine pwn ?_
  refine pwc hcl ?_
  intros
  (repeat apply za); refine pwn ?_; intros
  repeat apply za
  refine zW (nx := nx) (fun _ : Unit => True) (fun _ => [(4, .ptr (nx + 1) v1 0), (5, .ptr (nx + 2) v2 0), (6, .ptr (nx + 3) v3 0), (8, .ptr (nx + 4) v4 0), (9, .ptr (nx + 5) v5 0), (11, .ptr (nx + 6) v6 0), (14, L (mkT d m k)), (26, L d), (27, I d.length), (28, I k)]) (fun _ => S)
   (fun _ => [.cells v0 25 (zo x), .cells v1 66 [L d], .cells v2 160 (mvL m), .cells v3 66 [yi], .cells v4 202 (rwL c1), .cells v5 202 (rwL c2), .cells v6 66 [.sl (nx + 7) v7 1 0 out.length], .cells v7 72 (out.flatMap Enc.enc), .cells v8 72 [L t]]) ?_ ?_
  ·refine ze ?_
   by_cases h1 : k = m.a
   ·rw [if_pos h1] at hmkk
    have h1' : (k : Int) = m.a := by omega
    rw [hmkk]
    (repeat apply za); refine pwn ?_; intros
    repeat apply za
    refine zh (by simp; omega) ?_
    repeat apply za
    refine pwn ?_
    refine pwc g1 ?_
    intros
    simp only [qg]
    exact zu () [] trivial (by simp) rfl (by simp)
   ·rw [if_neg h1] at hmkk
    have h1' : ¬ (k : Int) = m.a := by omega
    (repeat apply za); refine pwn ?_; intros
    repeat apply za
    refine zj (by simp; omega) ?_
    by_cases h2 : k = m.b
    ·rw [if_pos h2] at hmkk
     have h2' : (k : Int) = m.b := by omega
     rw [hmkk]
     (repeat apply za); refine pwn ?_; intros
     repeat apply za
     refine zh (by simp; omega) ?_
     repeat apply za
     refine pwn ?_
     refine pwc g2 ?_
     intros
     simp only [qg]
     exact zu () [] trivial (by simp) rfl (by simp)
    ·rw [if_neg h2] at hmkk
     have h2' : ¬ (k : Int) = m.b := by omega
     rw [hmkk]
     (repeat apply za); refine pwn ?_; intros
     repeat apply za
     refine zj (by simp; omega) ?_
     refine zd ?_
     simp only [qg]
     exact zu () [] trivial (by simp) rfl (by simp)
  ·rintro ⟨⟩ -
   generalize mkT d m k = tt at *
   clear hmkk hcl e0
   by_cases h0 : tt.length = 0
   ·have e : (y8 d m k).toList = [] := by rw [hT1, if_pos h0]; rfl
    have h0' : ¬ 0 < tt.length := by omega
    repeat apply za
    refine pwN [] h0' ?_
    intros
    repeat apply za
    refine zj (by simp [h0']) ?_
    refine zd ?_
    (repeat apply za); refine pwn ?_; intros
    exact zk (k + 1, v7) [_] (by simp; omega) (by simp; omega) (by simp [wk, hnext, e]) rfl (by simp [hnext, e]; rfl)
   ·have e : (y8 d m k).toList = [tt] := by rw [hT1, if_neg h0]; rfl
    have h0' : 0 < tt.length := by omega
    repeat apply za
    refine pwN [] h0' ?_
    intros
    repeat apply za
    refine zh (by simp [h0']) ?_
    repeat apply za
    refine pwN [] (jn2 hof hot) ?_
    refine ⟨by omega, ?_⟩
    intros
    (repeat apply za); refine pwn ?_; intros
    exact zk (k + 1, v7 + 1) [_] (by simp; omega) (by simp; omega) (by simp [wk, hnext, e]) rfl (by simp [hnext, e]; rfl)
 ·simp at hc
  obtain rfl : k = d.length := by omega
  refine zm ?_
  refine zB 7 rfl ?_
  (repeat apply za); refine pwn ?_; intros
  repeat apply za
  exact zb (zg hd (by simp; rfl) (by simp [zi]))
open Go Go.Proofs
def kSt (d : Day) (s : Stop) (t k : Nat) : Nat := ((d.getD t []).take k).count s
theorem J3 (d : Day) (s : Stop) (t : Nat) : kSt d s t 0 = 0 := by simp [kSt]
theorem ZaD (d : Day) (s : Stop) (t : Nat) : kSt d s t (tlen d t) = (d.getD t []).count s := by unfold kSt tlen; rw [List.take_length]
theorem Zhn (d : Day) (s : Stop) (p : Pc) : p.f ≤ p.o → (yk d p).count s + kSt d s p.t p.f = kSt d s p.t p.o := by
 intro h
 unfold yk kSt
 generalize d.getD p.t [] = u
 by_cases hf : p.f < p.o
 ·rw [if_pos hf, show p.o = p.f + (p.o - p.f) by omega, List.take_add, List.count_append, show p.f + (p.o - p.f) - p.f = p.o - p.f by omega]
  cases p.b
  ·rw [cond_false]; omega
  ·rw [cond_true, List.count_reverse]; omega
 ·rw [if_neg hf, show p.o = p.f by omega]; simp
theorem ZaE (d : Day) (s : Stop) (r : Rw5) : (zS d r).count s = (yk d r.a).count s + (yk d r.b).count s + (yk d r.c).count s + (yk d r.d).count s + (yk d r.e).count s := by
 unfold zS Rw5.l
 simp only [List.flatMap_cons, List.flatMap_nil, List.count_append, List.append_nil]
 omega
theorem Zho {d : Day} {m : Mv} (h : qM d m = true) (s : Stop) : (zS d (zE d m).1).count s + (if m.a = m.b then 0 else (zS d (zE d m).2).count s) = (d.getD m.a []).count s + (if m.a = m.b then 0 else (d.getD m.b []).count s) := by
 unfold qM at h
 rw [Bool.and_eq_true] at h
 obtain ⟨-, h2⟩ := h
 unfold jz at h2
 unfold zE qB
 have e0 := J3 d s
 have ea := J3 d s m.a
 have eb := J3 d s m.b
 have la := ZaD d s m.a
 have lb := ZaD d s m.b
 have key := Zhn d s
 rw [ZaE, ZaE]
 by_cases k0 : m.k = 0
 ·rw [if_pos k0] at h2 ⊢
  have h2 := of_decide_eq_true h2
  rw [if_pos h2.1.symm, if_pos h2.1.symm]
  have q1 := key ⟨m.a, 0, m.i, false⟩
  have q2 := key ⟨m.a, m.i, m.j + 1, true⟩
  have q3 := key ⟨m.a, m.j + 1, tlen d m.a, false⟩
  have q0 := key pc0
  simp only [pc0] at q1 q2 q3 q0 ⊢
  omega
 rw [if_neg k0] at h2 ⊢
 by_cases k1 : m.k = 1
 ·rw [if_pos k1] at h2 ⊢
  have h2 := of_decide_eq_true h2
  by_cases hab : m.a = m.b
  ·rw [if_pos hab] at h2
   rw [if_pos hab, if_pos hab, if_neg (by simp [hab])]
   rw [← hab] at h2
   by_cases hij : m.i < m.j
   ·rw [if_pos hij]
    have q1 := key ⟨m.a, 0, m.i, false⟩
    have q2 := key ⟨m.a, m.i + 1, m.j + 1, false⟩
    have q3 := key ⟨m.a, m.i, m.i + 1, false⟩
    have q4 := key ⟨m.a, m.j + 1, tlen d m.a, false⟩
    have q0 := key pc0
    simp only [pc0] at q1 q2 q3 q4 q0 ⊢
    omega
   ·rw [if_neg hij]
    have q1 := key ⟨m.a, 0, m.j, false⟩
    have q2 := key ⟨m.a, m.i, m.i + 1, false⟩
    have q3 := key ⟨m.a, m.j, m.i, false⟩
    have q4 := key ⟨m.a, m.i + 1, tlen d m.a, false⟩
    have q0 := key pc0
    simp only [pc0] at q1 q2 q3 q4 q0 ⊢
    omega
  ·rw [if_neg hab] at h2
   rw [if_neg hab, if_neg hab, if_pos hab]
   have q1 := key ⟨m.a, 0, m.i, false⟩
   have q2 := key ⟨m.a, m.i + 1, tlen d m.a, false⟩
   have q3 := key ⟨m.b, 0, m.j, false⟩
   have q4 := key ⟨m.a, m.i, m.i + 1, false⟩
   have q5 := key ⟨m.b, m.j, tlen d m.b, false⟩
   have q0 := key pc0
   simp only [pc0] at q1 q2 q3 q4 q5 q0 ⊢
   omega
 rw [if_neg k1] at h2 ⊢
 by_cases k2 : m.k = 2
 ·rw [if_pos k2] at h2 ⊢
  have h2 := of_decide_eq_true h2
  by_cases hab : m.a = m.b
  ·rw [if_pos hab, if_pos hab, if_pos hab]
   rw [← hab] at h2 ⊢
   have q1 := key ⟨m.a, 0, m.i, false⟩
   have q2 := key ⟨m.a, m.j, m.j + 1, false⟩
   have q3 := key ⟨m.a, m.i + 1, m.j, false⟩
   have q4 := key ⟨m.a, m.i, m.i + 1, false⟩
   have q5 := key ⟨m.a, m.j + 1, tlen d m.a, false⟩
   simp only at q1 q2 q3 q4 q5 ⊢
   omega
  ·rw [if_neg hab, if_neg hab, if_neg hab]
   have q1 := key ⟨m.a, 0, m.i, false⟩
   have q2 := key ⟨m.b, m.j, m.j + 1, false⟩
   have q3 := key ⟨m.a, m.i + 1, tlen d m.a, false⟩
   have q4 := key ⟨m.b, 0, m.j, false⟩
   have q5 := key ⟨m.a, m.i, m.i + 1, false⟩
   have q6 := key ⟨m.b, m.j + 1, tlen d m.b, false⟩
   have q0 := key pc0
   simp only [pc0] at q1 q2 q3 q4 q5 q6 q0 ⊢
   omega
 rw [if_neg k2] at h2 ⊢
 have h2 := of_decide_eq_true h2
 rw [if_neg (by omega), if_neg (by omega)]
 have q1 := key ⟨m.a, 0, m.i, false⟩
 have q2 := key ⟨m.b, m.j, tlen d m.b, false⟩
 have q3 := key ⟨m.b, 0, m.j, false⟩
 have q4 := key ⟨m.a, m.i, tlen d m.a, false⟩
 have q0 := key pc0
 simp only [pc0] at q1 q2 q3 q4 q0 ⊢
 omega
theorem J4 {d : Day} {i : Nat} {u : zp} (t : zp) (h : d[i]? = some u) (s : Stop) : (d.set i t).flatten.count s + u.count s = t.count s + d.flatten.count s := by
 obtain ⟨hi, rfl⟩ := List.getElem?_eq_some_iff.1 h
 have e : d = d.take i ++ d[i] :: d.drop (i + 1) := by rw [← List.drop_eq_getElem_cons hi, List.take_append_drop]
 rw [List.set_eq_take_append_cons_drop, if_pos hi]
 conv => rhs; rw [e]
 simp only [List.flatten_append, List.flatten_cons, List.count_append]
 omega
theorem J5 {d : Day} {i : Nat} {u : zp} (t : zp) (h : d[i]? = some u) (x : Inst) : zA x (d.set i t) + zC x (u.map (·.c)) = zC x (t.map (·.c)) + zA x d := by
 obtain ⟨hi, rfl⟩ := List.getElem?_eq_some_iff.1 h
 have e : d = d.take i ++ d[i] :: d.drop (i + 1) := by rw [← List.drop_eq_getElem_cons hi, List.take_append_drop]
 unfold zA
 rw [List.set_eq_take_append_cons_drop, if_pos hi]
 conv => rhs; rw [e]
 simp only [List.map_append, List.map_cons, List.sum_append, List.sum_cons]
 omega
theorem ZaF (d : Day) (m : Mv) : (List.range d.length).map (mkT d m) = (d.set m.b (zS d (zE d m).2)).set m.a (zS d (zE d m).1) := by
 refine List.ext_getElem? fun i => ?_
 by_cases hi : i < d.length
 ·rw [List.getElem?_map, List.getElem?_range hi]
  simp only [Option.map_some, mkT, List.getElem?_set, List.length_set]
  by_cases h1 : i = m.a
  ·rw [if_pos h1, if_pos h1.symm, if_pos (by omega)]
  ·rw [if_neg h1, if_neg (fun e : m.a = i => h1 e.symm)]
   by_cases h2 : i = m.b
   ·rw [if_pos h2, if_pos h2.symm, if_pos (by omega)]
   ·rw [if_neg h2, if_neg (fun e : m.b = i => h2 e.symm), List.getD_eq_getElem?_getD, List.getElem?_eq_getElem hi]; rfl
 ·rw [List.getElem?_eq_none (by simp; omega), List.getElem?_eq_none (by simp; omega)]
theorem J6 (d : Day) (m : Mv) : ∀ l : List Nat, (l.filterMap (y8 d m)).flatten = (l.map (mkT d m)).flatten ∧ ∀ x, zA x (l.filterMap (y8 d m)) = zA x (l.map (mkT d m))
 | [] => ⟨rfl, fun _ => rfl⟩
 | i :: l => by
  obtain ⟨h1, h2⟩ := J6 d m l
  have e : y8 d m i = if (mkT d m i).length = 0 then none else some (mkT d m i) := rfl
  rw [List.filterMap_cons, e, List.map_cons]
  by_cases h : (mkT d m i).length = 0
  ·rw [if_pos h, List.length_eq_zero_iff.1 h]
   refine ⟨by simpa using h1, fun x => ?_⟩
   have := h2 x
   unfold zA at this ⊢
   simpa [zC] using this
  ·rw [if_neg h]
   refine ⟨by simpa using h1, fun x => ?_⟩
   have := h2 x
   unfold zA at this ⊢
   simpa using this
theorem Zhp {d : Day} {m : Mv} {t : zp} (h : t ∈ mkZ d m) : t ≠ [] ∧ (t = zS d (zE d m).1 ∨ t = zS d (zE d m).2 ∨ t ∈ d) := by
 unfold mkZ at h
 obtain ⟨i, hi, h⟩ := List.mem_filterMap.1 h
 unfold y8 at h
 split at h
 ·cases h
 ·rename_i h0
  cases h
  refine ⟨fun e => h0 (by rw [e]; rfl), ?_⟩
  unfold mkT
  split
  ·exact .inl rfl
  ·split
   ·exact .inr (.inl rfl)
   ·refine .inr (.inr ?_)
    have hi := List.mem_range.1 hi
    rw [List.getD_eq_getElem?_getD, List.getElem?_eq_getElem hi]
    exact List.getElem_mem hi
theorem Zhq (d : Day) (m : Mv) : (mkZ d m).length ≤ d.length := by
 have := List.length_filterMap_le (y8 d m) (List.range d.length)
 simpa [mkZ] using this
theorem ZaG {d : Day} {m : Mv} (h : qM d m = true) : (mkZ d m).flatten.Perm d.flatten := by
 obtain ⟨-, ha, hb, -, -⟩ := uh h
 refine List.perm_iff_count.2 fun s => ?_
 have hc := Zho h s
 unfold mkZ
 rw [(J6 d m _).1, ZaF]
 obtain ⟨ua, hua⟩ : ∃ u, d[m.a]? = some u := ⟨_, List.getElem?_eq_getElem ha⟩
 obtain ⟨ub, hub⟩ : ∃ u, d[m.b]? = some u := ⟨_, List.getElem?_eq_getElem hb⟩
 have ga : d.getD m.a [] = ua := by rw [List.getD_eq_getElem?_getD, hua]; rfl
 have gb : d.getD m.b [] = ub := by rw [List.getD_eq_getElem?_getD, hub]; rfl
 rw [ga, gb] at hc
 generalize zS d (zE d m).1 = t1 at *
 generalize zS d (zE d m).2 = t2 at *
 by_cases hab : m.a = m.b
 ·rw [if_pos hab, if_pos hab] at hc
  rw [← hab, List.set_set]
  have := J4 t1 hua s
  omega
 ·rw [if_neg hab, if_neg hab] at hc
  have h1 := J4 t2 hub s
  have h2 := J4 (d := d.set m.b t2) (i := m.a) (u := ua) t1 (by rw [List.getElem?_set_ne (fun e => hab e.symm)]; exact hua) s
  omega
theorem Zhr {x : Inst} {d : Day} {m : Mv} (h : qM d m = true) (h0 : arc x 0 0 = 0) : zA x (mkZ d m) = zA x d + byM x d m := by
 obtain ⟨-, ha, hb, r1, r2⟩ := uh h
 unfold mkZ byM ZU
 rw [(J6 d m _).2, ZaF, J0 r1 h0, J0 r2 h0]
 obtain ⟨ua, hua⟩ : ∃ u, d[m.a]? = some u := ⟨_, List.getElem?_eq_getElem ha⟩
 obtain ⟨ub, hub⟩ : ∃ u, d[m.b]? = some u := ⟨_, List.getElem?_eq_getElem hb⟩
 have ga : d.getD m.a [] = ua := by rw [List.getD_eq_getElem?_getD, hua]; rfl
 have gb : d.getD m.b [] = ub := by rw [List.getD_eq_getElem?_getD, hub]; rfl
 rw [ga, gb]
 generalize zS d (zE d m).1 = t1 at *
 generalize zS d (zE d m).2 = t2 at *
 by_cases hab : m.a = m.b
 ·rw [if_pos hab, ← hab, List.set_set]
  have := J5 t1 hua x
  omega
 ·rw [if_neg hab]
  have h1 := J5 t2 hub x
  have h2 := J5 (d := d.set m.b t2) (i := m.a) (u := ua) t1 (by rw [List.getElem?_set_ne (fun e => hab e.symm)]; exact hua) x
  omega
open Go Go.Proofs Hp
theorem J7 (x : Inst) : ∀ (ds : List Day) (st : Day × Int × Bool), (ds.foldl (qA x) st).2.2 = true → ds.foldl (qA x) st = st ∨ (∃ d ∈ ds, zH x d = 0 ∧ ds.foldl (qA x) st = (d, W (zA x d), true))
 | [], st, _ => .inl rfl
 | d :: ds, st, h => by
  rw [List.foldl_cons] at h ⊢
  rcases J7 x ds _ h with e | ⟨d2, h1, h2, h3⟩
  ·rw [e]
   unfold qA
   split
   ·rename_i h0
    split
    ·exact .inr ⟨d, by simp, h0, rfl⟩
    ·exact .inl rfl
   ·exact .inl rfl
  ·exact .inr ⟨d2, by simp [h1], h2, h3⟩
theorem Zhs {x : Inst} {e : Int} {ds : List Day} (h : (qK x e ds).2 = 0) : e = 0 ∧ (qK x e ds).1 ∈ ds ∧ zH x (qK x e ds).1 = 0 := by
 unfold qK at h ⊢
 by_cases he : e = 0
 ·rw [if_pos he] at h ⊢
  cases hz : (jY x ds).2.2 with
  | false => rw [hz] at h; cases h
  | true =>
   refine ⟨he, ?_⟩
   rcases J7 x ds ([], 0, false) hz with q | ⟨d, h1, h2, h3⟩
   ·have : (jY x ds).2.2 = false := by unfold jY; rw [q]
    rw [this] at hz; cases hz
   ·have : jY x ds = (d, W (zA x d), true) := h3
    rw [this]; exact ⟨h1, h2⟩
 ·rw [if_neg he] at h; exact absurd h he
theorem Zht (x : Inst) : yG (zP x) := by
 refine Zag fun row hr d hd => ?_
 simp only [zP, List.mem_map] at hr
 obtain ⟨a, _, rfl⟩ := hr
 unfold jx at hd
 obtain ⟨b, _, rfl⟩ := List.mem_map.1 hd
 split
 ·have := qy (arc x a b) 0 60 (by omega); omega
 ·omega
open Go Go.Proofs
structure SG (x : Inst) (l : List Stop) (d : Day) : Prop where
 may : ∀ t ∈ d, zr x t = 0
 perm : d.flatten.Perm l
def ZaH (x : Inst) (t : zp) : Prop := (∀ s ∈ t, yF x s = true) ∧ (t.map (·.c)).Nodup ∧ t.length ≤ 1000
theorem J8 {x : Inst} {t : zp} (h : zr x t = 0) : (∀ s ∈ t, yF x s = true) ∧ t ≠ [] := by
 have := ((ue x t).1 h).1
 unfold yg at this
 rw [Bool.and_eq_true, List.all_eq_true] at this
 refine ⟨this.1, fun e => ?_⟩
 subst e
 simp at this
theorem J9 {x : Inst} : ∀ t : zp, (∀ s ∈ t, yF x s = true) → 0 ≤ zt t ∧ zt t ≤ 2147483648 * (t.length : Int)
 | [], _ => by simp [zt]
 | s :: t, h => by
  have h1 := J9 t fun s hs => h s (by simp [hs])
  have h2 := h s (by simp)
  simp [yF] at h2
  unfold zt at h1 ⊢
  simp only [List.map_cons, List.sum_cons, List.length_cons]
  omega
theorem ZV {x : Inst} (hx : yG x) {t : zp} (h : ZaH x t) (hn : t ≠ []) : zr x t = 0 ↔ zt t ≤ x.cap ∧ zC x (t.map (·.c)) ≤ x.len := by
 obtain ⟨h1, h2, h3⟩ := h
 have b1 := J9 t h1
 have b2 := uP hx (t.map (·.c))
 rw [List.length_map] at b2
 have w1 : W (zt t) = zt t := wr _ (by omega) (by omega)
 have w2 : W (zC x (t.map (·.c))) = zC x (t.map (·.c)) := wr _ (by omega) (by omega)
 rw [ue, w1, w2]
 have : yg x t = true := by
  unfold yg
  rw [Bool.and_eq_true, List.all_eq_true]
  exact ⟨h1, by cases t <;> simp at hn ⊢⟩
 exact ⟨fun e => e.2.2, fun e => ⟨this, h2, e⟩⟩
theorem SG.each {x : Inst} {l : List Stop} {d : Day} (g : SG x l d) : ∀ s ∈ l, yF x s = true := by
 intro s hs
 obtain ⟨t, ht, hst⟩ := List.mem_flatten.1 (g.perm.symm.subset hs)
 exact (J8 (g.may t ht)).1 s hst
section
variable {x : Inst} {l : List Stop} (h : SOk x l)
include h
theorem SG.len {d : Day} (g : SG x l d) : d.flatten.length ≤ 1000 ∧ d.length ≤ 1000 := by
 have h1 := ZM d fun t ht => (J8 (g.may t ht)).2
 have h2 := g.perm.length_eq
 have h3 := h.len
 omega
theorem SG.tour {d : Day} (g : SG x l d) {e : Day} (he : e.flatten.Perm l) {t : zp} (ht : t ∈ e) : ZaH x t := by
 have hs := xB ht
 have hl := h.len
 refine ⟨fun s q => g.each s (he.subset (hs.subset q)), ?_, ?_⟩
 ·exact ((he.map _).nodup_iff.2 h.nd).sublist (hs.map _)
 ·have := hs.length_le
  have := he.length_eq
  omega
theorem SG.mv {d : Day} (g : SG x l d) : MvDay d := by
 refine ⟨(g.len h).2, fun t ht => (g.tour h g.perm ht).2.2, fun t ht s hs => ?_⟩
 have := (g.tour h g.perm ht).1 s hs
 have hc := h.cust
 simp [yF] at this
 unfold small
 omega
theorem SG.ok {d : Day} (g : SG x l d) : DayOk d := by
 have h1 := g.len h
 have h2 := g.mv h
 exact ⟨by omega, fun t ht => Nat.le_trans (h2.t t ht) (by decide), fun t ht s hs => (h2.s t ht s hs).1⟩
end
theorem ZaI {x : Inst} {d : Day} {r : Rw5} (hr : j7 d r) (h0 : arc x 0 0 = 0) : jn x d r ↔ zt (zS d r) ≤ x.cap ∧ zC x ((zS d r).map (·.c)) ≤ x.len := by
 unfold jn
 rw [J0 hr h0, Zhf hr]
theorem Zhu {d : Day} {m : Mv} (h : qM d m = true) (hab : m.a = m.b) : zS d (zE d m).2 = [] := by
 have e0 : zS d rw0 = [] := rfl
 unfold qM at h
 rw [Bool.and_eq_true] at h
 obtain ⟨-, h2⟩ := h
 unfold jz at h2
 unfold zE qB
 by_cases k0 : m.k = 0
 ·rw [if_pos k0]; exact e0
 rw [if_neg k0] at h2 ⊢
 by_cases k1 : m.k = 1
 ·rw [if_pos k1, if_neg (by simp [hab])]
  split <;> exact e0
 rw [if_neg k1] at h2 ⊢
 by_cases k2 : m.k = 2
 ·rw [if_pos k2, if_pos hab]; exact e0
 rw [if_neg k2] at h2
 have h2 := of_decide_eq_true h2
 omega
theorem Zhv {d : Day} {m : Mv} (h : qM d m = true) (hn : zS d (zE d m).1 ≠ []) : zS d (zE d m).1 ∈ mkZ d m := by
 obtain ⟨-, ha, -⟩ := uh h
 refine List.mem_filterMap.2 ⟨m.a, List.mem_range.2 ha, ?_⟩
 have e : mkT d m m.a = zS d (zE d m).1 := by unfold mkT; rw [if_pos rfl]
 unfold y8
 rw [e, if_neg fun q => hn (List.length_eq_zero_iff.1 q)]
theorem Zhw {d : Day} {m : Mv} (h : qM d m = true) (hab : m.a ≠ m.b) (hn : zS d (zE d m).2 ≠ []) : zS d (zE d m).2 ∈ mkZ d m := by
 obtain ⟨-, -, hb, -⟩ := uh h
 refine List.mem_filterMap.2 ⟨m.b, List.mem_range.2 hb, ?_⟩
 have e : mkT d m m.b = zS d (zE d m).2 := by unfold mkT; rw [if_neg fun q => hab q.symm, if_pos rfl]
 unfold y8
 rw [e, if_neg fun q => hn (List.length_eq_zero_iff.1 q)]
theorem Zhx {x : Inst} {l : List Stop} (h : SOk x l) (h0 : arc x 0 0 = 0) {d : Day} (g : SG x l d) {m : Mv} (hm : qM d m = true) : (jn x d (zE d m).1 ∧ jn x d (zE d m).2) ↔ ∀ t ∈ mkZ d m, zr x t = 0 := by
 obtain ⟨-, ha, hb, r1, r2⟩ := uh hm
 have hp : (mkZ d m).flatten.Perm l := (ZaG hm).trans g.perm
 rw [ZaI r1 h0, ZaI r2 h0]
 have hz : 0 ≤ x.cap ∧ 0 ≤ x.len := by
  have ht := g.may _ (List.getElem_mem ha)
  have hg := g.tour h g.perm (List.getElem_mem ha)
  have := (ZV h.arc hg (J8 ht).2).1 ht
  have b1 := J9 _ hg.1
  have b2 := uP h.arc (d[m.a].map (·.c))
  omega
 have e0 : zt [] = 0 ∧ zC x (([] : zp).map (·.c)) = 0 := ⟨rfl, rfl⟩
 constructor
 ·rintro ⟨q1, q2⟩ t ht
  obtain ⟨hn, h3⟩ := Zhp ht
  have hg := g.tour h hp ht
  rcases h3 with rfl | rfl | h3
  ·exact (ZV h.arc hg hn).2 q1
  ·exact (ZV h.arc hg hn).2 q2
  ·exact g.may t h3
 ·intro hall
  constructor
  ·by_cases hn : zS d (zE d m).1 = []
   ·rw [hn, e0.1, e0.2]; exact hz
   ·have ht := Zhv hm hn
    exact (ZV h.arc (g.tour h hp ht) hn).1 (hall _ ht)
  ·by_cases hn : zS d (zE d m).2 = []
   ·rw [hn, e0.1, e0.2]; exact hz
   ·by_cases hab : m.a = m.b
    ·exact absurd (Zhu hm hab) hn
    ·have ht := Zhw hm hab hn
     exact (ZV h.arc (g.tour h hp ht) hn).1 (hall _ ht)
theorem ZaJ (x : Inst) (d : Day) : ∀ (ms : List Mv) (st : Mv × Int), (ms.foldl (mbS x d) st = st) ∨ (∃ m ∈ ms, (ms.foldl (mbS x d) st) = (m, byM x d m) ∧ jn x d (zE d m).1 ∧ jn x d (zE d m).2)
 | [], st => .inl rfl
 | m :: ms, st => by
  rw [List.foldl_cons]
  rcases ZaJ x d ms (mbS x d st m) with e | ⟨m2, h1, h2, h3⟩
  ·rw [e]
   unfold mbS
   split
   ·rename_i hc
    exact .inr ⟨m, by simp, rfl, hc.2⟩
   ·exact .inl rfl
  ·exact .inr ⟨m2, by simp [h1], h2, h3⟩
def jN (x : Inst) (d : Day) : Option Day := if (mbZ x d).2 < 0 then some (mkZ d (mbZ x d).1) else none
theorem ZaK {x : Inst} {d : Day} (hb : (mbZ x d).2 < 0) : (mbZ x d).1 ∈ x8 d ∧ byM x d (mbZ x d).1 < 0 ∧ jn x d (zE d (mbZ x d).1).1 ∧ jn x d (zE d (mbZ x d).1).2 := by
 rcases ZaJ x d (x8 d) (mv0, 0) with e | ⟨m, h1, h2, h3⟩
 ·unfold mbZ at hb; rw [e] at hb; cases hb
 ·unfold mbZ at hb ⊢
  rw [h2] at hb ⊢
  exact ⟨h1, hb, h3⟩
theorem ZaL {x : Inst} {l : List Stop} (h : SOk x l) (h0 : arc x 0 0 = 0) {d e : Day} (g : SG x l d) (hs : jN x d = some e) : SG x l e ∧ zA x e < zA x d ∧ e.length ≤ d.length := by
 unfold jN at hs
 split at hs
 ·rename_i hb
  cases hs
  obtain ⟨h1, h2, h3⟩ := ZaK hb
  have hm := (J2 h1).1
  refine ⟨⟨(Zhx h h0 g hm).1 h3, (ZaG hm).trans g.perm⟩, ?_, Zhq _ _⟩
  rw [Zhr hm h0]; omega
 ·cases hs
theorem ZaM {x : Inst} {l : List Stop} (h : SOk x l) (h0 : arc x 0 0 = 0) : Zaj x (jN x) (SG x l) := by
 intro d g
 have hv := g.mv h
 have hl : ∀ a, tlen d a ≤ 1000 := by
  intro a
  unfold tlen
  rw [List.getD_eq_getElem?_getD]
  cases hq : d[a]? with
  | none => simp
  | some l => exact hv.t l (List.mem_of_getElem? hq)
 have hd1 : (jN x d).isSome = decide ((mbZ x d).2 < 0) := by
  unfold jN
  split
  ·rename_i q; simp [q]
  ·rename_i q; simp [q]
 refine ⟨_, _, _, _, _, _, by rw [hd1]; exact Zhl x d h.arc hv, fun e he => ⟨?_, (ZaL h h0 g he).1⟩⟩
 unfold jN at he
 split at he
 ·rename_i hb
  cases he
  obtain ⟨h1, -, -⟩ := ZaK hb
  obtain ⟨h1, h2, h3⟩ := J2 h1
  have := hl (mbZ x d).1.a
  have := hl (mbZ x d).1.b
  exact Zhm x d _ hv.n hv.t h1 (by omega) (by omega)
 ·cases he
theorem Qc {x : Inst} {l : List Stop} (h : SOk x l) (h0 : arc x 0 0 = 0) : ∀ (n : Nat) (d : Day), SG x l d → SG x l (jl (jN x) n d) ∧ zA x (jl (jN x) n d) ≤ zA x d ∧ (jl (jN x) n d).length ≤ d.length
 | 0, d, g => ⟨g, Int.le_refl _, Nat.le_refl _⟩
 | n + 1, d, g => by
  unfold jl
  cases hs : jN x d with
  | none => exact ⟨g, Int.le_refl _, Nat.le_refl _⟩
  | some e =>
   obtain ⟨a, b, c⟩ := ZaL h h0 g hs
   obtain ⟨a', b', c'⟩ := Qc h h0 n e a
   exact ⟨a', by simp only; omega, by simp only; omega⟩
open Go Go.Proofs Hp
theorem Zhy (x : Inst) : arc (zP x) 0 0 = 0 := by
 have h1 : (zP x).dist[0]? = some (jx x (x.cust.take 6).length 0) := by
  unfold zP
  rw [List.getElem?_map, List.getElem?_range (by omega)]; rfl
 have h2 : (jx x (x.cust.take 6).length 0)[0]? = some 0 := by
  unfold jx
  rw [List.getElem?_map, List.getElem?_range (by omega)]; rfl
 unfold arc
 split
 ·rfl
 ·rw [List.getD_eq_getElem?_getD, List.getD_eq_getElem?_getD]
  show (((zP x).dist[0]?).getD [])[0]?.getD 0 = 0
  rw [h1]
  show ((jx x (x.cust.take 6).length 0)[0]?).getD 0 = 0
  rw [h2]; rfl
theorem ZaN {x : Inst} {l : List Stop} (h : qz x l = 0) : ∀ s ∈ l, zr x [s] = 0 := by
 unfold qz at h
 intro s hs
 cases hf : l.find? (fun s => zr x [s] != 0) with
 | some s2 =>
  have := List.find?_some hf
  rw [hf] at h
  simp only at h
  rw [h] at this; simp at this
 | none =>
  have := List.find?_eq_none.1 hf s hs
  simpa using this
theorem Zhz {x : Inst} {l : List Stop} (h : SOk x l) (hf : qz x l = 0) : ∀ t ∈ ji x l, zr x t = 0 := by
 have key : ∀ (ps : List Pr) (st : Day × Int), (∀ t ∈ st.1, t.length ≤ 1 ∨ zr x t = 0) → ∀ t ∈ (ps.foldl (yy x) st).1, t.length ≤ 1 ∨ zr x t = 0 := by
  intro ps
  induction ps with
  | nil => intro st h; exact h
  | cons p ps ih =>
   intro st hst
   rw [List.foldl_cons]
   refine ih _ fun t ht => ?_
   unfold yy uM at ht
   generalize xh st.1 p.a = i at ht
   generalize xh st.1 p.b = k at ht
   generalize st.1.getD i [] = a at ht
   generalize st.1.getD k [] = b at ht
   cases hc : yf x st.2 p i k a b with
   | false => rw [hc] at ht; exact hst t ht
   | true =>
    rw [hc] at ht
    simp only [cond_true] at ht
    unfold yf at hc
    simp only [Bool.and_eq_true, decide_eq_true_eq] at hc
    rcases List.mem_or_eq_of_mem_set ht with ht | ht
    ·rcases List.mem_or_eq_of_mem_set ht with ht | ht
     ·exact hst t ht
     ·rw [ht]; exact .inr hc.2
    ·rw [ht]; exact .inl (by simp)
 intro t ht
 obtain ⟨-, hp, -, hne⟩ := h.join
 have hs := xB ht
 have h1 := key (yB x (l.map fun s : Stop => s.c)) (l.map fun s => [s], (l.length : Int)) (fun t ht => by obtain ⟨s, _, rfl⟩ := List.mem_map.1 ht; simp) t (List.mem_filter.1 ht).1
 rcases h1 with h1 | h1
 ·have := hne t ht
  match t, h1, this with
  | [s], _, _ => exact ZaN hf s (hp.subset (hs.subset (by simp)))
 ·exact h1
theorem Xa {x : Inst} {l : List Stop} (h : SOk x l) (hf : qz x l = 0) : ∀ d ∈ wK x l, SG x l d := by
 intro d hd
 unfold wK at hd
 simp only [List.cons_append, List.nil_append, List.mem_cons] at hd
 rcases hd with rfl | rfl | hd
 ·exact ⟨Zhz h hf, h.join.2.1⟩
 ·refine ⟨fun t ht => ?_, by rw [h.apart.2.1]⟩
  obtain ⟨s, hs, rfl⟩ := List.mem_map.1 ht
  exact ZaN hf s hs
 ·cases hall : (yH x l).2 with
  | false => rw [hall] at hd; simp at hd
  | true =>
   rw [hall] at hd
   simp at hd; subst hd
   obtain ⟨r, hp⟩ := h.regret
   exact ⟨((qV x _).1 r.may).1, hp hall⟩
def qN (x : Inst) (b : Int) (d : Day) : Day := jl (jN x) b.toNat d
def qZ (x : Inst) (b : Int) (l : List Stop) : Day × Int := qK x (qz x l) (xE x (qN x b) l)
theorem ZhA {x : Inst} {l : List Stop} (h : SOk x l) (h0 : arc x 0 0 = 0) (hf : qz x l = 0) {b : Int} (hb : b ≤ 9223372036854775807) : Zat x b (qN x b) (wK x l) := by
 intro d hd
 have g := Xa h hf d hd
 obtain ⟨g2, -, -⟩ := Qc h h0 b.toNat d g
 have o := g.ok h
 refine ⟨⟨_, Zak x d b (jN x) (SG x l) hb o.n o.t (fun _ => g) (ZaM h h0)⟩, g2.ok h, ?_⟩
 have := (g2.len h).1
 show (jl (jN x) b.toNat d).flatten.length ≤ 1048576
 omega
theorem ZhB {x : Inst} {l : List Stop} (h : SOk x l) (h0 : arc x 0 0 = 0) {b : Int} (hb : b ≤ 9223372036854775807) : Pure Tryz.prog 130 [.agg (zo x), L l, I b] (.tup [.agg [L (qZ x b l).1], I (qZ x b l).2]) :=
 Zg6 x l b _ h fun hf => ZhA h h0 hf hb
theorem ZhC {x : Inst} {l : List Stop} (h : SOk x l) (h0 : arc x 0 0 = 0) (hf : qz x l = 0) (b : Int) : ∀ d ∈ xE x (qN x b) l, SG x l d := by
 have hb := Xa h hf
 have hi := fun d g => (Qc h h0 b.toNat d g).1
 intro d hd
 unfold xE at hd
 unfold wK at hb
 simp only [List.cons_append, List.nil_append, List.mem_cons] at hd hb
 rcases hd with rfl | rfl | rfl | hd
 ·exact hb _ (.inr (.inl rfl))
 ·exact hi _ (hb _ (.inl rfl))
 ·exact hi _ (hb _ (.inr (.inl rfl)))
 ·cases hall : (yH x l).2 with
  | false => rw [hall] at hd; simp at hd
  | true =>
   rw [hall] at hd
   simp at hd; subst hd
   exact hi _ (hb _ (.inr (.inr (by rw [hall]; simp))))
theorem ZaO (x : Inst) : ∀ (ds : List Day) (st : Day × Int × Bool), (st.2.2 = true → (ds.foldl (qA x) st).2.2 = true ∧ (ds.foldl (qA x) st).2.1 ≤ st.2.1) ∧ ∀ d ∈ ds, zH x d = 0 → (ds.foldl (qA x) st).2.2 = true ∧ (ds.foldl (qA x) st).2.1 ≤ W (zA x d)
 | [], st => ⟨fun e => ⟨e, Int.le_refl _⟩, by simp⟩
 | d :: ds, st => by
  rw [List.foldl_cons]
  obtain ⟨h1, h2⟩ := ZaO x ds (qA x st d)
  constructor
  ·intro e
   have : (qA x st d).2.2 = true ∧ (qA x st d).2.1 ≤ st.2.1 := by
    unfold qA
    split
    ·split
     ·rename_i hc
      rcases hc with hc | hc
      ·rw [e] at hc; cases hc
      ·exact ⟨rfl, Int.le_of_lt hc⟩
     ·exact ⟨e, Int.le_refl _⟩
    ·exact ⟨e, Int.le_refl _⟩
   obtain ⟨a, b⟩ := h1 this.1
   exact ⟨a, Int.le_trans b this.2⟩
  ·intro d2 hd hz
   rcases List.mem_cons.1 hd with rfl | hd
   ·have : (qA x st d2).2.2 = true ∧ (qA x st d2).2.1 ≤ W (zA x d2) := by
     unfold qA
     rw [if_pos hz]
     split
     ·exact ⟨rfl, Int.le_refl _⟩
     ·rename_i hc
      cases hq : st.2.2 with
      | false => exact absurd (.inl hq) hc
      | true => exact ⟨rfl, Int.not_lt.1 fun q => hc (.inr q)⟩
    obtain ⟨a, b⟩ := h1 this.1
    exact ⟨a, Int.le_trans b this.2⟩
   ·exact h2 d2 hd hz
theorem ZaP {x : Inst} {e : Int} {ds : List Day} (he : e = 0) {d : Day} (hd : d ∈ ds) (hz : zH x d = 0) : (qK x e ds).2 = 0 ∧ W (zA x (qK x e ds).1) ≤ W (zA x d) := by
 obtain ⟨h1, h2⟩ := (ZaO x ds ([], 0, false)).2 d hd hz
 change (jY x ds).2.2 = true at h1
 change (jY x ds).2.1 ≤ W (zA x d) at h2
 unfold qK
 rw [if_pos he, h1]
 refine ⟨rfl, ?_⟩
 rcases J7 x ds ([], 0, false) h1 with q | ⟨d2, g1, g2, g3⟩
 ·have : (jY x ds).2.2 = false := by unfold jY; rw [q]
  rw [this] at h1; cases h1
 ·have : jY x ds = (d2, W (zA x d2), true) := g3
  rw [this] at h2 ⊢; exact h2
theorem ZhD {x : Inst} {e : Int} {ds : List Day} (h : (qK x e ds).2 ≠ 0) : (qK x e ds).1 = [] := by
 unfold qK at h ⊢
 by_cases he : e = 0
 ·rw [if_pos he] at h ⊢
  cases hz : (jY x ds).2.2 with
  | true => rw [hz] at h; exact absurd rfl h
  | false => rfl
 ·rw [if_neg he]
theorem ZaQ (x : Inst) (imp : Day → Day) (l : List Stop) : yn l ∈ xE x imp l := by simp [xE]
section
variable {x : Inst} {l : List Stop} (h : SOk x l) (h0 : arc x 0 0 = 0) (b : Int)
include h h0
theorem ZhE (he : (qZ x b l).2 = 0) : qz x l = 0 ∧ zH x (qZ x b l).1 = 0 ∧ (qZ x b l).1.flatten.Perm l ∧ (zH x (yn l) = 0 → W (zA x (qZ x b l).1) ≤ W (zA x (yn l))) := by
 obtain ⟨hf, hm, hz⟩ := Zhs he
 have g := ZhC h h0 hf b _ hm
 exact ⟨hf, hz, g.perm, fun q => (ZaP hf (ZaQ x _ l) q).2⟩
omit h0 in
theorem ZhF (he : (qZ x b l).2 ≠ 0) : (qZ x b l).1 = [] ∧ (qz x l ≠ 0 ∨ x.veh < l.length) := by
 refine ⟨ZhD he, ?_⟩
 by_cases hf : qz x l = 0
 ·refine .inr ?_
  by_cases hv : x.veh < l.length
  ·exact hv
  ·refine absurd (ZaP hf (ZaQ x (qN x b) l) ?_).1 he
   have g := Xa h hf (yn l) (by simp [wK])
   refine (qV x _).2 ⟨g.may, by rw [h.apart.2.1]; exact h.nd, ?_⟩
   rw [JW]; omega
 ·exact .inl hf
end
open Go
structure Visit where
 d : Int
 q : Int
 deriving DecidableEq
instance : Inhabited Visit := ⟨⟨0, 0⟩⟩
instance : Enc Visit := ⟨fun s => [I s.d, I s.q], 2, fun _ => rfl, fun _ => rfl⟩
@[simp] theorem ZlN (s : Visit) : Enc.enc s = [I s.d, I s.q] := rfl
@[simp high] theorem ZlO (l : List Visit) : (l.flatMap Enc.enc).length = l.length * 2 := jf l
@[simp high] theorem ZlP (l : List Visit) : (l.flatMap Enc.enc).take (l.length * 2) = l.flatMap Enc.enc := wZ l
def told : Nat → List Day → List (Stop × Nat)
 | _, [] => []
 | i, d :: ds => d.flatten.map (·, i) ++ told (i + 1) ds
open Go
def zQ (c : Int) (l : List (Stop × Nat)) : List Visit := (l.filter fun x => decide (x.1.c = c)).map fun x => ⟨x.2, x.1.q⟩
theorem uZ (c : Int) (l m : List (Stop × Nat)) : zQ c (l ++ m) = zQ c l ++ zQ c m := by simp [zQ]
theorem Qd (c : Int) (x : Stop × Nat) : zQ c [x] = if x.1.c = c then [⟨x.2, x.1.q⟩] else [] := by
 by_cases h : x.1.c = c <;> simp [zQ, h]
theorem ZaR (c : Int) (l : List (Stop × Nat)) : (zQ c l).length ≤ l.length := by
 simp only [zQ, List.length_map]; exact List.length_filter_le _ _
structure PlanOk (p : zF) : Prop where
 n : p.length ≤ 1048576
 d : ∀ d ∈ p, d.length ≤ 1048576
 t : ∀ d ∈ p, ∀ t ∈ d, t.length ≤ 1048576
 told : (told 0 p).length ≤ 1048576
open Go
def vp (n : Nat) (d : Int) : Nat := if 0 ≤ d ∧ d < 64 then n ||| 2 ^ d.toNat else n
theorem ZhG (n : Nat) (d : Int) (hn : n < 2 ^ 64) : vp n d < 2 ^ 64 := by
 unfold vp; split
 ·exact Nat.or_lt_two_pow hn (Nat.pow_lt_pow_right (by decide) (by omega))
 ·exact hn
def ofD (l : List Int) : Nat := l.foldl vp 0
theorem ZhH (l : List Int) : ofD l < 2 ^ 64 := by
 have : ∀ (l : List Int) (n : Nat), n < 2 ^ 64 → l.foldl vp n < 2 ^ 64 := by
  intro l; induction l with
  | nil => intro n h; exact h
  | cons d l ih => intro n h; exact ih _ (ZhG n d h)
 exact this l 0 (by decide)
set_option maxRecDepth 20000 in
theorem ZaS (d : Int) : Pure Tryz.prog 210 [I d] (B (decide (0 ≤ d ∧ d < 64))) := by
 refine pwe Tryz.func210 Tryz.ntmps210 Tryz.results210 fun S nx hd => ?_
 (repeat apply za); refine pwn ?_; intros
 by_cases h1 : 0 ≤ d
 ·repeat apply za
  refine pwN [(2, 5)] h1 ?_
  intros
  repeat apply za
  exact zb (zg hd (by simp; rfl) (by simp [h1, zi]))
 ·repeat apply za
  refine pwN [(2, 5)] (jn2 h1 zn) ?_
  intros
  repeat apply za
  exact zb (zg hd (by simp; rfl) (by simp [h1, zi]))
open Go
structure CustFits (c : Cust) : Prop where
 rate : 0 ≤ c.rate ∧ c.rate ≤ 2147483648
 size : 0 ≤ c.size ∧ c.size ≤ 2147483648
 start : 0 ≤ c.start ∧ c.start ≤ 2147483648
def wM (q : Int) : Bool := decide (q < 0 ∨ 2147483648 < q)
def yR (size rate : Int) : Int → List Int → Option (List Int)
 | _, [] => some []
 | there, q :: l => if size < there + q ∨ there + q < rate then none else (yR size rate (there + q - rate) l).map ((there + q - rate) :: ·)
def yr (c : Cust) (q : List Int) : List Int × Int :=
 if q.any wM then ([], 1) else match yR c.size c.rate c.start q with
 | none => ([], 8)
 | some l => (l, 0)
theorem ZhI {size rate there q : Int} {l : List Int} {out : List Int} {r : Option (List Int)} (h : r = (yR size rate there (q :: l)).map (out ++ ·)) (hs : ¬ size < there + q) (hr : ¬ there + q < rate) :
  r = (yR size rate (there + q - rate) l).map ((out ++ [there + q - rate]) ++ ·) := by
 rw [h]
 simp only [yR, hs, hr, or_self, if_false, Option.map_map]
 congr 1
 funext x
 simp
open Go
def ui (rate size : Int) : List Int → List Int → Bool
 | z :: q, n :: l => decide (0 < z ∧ n + rate ≠ size) || ui rate size q l
 | _, _ => false
def u5 (c : Cust) (q : List Int) : Int :=
 if (yr c q).2 ≠ 0 then (yr c q).2 else if c.rule ≠ 1 then 0 else if ui c.rate c.size q (yr c q).1 then 9 else 0
def x9 (c : Cust) (ns : List Int) : Int := W (c.hold * W ns.sum)
theorem Qe (l : List Int) (x : Int) : (l ++ [x]).sum = l.sum + x := by simp
def wN (a b : Int) : Int := if a + b < -9223372036854775808 then -9223372036854775808 else if 9223372036854775807 < a + b then 9223372036854775807 else a + b
set_option maxRecDepth 20000 in
theorem ZhJ (a b : Int) (ha : I64 a) (hb : I64 b) : Pure Tryz.prog 243 [I a, I b] (if -9223372036854775808 ≤ a + b ∧ a + b ≤ 9223372036854775807 then .tup [I (a + b), B true] else .tup [I 0, B false]) := by
 unfold I64 at ha hb
 refine pwe Tryz.func243 Tryz.ntmps243 Tryz.results243 fun S nx hd => ?_
 (repeat apply za); refine pwn ?_; intros
 by_cases h : -9223372036854775808 ≤ a + b ∧ a + b ≤ 9223372036854775807
 ·have w1 : IntKind.i64.wrap (a + b) = a + b := wr _ h.1 h.2
  repeat apply za
  refine pwN [] w1 ?_
  intros
  by_cases h1 : b < 0
  ·have h2 : a + b < a := by omega
   repeat apply za
   refine pwN [] (jn2 h1 h2) ?_
   intros
   repeat apply za
   refine zj (by simp) ?_
   refine zd ?_
   (repeat apply za); refine pwn ?_; intros
   repeat apply za
   exact zb (zg hd (by simp; rfl) (by simp [h, zi]))
  ·have h2 : ¬ a + b < a := by omega
   repeat apply za
   refine pwN [] (jn2 h1 h2) ?_
   intros
   repeat apply za
   refine zj (by simp) ?_
   refine zd ?_
   (repeat apply za); refine pwn ?_; intros
   repeat apply za
   exact zb (zg hd (by simp; rfl) (by simp [h, zi]))
 ·by_cases h0 : a + b < -9223372036854775808
  ·have w1 : IntKind.i64.wrap (a + b) = a + b + 18446744073709551616 := by rw [IntKind.wrap_i64]; omega
   have h1 : b < 0 := by omega
   have h2 : ¬ a + b + 18446744073709551616 < a := by omega
   repeat apply za
   refine pwN [] w1 ?_
   intros
   repeat apply za
   refine pwN [] (jn2 h1 h2) ?_
   intros
   repeat apply za
   refine zh (by simp) ?_
   (repeat apply za); refine pwn ?_; intros
   repeat apply za
   exact zb (zg hd (by simp; rfl) (by simp only [h, if_false]; rfl))
  ·have w1 : IntKind.i64.wrap (a + b) = a + b - 18446744073709551616 := by rw [IntKind.wrap_i64]; omega
   have h1 : ¬ b < 0 := by omega
   have h2 : a + b - 18446744073709551616 < a := by omega
   repeat apply za
   refine pwN [] w1 ?_
   intros
   repeat apply za
   refine pwN [] (jn2 h1 h2) ?_
   intros
   repeat apply za
   refine zh (by simp) ?_
   (repeat apply za); refine pwn ?_; intros
   repeat apply za
   exact zb (zg hd (by simp; rfl) (by simp only [h, if_false]; rfl))
set_option maxRecDepth 20000 in
theorem ZhK (a b : Int) (ha : I64 a) (hb : I64 b) : Pure Tryz.prog 209 [I a, I b] (I (wN a b)) := by
 have hadd := ZhJ a b ha hb
 unfold I64 at ha hb
 refine pwe Tryz.func209 Tryz.ntmps209 Tryz.results209 fun S nx hd => ?_
 (repeat apply za); refine pwn ?_; intros
 by_cases h : -9223372036854775808 ≤ a + b ∧ a + b ≤ 9223372036854775807
 ·rw [if_pos h] at hadd
  repeat apply za
  refine pwn ?_
  refine pwc hadd ?_
  intros
  repeat apply za
  refine ze ?_
  (repeat apply za); refine pwn ?_; intros
  repeat apply za
  refine zh rfl ?_
  (repeat apply za); refine pwn ?_; intros
  repeat apply za
  exact zb (zg hd (by simp; rfl) (by simp only [wN, zi]; rw [if_neg (by omega), if_neg (by omega)]))
 ·rw [if_neg h] at hadd
  repeat apply za
  refine pwn ?_
  refine pwc hadd ?_
  intros
  repeat apply za
  refine ze ?_
  (repeat apply za); refine pwn ?_; intros
  repeat apply za
  refine zj rfl ?_
  (repeat apply za); refine pwn ?_; intros
  repeat apply za
  refine zl rfl (fun h1 => ?_) (fun h1 => ?_)
  ·simp at h1
   (repeat apply za); refine pwn ?_; intros
   repeat apply za
   exact zb (zg hd (by simp; rfl) (by simp only [wN, zi]; rw [if_pos (by omega)]))
  ·simp at h1
   refine zd ?_
   (repeat apply za); refine pwn ?_; intros
   repeat apply za
   exact zb (zg hd (by simp; rfl) (by simp only [wN, zi]; rw [if_neg (by omega), if_pos (by omega)]))
def qO (v : List Visit) (n : Int) : List Int := (List.range (min (max n 0) 64).toNat).map fun (d : Nat) => ((v.filter fun s => decide (s.d = (d : Int))).map (·.q)).sum
theorem Qf (v : List Visit) (n : Int) : (qO v n).length = (min (max n 0) 64).toNat := by simp [qO]
structure VisOk (v : List Visit) : Prop where
 n : v.length ≤ 1048576
 q : ∀ s ∈ v, 0 ≤ s.q ∧ s.q ≤ 2147483648
 d : ∀ s ∈ v, I64 s.d
theorem ZhL (v : List Visit) (p : Visit → Bool) (h : ∀ s ∈ v, 0 ≤ s.q ∧ s.q ≤ 2147483648) : 0 ≤ ((v.filter p).map (·.q)).sum ∧ ((v.filter p).map (·.q)).sum ≤ 2147483648 * v.length := by
 induction v with
 | nil => simp
 | cons s v ih =>
  have h1 := ih fun x hx => h x (by simp [hx])
  have h2 := h s (by simp)
  rw [List.filter_cons]
  split
  ·simp only [List.map_cons, List.sum_cons, List.length_cons]; omega
  ·simp only [List.length_cons]; omega
open Go
def zR (n : Nat) : List Int := if h : n = 0 then [] else ((n % 65536 : Nat) : Int) :: zR (n / 65536)
termination_by n
decreasing_by omega
theorem vq : zR 0 = [] := by rw [zR]; simp
theorem vr {n : Nat} (h : n ≠ 0) : zR n = ((n % 65536 : Nat) : Int) :: zR (n / 65536) := by rw [zR]; simp [h]
def zI : List Int → Int
 | [] => 0
 | d :: l => d + 65536 * zI l
def q8 (l : List Int) : Prop := ∀ d ∈ l, 0 ≤ d ∧ d < 65536
def uj : List Int → Prop
 | [] => True
 | [d] => d ≠ 0
 | _ :: e :: l => uj (e :: l)
theorem vt : ∀ n : Nat, q8 (zR n) ∧ zI (zR n) = n ∧ uj (zR n) ∧ (n < 65536 ^ 4 → (zR n).length ≤ 4) := by
 intro n
 induction n using Nat.strongRecOn with
 | _ n ih =>
  by_cases h : n = 0
  ·subst h; rw [vq]; exact ⟨fun d hd => (nomatch hd), rfl, trivial, by simp⟩
  ·obtain ⟨h1, h2, h3, _⟩ := ih (n / 65536) (by omega)
   rw [vr h]
   refine ⟨?_, ?_, ?_, ?_⟩
   ·intro d hd
    rcases List.mem_cons.1 hd with rfl | hd
    ·omega
    ·exact h1 d hd
   ·simp only [zI, h2]; omega
   ·cases hl : zR (n / 65536) with
    | nil =>
     rw [hl] at h2
     simp only [zI] at h2
     simp only [uj]; omega
    | cons e l => rw [hl] at h3; exact h3
   ·intro hlt
    have : ∀ m : Nat, ∀ k : Nat, m < 65536 ^ k → (zR m).length ≤ k := by
     intro m k
     induction k generalizing m with
     | zero => intro hm; simp at hm; subst hm; rw [vq]; simp
     | succ k ihk =>
      intro hm
      by_cases h0 : m = 0
      ·subst h0; rw [vq]; simp
      ·rw [vr h0]
       have := ihk (m / 65536) (by rw [Nat.pow_succ] at hm; exact Nat.div_lt_of_lt_mul (by rw [Nat.mul_comm]; exact hm))
       simp; exact this
    have := this n 4 hlt
    rw [vr h] at this
    exact this
theorem Xb {l : List Int} (h : q8 l) : 0 ≤ zI l := by
 induction l with
 | nil => simp [zI]
 | cons d l ih =>
  have h1 := h d (by simp)
  have h2 := ih fun x hx => h x (by simp [hx])
  simp only [zI]; omega
theorem Qg (a b : List Int) : zI (a ++ b) = zI a + 65536 ^ a.length * zI b := by
 induction a with
 | nil => simp [zI]
 | cons d a ih => simp only [List.cons_append, zI, ih, List.length_cons, Int.pow_succ]; rw [Int.mul_add, Int.mul_comm (65536 ^ a.length) 65536, Int.mul_assoc]; omega
theorem ZhM : ∀ {l : List Int}, q8 l → uj l → l = zR (zI l).toNat := by
 intro l
 induction l with
 | nil => intro _ _; simp only [zI]; exact vq.symm
 | cons d l ih =>
  intro h ht
  have h1 := h d (by simp)
  have hl : q8 l := fun x hx => h x (by simp [hx])
  have h2 := Xb hl
  cases l with
  | nil =>
   simp only [uj] at ht
   simp only [zI]
   rw [vr (by omega)]
   have e1 : (d + 65536 * 0).toNat / 65536 = 0 := by omega
   rw [e1, vq]
   congr 1; omega
  | cons e l =>
   have := ih hl ht
   have hpos : zI (e :: l) ≠ 0 := by
    intro h0
    rw [h0] at this
    rw [show (0 : Int).toNat = 0 from rfl, vq] at this
    cases this
   have ev : zI (d :: e :: l) = d + 65536 * zI (e :: l) := rfl
   rw [ev, vr (by omega)]
   have e1 : (d + 65536 * zI (e :: l)).toNat / 65536 = (zI (e :: l)).toNat := by omega
   rw [e1, ← this]
   congr 1; omega
set_option maxRecDepth 20000 in
theorem Qh (n : Int) (hn : I64 n) : Pure Tryz.prog 137 [I n] (.agg [L (zR n.natAbs), B (decide (n < 0))]) := by
 unfold I64 at hn
 have hd4 := (vt n.natAbs).2.2.2 (by rw [show (65536 : Nat) ^ 4 = 18446744073709551616 from by decide]; omega)
 refine pwe Tryz.func137 Tryz.ntmps137 Tryz.results137 fun S nx hd => ?_
 repeat apply za
 refine pwn ?_
 intro v0
 repeat apply za
 refine pwn ?_
 intro v1
 (repeat apply za); refine pwn ?_; intros
 refine za (qc 1 0 3 1 rfl rfl fun v2 => ?_)
 repeat apply za
 refine ze (zq (fun s : Int × List Int × Nat => zR n.natAbs = s.2.1 ++ zR s.1.natAbs ∧ (-9223372036854775808 ≤ s.1 ∧ s.1 ≤ 9223372036854775807)) (fun (m, out, v2) => [(0, I m), (2, .ptr nx v0 0), (3, .ptr (nx + 1) v1 0)])
  (fun (m, out, v2) => [.cells v0 178 [.sc (.slice none 0 0), B false], .cells v1 178 [.sl (nx + 2) v2 1 0 out.length, B (decide (n < 0))], .cells v2 3 (out.flatMap Enc.enc)]) (fun s => s.1.natAbs) (n, [], v2) [] (by simp; exact hn) (by simp) (by simp) ?_)
 rintro ⟨m, out, v2⟩ ⟨ho, hm⟩
 simp only at ho hm ⊢
 by_cases h0 : m = 0
 ·subst h0
  rw [show (0 : Int).natAbs = 0 from rfl, vq, List.append_nil] at ho
  (repeat apply za); refine pwn ?_; intros
  repeat apply za
  refine zj rfl ?_
  refine zm ?_
  (repeat apply za); refine pwn ?_; intros
  refine zB 2 rfl ?_
  repeat apply za
  exact zb (zg hd (by simp; rfl) (by rw [ho]; simp [zi]))
 ·repeat apply za
  refine pwN [] h0 ?_
  intros
  repeat apply za
  refine zh (by simp [h0]) ?_
  refine zd (ze ?_)
  have hdm : zR m.natAbs = ((m.natAbs % 65536 : Nat) : Int) :: zR (m.tdiv 65536).natAbs := by
   rw [vr (by omega)]
   congr 2
   rw [Int.natAbs_tdiv]; rfl
  rw [hdm] at ho
  have hol : out.length ≤ 4 := by rw [ho] at hd4; simp at hd4; omega
  have hq : (m.tdiv 65536).natAbs = m.natAbs / 65536 := by rw [Int.natAbs_tdiv]; rfl
  have hq2 : -9223372036854775808 ≤ m.tdiv 65536 ∧ m.tdiv 65536 ≤ 9223372036854775807 := by omega
  have w1 : IntKind.i64.wrap (m.tdiv 65536) = m.tdiv 65536 := wr _ hq2.1 hq2.2
  (repeat apply za); refine pwn ?_; intros
  (repeat apply za); refine pwn ?_; intros
  by_cases hneg : m.tmod 65536 < 0
  ·have e1 : -(m.tmod 65536) = ((m.natAbs % 65536 : Nat) : Int) := by
    have := Int.natAbs_tmod m 65536
    have e : (65536 : Int).natAbs = 65536 := rfl
    rw [e] at this; omega
   have w2 : IntKind.i64.wrap (-(m.tmod 65536)) = ((m.natAbs % 65536 : Nat) : Int) := by rw [wr _ (by omega) (by omega)]; exact e1
   repeat apply za
   refine zh (by simp [hneg]) ?_
   repeat apply za
   refine pwN [] w2 ?_
   intros
   repeat apply za
   refine pwn ?_
   refine ⟨by omega, ?_⟩
   intros
   repeat apply za
   refine pwN [] w1 ?_
   intros
   exact zk (m.tdiv 65536, out ++ [((m.natAbs % 65536 : Nat) : Int)], v2 + 1) [] ⟨by rw [ho]; simp, hq2⟩ (by dsimp only; omega) (by simp) rfl (by simp)
  ·have e1 : m.tmod 65536 = ((m.natAbs % 65536 : Nat) : Int) := by
    have := Int.natAbs_tmod m 65536
    have e : (65536 : Int).natAbs = 65536 := rfl
    rw [e] at this; omega
   repeat apply za
   refine zj (by simp; omega) ?_
   refine zd ?_
   repeat apply za
   refine pwN [] e1 ?_
   refine ⟨by omega, ?_⟩
   intros
   repeat apply za
   refine pwN [] w1 ?_
   intros
   exact zk (m.tdiv 65536, out ++ [((m.natAbs % 65536 : Nat) : Int)], v2 + 1) [] ⟨by rw [ho]; simp, hq2⟩ (by dsimp only; omega) (by simp) rfl (by simp)
def yC : List Int → List Int → Int → List Int
 | [], [], c => if 0 < c then [c] else []
 | a :: u, [], c => (a + c) % 65536 :: yC u [] ((a + c) / 65536)
 | [], b :: bs, c => (b + c) % 65536 :: yC [] bs ((b + c) / 65536)
 | a :: u, b :: bs, c => (a + b + c) % 65536 :: yC u bs ((a + b + c) / 65536)
theorem ZhN : ∀ (a b : List Int) (c : Int), q8 a → q8 b → 0 ≤ c → c ≤ 1 → q8 (yC a b c) ∧ zI (yC a b c) = zI a + zI b + c ∧ (yC a b c).length ≤ max a.length b.length + 1 := by
 intro a
 induction a with
 | nil =>
  intro b
  induction b with
  | nil =>
   intro c _ _ h0 h1
   simp only [yC]
   split
   ·refine ⟨?_, by simp [zI], by simp⟩
    intro d hd; simp at hd; omega
   ·refine ⟨by intro d hd; simp at hd, by simp [zI]; omega, by simp⟩
  | cons b bs ih =>
   intro c ha hb h0 h1
   have hb1 := hb b (by simp)
   obtain ⟨q1, q2, q3⟩ := ih ((b + c) / 65536) ha (fun x hx => hb x (by simp [hx])) (by omega) (by omega)
   simp only [yC]
   refine ⟨?_, by simp only [zI] at q2 ⊢; rw [q2]; omega, by simp at q3 ⊢; omega⟩
   intro d hd
   rcases List.mem_cons.1 hd with rfl | hd
   ·omega
   ·exact q1 d hd
 | cons a u iha =>
  intro b
  cases b with
  | nil =>
   intro c ha hb h0 h1
   have ha1 := ha a (by simp)
   obtain ⟨q1, q2, q3⟩ := iha [] ((a + c) / 65536) (fun x hx => ha x (by simp [hx])) hb (by omega) (by omega)
   simp only [yC]
   refine ⟨?_, by simp only [zI] at q2 ⊢; rw [q2]; omega, by simp at q3 ⊢; omega⟩
   intro d hd
   rcases List.mem_cons.1 hd with rfl | hd
   ·omega
   ·exact q1 d hd
  | cons b bs =>
   intro c ha hb h0 h1
   have ha1 := ha a (by simp)
   have hb1 := hb b (by simp)
   obtain ⟨q1, q2, q3⟩ := iha bs ((a + b + c) / 65536) (fun x hx => ha x (by simp [hx])) (fun x hx => hb x (by simp [hx])) (by omega) (by omega)
   simp only [yC]
   refine ⟨?_, by simp only [zI] at q2 ⊢; rw [q2]; omega, by simp at q3 ⊢; omega⟩
   intro d hd
   rcases List.mem_cons.1 hd with rfl | hd
   ·omega
   ·exact q1 d hd
theorem ZhO (a b : List Int) (c : Int) (h : a ≠ [] ∨ b ≠ [] ∨ 0 < c) : yC a b c = (a.headD 0 + b.headD 0 + c) % 65536 :: yC a.tail b.tail ((a.headD 0 + b.headD 0 + c) / 65536) ∨ (a = [] ∧ b = [] ∧ yC a b c = [c]) := by
 cases a with
 | nil =>
  cases b with
  | nil => right; simp at h; simp [yC, h]
  | cons b bs => left; simp [yC]
 | cons a u =>
  cases b with
  | nil => left; simp [yC]
  | cons b bs => left; simp [yC]
theorem Qi (l : List Int) (k : Nat) : (l.drop k).headD 0 = l.getD k 0 := by simp [List.headD_eq_head?_getD, List.head?_drop, List.getD_eq_getElem?_getD]
set_option maxRecDepth 20000 in
theorem ZhP (a b : List Int) (ha : q8 a) (hb : q8 b) (hal : a.length ≤ 1000) (hbl : b.length ≤ 1000) : Pure Tryz.prog 183 [L a, L b] (L (yC a b 0)) := by
 refine pwe Tryz.func183 Tryz.ntmps183 Tryz.results183 fun S nx hd => ?_
 (repeat apply za); refine pwn ?_; intros
 (repeat apply za); refine pwn ?_; intros
 refine za (yQ 5 3 1 rfl fun v1 => ?_)
 (repeat apply za); refine pwn ?_; intros
 (repeat apply za); refine pwn ?_; intros
 repeat apply za
 refine ze (zq (fun s : Nat × Int × List Int × Nat => s.1 ≤ max a.length b.length + 1 ∧ (0 ≤ s.2.1 ∧ s.2.1 ≤ 1) ∧ s.2.2.1.length = s.1 ∧ yC a b 0 = s.2.2.1 ++ yC (a.drop s.1) (b.drop s.1) s.2.1 ∧ (s.1 = max a.length b.length + 1 → s.2.1 = 0)) (fun (k, c, out, v1) => [(0, L a), (1, L b), (5, .sl nx v1 1 0 out.length), (6, I c), (7, I k)])
  (fun (k, c, out, v1) => [.cells v1 3 (out.flatMap Enc.enc)]) (fun s => max a.length b.length + 1 - s.1) (0, 0, [], v1) [] (by simp) (by simp) (by simp) ?_)
 rintro ⟨k, c, out, v1⟩ ⟨hk, hc, hol, ho, hend⟩
 simp only at hk hc hol ho hend ⊢
 by_cases hlive : k < a.length ∨ k < b.length ∨ 0 < c
 ·have hkl : k < max a.length b.length + 1 := by
   rcases Nat.lt_or_ge k (max a.length b.length + 1) with h | h
   ·exact h
   ·have := hend (by omega); omega
  -- the sum at this place
  have hx : 0 ≤ a.getD k 0 ∧ a.getD k 0 < 65536 := by
   rw [List.getD_eq_getElem?_getD]
   cases h : a[k]? with
   | none => simp
   | some x => exact ha x (List.mem_of_getElem? h)
  have hy : 0 ≤ b.getD k 0 ∧ b.getD k 0 < 65536 := by
   rw [List.getD_eq_getElem?_getD]
   cases h : b[k]? with
   | none => simp
   | some x => exact hb x (List.mem_of_getElem? h)
  generalize hxx : a.getD k 0 = x at hx
  generalize hyy : b.getD k 0 = y at hy
  have hnext : ∀ s, s = c + x + y → yC a b 0 = (out ++ [s % 65536]) ++ yC (a.drop (k + 1)) (b.drop (k + 1)) (s / 65536) ∧ (k + 1 = max a.length b.length + 1 → s / 65536 = 0) := by
   rintro s rfl
   have hne : a.drop k ≠ [] ∨ b.drop k ≠ [] ∨ 0 < c := by
    rcases hlive with h | h | h
    ·left; intro e; have := List.drop_eq_nil_iff.1 e; omega
    ·right; left; intro e; have := List.drop_eq_nil_iff.1 e; omega
    ·exact .inr (.inr h)
   have hsum : (a.drop k).headD 0 + (b.drop k).headD 0 + c = c + x + y := by rw [Qi, Qi, hxx, hyy]; omega
   have h0 : k + 1 = max a.length b.length + 1 → c + x + y = c := by
    intro q
    have e1 : x = 0 := by rw [← hxx, List.getD_eq_getElem?_getD, List.getElem?_eq_none (by omega)]; rfl
    have e2 : y = 0 := by rw [← hyy, List.getD_eq_getElem?_getD, List.getElem?_eq_none (by omega)]; rfl
    omega
   refine ⟨?_, fun q => by have := h0 q; omega⟩
   rcases ZhO (a.drop k) (b.drop k) c hne with e | ⟨e1, e2, e3⟩
   ·rw [ho, e, hsum]
    simp [List.tail_drop]
   ·have hx0 : x = 0 := by rw [← hxx, ← Qi, e1]; rfl
    have hy0 : y = 0 := by rw [← hyy, ← Qi, e2]; rfl
    have d1 : a.drop (k + 1) = [] := by rw [← List.drop_drop, e1]; rfl
    have d2 : b.drop (k + 1) = [] := by rw [← List.drop_drop, e2]; rfl
    have z1 : (c + x + y) % 65536 = c := by omega
    have z2 : (c + x + y) / 65536 = 0 := by omega
    rw [ho, e3, d1, d2, z1, z2]; simp [yC]
  have fin : ∀ s : Int, s = c + x + y → s.tmod 65536 = s % 65536 ∧ IntKind.i64.wrap (s.tdiv 65536) = s / 65536 := by
   intro s hs
   refine ⟨Int.tmod_eq_emod_of_nonneg (by omega), ?_⟩
   rw [Int.tdiv_eq_ediv_of_nonneg (by omega), wr _ (by omega) (by omega)]
  obtain ⟨f1, f2⟩ := fin _ rfl
  obtain ⟨g1, g2⟩ := hnext _ rfl
  have wa : IntKind.i64.wrap (c + x) = c + x := wr _ (by omega) (by omega)
  have wb : IntKind.i64.wrap (c + x + y) = c + x + y := wr _ (by omega) (by omega)
  by_cases h1 : k < a.length
  ·obtain ⟨x', tl, a1, a2, a3, e0⟩ := el1 rfl a k h1
   obtain rfl : x' = x := by rw [← hxx, List.getD_eq_getElem?_getD, a1]; rfl
   repeat apply za
   refine pwN [(4, 12), (10, 18)] (jn2 h1 zn) ?_
   intros
   repeat apply za
   refine zh (by simp) ?_
   refine zd (za (ze ?_))
   (repeat apply za); refine pwn ?_; intros
   repeat apply za
   refine zh (by simp [h1]) ?_
   repeat apply za
   refine pwN [] (jn3 e0 h1 wa) ?_
   intros
   by_cases h2 : k < b.length
   ·obtain ⟨y', tl2, b1, b2, b3, e2⟩ := el1 rfl b k h2
    obtain rfl : y' = y := by rw [← hyy, List.getD_eq_getElem?_getD, b1]; rfl
    (repeat apply za); refine pwn ?_; intros
    repeat apply za
    refine zh (by simp [h2]) ?_
    repeat apply za
    refine pwN [] (jn3 e2 h2 wb) ?_
    intros
    repeat apply za
    refine pwN [] f1 ?_
    refine ⟨by omega, ?_⟩
    intros
    repeat apply za
    refine pwN [] f2 ?_
    intros
    (repeat apply za); refine pwn ?_; intros
    exact zk (k + 1, (c + x' + y') / 65536, out ++ [(c + x' + y') % 65536], v1 + 1) [] ⟨by omega, by dsimp only; omega, by simp [hol], g1, g2⟩ (by simp; omega) (by simp [wrN k (by omega)]) rfl (by simp)
   ·obtain rfl : y = 0 := by rw [← hyy, List.getD_eq_getElem?_getD, List.getElem?_eq_none (by omega)]; rfl
    rw [Int.add_zero] at f1 f2 g1 g2
    (repeat apply za); refine pwn ?_; intros
    repeat apply za
    refine zj (by simp; omega) ?_
    refine zd ?_
    repeat apply za
    refine pwN [] f1 ?_
    refine ⟨by omega, ?_⟩
    intros
    repeat apply za
    refine pwN [] f2 ?_
    intros
    (repeat apply za); refine pwn ?_; intros
    exact zk (k + 1, (c + x') / 65536, out ++ [(c + x') % 65536], v1 + 1) [] ⟨by omega, by dsimp only; omega, by simp [hol], g1, g2⟩ (by simp; omega) (by simp [wrN k (by omega)]) rfl (by simp)
  ·obtain rfl : x = 0 := by rw [← hxx, List.getD_eq_getElem?_getD, List.getElem?_eq_none (by omega)]; rfl
   by_cases h2 : k < b.length
   ·obtain ⟨y', tl2, b1, b2, b3, e2⟩ := el1 rfl b k h2
    obtain rfl : y' = y := by rw [← hyy, List.getD_eq_getElem?_getD, b1]; rfl
    have f1' : (c + y').tmod 65536 = (c + y') % 65536 := by rw [show c + y' = c + 0 + y' by omega]; exact f1
    have f2' : IntKind.i64.wrap ((c + y').tdiv 65536) = (c + y') / 65536 := by rw [show c + y' = c + 0 + y' by omega]; exact f2
    have wb' : IntKind.i64.wrap (c + y') = c + y' := wr _ (by omega) (by omega)
    rw [show c + 0 + y' = c + y' by omega] at g1 g2
    repeat apply za
    refine pwN [(4, 12), (10, 18)] (jn3 h1 h2 zn) ?_
    intros
    repeat apply za
    refine zh (by simp) ?_
    refine zd (za (ze ?_))
    (repeat apply za); refine pwn ?_; intros
    repeat apply za
    refine zj (by simp; omega) ?_
    refine zd ?_
    (repeat apply za); refine pwn ?_; intros
    repeat apply za
    refine zh (by simp [h2]) ?_
    repeat apply za
    refine pwN [] (jn3 e2 h2 wb') ?_
    intros
    repeat apply za
    refine pwN [] f1' ?_
    refine ⟨by omega, ?_⟩
    intros
    repeat apply za
    refine pwN [] f2' ?_
    intros
    (repeat apply za); refine pwn ?_; intros
    exact zk (k + 1, (c + y') / 65536, out ++ [(c + y') % 65536], v1 + 1) [] ⟨by omega, by dsimp only; omega, by simp [hol], g1, g2⟩ (by simp; omega) (by simp [wrN k (by omega)]) rfl (by simp)
   ·obtain rfl : y = 0 := by rw [← hyy, List.getD_eq_getElem?_getD, List.getElem?_eq_none (by omega)]; rfl
    have h3 : 0 < c := by omega
    obtain rfl : c = 1 := by omega
    rw [show (1 : Int) + 0 + 0 = 1 by rfl] at f1 f2 g1 g2
    repeat apply za
    refine pwN [(4, 12), (10, 18)] (jn2 h1 h2) ?_
    intros
    repeat apply za
    refine zh (by simp) ?_
    refine zd (za (ze ?_))
    (repeat apply za); refine pwn ?_; intros
    repeat apply za
    refine zj (by simp; omega) ?_
    refine zd ?_
    (repeat apply za); refine pwn ?_; intros
    repeat apply za
    refine zj (by simp; omega) ?_
    refine zd ?_
    repeat apply za
    refine pwN [] f1 ?_
    refine ⟨by omega, ?_⟩
    intros
    repeat apply za
    refine pwN [] f2 ?_
    intros
    (repeat apply za); refine pwn ?_; intros
    exact zk (k + 1, (1 : Int) / 65536, out ++ [(1 : Int) % 65536], v1 + 1) [] ⟨by omega, by dsimp only; omega, by simp [hol], g1, g2⟩ (by simp; omega) (by simp [wrN k (by omega)]) rfl (by simp)
 ·have h1 : ¬ k < a.length := by omega
  have h2 : ¬ k < b.length := by omega
  have h3 : ¬ 0 < c := by omega
  rw [List.drop_of_length_le (by omega), List.drop_of_length_le (by omega)] at ho
  simp only [yC, h3, if_false, List.append_nil] at ho
  repeat apply za
  refine pwN [(4, 12), (10, 18)] (jn3 h1 h2 h3) ?_
  intros
  repeat apply za
  refine zj (by simp) ?_
  refine zm ?_
  (repeat apply za); refine pwn ?_; intros
  refine zB 0 rfl ?_
  repeat apply za
  exact zb (zg hd (by simp; rfl) (by rw [ho]; simp [zi]))
open Go
theorem ZhQ {l : List Int} (h : l = [] ∨ ∃ m x, l = m ++ [x] ∧ x ≠ 0) : uj l := by
 rcases h with rfl | ⟨m, x, rfl, hx⟩
 ·trivial
 ·induction m with
  | nil => exact hx
  | cons a m ih =>
   cases m with
   | nil => exact hx
   | cons b m => exact ih
theorem ZhR (l : List Int) (k : Nat) (h : ∀ d ∈ l.drop k, d = 0) : zI l = zI (l.take k) := by
 have hz : ∀ m : List Int, (∀ d ∈ m, d = 0) → zI m = 0 := by
  intro m; induction m with
  | nil => intro _; rfl
  | cons a m ih => intro h; simp only [zI]; rw [ih fun d hd => h d (by simp [hd]), h a (by simp)]; rfl
 conv => lhs; rw [← List.take_append_drop k l]
 rw [Qg, hz _ h]; simp
set_option maxRecDepth 20000 in
theorem ZhS (l : List Int) (neg : Bool) (hl : q8 l) (hn : l.length ≤ 1000) : Pure Tryz.prog 182 [.agg [L l, B neg]] (.agg [L (zR (zI l).toNat), B (if zR (zI l).toNat = [] then false else neg)]) := by
 refine pwe Tryz.func182 Tryz.ntmps182 Tryz.results182 fun S nx hd => ?_
 repeat apply za
 refine pwn ?_
 intro v0 v1
 have fl : ∀ k, k ≤ l.length → ((l.flatMap Enc.enc).take k) = ((l.take k).flatMap Enc.enc) := fun k _ => by
  have := wW (α := Int) Enc.enc 1 (fun _ => rfl) l k
  rw [Nat.mul_one] at this; exact this
 repeat apply za
 refine zW (nx := nx) (σ := Unit) (fun _ => True) (fun _ => [(1, .ptr nx v0 0), (2, .ptr (nx + 1) v1 0)]) (fun _ => S) (fun _ => [.cells v0 178 [L (zR (zI l).toNat), B neg], .cells v1 178 [.sc (.slice none 0 0), B false]]) ?_ ?_
 ·refine ze (zq (fun s : Nat => s ≤ l.length ∧ (∀ d ∈ l.drop s, d = 0)) (fun k => [(1, .ptr nx v0 0), (2, .ptr (nx + 1) v1 0)]) (fun k => [.cells v0 178 [L (l.take k), B neg], .cells v1 178 [.sc (.slice none 0 0), B false]]) (fun s => s) l.length [] (by simp) (by simp) (by simp) ?_)
  rintro k ⟨hk, ho⟩
  have htk : (l.take k).length = k := by simp; omega
  have stop : uj (l.take k) → L (l.take k) = L (zR (zI l).toNat) := by
   intro h
   rw [ZhR l k ho, ← ZhM (fun d hd => hl d (List.mem_of_mem_take hd)) h]
  match k, hk with
  | 0, _ =>
   repeat apply za
   refine pwN [(4, 7)] zn ?_
   intros
   repeat apply za
   refine zj rfl ?_
   refine zm (zu () [] trivial (by simp) rfl ?_)
   have := stop trivial
   simp only [List.take_zero] at this
   simp [this]
  | j + 1, hk =>
   obtain ⟨d, tl, a1, a2, a3, e0⟩ := el1 rfl l j (by omega)
   have hw : IntKind.i64.wrap ((j : Int) + 1 - 1) = (j : Int) := by rw [wr _ (by omega) (by omega)]; omega
   have hw' : IntKind.i64.wrap (j : Int) = (j : Int) := wr _ (by omega) (by omega)
   have hlast : ((l.take (j + 1)).flatMap Enc.enc).drop j = [I d] := by
    rw [a3, List.flatMap_append, List.drop_append_of_le_length (by rw [qi]; simp; omega), List.drop_of_length_le (by rw [qi]; simp; omega)]; rfl
   have hjj : (j : Int) < (j : Int) + 1 := by omega
   by_cases h0 : d = 0
   ·repeat apply za
    refine pwN [(4, 7)] (jn6 htk hw hw' hlast hjj h0) ?_
    intros
    repeat apply za
    refine zh (by simp) ?_
    refine zd (ze ?_)
    have hft : ((l.take (j + 1)).flatMap Enc.enc).take j = (l.take j).flatMap Enc.enc := by rw [← fl (j + 1) hk, List.take_take, fl _ (by omega)]; congr 2; omega
    have hjl : (l.take j).length = j := by simp; omega
    repeat apply za
    refine pwN [] (jn4 htk hw hw' hft) ?_
    intros
    exact zk j [] ⟨by omega, fun e he => by rw [a2] at he; rcases List.mem_cons.1 he with q | q; exact q.trans h0; exact ho e q⟩ (by omega) (by simp) rfl (by simp [hjl, hft])
   ·repeat apply za
    refine pwN [(4, 7)] (jn6 htk hw hw' hlast hjj h0) ?_
    intros
    repeat apply za
    refine zj (by simp) ?_
    have := stop (ZhQ (.inr ⟨l.take j, d, a3, h0⟩))
    refine zm (zu () [] trivial (by simp) rfl (by rw [this]; rfl))
 ·intro _ _
  have hdl := vt (zI l).toNat
  generalize zR (zI l).toNat = m at hdl ⊢
  cases m with
  | nil =>
   (repeat apply za); refine pwn ?_; intros
   repeat apply za
   refine zh (by simp) ?_
   (repeat apply za); refine pwn ?_; intros
   (repeat apply za); refine pwn ?_; intros
   repeat apply za
   exact zb (zg hd (by simp; rfl) rfl)
  | cons a m =>
   have h1 : ¬ ((m.length : Int) + 1 = 0) := by omega
   repeat apply za
   refine pwN [] h1 ?_
   intros
   repeat apply za
   refine zj (by simp) ?_
   refine zd ?_
   (repeat apply za); refine pwn ?_; intros
   repeat apply za
   exact zb (zg hd (by simp; rfl) rfl)
def wd : List Int → List Int → Int
 | x :: a, y :: b => if x < y then -1 else if y < x then 1 else wd a b
 | _, _ => 0
def vu (a b : List Int) : Int := if a.length < b.length then -1 else if b.length < a.length then 1 else wd a.reverse b.reverse
set_option maxRecDepth 20000 in
theorem ZhT (a b : List Int) (ha : a.length ≤ 1000) (hb : b.length ≤ 1000) : Pure Tryz.prog 181 [L a, L b] (I (vu a b)) := by
 refine pwe Tryz.func181 Tryz.ntmps181 Tryz.results181 fun S nx hd => ?_
 (repeat apply za); refine pwn ?_; intros
 by_cases h1 : a.length = b.length
 case neg =>
  have h1' : ¬ ((a.length : Int) = b.length) := by omega
  repeat apply za
  refine pwN [] h1' ?_
  intros
  repeat apply za
  refine zh (by simp [h1']) ?_
  by_cases h2 : a.length < b.length
  ·(repeat apply za); refine pwn ?_; intros
   repeat apply za
   refine zh (by simp [h2]) ?_
   (repeat apply za); refine pwn ?_; intros
   repeat apply za
   exact zb (zg hd (by simp; rfl) (by simp [vu, h2, zi]))
  ·(repeat apply za); refine pwn ?_; intros
   repeat apply za
   refine zj (by simp; omega) ?_
   refine zd ?_
   (repeat apply za); refine pwn ?_; intros
   repeat apply za
   exact zb (zg hd (by simp; rfl) (by simp [vu, h2, show b.length < a.length by omega, zi]))
 have hres : vu a b = wd a.reverse b.reverse := by simp [vu, h1]
 rw [hres]
 have h1' : ((a.length : Int) = b.length) := by omega
 repeat apply za
 refine pwN [] h1' ?_
 intros
 repeat apply za
 refine zj (by simp [h1']) ?_
 refine zd ?_
 (repeat apply za); refine pwn ?_; intros
 repeat apply za
 have w0 : IntKind.i64.wrap ((a.length : Int) - 1) = (a.length : Int) - 1 := wr _ (by omega) (by omega)
 refine ze (zq (fun m : Nat => m ≤ a.length ∧ wd a.reverse b.reverse = wd (a.take m).reverse (b.take m).reverse) (fun m => [(0, L a), (1, L b), (5, I ((m : Int) - 1))]) (fun _ => []) (fun m => m) a.length [] ⟨Nat.le_refl _, by rw [List.take_length, List.take_of_length_le (by omega)]⟩ (by simp [w0]) (by simp) ?_)
 rintro m ⟨hm, ho⟩
 match m, hm with
 | 0, _ =>
  (repeat apply za); refine pwn ?_; intros
  repeat apply za
  refine zj (by simp) ?_
  refine zm ?_
  (repeat apply za); refine pwn ?_; intros
  repeat apply za
  exact zb (zg hd (by simp; rfl) (by rw [ho]; simp [wd, zi]))
 | j + 1, hm =>
  have s1 : ((j + 1 : Nat) : Int) - 1 = (j : Int) := by omega
  obtain ⟨x, tl, a1, a2, a3, e0⟩ := el1 rfl a j (by omega)
  obtain ⟨y, tl2, b1, b2, b3, e2⟩ := el1 rfl b j (by omega)
  rw [a3, b3] at ho
  simp only [List.reverse_append, List.reverse_cons, List.reverse_nil, List.nil_append, List.cons_append, wd] at ho
  have g1 : j < a.length := by omega
  have g2 : j < b.length := by omega
  have s2 : (j : Int) + 1 - 1 = (j : Int) := by omega
  repeat apply za
  refine pwN [] (jn2 s1 s2) ?_
  intros
  repeat apply za
  refine zh (by simp) ?_
  refine zd (za (ze ?_))
  repeat apply za
  refine pwY none (Row.pures [0, 1, 2, 3, 4, 5, 6, 7, 8] .done) mixed (jn6 s1 s2 g1 g2 e0 e2) ?_
  intros
  by_cases h3 : x < y
  ·repeat apply za
   refine zh (by simp [h3]) ?_
   (repeat apply za); refine pwn ?_; intros
   repeat apply za
   exact zb (zg hd (by simp; rfl) (by rw [ho, if_pos h3]; rfl))
  ·repeat apply za
   refine zj (by simp; omega) ?_
   refine zd ?_
   repeat apply za
   refine pwY none (Row.pures [0, 1, 2, 3, 4, 5, 6, 7, 8] .done) mixed (jn6 s1 s2 g1 g2 e0 e2) ?_
   intros
   by_cases h4 : y < x
   ·repeat apply za
    refine zh (by simp [h4]) ?_
    (repeat apply za); refine pwn ?_; intros
    repeat apply za
    exact zb (zg hd (by simp; rfl) (by rw [ho, if_neg h3, if_pos h4]; rfl))
   ·repeat apply za
    refine zj (by simp; omega) ?_
    refine zd ?_
    have w1 : IntKind.i64.wrap ((j : Int) - 1) = (j : Int) - 1 := wr _ (by omega) (by omega)
    repeat apply za
    refine pwN [] (jn3 s1 s2 w1) ?_
    intros
    exact zk j [] ⟨by omega, by rw [ho, if_neg h3, if_neg h4]⟩ (by omega) (by simp) rfl (by simp)
theorem Xc (l : List Int) (h : q8 l) (k : Nat) : 0 ≤ zI (l.take k) ∧ zI (l.take k) < 65536 ^ k := by
 have hd : q8 (l.take k) := fun d hd => h d (List.mem_of_mem_take hd)
 refine ⟨Xb hd, ?_⟩
 have main : ∀ (k : Nat) (m : List Int), q8 m → m.length ≤ k → zI m < 65536 ^ k := by
  intro k
  induction k with
  | zero => intro m _ hm; simp at hm; subst hm; simp [zI]
  | succ k ih =>
   intro m hm hl
   cases m with
   | nil => simp only [zI]; exact Int.pow_pos (by decide)
   | cons d m =>
    have h1 := hm d (by simp)
    have h2 := ih m (fun x hx => hm x (by simp [hx])) (by simpa using hl)
    simp only [zI, Int.pow_succ]; omega
 exact main k _ hd (by simp; omega)
theorem ZhU : ∀ (m : Nat) (a b : List Int), q8 a → q8 b → a.length = m → b.length = m → zI a ≤ zI b → wd a.reverse b.reverse ≤ 0 := by
 intro m
 induction m with
 | zero => intro a b _ _ ha hb _; rw [List.eq_nil_of_length_eq_zero ha]; simp [wd]
 | succ m ih =>
  intro a b ha hb hal hbl hv
  have hane : a ≠ [] := by intro e; subst e; cases hal
  have hbne : b ≠ [] := by intro e; subst e; cases hbl
  obtain ⟨a', x, rfl⟩ : ∃ a' x, a = a' ++ [x] := ⟨a.dropLast, a.getLast hane, (List.dropLast_concat_getLast hane).symm⟩
  obtain ⟨b', y, rfl⟩ : ∃ b' y, b = b' ++ [y] := ⟨b.dropLast, b.getLast hbne, (List.dropLast_concat_getLast hbne).symm⟩
  have hal' : a'.length = m := by simpa using hal
  have hbl' : b'.length = m := by simpa using hbl
  have ha' : q8 a' := fun d hd => ha d (by simp [hd])
  have hb' : q8 b' := fun d hd => hb d (by simp [hd])
  have p1 := Xc (b' ++ [y]) hb m
  have p2 := Xc (a' ++ [x]) ha m
  rw [List.take_append_of_le_length (by omega), List.take_of_length_le (by omega)] at p1 p2
  rw [Qg, Qg, hal', hbl'] at hv
  simp only [zI, Int.mul_zero, Int.add_zero] at hv
  simp only [List.reverse_append, List.reverse_cons, List.reverse_nil, List.nil_append, List.cons_append, wd]
  by_cases h1 : x < y
  ·rw [if_pos h1]; omega
  ·rw [if_neg h1]
   by_cases h2 : y < x
   ·exfalso
    have : (65536 : Int) ^ m * x ≥ 65536 ^ m * (y + 1) := Int.mul_le_mul_of_nonneg_left (by omega) (by omega)
    rw [Int.mul_add] at this
    omega
   ·rw [if_neg h2]
    have hxy : x = y := by omega
    subst hxy
    exact ih a' b' ha' hb' hal' hbl' (by omega)
theorem ZhV {a b : Nat} (h : a ≤ b) : (zR a).length ≤ (zR b).length := by
 induction b using Nat.strongRecOn generalizing a with
 | _ b ih =>
  by_cases h0 : a = 0
  ·subst h0; rw [vq]; simp
  ·rw [vr h0, vr (show b ≠ 0 by omega)]
   have := ih (b / 65536) (by omega) (a := a / 65536) (Nat.div_le_div_right h)
   simpa using this
theorem ZhW {a b : Nat} (h : a ≤ b) : vu (zR a) (zR b) ≤ 0 := by
 have hl := ZhV h
 unfold vu
 split
 ·omega
 ·rw [if_neg (by omega)]
  have h1 := vt a
  have h2 := vt b
  exact ZhU _ _ _ h1.1 h2.1 rfl (by omega) (by rw [h1.2.1, h2.2.1]; omega)
theorem Qj {n : Nat} (h : n ≤ 18446744073709551615) : (zR n).length ≤ 4 := (vt n).2.2.2 (by rw [show (65536 : Nat) ^ 4 = 18446744073709551616 from by decide]; omega)
set_option maxRecDepth 20000 in
theorem ZhX (a b : Nat) (ha : a ≤ 9223372036854775807) (hb : b ≤ 9223372036854775807) : Pure Tryz.prog 136 [.agg [L (zR a), B false], .agg [L (zR b), B false]] (.agg [L (zR (a + b)), B false]) := by
 have h1 := vt a
 have h2 := vt b
 have l1 := Qj (n := a) (by omega)
 have l2 := Qj (n := b) (by omega)
 obtain ⟨p1, p2, p3⟩ := ZhN (zR a) (zR b) 0 h1.1 h2.1 (by omega) (by omega)
 have hv : (zI (yC (zR a) (zR b) 0)).toNat = a + b := by rw [p2, h1.2.1, h2.2.1]; omega
 have hpl := ZhP (zR a) (zR b) h1.1 h2.1 (by omega) (by omega)
 have htr := ZhS (yC (zR a) (zR b) 0) false p1 (by omega)
 rw [hv, ite_self] at htr
 generalize zR a = x at *
 generalize zR b = y at *
 generalize yC x y 0 = z at *
 refine pwe Tryz.func136 Tryz.ntmps136 Tryz.results136 fun S nx hd => ?_
 repeat apply za
 refine pwn ?_
 intro v0 v1 v2
 (repeat apply za); refine pwn ?_; intros
 repeat apply za
 refine zh (by simp) ?_
 repeat apply za
 refine pwY (some [nx, nx + 1]) (Row.pures [0, 1, 2, 3, 4, 5, 6, 7, 8] (.alt 9 (.done) .stop)) mixed trivial ?_
 refine pwP (hpl) trivial ?_
 refine pwP (htr) trivial ?_
 intros
 repeat apply za
 exact zb (zg hd (by simp; rfl) rfl)
set_option maxRecDepth 20000 in
theorem ZhY (n : Nat) (hn : n ≤ 9223372036854775807) : Pure Tryz.prog 135 [.agg [L (zR n), B false]] (.tup [I n, B true]) := by
 have h1 := vt n
 have l1 := Qj (n := n) (by omega)
 have hsz := ZhW (a := n) (b := 9223372036854775807) hn
 have hs := ZhT (zR n) (zR 9223372036854775807) (by omega) (by have := Qj (n := 9223372036854775807) (by omega); omega)
 have o1 := Qh 9223372036854775807 (by unfold I64; omega)
 have o2 := Qh (-9223372036854775808) (by unfold I64; omega)
 rw [show ((9223372036854775807 : Int)).natAbs = 9223372036854775807 from rfl, show decide ((9223372036854775807 : Int) < 0) = false from rfl] at o1
 rw [show decide ((-9223372036854775808 : Int) < 0) = true from rfl] at o2
 generalize zR (-9223372036854775808 : Int).natAbs = lo at *
 generalize zR 9223372036854775807 = hi at *
 generalize hdn : zR n = l at *
 have hg : ¬ 0 < vu l hi := by omega
 refine pwe Tryz.func135 Tryz.ntmps135 Tryz.results135 fun S nx hd => ?_
 repeat apply za
 refine pwn ?_
 intro v0
 repeat apply za
 refine pwn ?_
 refine pwc o1 ?_
 intro v1
 intros
 repeat apply za
 refine pwn ?_
 refine pwc o2 ?_
 intro v2
 intros
 repeat apply za
 refine pwN [(3, 13)] trivial ?_
 refine pwC [(3, 13)] hs hg ?_
 intros
 repeat apply za
 refine zj (by simp) ?_
 refine zd ?_
 repeat apply za
 refine pwN [(2, 23)] zn ?_
 intros
 repeat apply za
 refine zj (by simp) ?_
 refine zd ?_
 (repeat apply za); refine pwn ?_; intros
 have w0 : IntKind.i64.wrap ((l.length : Int) - 1) = (l.length : Int) - 1 := wr _ (by omega) (by omega)
 repeat apply za
 refine pwN [] w0 ?_
 intros
 repeat apply za
 refine ze (zq (fun m : Nat => m ≤ l.length) (fun m => [(1, .ptr nx v0 0), (6, I (zI (l.drop m))), (7, I ((m : Int) - 1))]) (fun _ => [.cells v0 178 [L l, B false]]) (fun m => m) l.length [_, _] (Nat.le_refl _) (by simp [zI]) rfl ?_)
 rintro m hm
 match m, hm with
 | 0, _ =>
  (repeat apply za); refine pwn ?_; intros
  repeat apply za
  refine zj (by simp) ?_
  refine zm ?_
  (repeat apply za); refine pwn ?_; intros
  repeat apply za
  exact zb (zg hd (by simp; rfl) (by simp [h1.2.1, zi]))
 | j + 1, hm =>
  have s1 : ((j + 1 : Nat) : Int) - 1 = (j : Int) := by omega
  have s2 : (j : Int) + 1 - 1 = (j : Int) := by omega
  obtain ⟨x, tl, a1, a2, a3, e0⟩ := el1 rfl l j (by omega)
  have g1 : j < l.length := by omega
  have hx := h1.1 x (List.mem_of_getElem? a1)
  have hv0 : 0 ≤ zI (l.drop (j + 1)) := Xb fun d hd => h1.1 d (List.mem_of_mem_drop hd)
  have hvj : zI (l.drop j) = x + 65536 * zI (l.drop (j + 1)) := by rw [a2]; rfl
  have hvle : zI (l.drop j) ≤ n := by
   have e := Qg (l.take j) (l.drop j)
   rw [List.take_append_drop, h1.2.1] at e
   have t0 := (Xc l h1.1 j).1
   have hp : (1 : Int) ≤ 65536 ^ (l.take j).length := by have := Int.pow_pos (n := 65536) (m := (l.take j).length) (by decide); omega
   have hd0 : 0 ≤ zI (l.drop j) := by omega
   have := Int.mul_le_mul_of_nonneg_right hp hd0
   rw [Int.one_mul] at this
   omega
  have w1 : IntKind.i64.wrap (zI (l.drop (j + 1)) * 65536) = zI (l.drop (j + 1)) * 65536 := wr _ (by omega) (by omega)
  have w2 : IntKind.i64.wrap (zI (l.drop (j + 1)) * 65536 + x) = zI (l.drop j) := by rw [wr _ (by omega) (by omega)]; omega
  have w3 : IntKind.i64.wrap ((j : Int) - 1) = (j : Int) - 1 := wr _ (by omega) (by omega)
  repeat apply za
  refine pwN [] (jn2 s1 s2) ?_
  intros
  repeat apply za
  refine zh (by simp) ?_
  refine zd (za (ze ?_))
  repeat apply za
  refine pwN [] w1 ?_
  intros
  (repeat apply za); refine pwn ?_; intros
  repeat apply za
  refine zj (by simp) ?_
  repeat apply za
  refine pwN [] (jn5 s1 s2 g1 e0 w2) ?_
  intros
  repeat apply za
  refine pwN [] (jn3 s1 s2 w3) ?_
  intros
  exact zk j [] (by omega) (by omega) (by simp) rfl (by simp)
set_option maxRecDepth 20000 in
theorem ZhZ (a b : Int) (ha : 0 ≤ a) (hb : 0 ≤ b) (hab : a + b ≤ 9223372036854775807) : Pure Tryz.prog 100 [I a, I b] (I (a + b)) := by
 obtain ⟨x, rfl⟩ := Int.eq_ofNat_of_zero_le ha
 obtain ⟨y, rfl⟩ := Int.eq_ofNat_of_zero_le hb
 have o1 := Qh (x : Int) (by unfold I64; omega)
 have o2 := Qh (y : Int) (by unfold I64; omega)
 rw [Int.natAbs_natCast, decide_eq_false (by omega)] at o1 o2
 have h3 := ZhX x y (by omega) (by omega)
 have h4 := ZhY (x + y) (by omega)
 rw [show ((x + y : Nat) : Int) = (x : Int) + (y : Int) by omega] at h4
 refine pwe Tryz.func100 Tryz.ntmps100 Tryz.results100 fun S nx hd => ?_
 (repeat apply za); refine pwn ?_; intros
 repeat apply za
 refine pwn ?_
 refine pwc o1 ?_
 refine pwc o2 ?_
 refine pwc h3 ?_
 refine pwc h4 ?_
 intros
 (repeat apply za); refine pwn ?_; intros
 repeat apply za
 refine zh (by simp) ?_
 (repeat apply za); refine pwn ?_; intros
 repeat apply za
 exact zb (zg hd (by simp; rfl) rfl)
open Go
set_option maxRecDepth 20000 in
theorem ZaT (c : Cust) (ns : List Int) (hn : ns.length ≤ 1048576) : Pure Tryz.prog 117 [.agg (zN c), L ns] (I (x9 c ns)) := by
 refine pwe Tryz.func117 Tryz.ntmps117 Tryz.results117 fun S nx hd => ?_
 repeat apply za
 refine pwn ?_
 intro v0
 (repeat apply za); refine pwn ?_; intros
 (repeat apply za); refine pwn ?_; intros
 repeat apply za
 refine ze (zq (fun s : Nat => s ≤ ns.length) (fun k => [(1, L ns), (2, .ptr nx v0 0), (5, I (W (ns.take k).sum)), (6, I k)]) (fun _ => [.cells v0 41 (zN c)]) (fun s => ns.length - s) 0 [] (by simp) (by simp) (by simp) ?_)
 rintro k hk
 (repeat apply za); refine pwn ?_; intros
 repeat apply za
 refine zl rfl (fun hc => ?_) (fun hc => ?_)
 ·simp at hc
  obtain ⟨z, tl, a1, a2, a3, e0⟩ := el1 rfl ns k hc
  refine zd (za (ze ?_))
  have hw : W (W (ns.take k).sum + z) = W (ns.take (k + 1)).sum := by rw [a3, Qe, jT]
  repeat apply za
  refine pwN [] (jn2 e0 hc) ?_
  intros
  (repeat apply za); refine pwn ?_; intros
  exact zk (k + 1) [] hc (by omega) (by simp [wrN k (by omega)]; exact hw) rfl (by simp)
 ·simp at hc
  obtain rfl : k = ns.length := by omega
  rw [List.take_length]
  refine zm ?_
  (repeat apply za); refine pwn ?_; intros
  repeat apply za
  exact zb (zg hd (by simp; rfl) rfl)
theorem Xd {q : List Int} (h : ∀ z ∈ q, 0 ≤ z ∧ z ≤ 2147483648) : ∀ k : Nat, k ≤ q.length → 0 ≤ (q.take k).sum ∧ (q.take k).sum ≤ 2147483648 * k := by
 intro k
 induction k with
 | zero => intro _; simp
 | succ k ih =>
  intro hk
  have := ih (by omega)
  have hz := h q[k] (List.getElem_mem (by omega))
  rw [List.take_succ_eq_append_getElem (by omega), Qe]
  omega
set_option maxRecDepth 20000 in
theorem Xe (c : Cust) (q : List Int) (hc : CustFits c) (hq : q.length ≤ 1048576) : Pure Tryz.prog 101 [.agg (zN c), L q] (.tup [L (yr c q).1, I (yr c q).2]) := by
 obtain ⟨hr, hsz, hst⟩ := hc
 refine pwe Tryz.func101 Tryz.ntmps101 Tryz.results101 fun S nx hd => ?_
 repeat apply za
 refine pwn ?_
 intro v0
 (repeat apply za); refine pwn ?_; intros
 repeat apply za
 refine zW (nx := nx) (σ := Nat) (fun v0 => q.any wM = false) (fun v0 => [(1, L q), (2, .ptr nx v0 0)]) (fun _ => S) (fun v0 => [.cells v0 41 (zN c)]) ?_ ?_
 ·refine ze (zq (fun s : Nat => s ≤ q.length ∧ (q.take s).any wM = false) (fun k => [(1, L q), (2, .ptr nx v0 0), (6, I k)]) (fun _ => [.cells v0 41 (zN c)]) (fun s => q.length - s) 0 [] (by simp) (by simp) (by simp) ?_)
  rintro k ⟨hk, ho⟩
  (repeat apply za); refine pwn ?_; intros
  repeat apply za
  refine zl rfl (fun hc => ?_) (fun hc => ?_)
  ·simp at hc
   obtain ⟨z, tl, a1, a2, a3, e0⟩ := el1 rfl q k hc
   have bad : wM z = true → yr c q = ([], 1) := fun h => by
    have : q.any wM = true := by rw [List.any_eq_true]; exact ⟨z, List.mem_of_getElem? a1, h⟩
    simp [yr, this]
   refine zd (za (ze ?_))
   by_cases h1 : z < 0
   ·repeat apply za
    refine pwN [(5, 23)] (jn4 e0 hc h1 zn) ?_
    intros
    repeat apply za
    refine zh rfl ?_
    (repeat apply za); refine pwn ?_; intros
    refine xR 4 rfl ?_
    repeat apply za
    exact zb (zg hd (by simp; rfl) (by rw [bad (by simp [wM, h1])]; rfl))
   by_cases h2 : (2147483648 : Int) < z
   ·repeat apply za
    refine pwN [(5, 23)] (jn4 e0 hc h1 h2) ?_
    intros
    repeat apply za
    refine zh rfl ?_
    (repeat apply za); refine pwn ?_; intros
    refine xR 4 rfl ?_
    repeat apply za
    exact zb (zg hd (by simp; rfl) (by rw [bad (by simp [wM, h2])]; rfl))
   repeat apply za
   refine pwN [(5, 23)] (jn4 e0 hc h1 h2) ?_
   intros
   repeat apply za
   refine zj rfl ?_
   refine zd ?_
   (repeat apply za); refine pwn ?_; intros
   exact zk (k + 1) [] ⟨hc, by rw [a3, List.any_append, ho]; simp [wM]; omega⟩ (by omega) (by simp [wrN k (by omega)]) rfl (by simp)
  ·simp at hc
   obtain rfl : k = q.length := by omega
   rw [List.take_length] at ho
   exact zm (zu v0 [] ho (by simp) rfl (by simp))
 ·intro v0 hb
  have hq0 : ∀ z ∈ q, 0 ≤ z ∧ z ≤ 2147483648 := by
   intro z hz
   rw [List.any_eq_false] at hb
   have := hb z hz
   simp [wM] at this
   omega
  have hres : yr c q = match yR c.size c.rate c.start q with | none => ([], 8) | some l => (l, 0) := by unfold yr; rw [hb]; rfl
  (repeat apply za); refine pwn ?_; intros
  refine yQ 7 3 1 rfl fun v1 => ?_
  (repeat apply za); refine pwn ?_; intros
  repeat apply za
  refine ze (zq (fun s : Nat × List Int × Nat => s.1 ≤ q.length ∧ s.2.1.length = s.1 ∧ (0 ≤ c.start + (q.take s.1).sum - c.rate * s.1 ∧ c.start + (q.take s.1).sum - c.rate * s.1 ≤ 2147483648) ∧ yR c.size c.rate c.start q = (yR c.size c.rate (c.start + (q.take s.1).sum - c.rate * s.1) (q.drop s.1)).map (s.2.1 ++ ·))
   (fun (k, out, v1) => [(1, L q), (2, .ptr nx v0 0), (7, .sl (nx + 1) v1 1 0 out.length), (8, I k)])
   (fun (k, out, v1) => [.cells v0 41 (zN c), .cells v1 3 (out.flatMap Enc.enc)]) (fun s => q.length - s.1) (0, [], v1) [] ?_ (by simp) (by simp) ?_)
  ·refine ⟨by simp, by simp, by simpa using hst, ?_⟩
   simp
  rintro ⟨k, out, v1⟩ ⟨hk, hol, hth, ho⟩
  simp only at hk hol hth ho ⊢
  (repeat apply za); refine pwn ?_; intros
  repeat apply za
  refine zl rfl (fun hc => ?_) (fun hc => ?_)
  ·simp at hc
   obtain ⟨z, tl, a1, a2, a3, e0⟩ := el1 rfl q k hc
   have hz := hq0 z (List.mem_of_getElem? a1)
   have hst1 := Xd hq0 k hk
   have hst2 := Xd hq0 (k + 1) hc
   have hsum : (q.take (k + 1)).sum = (q.take k).sum + z := by rw [a3, Qe]
   have hrk : 0 ≤ c.rate * k ∧ c.rate * k ≤ 2147483648 * 1048576 := ⟨Int.mul_nonneg hr.1 (by omega), Int.mul_le_mul hr.2 (by omega) (by omega) (by omega)⟩
   rw [a2] at ho
   refine zd (za (ze ?_))
   (repeat apply za); refine pwn ?_; intros
   (repeat apply za); refine pwn ?_; intros
   repeat apply za
   refine zW (nx := nx) (σ := Nat) (fun _ => True) (fun v1 => [(1, L q), (2, .ptr nx v0 0), (7, .sl (nx + 1) v1 1 0 out.length), (8, I k), (9, I (c.start + (q.take (k + 1)).sum))]) (fun _ => S) (fun v1 => [.cells v0 41 (zN c), .cells v1 3 (out.flatMap Enc.enc)]) ?_ ?_
   ·refine ze (zq (fun s : Nat => s ≤ k + 1) (fun j => [(1, L q), (2, .ptr nx v0 0), (7, .sl (nx + 1) v1 1 0 out.length), (8, I k), (9, I (c.start + (q.take j).sum)), (10, I j)]) (fun _ => [.cells v0 41 (zN c), .cells v1 3 (out.flatMap Enc.enc)]) (fun s => k + 1 - s) 0 [] (by simp) (by simp) (by simp) ?_)
    rintro j hj
    (repeat apply za); refine pwn ?_; intros
    repeat apply za
    refine zl rfl (fun hc2 => ?_) (fun hc2 => ?_)
    ·simp at hc2
     obtain ⟨y, tl2, b1, b2, b3, e2⟩ := el1 rfl q j (by omega)
     have hsj := Xd hq0 (j + 1) (by omega)
     have hjq : j < q.length := by omega
     have hsum2 : c.start + (q.take j).sum + y = c.start + (q.take (j + 1)).sum := by rw [b3, Qe]; omega
     have w1 : IntKind.i64.wrap (c.start + (q.take (j + 1)).sum) = c.start + (q.take (j + 1)).sum := wr _ (by omega) (by omega)
     refine zd (za (ze ?_))
     repeat apply za
     refine pwN [] (jn4 e2 hjq hsum2 w1) ?_
     intros
     (repeat apply za); refine pwn ?_; intros
     exact zk (j + 1) [] (by omega) (by omega) (by simp [wrN j (by omega)]) rfl (by simp)
    ·simp at hc2
     obtain rfl : j = k + 1 := by omega
     exact zm (zu v1 [] trivial (by simp) rfl (by simp))
   ·intro v1 _
    have w1 : IntKind.i64.wrap (c.rate * (k : Int)) = c.rate * (k : Int) := wr _ (by omega) (by omega)
    have hbe : c.start + (q.take (k + 1)).sum - c.rate * (k : Int) = (c.start + (q.take k).sum - c.rate * (k : Int)) + z := by omega
    generalize hth' : c.start + (q.take k).sum - c.rate * (k : Int) = there at hth ho hbe
    have w2 : IntKind.i64.wrap (there + z) = there + z := wr _ (by omega) (by omega)
    have w3 : IntKind.i64.wrap (there + z - c.rate) = there + z - c.rate := wr _ (by omega) (by omega)
    have bad : (c.size < there + z ∨ there + z < c.rate) → yr c q = ([], 8) := fun h => by
     rw [hres, ho]; simp only [yR, if_pos h, Option.map_none]
    repeat apply za
    refine pwN [] (jn3 w1 hbe w2) ?_
    intros
    by_cases h1 : c.size < there + z
    ·repeat apply za
     refine pwN [(4, 59)] (jn2 h1 zn) ?_
     intros
     repeat apply za
     refine zh rfl ?_
     (repeat apply za); refine pwn ?_; intros
     refine xR 4 rfl ?_
     repeat apply za
     exact zb (zg hd (by simp; rfl) (by rw [bad (.inl h1)]; rfl))
    by_cases h2 : there + z - c.rate < 0
    ·repeat apply za
     refine pwN [(4, 59)] (jn3 h1 h2 w3) ?_
     intros
     repeat apply za
     refine zh rfl ?_
     (repeat apply za); refine pwn ?_; intros
     refine xR 4 rfl ?_
     repeat apply za
     exact zb (zg hd (by simp; rfl) (by rw [bad (.inr (by omega))]; rfl))
    repeat apply za
    refine pwN [(4, 59)] (jn3 h1 h2 w3) ?_
    intros
    repeat apply za
    refine zj rfl ?_
    refine zd ?_
    repeat apply za
    refine pwN [] w3 ?_
    refine ⟨by omega, ?_⟩
    intros
    (repeat apply za); refine pwn ?_; intros
    have hnext : c.start + (q.take (k + 1)).sum - c.rate * ((k + 1 : Nat) : Int) = there + z - c.rate := by
     have : c.rate * ((k + 1 : Nat) : Int) = c.rate * (k : Int) + c.rate := by rw [show ((k + 1 : Nat) : Int) = (k : Int) + 1 by omega, Int.mul_add, Int.mul_one]
     omega
    exact zk (k + 1, out ++ [there + z - c.rate], v1 + 1) [] ⟨hc, by simp [hol], by dsimp only; rw [hnext]; omega, by dsimp only; rw [hnext]; exact ZhI ho h1 (by omega)⟩ (by simp; omega) (by simp [wrN k (by omega)]) rfl (by simp)
  ·simp at hc
   obtain rfl : k = q.length := by omega
   rw [List.drop_length] at ho
   simp only [yR, Option.map_some, List.append_nil] at ho
   refine zm ?_
   (repeat apply za); refine pwn ?_; intros
   refine zB 1 rfl ?_
   repeat apply za
   exact zb (zg hd (by simp; rfl) (by rw [hres, ho]; simp [zi]))
theorem Xf {size rate : Int} : ∀ {q : List Int} {there : Int} {l : List Int}, yR size rate there q = some l → l.length = q.length := by
 intro q
 induction q with
 | nil => intro there l h; simp only [yR, Option.some.injEq] at h; subst h; rfl
 | cons z q ih =>
  intro there l h
  simp only [yR] at h
  split at h
  ·cases h
  ·obtain ⟨l2, h2, rfl⟩ := Option.map_eq_some_iff.1 h
   simp [ih h2]
theorem Zh0 {size rate : Int} : ∀ {q : List Int} {there : Int} {l : List Int}, yR size rate there q = some l → ∀ n ∈ l, n + rate ≤ size ∧ 0 ≤ n := by
 intro q
 induction q with
 | nil => intro there l h; simp only [yR, Option.some.injEq] at h; subst h; intro n hn; cases hn
 | cons z q ih =>
  intro there l h
  simp only [yR] at h
  split at h
  ·cases h
  ·obtain ⟨l2, h2, rfl⟩ := Option.map_eq_some_iff.1 h
   intro n hn
   rcases List.mem_cons.1 hn with rfl | hn
   ·omega
   ·exact ih h2 n hn
set_option maxRecDepth 20000 in
theorem Xg (c : Cust) (q : List Int) (hc : CustFits c) (hq : q.length ≤ 1048576) : Pure Tryz.prog 64 [.agg (zN c), L q] (I (u5 c q)) := by
 have hni := Xe c q hc hq
 obtain ⟨hr, hsz, hst⟩ := hc
 refine pwe Tryz.func64 Tryz.ntmps64 Tryz.results64 fun S nx hd => ?_
 repeat apply za
 refine pwn ?_
 intro v0
 repeat apply za
 refine pwn ?_
 refine pwc hni ?_
 intros
 by_cases he : (yr c q).2 = 0
 case neg =>
  repeat apply za
  refine pwN [] he ?_
  intros
  repeat apply za
  refine zh (by simp [he]) ?_
  (repeat apply za); refine pwn ?_; intros
  repeat apply za
  exact zb (zg hd (by simp; rfl) (by simp [u5, he, zi]))
 repeat apply za
 refine pwN [] he ?_
 intros
 repeat apply za
 refine zj (by simp [he]) ?_
 refine zd ?_
 have hres : u5 c q = if c.rule ≠ 1 then 0 else if ui c.rate c.size q (yr c q).1 then 9 else 0 := by simp [u5, he]
 obtain ⟨l, hl, hl1⟩ : ∃ l, yR c.size c.rate c.start q = some l ∧ (yr c q).1 = l := by
  unfold yr at he ⊢
  split at he
  ·simp at he
  ·rename_i hb
   cases hrn : yR c.size c.rate c.start q with
   | none => simp [hrn] at he
   | some l => exact ⟨l, rfl, by simp [hb]⟩
 rw [hl1] at hres ⊢
 have hll := Xf hl
 (repeat apply za); refine pwn ?_; intros
 repeat apply za
 refine ze (zq (fun s : Nat => s ≤ q.length ∧ (c.rule = 1 → ui c.rate c.size q l = ui c.rate c.size (q.drop s) (l.drop s)))
  (fun k => [(1, L q), (2, .ptr nx v0 0), (5, L l), (7, I k)]) (fun k => [.cells v0 41 (zN c)]) (fun s => q.length - s) 0 [] ⟨by simp, by simp⟩ (by simp) (by simp) ?_)
 rintro k ⟨hk, ho⟩
 (repeat apply za); refine pwn ?_; intros
 repeat apply za
 refine zl rfl (fun hc => ?_) (fun hc => ?_)
 ·simp at hc
  obtain ⟨z, tl, a1, a2, a3, e0⟩ := el1 rfl q k hc
  obtain ⟨n, tl2, b1, b2, b3, e2⟩ := el1 rfl l k (by omega)
  have hkl : k < l.length := by omega
  have hnl := Zh0 hl n (List.mem_of_getElem? b1)
  rw [a2, b2] at ho
  simp only [ui] at ho
  have w1 : IntKind.i64.wrap (n + c.rate) = n + c.rate := wr _ (by omega) (by omega)
  refine zd (za (ze ?_))
  by_cases h0 : c.rule = 1
  ·have ho := ho h0
   by_cases h1 : 0 < z
   ·by_cases h2 : n + c.rate = c.size
    ·have w4 : IntKind.i64.wrap c.size = c.size := wr _ (by omega) (by omega)
     repeat apply za
     refine pwY (some [nx]) (Row.pures [0, 1, 2, 3, 4, 5, 6, 7, 8, 9, 10, 11, 12, 13, 14, 15, 16, 17, 18, 19, 20, 21] .done) mixed (jn6 e0 e2 hc hkl h0 (jn3 h1 h2 w4)) ?_
     intros
     repeat apply za
     refine zj (by simp) ?_
     refine zd ?_
     (repeat apply za); refine pwn ?_; intros
     exact zk (k + 1) [] ⟨hc, fun _ => by rw [ho, decide_eq_false (by omega), Bool.false_or]⟩ (by omega) (by simp [wrN k (by omega)]) rfl (by simp)
    ·repeat apply za
     refine pwY (some [nx]) (Row.pures [0, 1, 2, 3, 4, 5, 6, 7, 8, 9, 10, 11, 12, 13, 14, 15, 16, 17, 18, 19, 20, 21] .done) mixed (jn6 e0 e2 hc hkl h0 (jn3 h1 w1 h2)) ?_
     intros
     repeat apply za
     refine zh (by simp [h2]) ?_
     (repeat apply za); refine pwn ?_; intros
     repeat apply za
     exact zb (zg hd (by simp; rfl) (by rw [hres, ho]; simp [h0, h1, h2, zi]))
   ·repeat apply za
    refine pwY (some [nx]) (Row.pures [0, 1, 2, 3, 4, 5, 6, 7, 8, 9, 10, 11, 12, 13, 14, 15, 16, 17, 18, 19, 20, 21] .done) mixed (jn6 e0 e2 hc hkl h0 (jn2 h1 zn)) ?_
    intros
    repeat apply za
    refine zj (by simp) ?_
    refine zd ?_
    (repeat apply za); refine pwn ?_; intros
    exact zk (k + 1) [] ⟨hc, fun _ => by rw [ho, decide_eq_false (by omega), Bool.false_or]⟩ (by omega) (by simp [wrN k (by omega)]) rfl (by simp)
  ·repeat apply za
   refine pwY (some [nx]) (Row.pures [0, 1, 2, 3, 4, 5, 6, 7, 8, 9, 10, 11, 12, 13, 14, 15, 16, 17, 18, 19, 20, 21] .done) mixed (jn2 h0 zn) ?_
   intros
   repeat apply za
   refine zj (by simp) ?_
   refine zd ?_
   (repeat apply za); refine pwn ?_; intros
   exact zk (k + 1) [] ⟨hc, fun q => absurd q h0⟩ (by omega) (by simp [wrN k (by omega)]) rfl (by simp)
 ·simp at hc
  obtain rfl : k = q.length := by omega
  rw [List.drop_length] at ho
  simp only [ui] at ho
  refine zm ?_
  (repeat apply za); refine pwn ?_; intros
  repeat apply za
  exact zb (zg hd (by simp; rfl) (by rw [hres]; by_cases h0 : c.rule = 1; simp [h0, ho h0, zi]; simp [h0, zi]))
end Go.Proofs.YtaiplainginmaaaGreat.Pv
