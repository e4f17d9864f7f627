/- Part of a proof, packed. -/
import Derived.Test.YtcnbiofjmioaiaaGreatS4
set_option maxRecDepth 100000
set_option maxHeartbeats 3200000
namespace Go.Proofs.YtcnbiofjmioaiaaGreat.Pv
open Go Go.Proofs Hp
structure SOk (x : Inst) (l : List Stop) : Prop where
 cust : x.cust.length ≤ 1048576
 arc : qH x
 veh : 0 ≤ x.veh
 len : l.length ≤ 1000
 sm : ∀ s ∈ l, small s.c
 nd : (l.map (·.c)).Nodup
def uW (x : Inst) (l : List Stop) : List zi := [xJ x l, qi l] ++ (bif (qI x l).2 then [(qI x l).1] else [])
def vS (x : Inst) (imp : zi → zi) (l : List Stop) : List zi := [qi l, imp (xJ x l), imp (qi l)] ++ (bif (qI x l).2 then [imp (qI x l).1] else [])
theorem Zdb {x : Inst} (hx : x.cust.length ≤ 1048576) : ∀ (n : Nat) (d : zi) (l : List Stop), l.length = n → RgOk x d l → RgOk x (wC x n d l).1 [] ∧ ((wC x n d l).2 = true → (wC x n d l).1.flatten.Perm (d.flatten ++ l))
 | 0, d, l, hl, h => by
  obtain rfl : l = [] := List.eq_nil_of_length_eq_zero hl
  exact ⟨h, fun _ => by simp [wC]⟩
 | n + 1, d, l, hl, h => by
  have hne : l ≠ [] := fun e => by rw [e] at hl; cases hl
  obtain ⟨k, hu, hk⟩ := Zc1 (x := x) (d := d) hne
  have hg : l.getD k default = l[k] := by rw [List.getD_eq_getElem?_getD, List.getElem?_eq_getElem hk]; rfl
  unfold wC
  rw [hu, Int.toNat_natCast, hg]
  cases hi : (yC x d l[k]).2 with
  | false =>
   refine ⟨⟨h.ok, h.may, ?_⟩, fun e => by cases e⟩
   have := h.len
   simp only [cond_false, List.length_nil]; omega
  | true =>
   simp only [cond_true]
   obtain ⟨h1, h2⟩ := Zdb hx n (yC x d l[k]).1 (l.eraseIdx k) (by rw [List.length_eraseIdx_of_lt hk]; omega) (h.step hx hk hi)
   refine ⟨h1, fun e => (h2 e).trans ?_⟩
   have hp := Xk hi
   refine (hp.append_right _).trans ?_
   have he : (l[k] :: l.eraseIdx k).Perm l := by
    rw [List.eraseIdx_eq_take_drop_succ]
    have := List.perm_middle (a := l[k]) (l₁ := l.take k) (l₂ := l.drop (k + 1))
    refine this.symm.trans ?_
    rw [← List.drop_eq_getElem_cons hk, List.take_append_drop]
   rw [List.cons_append]
   refine List.perm_middle.symm.trans ?_
   exact he.append_left _
section
variable {x : Inst} {l : List Stop} (h : SOk x l)
include h
theorem SOk.apart : DayOk (qi l) ∧ (qi l).flatten = l ∧ (qi l).length ≤ 1000 := by
 have hf : (qi l).flatten = l := by
  unfold qi
  clear h
  induction l with
  | nil => rfl
  | cons s l ih => simpa using ih
 refine ⟨⟨?_, fun t ht => ?_, fun t ht a ha => ?_⟩, hf, ?_⟩
 ·rw [Vu]; have := h.len; omega
 ·obtain ⟨s, _, rfl⟩ := List.mem_map.1 ht; simp
 ·obtain ⟨s, hs, rfl⟩ := List.mem_map.1 ht
  simp at ha; subst ha; exact h.sm _ hs
 ·rw [Vu]; exact h.len
theorem SOk.join : DayOk (xJ x l) ∧ (xJ x l).flatten.Perm l ∧ (xJ x l).length ≤ 1000 ∧ ∀ t ∈ xJ x l, t ≠ [] := by
 obtain ⟨g, hg⟩ := JI.begin l [] [] _ JI.nil (by simpa using h.nd)
 have key : ∀ (ps : List Pr) (st : zi × Int), (∃ g, JI l st.1 g) → st.2 = ((st.1.filter ne).length : Int) → (∀ p ∈ ps, p.a ∈ l.map (·.c) ∧ p.b ∈ l.map (·.c)) → ∃ g, JI l (ps.foldl (qw x) st).1 g := by
  intro ps
  induction ps with
  | nil => intro st hg _ _; exact hg
  | cons p ps ih =>
   rintro st ⟨g, hg⟩ hn hp
   obtain ⟨h1, h2⟩ := hp p (by simp)
   obtain ⟨e1, e2, e3⟩ := ZkK (x := x) hg hn h1 h2
   rw [List.foldl_cons]
   exact ih _ e3 e2 fun q hq => hp q (by simp [hq])
 obtain ⟨g', hg'⟩ := key (qA x (l.map (·.c))) (l.map fun s => [s], (l.length : Int)) ⟨g, by simpa using hg⟩ (by rw [ZkL]; simp [qi]) fun p hp => by
  have := QO.1 ((ZS x _).subset hp)
  exact ⟨this.1, this.2.1⟩
 have hjp : xJ x l = ((qA x (l.map (·.c))).foldl (qw x) (l.map fun s => [s], (l.length : Int))).1.filter ne := rfl
 obtain ⟨w1, w2, w3⟩ := ZkM (x := x) hg' h.len
 have hfl : ∀ T : zi, (T.filter ne).flatten = T.flatten := by
  intro T
  induction T with
  | nil => rfl
  | cons t T ih =>
   rw [List.filter_cons]
   cases t with
   | nil => simpa using ih
   | cons s t => simp [ih]
 have hp : (xJ x l).flatten.Perm l := by rw [hjp, hfl]; exact hg'.perm
 rw [← hjp] at w1 w2 w3
 refine ⟨⟨by omega, fun t ht => ?_, fun t ht a ha => ?_⟩, hp, w1, w3⟩
 ·have := (vN ht).length_le; omega
 ·exact h.sm a (hp.subset ((vN ht).subset ha))
theorem SOk.regret : RgOk x (qI x l).1 [] ∧ ((qI x l).2 = true → (qI x l).1.flatten.Perm l) := by
 have := Zdb h.cust l.length [] l rfl (Vo h.veh h.len)
 simpa [qI] using this
end
def Zdc (x : Inst) (b : Int) (imp : zi → zi) (ds : List zi) : Prop := ∀ d ∈ ds, (∃ n, Pure Tryz.prog 62 [.agg (zA x), .agg [L d], I b] (.tup [.agg [L (imp d)], I n])) ∧ DayOk (imp d) ∧ (imp d).flatten.length ≤ 1048576
theorem ZkN (x : Inst) (l : List Stop) (b : Int) (imp : zi → zi) (h : SOk x l) (hI : jD x l = 0 → Zdc x b imp (uW x l)) :
  Pure Tryz.prog 126 [.agg (zA x), L l, I b] (.tup [.agg [L (j6 x (jD x l) (vS x imp l)).1], I (j6 x (jD x l) (vS x imp l)).2]) := by
 have hF := ZhB x l h.cust (by have := h.len; omega)
 by_cases he : jD x l = 0
 case neg => exact Zck x (L l) b _ _ (ZU l) h.cust hF (fun e => absurd e he) fun e => absurd e he
 have hI := hI he
 have hA := ZhA l (by have := h.len; omega)
 have hJ := Zji x l h.arc h.cust h.len h.sm h.nd
 have hR := Zkp x l h.cust h.veh h.len
 obtain ⟨⟨n1, i1⟩, o1, f1⟩ := hI (xJ x l) (by simp [uW])
 obtain ⟨⟨n2, i2⟩, o2, f2⟩ := hI (qi l) (by simp [uW])
 obtain ⟨a1, a2, a3⟩ := h.apart
 have h3 : (qI x l).2 = true → (∃ n, Pure Tryz.prog 62 [.agg (zA x), .agg [L (qI x l).1], I b] (.tup [.agg [L (imp (qI x l).1)], I n])) ∧ DayOk (imp (qI x l).1) ∧ (imp (qI x l).1).flatten.length ≤ 1048576 := fun e => hI _ (by simp [uW, e])
 have hlen := h.len
 have hit := Zjn (W6 x (L l) b) [some (qi l), some (imp (xJ x l)), some (imp (qi l)), bif (qI x l).2 then some (imp (qI x l).1) else none] rfl (by simp) (by
  intro k f hf
  match k with
  | 0 => cases hf; exact ⟨_, _, L (qi l), rfl, Zjk (L l) (qi l) (ZU l) hA, fun d hd => by cases hd; rfl⟩
  | 1 => cases hf; exact ⟨_, _, L (imp (xJ x l)), rfl, Zjl x (L l) b _ _ _ (ZU l) hJ i1, fun d hd => by cases hd; rfl⟩
  | 2 => cases hf; exact ⟨_, _, L (imp (qi l)), rfl, Zjm x (L l) b _ _ _ (ZU l) hA i2, fun d hd => by cases hd; rfl⟩
  | 3 =>
   cases hf
   cases hall : (qI x l).2 with
   | true =>
    obtain ⟨⟨n3, i3⟩, -⟩ := h3 hall
    rw [hall] at hR
    exact ⟨_, _, L (imp (qI x l).1), rfl, Zcj x (L l) b _ _ true n3 (ZU l) hR (fun _ => i3), fun d hd => by cases hd; rfl⟩
   | false =>
    rw [hall] at hR
    exact ⟨_, _, yG, rfl, Zcj x (L l) b _ [] false 0 (ZU l) hR (fun e => by cases e), fun d hd => by cases hd⟩
  | k + 4 => cases hf)
 have hds : ([some (qi l), some (imp (xJ x l)), some (imp (qi l)), bif (qI x l).2 then some (imp (qI x l).1) else none] : List (Option zi)).filterMap id = vS x imp l := by
  unfold vS
  cases (qI x l).2 <;> rfl
 rw [hds] at hit
 refine Zck x (L l) b (jD x l) (vS x imp l) (ZU l) h.cust hF (fun _ => hit) fun _ d hd => ?_
 unfold vS at hd
 simp only [List.cons_append, List.nil_append, List.mem_cons] at hd
 rcases hd with rfl | rfl | rfl | hd
 ·exact ⟨a1, by rw [a2]; omega⟩
 ·exact ⟨o1, f1⟩
 ·exact ⟨o2, f2⟩
 ·cases hall : (qI x l).2 with
  | true =>
   rw [hall] at hd
   simp at hd; subst hd
   exact (h3 hall).2
  | false => rw [hall] at hd; simp at hd
open Go Go.Proofs Hp
theorem ZkO {P : Program} {r : Rd} {n : Nat} {F : Nat → PV} {S : Store} {o : Oper} {t e : TypeId} {len : Nat} {parts : Array (Nat × Operand)} {cs : List PV} {K : PV → Store → Prop} (ho : o.op = .buildSlice t len parts) (ht : P.underlying t = some (.slice e)) (h0 : P.cellsOf e ≠ 0) (hlen : len ≤ 1048576)
  (hl : uI P e len (parts.toList.map fun x => (x.1, ev F x.2)) = some cs)
  (hK : ∀ C : Ctx, S C.next = .dead → ∃ id v, Fresh C S id v ∧ K (.sl id v (P.cellsOf e) 0 len) (S.set id (.cells v e cs))) : PO P r n o F S K := by
 intro G hG C w a N st next Q' hnext
 have hmap : parts.toList.map (fun x => (x.1, ev G x.2)) = parts.toList.map (fun x => (x.1, ev F x.2)) := List.map_congr_left fun x hx => by
  rw [hG x.2 (by simp only [ho, Op.operands, List.mem_toArray, List.mem_map]; first | exact ⟨x, hx, rfl⟩ | (simp; exact ⟨x.1, by simpa using hx⟩))]
 rw [← hmap] at hl
 obtain ⟨vs, hrun, hr, hsz⟩ := ZaH (w := w) ht (ev G) a.eval st.ev hl
 obtain ⟨id, ver, hfr, hK⟩ := hK C st.sim.free
 obtain ⟨k1, k2⟩ := st.sim.object' hfr e vs cs (Nat.le_of_eq hr.1) (fun i v _ hv => hr.2.1 i v hv) hr.2.2
 refine qu (x := .value (.slice (some ⟨w.heap.size, 0, none⟩) len len)) (w' := w.alloc (.cells vs e)) (by intro c hc; rw [ho] at hc; cases hc) ?_
  (hnext _ _ _ _ _ hK (Qt C S w _ _ _ _ _ _ _ _ rfl (Nat.le_refl _) (by unfold jn; omega) (by unfold maxLen; omega) hsz.symm) k1 k2)
 unfold execOp
 simp only [ho]
 have e1 : (parts.map fun x => (x.1, a.eval x.2)) = (parts.toList.map fun x => (x.1, a.eval x.2)).toArray := by
  apply Array.toList_inj.1; simp
 simp only [e1, hrun, Sem.run_bind, Sem.run_pure, Result.andThen_ok]
theorem ZkP {P : Program} {r : Rd} {n nx : Nat} {F : Nat → PV} {S : Store} {obs : List Ob} {o : Oper} {t e : TypeId} {len : Nat} {parts : Array (Nat × Operand)} {cs : List PV} {K : PV → Store → Prop} (ho : o.op = .buildSlice t len parts) (ht : P.underlying t = some (.slice e)) (h0 : P.cellsOf e ≠ 0) (hlen : len ≤ 1048576)
  (hl : uI P e len (parts.toList.map fun x => (x.1, ev F x.2)) = some cs) (hK : ∀ v, K (.sl (nx + obs.length) v (P.cellsOf e) 0 len) (ext S nx (obs ++ [.cells v e cs]))) : PO P r n o F (ext S nx obs) K :=
 ZkO ho ht h0 hlen hl (uc (X := fun id v => K (.sl id v (P.cellsOf e) 0 len) ((ext S nx obs).set id (.cells v e cs))) _ uf fun v => by rw [jk]; exact hK v)
open Go Go.Proofs
theorem ZkQ {P : Program} {r : Rd} {n nx N : Nat} {Q : Exit → (Nat → PV) → Store → Prop} {F : Nat → PV} {S : Store} {obs : List Ob} {A : Prop} {R : Nat → KT → CT → HT → Prop} {id : Nat} {ops : Array Oper} {o : Oper} {os : List Oper} {t e : TypeId} {len : Nat} {parts : Array (Nat × Operand)}
  (D : List (Nat × Nat)) (cs : List PV) (ht : P.underlying t = some (.slice e)) (a : A) (h : ∀ v, R v (fun F' S' obs' => Q .normal F' (ext S' nx obs')) (CQ P r n nx ops fun F' S' obs' => Q .normal F' (ext S' nx obs')) (HQ P r n nx ops fun F' S' obs' => Q .normal F' (ext S' nx obs')))
  (hops : ops.toList = o :: os := by rfl) (hg : o.guard = none := by rfl) (ho : o.op = .buildSlice t len parts := by rfl) (h0 : P.cellsOf e ≠ 0 := by simp) (hlen : len ≤ 1048576 := by decide)
  (hl : uI P e len (parts.toList.map fun x => (x.1, ev F x.2)) = some cs := by simp [uI, uH]) (hN : xC N ops = true := by rfl) (hD : vC ops D = true := by rfl)
  (hR : A → ∀ v, XQ P nx D os (zQ F o.dst (.sl (nx + obs.length) v (P.cellsOf e) 0 len)) S (obs ++ [.cells v e cs]) (R v) := by intro a v K Gc Gh X hX0 hX h; simp -implicitDefEqProofs [hX0, hX, a]; exact h) : PW P r n N (.region id ops false) Q F (ext S nx obs) := by
 refine Ww hN ?_
 rw [hops]
 unfold XS
 have : gd ops F o = some true := by unfold gd; rw [hg]
 rw [this]
 exact ZkP ho ht h0 hlen hl fun v => ⟨_, _, rfl, QD (by rw [hops]; exact List.suffix_cons _ _) hD (hR a v) (h v)⟩
def yt (x : Inst) (t : zD) : Nat → Int
 | 0 => 0
 | i + 1 => yt x t i + arc x ((t.getD i default).c + 1) ((t.getD (i + 1) default).c + 1)
def yu (x : Inst) (t : zD) : Nat → Int
 | 0 => 0
 | i + 1 => yu x t i + arc x ((t.getD (i + 1) default).c + 1) ((t.getD i default).c + 1)
theorem YZ {x : Inst} (h : qH x) (t : zD) : ∀ i : Nat, 0 ≤ yt x t i ∧ yt x t i ≤ 2147483648 * (i : Int)
 | 0 => by simp [yt]
 | i + 1 => by
  have h1 := YZ h t i
  have h2 := h ((t.getD i default).c + 1) ((t.getD (i + 1) default).c + 1)
  unfold yt; omega
theorem Y0 {x : Inst} (h : qH x) (t : zD) : ∀ i : Nat, 0 ≤ yu x t i ∧ yu x t i ≤ 2147483648 * (i : Int)
 | 0 => by simp [yu]
 | i + 1 => by
  have h1 := Y0 h t i
  have h2 := h ((t.getD (i + 1) default).c + 1) ((t.getD i default).c + 1)
  unfold yu; omega
structure Sm where
 f : List Int
 b : List Int
 l : List Int
 n : Int
instance : Enc Sm := ⟨fun s => [L s.f, L s.b, L s.l, I s.n], 4, fun _ => rfl, fun _ => rfl⟩
@[simp] theorem ZrE (s : Sm) : Enc.enc s = [L s.f, L s.b, L s.l, I s.n] := rfl
@[simp high] theorem Zdd (l : List Sm) : (l.flatMap Enc.enc).length = l.length * 4 := jQ l
@[simp high] theorem ZrF (l : List Sm) : (l.flatMap Enc.enc).take (l.length * 4) = l.flatMap Enc.enc := uO l
def jy (x : Inst) (t : zD) : Sm := ⟨(List.range t.length).map (yt x t), (List.range t.length).map (yu x t), (List.range (t.length + 1)).map fun i => zK (t.take i), zX x (t.map (·.c))⟩
abbrev wW (x : Inst) (d : zi) : List PV := [I x.days, I x.veh, I x.cap, I x.len, L x.cust, L x.dist, L d, L (d.map (jy x))]
structure MvDay (d : zi) : Prop where
 n : d.length ≤ 1000
 t : ∀ t ∈ d, t.length ≤ 1000
 s : ∀ t ∈ d, ∀ s ∈ t, small s.c ∧ 0 ≤ s.q ∧ s.q ≤ 2147483648
theorem ZkR {t : zD} {i : Nat} {s : Stop} (h : t.take (i + 1) = t.take i ++ [s]) : zK (t.take (i + 1)) = zK (t.take i) + s.q := by rw [h, J8]
theorem Vv {α : Type} (f : Nat → α) (k : Nat) : (List.range (k + 1)).map f = (List.range k).map f ++ [f k] := by rw [List.range_succ, List.map_append]; rfl
theorem ZkS (id v : Nat) (cs : List PV) (l : List Sm) : (l.flatMap Enc.enc).map (yZ id v cs) = (l.flatMap Enc.enc : List PV) := by
 induction l with
 | nil => rfl
 | cons s l ih => rw [List.flatMap_cons, List.map_append, ih]; rfl
theorem ZkT (x : Inst) (d : zi) (hx : qH x) (hd' : MvDay d) : Pure Tryz.prog 144 [.agg (zA x), .agg [L d]] (.ip (wW x d)) := by
 have hdn := hd'.n
 refine zx Tryz.func144 Tryz.ntmps144 Tryz.results144 fun S nx hd => ?_
 refine za (zb ?_)
 intro v0 v1
 refine za (zb ?_)
 intro v2
 refine qQ 2 7 241 4 rfl rfl fun v3 => ?_
 repeat apply za
 refine zb ?_
 refine zj (zG (fun s' : Nat × Nat => s'.1 ≤ d.length) (fun (k, v3) => [(2, .ptr nx v0 0), (5, .ptr (nx + 2) v2 0), (20, L d), (21, I d.length), (22, I k)]) (fun (k, v3) => [.cells v0 25 (zA x), .cells v1 58 [L d], .cells v2 239 [I x.days, I x.veh, I x.cap, I x.len, L x.cust, L x.dist, L d, .sl (nx + 3) v3 4 0 k], .cells v3 241 (((d.map (jy x)).take k).flatMap Enc.enc)]) (fun s' => d.length - s'.1) (0, v3) [] (by simp) (by simp) (by simp) ?_)
 rintro ⟨k, v3⟩ hk
 simp only at hk ⊢
 refine za (zb ?_)
 refine za (zr rfl (fun hc => ?_) (fun hc => ?_))
 ·simp at hc
  obtain ⟨t, tl, a1, a2, a3, e0⟩ := zE rfl d k hc
  have hk1 : 1 ≤ d.length - k := by omega
  have htm := List.mem_of_getElem? a1
  have htl := hd'.t t htm
  have hts := hd'.s t htm
  have hlw := QH x t (by omega) (fun s hs => (hts s hs).1)
  have hwz := YS hx (t.map (·.c))
  rw [List.length_map] at hwz
  rw [show W (zX x (t.map (·.c))) = zX x (t.map (·.c)) from wr _ (by omega) (by omega)] at hlw
  refine zh (za (zj (za (ze [] (zF e0 hc hk1) ?_))))
  intro v4
  refine za (ZkQ [] [I 0] Tryz.underlying45 trivial ?_)
  intro v5
  refine zz hlw ?_
  intro v6
  refine za (zb ?_)
  refine qQ 6 0 3 1 rfl rfl fun v7 => ?_
  refine qQ 6 1 3 1 rfl rfl fun v8 => ?_
  repeat apply za
  refine zb ?_
  generalize hpc : (((d.map (jy x)).take k).flatMap Enc.enc : List PV) = pc at *
  generalize hwl : zX x (t.map (·.c)) = wl at *
  refine zj (zG (fun s' : Nat × Nat × Nat × Nat => s'.1 ≤ t.length) (fun (i, v5, v7, v8) => [(2, .ptr nx v0 0), (5, .ptr (nx + 2) v2 0), (7, .ptr (nx + 4) v4 0), (8, .ptr (nx + 6) v6 0), (9, I (yt x t (i - 1))), (10, I (yu x t (i - 1))), (20, L d), (21, I d.length), (22, I k), (32, L t), (33, I t.length), (34, I i)])
   (fun (i, v5, v7, v8) => [.cells v0 25 (zA x), .cells v1 58 [L d], .cells v2 239 [I x.days, I x.veh, I x.cap, I x.len, L x.cust, L x.dist, L d, .sl (nx + 3) v3 4 0 k], .cells v3 241 pc, .cells v4 72 [L t], .cells v5 3 (((List.range (i + 1)).map fun i => zK (t.take i)).flatMap Enc.enc),
    .cells v6 241 [.sl (nx + 7) v7 1 0 i, .sl (nx + 8) v8 1 0 i, .sl (nx + 5) v5 1 0 (i + 1), I wl], .cells v7 3 (((List.range i).map (yt x t)).flatMap Enc.enc), .cells v8 3 (((List.range i).map (yu x t)).flatMap Enc.enc)]) (fun s' => t.length - s'.1) (0, v5, v7, v8) [] (by simp) (by simp [yt, yu]) (by simp [zK]) ?_)
  rintro ⟨i, v5, v7, v8⟩ hi
  simp only at hi ⊢
  refine za (zb ?_)
  refine za (zr rfl (fun hci => ?_) (fun hci => ?_))
  ·simp at hci
   obtain ⟨s, ts, s1, s2, s3, -, s0⟩ := el 2 rfl t i hci
   have hi2 : 2 ≤ t.length * 2 - i * 2 := by omega
   obtain ⟨hsm, hq0, hq1⟩ := hts s (List.mem_of_getElem? s1)
   have hgs : t.getD i default = s := by rw [List.getD_eq_getElem?_getD, s1]; rfl
   have wi := zt i (by omega)
   have f1 := Vv (yt x t) i
   have f2 := Vv (yu x t) i
   have f3 := Vv (fun i => zK (t.take i)) (i + 1)
   have hlz := ZkR s3
   have hlb := Vb (t := t.take i) (fun a ha => (hts a (List.mem_of_mem_take ha)).2)
   have hlt : (t.take i).length ≤ 1000 := by rw [List.length_take]; omega
   have wl1 : IntKind.i64.wrap (zK (t.take i) + s.q) = zK (t.take (i + 1)) := by rw [hlz]; exact wr _ (by omega) (by omega)
   have g1 : (((List.range i).map (yt x t)).flatMap Enc.enc : List PV).length = i := by rw [q8]; simp
   have g2 : (((List.range i).map (yu x t)).flatMap Enc.enc : List PV).length = i := by rw [q8]; simp
   have g3 : (((List.range (i + 1)).map fun i => zK (t.take i)).flatMap Enc.enc : List PV).length = i + 1 := by rw [q8]; simp
   obtain ⟨lz, tlz, z1, -, -, z0⟩ := zE rfl ((List.range (i + 1)).map fun i => zK (t.take i)) i (by simp)
   have hlzz : lz = zK (t.take i) := by simpa using z1.symm
   have c1 : (((List.range (i + 1)).map (yt x t)).flatMap Enc.enc : List PV) = ((List.range i).map (yt x t)).flatMap Enc.enc ++ [I (yt x t i)] := by rw [f1, List.flatMap_append]; rfl
   have c2 : (((List.range (i + 1)).map (yu x t)).flatMap Enc.enc : List PV) = ((List.range i).map (yu x t)).flatMap Enc.enc ++ [I (yu x t i)] := by rw [f2, List.flatMap_append]; rfl
   have c3 : (((List.range (i + 1 + 1)).map fun i => zK (t.take i)).flatMap Enc.enc : List PV) = ((List.range (i + 1)).map fun i => zK (t.take i)).flatMap Enc.enc ++ [I (zK (t.take (i + 1)))] := by rw [f3, List.flatMap_append]; rfl
   rw [hlzz] at z0
   clear f1 f2 f3 z1 hlzz hlz
   generalize (((List.range i).map (yt x t)).flatMap Enc.enc : List PV) = fc at *
   generalize (((List.range i).map (yu x t)).flatMap Enc.enc : List PV) = bc at *
   generalize (((List.range (i + 1)).map fun i => zK (t.take i)).flatMap Enc.enc : List PV) = lc at *
   have t1 : fc.take i = fc := List.take_of_length_le (by omega)
   have t2 : bc.take i = bc := List.take_of_length_le (by omega)
   have t3 : lc.take (i + 1) = lc := List.take_of_length_le (by omega)
   refine zh (za (zj (za (ze [] (zF s0 hci hi2) ?_))))
   intro v9
   apply za
   refine qh (nx := nx) (fun _ : Unit => True) (fun _ => [(2, .ptr nx v0 0), (5, .ptr (nx + 2) v2 0), (7, .ptr (nx + 4) v4 0), (8, .ptr (nx + 6) v6 0), (9, I (yt x t i)), (10, I (yu x t i)), (11, I i), (12, .ptr (nx + 9) v9 0), (20, L d), (21, I d.length), (22, I k), (32, L t), (33, I t.length), (34, I i)]) (fun _ => S)
    (fun _ => [.cells v0 25 (zA x), .cells v1 58 [L d], .cells v2 239 [I x.days, I x.veh, I x.cap, I x.len, L x.cust, L x.dist, L d, .sl (nx + 3) v3 4 0 k], .cells v3 241 pc, .cells v4 72 [L t], .cells v5 3 lc,
    .cells v6 241 [.sl (nx + 7) v7 1 0 i, .sl (nx + 8) v8 1 0 i, .sl (nx + 5) v5 1 0 (i + 1), I wl], .cells v7 3 fc, .cells v8 3 bc, .cells v9 35 [I s.c, I s.q]]) ?_ ?_
   ·by_cases h0 : 0 < i
    ·obtain ⟨j, rfl⟩ : ∃ j, i = j + 1 := ⟨i - 1, by omega⟩
     obtain ⟨p, tp, p1, -, -, -, p0⟩ := el 2 rfl t j (by omega)
     obtain ⟨hpm, -, -⟩ := hts p (List.mem_of_getElem? p1)
     have hgp : t.getD j default = p := by rw [List.getD_eq_getElem?_getD, p1]; rfl
     have hj2 : 2 ≤ t.length * 2 - j * 2 := by omega
     have hjl : j < t.length := by omega
     have wj : IntKind.i64.wrap (j : Int) = (j : Int) := wr _ (by omega) (by omega)
     have wp := vI hpm
     have ws := vI hsm
     have ar1 := wO x (p.c + 1) (s.c + 1)
     have ar2 := wO x (s.c + 1) (p.c + 1)
     have hfz : yt x t (j + 1) = yt x t j + arc x (p.c + 1) (s.c + 1) := by conv => lhs; unfold yt; rw [hgs, hgp]
     have hbz : yu x t (j + 1) = yu x t j + arc x (s.c + 1) (p.c + 1) := by conv => lhs; unfold yu; rw [hgs, hgp]
     have b1 := YZ hx t (j + 1)
     have b2 := Y0 hx t (j + 1)
     have wf : IntKind.i64.wrap (yt x t j + arc x (p.c + 1) (s.c + 1)) = yt x t (j + 1) := by rw [hfz] at b1 ⊢; exact wr _ (by omega) (by omega)
     have wb : IntKind.i64.wrap (yu x t j + arc x (s.c + 1) (p.c + 1)) = yu x t (j + 1) := by rw [hbz] at b2 ⊢; exact wr _ (by omega) (by omega)
     simp only [Nat.add_sub_cancel]
     have h0' : (0 : Int) < ((j + 1 : Nat) : Int) := by omega
     refine za (ze [] (zm h0 h0') ?_)
     refine zo (by simp) ?_
     refine za (zC (some [nx + 4, nx + 9]) (Row.pures [0, 1, 2, 3, 4, 5, 6, 7, 8, 9, 10, 11, 12] .done) mixed (yh wj p0 hjl hj2 wp ws) ?_)
     refine za (zb ?_)
     refine jB [] ar1 wf ?_
     refine zb ?_
     refine jB [] ar2 wb ?_
     exact zP () [] trivial (by simp) rfl (by simp)
    ·obtain rfl : i = 0 := by omega
     refine za (zb ?_)
     exact zn rfl (zh (zP () [] trivial (by simp) rfl (by simp)))
   ·rintro ⟨⟩ -
    apply za
    refine qh (nx := nx) (fun _ : Unit => True) (fun _ => [(2, .ptr nx v0 0), (5, .ptr (nx + 2) v2 0), (7, .ptr (nx + 4) v4 0), (8, .ptr (nx + 6) v6 0), (9, I (yt x t i)), (10, I (yu x t i)), (11, I i), (12, .ptr (nx + 9) v9 0), (20, L d), (21, I d.length), (22, I k), (32, L t), (33, I t.length), (34, I i)]) (fun _ => S)
     (fun _ => [.cells v0 25 (zA x), .cells v1 58 [L d], .cells v2 239 [I x.days, I x.veh, I x.cap, I x.len, L x.cust, L x.dist, L d, .sl (nx + 3) v3 4 0 k], .cells v3 241 pc, .cells v4 72 [L t], .cells v5 3 lc,
     .cells v6 241 [.sl (nx + 7) (v7 + 1) 1 0 (i + 1), .sl (nx + 8) (v8 + 1) 1 0 (i + 1), .sl (nx + 5) v5 1 0 (i + 1), I wl], .cells (v7 + 1) 3 (fc ++ [I (yt x t i)]), .cells (v8 + 1) 3 (bc ++ [I (yu x t i)]), .cells v9 35 [I s.c, I s.q]]) ?_ ?_
    ·repeat apply za
     refine zC (some []) (Row.pures [0, 2, 3, 5, 7, 8] (.alt 1 (.alt 4 (.alt 6 (Row.pures [10] (.alt 9 (.alt 11 (Row.pures [12] (.alt 13 (.done) .stop)) .stop) .stop)) .stop) (.alt 6 (.alt 4 (Row.pures [10] (.alt 9 (.alt 11 (Row.pures [12] (.alt 13 (.done) .stop)) .stop) .stop)) .stop) .stop)) (.alt 6 (.alt 1 (.alt 4 (Row.pures [10] (.alt 9 (.alt 11 (Row.pures [12] (.alt 13 (.done) .stop)) .stop) .stop)) .stop) .stop) .stop))) mixed (yi g1 g2 t1 t2) ?_
     repeat' (first | refine And.intro (by omega) ?_ | apply And.intro)
     all_goals exact zP () [] trivial (by simp) rfl (by simp)
    ·rintro ⟨⟩ -
     have z1 : (i : Int) < (i : Int) + 1 := by omega
     have z2 : i < i + 1 := by omega
     have z3 : 1 ≤ i + 1 - i := by omega
     refine zC (some [nx + 9]) (Row.pures [0, 2, 4, 7, 8] (.alt 1 (.alt 3 (Row.pures [5] (.alt 6 (Row.pures [9, 10] (.alt 11 (Row.pures [12] (.alt 13 (.done) .stop)) .stop)) .stop)) .stop) (.alt 3 (Row.pures [5] (.alt 1 (.alt 6 (Row.pures [9, 10] (.alt 11 (Row.pures [12] (.alt 13 (.done) .stop)) .stop)) .stop) (.alt 6 (Row.pures [9, 10] (.alt 1 (.alt 11 (Row.pures [12] (.alt 13 (.done) .stop)) .stop) .stop)) .stop))) .stop))) mixed (yh z0 z1 z2 z3 wl1 (zm g3 t3)) ?_
     repeat' (first | refine And.intro (by omega) ?_ | apply And.intro)
     all_goals
      refine ze [] wi ?_
      exact zp (i + 1, v5 + 1, v7 + 1, v8 + 1) [_] hci (by simp; omega) (by simp [wi]) rfl (by simp [c1, c2, c3]; rfl)
  ·simp at hci
   obtain rfl : i = t.length := by omega
   refine zy ?_
   clear hi hci
   have hsm : jy x t = ⟨(List.range t.length).map (yt x t), (List.range t.length).map (yu x t), (List.range (t.length + 1)).map fun i => zK (t.take i), wl⟩ := by unfold jy; rw [hwl]
   have g1 : (((List.range t.length).map (yt x t)).flatMap Enc.enc : List PV).length = t.length := by rw [q8]; simp
   have g2 : (((List.range t.length).map (yu x t)).flatMap Enc.enc : List PV).length = t.length := by rw [q8]; simp
   have g3 : (((List.range (t.length + 1)).map fun i => zK (t.take i)).flatMap Enc.enc : List PV).length = t.length + 1 := by rw [q8]; simp
   have hfz : ∀ id v cs, pc.map (yZ id v cs) = pc := fun id v cs => by rw [← hpc]; exact ZkS id v cs _
   have hpl : pc.length = k * 4 := by rw [← hpc, Zdd]; simp; omega
   have hpt : pc.take (k * 4) = pc := List.take_of_length_le (by omega)
   have hnew : (((d.map (jy x)).take (k + 1)).flatMap Enc.enc : List PV) = pc ++ [L ((List.range t.length).map (yt x t)), L ((List.range t.length).map (yu x t)), L ((List.range (t.length + 1)).map fun i => zK (t.take i)), I wl] := by
    rw [← hpc, ← List.map_take, a3, List.map_append, List.flatMap_append, ← List.map_take, List.map_cons, hsm]; rfl
   have l1 : ((List.range t.length).map (yt x t)).length = t.length := by simp
   have l2 : ((List.range t.length).map (yu x t)).length = t.length := by simp
   have l3 : ((List.range (t.length + 1)).map fun i => zK (t.take i)).length = t.length + 1 := by simp
   generalize (List.range t.length).map (yt x t) = fl at *
   generalize (List.range t.length).map (yu x t) = bl at *
   generalize ((List.range (t.length + 1)).map fun i => zK (t.take i)) = ll at *
   clear g1 g2 g3
   refine yc 8 rfl ?_
   simp only [List.map_cons, List.map_nil, List.set_cons_succ, List.set_cons_zero, jP, hfz]
   refine yc 7 rfl ?_
   simp only [List.map_cons, List.map_nil, List.set_cons_succ, List.set_cons_zero, jP, hfz]
   refine yc 5 rfl ?_
   simp only [List.map_cons, List.map_nil, List.set_cons_succ, List.set_cons_zero, jP, hfz]
   refine zC (some [nx + 6]) (Row.pures [0, 1, 2, 3, 5, 6] (.alt 4 (.alt 7 (Row.pures [8, 9] (.alt 10 (.done) .stop)) .stop) .stop)) mixed (qm l1 l2 l3 hpl hpt) ?_
   refine ⟨by omega, ?_⟩
   refine zb ?_
   exact zp (k + 1, v3 + 1) [_, _, _, _, _] hc (by simp; omega) (by simp [zt k (by omega)]) rfl (by simp [hnew, l1, l2, l3]; exact ⟨rfl, rfl, rfl, rfl, rfl⟩)
 ·simp at hc
  obtain rfl : k = d.length := by omega
  rw [List.take_of_length_le (by simp)]
  refine zy ?_
  have hml : ((d.map (jy x)).flatMap Enc.enc : List PV).length = d.length * 4 := by rw [Zdd]; simp
  refine yc 3 rfl ?_
  refine za (ze [] hml ?_)
  refine j4 2 rfl ?_
  exact zg (zk hd (by simp; rfl) (by simp [zq, hml]))
open Go Go.Proofs
def jz (x : Inst) : Int → List Int → Int
 | _, [] => 0
 | a, c :: l => arc x a (c + 1) + jz x (c + 1) l
theorem Vw (x : Inst) : ∀ (l : List Int) (a : Int) (m : List Int), jz x a (l ++ m) = jz x a l + jz x (yP a l) m
 | [], a, m => by simp [jz, yP]
 | c :: l, a, m => by
  simp only [List.cons_append, jz, yP]
  rw [Vw x l (c + 1) m]; omega
theorem Vx : ∀ (l : List Int) (a : Int) (m : List Int), yP a (l ++ m) = yP (yP a l) m
 | [], a, m => rfl
 | c :: l, a, m => by simp only [List.cons_append, yP]; exact Vx l (c + 1) m
theorem Zde (x : Inst) : ∀ (l : List Int) (a : Int), yV x a l = jz x a l + arc x (yP a l) 0
 | [], a => by simp [yV, jz, yP]
 | c :: l, a => by
  simp only [yV, jz, yP]
  rw [Zde x l (c + 1)]; omega
def xN (t : zD) (f n : Nat) : zD := (t.drop f).take n
theorem QY {t : zD} {f n : Nat} {s : Stop} (h : t[f + n]? = some s) : xN t f (n + 1) = xN t f n ++ [s] := by
 have h' : (t.drop f)[n]? = some s := by rw [List.getElem?_drop]; exact h
 obtain ⟨h1, h2⟩ := List.getElem?_eq_some_iff.1 h'
 unfold xN
 rw [List.take_succ_eq_append_getElem h1, h2]
theorem getD_some {t : zD} {i : Nat} {s : Stop} (h : t[i]? = some s) : t.getD i default = s := by rw [List.getD_eq_getElem?_getD, h]; rfl
theorem Zdf (x : Inst) (t : zD) (f : Nat) (a : Int) : ∀ n, f + n < t.length → jz x a ((xN t f (n + 1)).map (·.c)) = arc x a ((t.getD f default).c + 1) + (yt x t (f + n) - yt x t f) ∧ yP a ((xN t f (n + 1)).map (·.c)) = (t.getD (f + n) default).c + 1
 | 0, h => by
  have h0 : t[f + 0]? = some t[f] := List.getElem?_eq_getElem (by omega)
  rw [QY h0]
  have : xN t f 0 = [] := by simp [xN]
  rw [this, getD_some h0]
  simp only [Nat.add_zero] at *
  rw [getD_some h0]
  simp [jz, yP]
 | n + 1, h => by
  obtain ⟨i1, i2⟩ := Zdf x t f a n (by omega)
  have h0 : t[f + (n + 1)]? = some t[f + (n + 1)] := List.getElem?_eq_getElem (by omega)
  rw [QY h0, List.map_append, Vw, Vx, i1, i2, getD_some h0]
  simp only [List.map_cons, List.map_nil, jz, yP]
  have e : yt x t (f + (n + 1)) = yt x t (f + n) + arc x ((t.getD (f + n) default).c + 1) ((t.getD (f + (n + 1)) default).c + 1) := rfl
  rw [e, getD_some h0]
  exact ⟨by omega, trivial⟩
theorem Zdg (x : Inst) (t : zD) (f : Nat) : ∀ (n : Nat) (a : Int), f + n < t.length → jz x a ((xN t f (n + 1)).reverse.map (·.c)) = arc x a ((t.getD (f + n) default).c + 1) + (yu x t (f + n) - yu x t f) ∧ yP a ((xN t f (n + 1)).reverse.map (·.c)) = (t.getD f default).c + 1
 | 0, a, h => by
  have h0 : t[f + 0]? = some t[f] := List.getElem?_eq_getElem (by omega)
  rw [QY h0]
  have : xN t f 0 = [] := by simp [xN]
  rw [this, getD_some h0]
  simp only [Nat.add_zero] at *
  rw [getD_some h0]
  simp [jz, yP]
 | n + 1, a, h => by
  have h0 : t[f + (n + 1)]? = some t[f + (n + 1)] := List.getElem?_eq_getElem (by omega)
  obtain ⟨i1, i2⟩ := Zdg x t f n ((t.getD (f + (n + 1)) default).c + 1) (by omega)
  rw [QY h0, List.reverse_append]
  simp only [List.reverse_cons, List.reverse_nil, List.nil_append, List.cons_append, List.map_cons, jz, yP]
  rw [getD_some h0] at i1 i2 ⊢
  rw [i1, i2]
  have e : yu x t (f + (n + 1)) = yu x t (f + n) + arc x ((t.getD (f + (n + 1)) default).c + 1) ((t.getD (f + n) default).c + 1) := rfl
  rw [e, getD_some h0]
  exact ⟨by omega, rfl⟩
theorem Zdh (t : zD) (f : Nat) : ∀ n, f + n ≤ t.length → zK (xN t f n) = zK (t.take (f + n)) - zK (t.take f)
 | 0, _ => by simp [xN, zK]
 | n + 1, h => by
  have h0 : t[f + n]? = some t[f + n] := List.getElem?_eq_getElem (by omega)
  have e : t.take (f + n + 1) = t.take (f + n) ++ [t[f + n]] := List.take_succ_eq_append_getElem (by omega)
  rw [QY h0, J8, Zdh t f n (by omega), ← Nat.add_assoc, e, J8]; omega
def qO (x : Inst) (d : zi) (st : Int × Int) (p : Pc) : Int × Int :=
 if p.f < p.o then
  (bif p.b then (((d.getD p.t []).getD p.f default).c + 1, st.2 + (arc x st.1 (((d.getD p.t []).getD (p.o - 1) default).c + 1) + yu x (d.getD p.t []) (p.o - 1) - yu x (d.getD p.t []) p.f))
  else (((d.getD p.t []).getD (p.o - 1) default).c + 1, st.2 + (arc x st.1 (((d.getD p.t []).getD p.f default).c + 1) + yt x (d.getD p.t []) (p.o - 1) - yt x (d.getD p.t []) p.f)))
 else st
def xq (x : Inst) (d : zi) (r : Rw5) : Int := (r.l.foldl (qO x d) (0, 0)).2 + arc x (r.l.foldl (qO x d) (0, 0)).1 0
def xO (d : zi) (st : Int) (p : Pc) : Int := if p.f < p.o then st + (zK ((d.getD p.t []).take p.o) - zK ((d.getD p.t []).take p.f)) else st
def Zp (d : zi) (r : Rw5) : Int := r.l.foldl (xO d) 0
theorem ZkU {x : Inst} {d : zi} {p : Pc} (h : YX d p) (g : List Stop) : qO x d (yP 0 (g.map (·.c)), jz x 0 (g.map (·.c))) p = (yP 0 ((g ++ qe d p).map (·.c)), jz x 0 ((g ++ qe d p).map (·.c))) := by
 unfold qO qe
 by_cases hfo : p.f < p.o
 ·obtain ⟨ht, ho⟩ := h hfo
  unfold tlen at ho
  rw [if_pos hfo, if_pos hfo]
  generalize d.getD p.t [] = t at *
  obtain ⟨n, hn⟩ : ∃ n, p.o = p.f + n + 1 := ⟨p.o - p.f - 1, by omega⟩
  have e1 : p.o - 1 = p.f + n := by omega
  have e2 : p.o - p.f = n + 1 := by omega
  rw [e1, e2, List.map_append, Vw, Vx]
  cases p.b with
  | true =>
   simp only [cond_true]
   obtain ⟨i1, i2⟩ := Zdg x t p.f n (yP 0 (g.map (·.c))) (by omega)
   unfold xN at i1 i2
   rw [i1, i2]
   congr 1; omega
  | false =>
   simp only [cond_false]
   obtain ⟨i1, i2⟩ := Zdf x t p.f (yP 0 (g.map (·.c))) n (by omega)
   unfold xN at i1 i2
   rw [i1, i2]
   congr 1; omega
 ·rw [if_neg hfo, if_neg hfo, List.append_nil]
theorem Zdi {x : Inst} {d : zi} : ∀ (l : List Pc) (g : List Stop), (∀ p ∈ l, YX d p) → l.foldl (qO x d) (yP 0 (g.map (·.c)), jz x 0 (g.map (·.c))) = (yP 0 ((g ++ l.flatMap (qe d)).map (·.c)), jz x 0 ((g ++ l.flatMap (qe d)).map (·.c)))
 | [], g, _ => by simp
 | p :: l, g, h => by
  rw [List.foldl_cons, ZkU (h p (by simp)), Zdi l _ fun q hq => h q (by simp [hq]), List.flatMap_cons, List.append_assoc]
theorem Vy {x : Inst} {d : zi} {r : Rw5} (h : wV d r) (h0 : arc x 0 0 = 0) : xq x d r = zX x ((yH d r).map (·.c)) := by
 have := Zdi (x := x) r.l [] h
 simp only [List.map_nil, yP, jz, List.nil_append] at this
 unfold xq
 rw [this]
 simp only
 unfold yH zX
 split
 ·rename_i e
  rw [e]; simp [jz, yP, h0]
 ·rw [Zde]
theorem ZkV {d : zi} {p : Pc} (h : YX d p) (g : List Stop) : xO d (zK g) p = zK (g ++ qe d p) := by
 unfold xO qe
 by_cases hfo : p.f < p.o
 ·obtain ⟨ht, ho⟩ := h hfo
  unfold tlen at ho
  rw [if_pos hfo, if_pos hfo, ZjC]
  generalize d.getD p.t [] = t at *
  have := Zdh t p.f (p.o - p.f) (by omega)
  rw [show p.f + (p.o - p.f) = p.o by omega] at this
  have hr : ∀ l : zD, zK l.reverse = zK l := fun l => by unfold zK; exact ZjB ((List.reverse_perm l).map _)
  unfold xN at this
  cases p.b with
  | true => simp only [cond_true]; rw [hr, this]
  | false => simp only [cond_false]; rw [this]
 ·rw [if_neg hfo, if_neg hfo, List.append_nil]
theorem ZkW {d : zi} {r : Rw5} (h : wV d r) : Zp d r = zK (yH d r) := by
 have key : ∀ (l : List Pc) (g : List Stop), (∀ p ∈ l, YX d p) → l.foldl (xO d) (zK g) = zK (g ++ l.flatMap (qe d)) := by
  intro l
  induction l with
  | nil => intro g _; simp
  | cons p l ih =>
   intro g h
   rw [List.foldl_cons, ZkV (h p (by simp)), ih _ fun q hq => h q (by simp [hq]), List.flatMap_cons, List.append_assoc]
 have := key r.l [] h
 simpa [Zp, yH, zK] using this
open Go Go.Proofs
abbrev Y1 (x : Inst) (d : zi) (sms : List Sm) : List PV := [I x.days, I x.veh, I x.cap, I x.len, L x.cust, L x.dist, L d, L sms]
theorem Y2 {x : Inst} (h : qH x) (a b : Int) : 0 ≤ arc x a b ∧ arc x a b ≤ 2147483648 := h a b
theorem Xr {x : Inst} {d : zi} {sms : List Sm} (hs : sms = d.map (jy x)) {k : Nat} (h : k < d.length) : ∃ (t : zD) (td tf : List PV), d[k]? = some t ∧ d.getD k [] = t ∧ (d.flatMap Enc.enc : List PV).drop k = L t :: td ∧
  (sms.flatMap Enc.enc : List PV).drop (k * 4) = [L (jy x t).f, L (jy x t).b, L (jy x t).l, I (jy x t).n] ++ tf := by
 obtain ⟨t, td, a1, -, -, e0⟩ := zE rfl d k h
 rw [hs]
 obtain ⟨s, ts, b1, -, -, -, f0⟩ := el 4 rfl (d.map (jy x)) k (by simpa using h)
 have : s = jy x t := by rw [List.getElem?_map, a1] at b1; exact (Option.some.inj b1).symm
 subst this
 exact ⟨t, td, ts, a1, by rw [List.getD_eq_getElem?_getD, a1]; rfl, e0, f0⟩
theorem Y3 {α : Type} [Enc α] (n : Nat) (hn : Enc.sz α = 1) (f : Nat → α) {i : Nat} (h : i < n) : ∃ tl, (((List.range n).map f).flatMap Enc.enc : List PV).drop i = Enc.enc (f i) ++ tl := by
 obtain ⟨s, ts, b1, -, -, f0⟩ := zE hn ((List.range n).map f) i (by simpa using h)
 have : s = f i := by rw [List.getElem?_map, List.getElem?_range h] at b1; exact (Option.some.inj b1).symm
 subst this
 exact ⟨ts, f0⟩
theorem Vz (x : Inst) (d : zi) (r : Rw5) (hx : qH x) (hd' : MvDay d) (hr : wV d r) : Pure Tryz.prog 183 [.ip (wW x d), .agg (yk r)] (I (xq x d r)) := by
 obtain ⟨sms, hsms⟩ : ∃ sms, sms = d.map (jy x) := ⟨_, rfl⟩
 have hml : sms.length = d.length := by rw [hsms]; simp
 rw [show wW x d = Y1 x d sms from by rw [hsms]]
 have hdn := hd'.n
 have hat := fun k (h : k < 5) => Xq r h
 have hz : xq x d r = ((r.l.take 5).foldl (qO x d) (0, 0)).2 + arc x ((r.l.take 5).foldl (qO x d) (0, 0)).1 0 := by unfold xq; rw [List.take_of_length_le (by simp [Rw5.l])]
 rw [hz]
 clear hz
 have hcl : (yk r).length = 20 := rfl
 have hct : (yk r).take 20 = yk r := rfl
 generalize hrc : yk r = rc at *
 refine zx Tryz.func183 Tryz.ntmps183 Tryz.results183 fun S nx hd => ?_
 refine za (zb ?_)
 intro v0
 refine za (zb ?_)
 repeat apply za
 refine ze [] (zm hcl hct) ?_
 refine zj (zG (fun k : Nat => k ≤ 5 ∧ -(8796093022208 * (k : Int)) ≤ ((r.l.take k).foldl (qO x d) (0, 0)).2 ∧ ((r.l.take k).foldl (qO x d) (0, 0)).2 ≤ 8796093022208 * k) (fun k => [(0, .ip (Y1 x d sms)), (3, .ptr nx v0 0), (5, I ((r.l.take k).foldl (qO x d) (0, 0)).1), (6, I ((r.l.take k).foldl (qO x d) (0, 0)).2), (13, .agg rc), (14, I k)]) (fun _ => [.cells v0 195 rc]) (fun k => 5 - k) 0 [] (by simp) (by simp) (by simp) ?_)
 rintro k ⟨hk, hb1, hb2⟩
 by_cases hk5 : k < 5
 ·obtain ⟨p, hp1, hp2, hp3⟩ := hat k hk5
  have hk5' : (k : Int) < 5 := by omega
  have hk6 : 4 ≤ 20 - k * 4 := by omega
  have hok := hr p (List.mem_of_getElem? hp1)
  have hnx : (r.l.take (k + 1)).foldl (qO x d) (0, 0) = qO x d ((r.l.take k).foldl (qO x d) (0, 0)) p := by rw [hp3, List.foldl_append]; rfl
  generalize (r.l.take k).foldl (qO x d) (0, 0) = st at *
  obtain ⟨at_, all⟩ := st
  simp only at hb1 hb2 ⊢
  have wk := zt k (by omega)
  refine za (ze [] hk5' ?_)
  refine za (zo rfl (zh (za (zj (za (ze [] (qm hp2 hk5 hk5' hcl hk6) ?_))))))
  intro v3
  by_cases hfo : p.f < p.o
  case neg =>
   have hpz : qO x d (at_, all) p = (at_, all) := by unfold qO; rw [if_neg hfo]
   rw [hpz] at hnx
   have hfo' : p.o ≤ p.f := by omega
   repeat apply za
   refine ze [] hfo' ?_
   refine zo (by simp [hfo']) ?_
   refine zy (zb ?_)
   exact zp (k + 1) [_] ⟨by omega, by rw [hnx]; simp only; omega, by rw [hnx]; simp only; omega⟩ (by omega) (by simp [wk, hnx]) rfl (by simp; rfl)
  obtain ⟨ht, ho⟩ := hok hfo
  obtain ⟨t, td, tf, a1, hgt, e0, f0⟩ := Xr hsms ht
  unfold tlen at ho
  rw [hgt] at ho
  have htm := List.mem_of_getElem? a1
  have htl := hd'.t t htm
  have hts := hd'.s t htm
  have ht1 : 1 ≤ d.length - p.t := by omega
  have ht4 : 4 ≤ d.length * 4 - p.t * 4 := by omega
  obtain ⟨n, hn⟩ : ∃ n, p.o = n + 1 := ⟨p.o - 1, by omega⟩
  have hfo' : ¬ p.o ≤ p.f := by omega
  have hst : qO x d (at_, all) p = bif p.b then ((t.getD p.f default).c + 1, all + (arc x at_ ((t.getD n default).c + 1) + yu x t n - yu x t p.f)) else ((t.getD n default).c + 1, all + (arc x at_ ((t.getD p.f default).c + 1) + yt x t n - yt x t p.f)) := by
   unfold qO; rw [if_pos hfo, hgt, show p.o - 1 = n by omega]
  rw [hst] at hnx
  clear hst
  obtain ⟨sf, tsf, s1, -, -, -, s0⟩ := el 2 rfl t p.f (by omega)
  obtain ⟨sl, tsl, l1, -, -, -, l0⟩ := el 2 rfl t n (by omega)
  have hgf : t.getD p.f default = sf := getD_some s1
  have hgl : t.getD n default = sl := getD_some l1
  rw [hgf, hgl] at hnx
  have q1 : p.f < t.length := by omega
  have q2 : n < t.length := by omega
  have q3 : 2 ≤ t.length * 2 - p.f * 2 := by omega
  have q4 : 2 ≤ t.length * 2 - n * 2 := by omega
  have wo : IntKind.i64.wrap ((p.o : Int) - 1) = (n : Int) := by rw [wr _ (by omega) (by omega)]; omega
  have wsf := vI (hts sf (List.mem_of_getElem? s1)).1
  have wsl := vI (hts sl (List.mem_of_getElem? l1)).1
  have bf1 := YZ hx t p.f
  have bf2 := YZ hx t n
  have bb1 := Y0 hx t p.f
  have bb2 := Y0 hx t n
  have hlen : ((List.range t.length).map (yt x t)).length = t.length ∧ ((List.range t.length).map (yu x t)).length = t.length := by simp
  obtain ⟨z1, hz1⟩ := Y3 t.length rfl (yt x t) q1
  obtain ⟨z2, hz2⟩ := Y3 t.length rfl (yt x t) q2
  obtain ⟨z3, hz3⟩ := Y3 t.length rfl (yu x t) q1
  obtain ⟨z4, hz4⟩ := Y3 t.length rfl (yu x t) q2
  have q5 : 1 ≤ t.length - p.f := by omega
  have q6 : 1 ≤ t.length - n := by omega
  simp only [jy] at f0
  generalize hfl : (List.range t.length).map (yt x t) = fl at *
  generalize hbl : (List.range t.length).map (yu x t) = bl at *
  generalize ((List.range (t.length + 1)).map fun i => zK (t.take i)) = ll at *
  generalize zX x (t.map (·.c)) = wl at *
  obtain ⟨hl1, hl2⟩ := hlen
  have hfll : (fl.flatMap Enc.enc : List PV).length = t.length := by rw [q8, hl1]
  have hbll : (bl.flatMap Enc.enc : List PV).length = t.length := by rw [q8, hl2]
  repeat apply za
  refine ze [] hfo' ?_
  refine zn (by simp [hfo']) ?_
  refine zh (za (zC (some [nx + 1]) (Row.pures [0, 1, 2, 3, 4, 5, 6, 7, 8, 9, 10, 11, 12, 13, 14, 15, 16, 17, 18, 19, 20] .done) mixed (yh e0 f0 ht ht1 ht4 hml) ?_))
  refine za (zC (some [nx + 1]) (Row.pures [0, 1, 2, 3, 4, 5, 6] .done) mixed wo ?_)
  apply za
  cases hpb : p.b with
  | false =>
   rw [hpb] at hnx
   simp only [cond_false] at hnx
   have har := Y2 hx at_ (sf.c + 1)
   have ar := wO x at_ (sf.c + 1)
   have w1 : IntKind.i64.wrap (arc x at_ (sf.c + 1) + yt x t n) = arc x at_ (sf.c + 1) + yt x t n := wr _ (by omega) (by omega)
   have w2 : IntKind.i64.wrap (arc x at_ (sf.c + 1) + yt x t n - yt x t p.f) = arc x at_ (sf.c + 1) + yt x t n - yt x t p.f := wr _ (by omega) (by omega)
   have w3 : IntKind.i64.wrap (all + (arc x at_ (sf.c + 1) + yt x t n - yt x t p.f)) = all + (arc x at_ (sf.c + 1) + yt x t n - yt x t p.f) := wr _ (by omega) (by omega)
   refine za (ze [] hpb ?_)
   refine zn rfl (zh (za (zC (some [nx + 1]) (Row.pures [0, 1, 2, 3, 4, 5, 6, 7, 8, 9, 10, 11, 12, 13, 14, 15, 16, 17, 18, 19, 20, 21, 22, 23, 24, 25, 26, 27] .done) mixed (yh s0 q1 q3 wsf wo (zm (yh hz1 hz2 hfll hl1 q2 q5) (yi q6 w1 w2 w3))) ?_)))
   refine zI (ar) (yh s0 q1 q3 wsf wo (zm (yh hz1 hz2 hfll hl1 q2 q5) (yi q6 w1 w2 w3))) ?_
   refine ze [] (yi l0 q2 q4 wsl) ?_
   refine zb ?_
   exact zp (k + 1) [_] ⟨by omega, by rw [hnx]; simp only; omega, by rw [hnx]; simp only; omega⟩ (by omega) (by simp [wk, hnx]) rfl (by simp; rfl)
  | true =>
   rw [hpb] at hnx
   simp only [cond_true] at hnx
   have har := Y2 hx at_ (sl.c + 1)
   have ar := wO x at_ (sl.c + 1)
   have w1 : IntKind.i64.wrap (arc x at_ (sl.c + 1) + yu x t n) = arc x at_ (sl.c + 1) + yu x t n := wr _ (by omega) (by omega)
   have w2 : IntKind.i64.wrap (arc x at_ (sl.c + 1) + yu x t n - yu x t p.f) = arc x at_ (sl.c + 1) + yu x t n - yu x t p.f := wr _ (by omega) (by omega)
   have w3 : IntKind.i64.wrap (all + (arc x at_ (sl.c + 1) + yu x t n - yu x t p.f)) = all + (arc x at_ (sl.c + 1) + yu x t n - yu x t p.f) := wr _ (by omega) (by omega)
   refine za (ze [] hpb ?_)
   refine zo rfl (zC (some [nx + 1]) (Row.pures [0, 1, 2, 3, 4, 5, 6, 7, 8, 9, 10, 11, 12, 13] .done) mixed (yi f0 ht ht4 hml) ?_)
   refine za (zC (some [nx + 1]) (Row.pures [0, 1, 2, 3, 4, 5, 6, 7, 8, 9, 10, 11, 12, 13, 14, 15, 16, 17, 18, 19, 20, 21, 22, 23, 24, 25, 26, 27] .done) mixed (yh l0 q2 q4 wsl wo (zm (yh hz3 hz4 hbll hl2 q1 q5) (yi q6 w1 w2 w3))) ?_)
   refine zI (ar) (yh l0 q2 q4 wsl wo (zm (yh hz3 hz4 hbll hl2 q1 q5) (yi q6 w1 w2 w3))) ?_
   refine ze [] (yi s0 q1 q3 wsf) ?_
   refine zb ?_
   exact zp (k + 1) [_] ⟨by omega, by rw [hnx]; simp only; omega, by rw [hnx]; simp only; omega⟩ (by omega) (by simp [wk, hnx]) rfl (by simp; rfl)
 ·obtain rfl : k = 5 := by omega
  generalize (r.l.take 5).foldl (qO x d) (0, 0) = st at *
  obtain ⟨at_, all⟩ := st
  simp only at hb1 hb2 ⊢
  have har := Y2 hx at_ 0
  have ar := wO x at_ 0
  have w1 : IntKind.i64.wrap (all + arc x at_ 0) = all + arc x at_ 0 := wr _ (by omega) (by omega)
  refine za (zb ?_)
  refine za (zn rfl (zy (za (zb ?_))))
  refine jB [] ar w1 ?_
  exact zg (zk hd rfl rfl)
open Go Go.Proofs
theorem ZkX (x : Inst) (d : zi) (r : Rw5) (hd' : MvDay d) (hr : wV d r) : Pure Tryz.prog 184 [.ip (wW x d), .agg (yk r)] (I (Zp d r)) := by
 obtain ⟨sms, hsms⟩ : ∃ sms, sms = d.map (jy x) := ⟨_, rfl⟩
 have hml : sms.length = d.length := by rw [hsms]; simp
 rw [show wW x d = Y1 x d sms from by rw [hsms]]
 have hdn := hd'.n
 have hat := fun k (h : k < 5) => Xq r h
 have hz : Zp d r = (r.l.take 5).foldl (xO d) 0 := by unfold Zp; rw [List.take_of_length_le (by simp [Rw5.l])]
 rw [hz]
 clear hz
 have hcl : (yk r).length = 20 := rfl
 have hct : (yk r).take 20 = yk r := rfl
 generalize hrc : yk r = rc at *
 refine zx Tryz.func184 Tryz.ntmps184 Tryz.results184 fun S nx hd => ?_
 refine za (zb ?_)
 intro v0
 refine za (zb ?_)
 repeat apply za
 refine ze [] (zm hcl hct) ?_
 refine zj (zG (fun k : Nat => k ≤ 5 ∧ -(8796093022208 * (k : Int)) ≤ (r.l.take k).foldl (xO d) 0 ∧ (r.l.take k).foldl (xO d) 0 ≤ 8796093022208 * k) (fun k => [(0, .ip (Y1 x d sms)), (3, .ptr nx v0 0), (5, I ((r.l.take k).foldl (xO d) 0)), (8, .agg rc), (9, I k)]) (fun _ => [.cells v0 195 rc]) (fun k => 5 - k) 0 [] (by simp) (by simp) (by simp) ?_)
 rintro k ⟨hk, hb1, hb2⟩
 by_cases hk5 : k < 5
 ·obtain ⟨p, hp1, hp2, hp3⟩ := hat k hk5
  have hk5' : (k : Int) < 5 := by omega
  have hk6 : 4 ≤ 20 - k * 4 := by omega
  have hok := hr p (List.mem_of_getElem? hp1)
  have hnx : (r.l.take (k + 1)).foldl (xO d) 0 = xO d ((r.l.take k).foldl (xO d) 0) p := by rw [hp3, List.foldl_append]; rfl
  generalize (r.l.take k).foldl (xO d) 0 = all at *
  have wk := zt k (by omega)
  refine za (ze [] hk5' ?_)
  refine za (zo rfl (zh (za (zj (za (ze [] (qm hp2 hk5 hk5' hcl hk6) ?_))))))
  intro v3
  by_cases hfo : p.f < p.o
  case neg =>
   have hpz : xO d all p = all := by unfold xO; rw [if_neg hfo]
   rw [hpz] at hnx
   refine za (ze [] hfo ?_)
   refine zn (by simp [hfo]) ?_
   refine zh (zb ?_)
   exact zp (k + 1) [_] ⟨by omega, by rw [hnx]; omega, by rw [hnx]; omega⟩ (by omega) (by simp [wk, hnx]) rfl (by simp; rfl)
  obtain ⟨ht, ho⟩ := hok hfo
  obtain ⟨t, td, tf, a1, hgt, e0, f0⟩ := Xr hsms ht
  unfold tlen at ho
  rw [hgt] at ho
  have htm := List.mem_of_getElem? a1
  have htl := hd'.t t htm
  have hts := hd'.s t htm
  have ht4 : 4 ≤ d.length * 4 - p.t * 4 := by omega
  have hst : xO d all p = all + (zK (t.take p.o) - zK (t.take p.f)) := by unfold xO; rw [if_pos hfo, hgt]
  rw [hst] at hnx
  have b1 := Vb (t := t.take p.o) (fun a ha => (hts a (List.mem_of_mem_take ha)).2)
  have b2 := Vb (t := t.take p.f) (fun a ha => (hts a (List.mem_of_mem_take ha)).2)
  have b3 : (t.take p.o).length ≤ 1000 := by rw [List.length_take]; omega
  have b4 : (t.take p.f).length ≤ 1000 := by rw [List.length_take]; omega
  have w1 : IntKind.i64.wrap (zK (t.take p.o) - zK (t.take p.f)) = zK (t.take p.o) - zK (t.take p.f) := wr _ (by omega) (by omega)
  have w2 : IntKind.i64.wrap (all + (zK (t.take p.o) - zK (t.take p.f))) = all + (zK (t.take p.o) - zK (t.take p.f)) := wr _ (by omega) (by omega)
  obtain ⟨z1, hz1⟩ := Y3 (t.length + 1) rfl (fun i => zK (t.take i)) (show p.o < t.length + 1 by omega)
  obtain ⟨z2, hz2⟩ := Y3 (t.length + 1) rfl (fun i => zK (t.take i)) (show p.f < t.length + 1 by omega)
  have hll : ((List.range (t.length + 1)).map fun i => zK (t.take i)).length = t.length + 1 := by simp
  simp only [jy] at f0
  generalize (List.range t.length).map (yt x t) = fl at *
  generalize (List.range t.length).map (yu x t) = bl at *
  generalize ((List.range (t.length + 1)).map fun i => zK (t.take i)) = ll at *
  generalize zX x (t.map (·.c)) = wl at *
  generalize zK (t.take p.o) = lo at *
  generalize zK (t.take p.f) = lf at *
  have hlf : (ll.flatMap Enc.enc : List PV).length = t.length + 1 := by rw [q8, hll]
  have q1 : p.o < t.length + 1 := by omega
  have q2 : p.f < t.length + 1 := by omega
  have q3 : 1 ≤ t.length + 1 - p.o := by omega
  have q4 : 1 ≤ t.length + 1 - p.f := by omega
  have q5 : (p.o : Int) < (t.length : Int) + 1 := by omega
  have q6 : (p.f : Int) < (t.length : Int) + 1 := by omega
  refine za (ze [] hfo ?_)
  refine zo (by simp [hfo]) ?_
  refine zC (some [nx + 1]) (Row.pures [0, 1, 2, 3, 4, 5, 6, 7, 8, 9, 10, 11, 12, 13, 14, 15, 16, 17, 18, 19, 20, 21, 22, 23, 24, 25, 26, 27, 28, 29] .done) mixed (yh f0 ht ht4 hml hz1 (zm (yh hz2 hll hlf q1 q2 q3) (qm q4 q5 q6 w1 w2))) ?_
  refine zb ?_
  exact zp (k + 1) [_] ⟨by omega, by rw [hnx]; omega, by rw [hnx]; omega⟩ (by omega) (by simp [wk, hnx]) rfl (by simp; rfl)
 ·obtain rfl : k = 5 := by omega
  refine za (zb ?_)
  refine za (zn rfl (zy (za (zb ?_))))
  exact zg (zk hd rfl rfl)
def QZ (x : Inst) (d : zi) (m : Mv) (r1 r2 : Rw5) : Int := xq x d r1 - zX x ((d.getD m.a []).map (·.c)) + (if m.a = m.b then 0 else xq x d r2 - zX x ((d.getD m.b []).map (·.c)))
theorem Zdj {x : Inst} (hx : qH x) {d : zi} (hd' : MvDay d) {r : Rw5} (hr : wV d r) : -52776558133248 ≤ xq x d r ∧ xq x d r ≤ 52776558133248 := by
 have key : ∀ k : Nat, k ≤ 5 → -(8796093022208 * (k : Int)) ≤ ((r.l.take k).foldl (qO x d) (0, 0)).2 ∧ ((r.l.take k).foldl (qO x d) (0, 0)).2 ≤ 8796093022208 * k := by
  intro k
  induction k with
  | zero => intro _; simp
  | succ k ih =>
   intro hk
   obtain ⟨h1, h2⟩ := ih (by omega)
   obtain ⟨p, hp1, -, hp3⟩ := Xq r (show k < 5 by omega)
   have hok := hr p (List.mem_of_getElem? hp1)
   rw [hp3, List.foldl_append, List.foldl_cons, List.foldl_nil]
   generalize (r.l.take k).foldl (qO x d) (0, 0) = st at *
   unfold qO
   by_cases hfo : p.f < p.o
   ·obtain ⟨ht, ho⟩ := hok hfo
    have htm : d.getD p.t [] ∈ d := List.mem_of_getElem? (i := p.t) (by rw [List.getD_eq_getElem?_getD, List.getElem?_eq_getElem ht]; rfl)
    have htl := hd'.t _ htm
    unfold tlen at ho
    generalize d.getD p.t [] = t at *
    have b1 := YZ hx t p.f
    have b2 := YZ hx t (p.o - 1)
    have b3 := Y0 hx t p.f
    have b4 := Y0 hx t (p.o - 1)
    rw [if_pos hfo]
    cases p.b with
    | true =>
     have := Y2 hx st.1 ((t.getD (p.o - 1) default).c + 1)
     simp only [cond_true]; omega
    | false =>
     have := Y2 hx st.1 ((t.getD p.f default).c + 1)
     simp only [cond_false]; omega
   ·rw [if_neg hfo]; omega
 have h5 := key 5 (by omega)
 rw [List.take_of_length_le (by simp [Rw5.l])] at h5
 have := Y2 hx (r.l.foldl (qO x d) (0, 0)).1 0
 unfold xq
 omega
theorem ZkY (x : Inst) (d : zi) (m : Mv) (r1 r2 : Rw5) (hx : qH x) (hd' : MvDay d) (hr1 : wV d r1) (hr2 : wV d r2) (ha : m.a < d.length) (hb : m.b < d.length) : Pure Tryz.prog 147 [.ip (wW x d), .agg (vn m), .agg (yk r1), .agg (yk r2)] (I (QZ x d m r1 r2)) := by
 have l1 := Vz x d r1 hx hd' hr1
 have l2 := Vz x d r2 hx hd' hr2
 have b1 := Zdj hx hd' hr1
 have b2 := Zdj hx hd' hr2
 obtain ⟨sms, hsms⟩ : ∃ sms, sms = d.map (jy x) := ⟨_, rfl⟩
 have hml : sms.length = d.length := by rw [hsms]; simp
 rw [show wW x d = Y1 x d sms from by rw [hsms]] at l1 l2 ⊢
 have hdn := hd'.n
 obtain ⟨ta, tda, tfa, a1, hga, -, fa⟩ := Xr hsms ha
 obtain ⟨tb, tdb, tfb, c1, hgb, -, fb⟩ := Xr hsms hb
 have wa := YS hx (ta.map (·.c))
 have wb := YS hx (tb.map (·.c))
 rw [List.length_map] at wa wb
 have hta := hd'.t ta (List.mem_of_getElem? a1)
 have htb := hd'.t tb (List.mem_of_getElem? c1)
 have hdef : QZ x d m r1 r2 = xq x d r1 - zX x (ta.map (·.c)) + (if m.a = m.b then 0 else xq x d r2 - zX x (tb.map (·.c))) := by unfold QZ; rw [hga, hgb]
 rw [hdef]
 clear hdef
 simp only [jy] at fa fb
 generalize xq x d r1 = k1 at *
 generalize xq x d r2 = k2 at *
 generalize zX x (ta.map (·.c)) = wl at *
 generalize zX x (tb.map (·.c)) = wm at *
 have ha4 : 4 ≤ d.length * 4 - m.a * 4 := by omega
 have hb4 : 4 ≤ d.length * 4 - m.b * 4 := by omega
 have w1 : IntKind.i64.wrap (k1 - wl) = k1 - wl := wr _ (by omega) (by omega)
 have w2 : IntKind.i64.wrap (k2 - wm) = k2 - wm := wr _ (by omega) (by omega)
 have w3 : IntKind.i64.wrap (k1 - wl + (k2 - wm)) = k1 - wl + (k2 - wm) := wr _ (by omega) (by omega)
 have hc1 : (yk r1).length = 20 := rfl
 have ht1 : (yk r1).take 20 = yk r1 := rfl
 have hc2 : (yk r2).length = 20 := rfl
 have ht2 : (yk r2).take 20 = yk r2 := rfl
 generalize hrc1 : yk r1 = rc1 at *
 generalize hrc2 : yk r2 = rc2 at *
 refine zx Tryz.func147 Tryz.ntmps147 Tryz.results147 fun S nx hd => ?_
 refine za (zb ?_)
 intro v0 v1 v2
 refine za (zC (some [nx, nx + 1]) (Row.pures [0, 1, 2, 3, 4, 5, 6, 7, 8, 9, 10, 11, 12, 13] .done) mixed (yh hc1 ht1 fa ha ha4 (zm hml w1)) ?_)
 refine zI (l1) (yh hc1 ht1 fa ha ha4 (zm hml w1)) ?_
 by_cases hab : m.a = m.b
 ·have hab' : (m.a : Int) = m.b := by omega
  rw [if_pos hab]
  repeat apply za
  refine ze [] hab' ?_
  refine zn (by simp [hab']) ?_
  refine zh (za (zb ?_))
  exact zg (zk hd rfl (by simp [zq]))
 ·have hab' : ¬ (m.a : Int) = m.b := by omega
  rw [if_neg hab]
  repeat apply za
  refine ze [] hab' ?_
  refine zo (by simp [hab']) ?_
  refine zC (some [nx, nx + 2]) (Row.pures [0, 1, 2, 3, 4, 5, 6, 7, 8, 9, 10, 11, 12, 13, 14, 15] .done) mixed (yh hc2 ht2 fb hb hb4 (zF hml w2 w3)) ?_
  refine zI (l2) (yh hc2 ht2 fb hb hb4 (zF hml w2 w3)) ?_
  refine za (zb ?_)
  exact zg (zk hd rfl (by simp [zq]))
theorem Zdk (x : Inst) (d : zi) (r : Rw5) (hx : qH x) (hd' : MvDay d) (hr : wV d r) : Pure Tryz.prog 148 [.ip (wW x d), .agg (yk r)] (B (decide (Zp d r ≤ x.cap ∧ xq x d r ≤ x.len))) := by
 have l1 := Vz x d r hx hd' hr
 have l2 := ZkX x d r hd' hr
 obtain ⟨sms, hsms⟩ : ∃ sms, sms = d.map (jy x) := ⟨_, rfl⟩
 rw [show wW x d = Y1 x d sms from by rw [hsms]] at l1 l2 ⊢
 generalize xq x d r = k1 at *
 generalize Zp d r = k2 at *
 have hc1 : (yk r).length = 20 := rfl
 have ht1 : (yk r).take 20 = yk r := rfl
 generalize hrc1 : yk r = rc at *
 refine zx Tryz.func148 Tryz.ntmps148 Tryz.results148 fun S nx hd => ?_
 refine za (zb ?_)
 intro v0
 by_cases h1 : k2 ≤ x.cap
 ·refine za (zC (some [nx]) (Row.pures [0, 1, 2, 3, 4, 5, 6, 7, 8, 9, 10, 11, 12, 13, 14, 15, 16, 17, 18, 19, 20] .done) mixed (zF hc1 ht1 h1) ?_)
  refine zI (l2) (zF hc1 ht1 h1) ?_
  refine zI (l1) (zF hc1 ht1 h1) ?_
  exact zg (zk hd rfl (by simp [zq, h1]))
 ·refine za (zC (some [nx]) (Row.pures [0, 1, 2, 3, 4, 5, 6, 7, 8, 9, 10, 11, 12, 13, 14, 15, 16, 17, 18, 19, 20] .done) mixed (yi hc1 ht1 h1 zL) ?_)
  refine zI (l2) (yi hc1 ht1 h1 zL) ?_
  exact zg (zk hd rfl (by simp [zq, h1]))
open Go Go.Proofs
theorem Xs {α : Type} {W : Nat → List α} {n k i : Nat} {x : α} (hk : k < n) (h : (W k)[i]? = some x) : ((List.range n).flatMap W)[((List.range k).flatMap W).length + i]? = some x := by
 obtain ⟨m, rfl⟩ : ∃ m, n = k + (m + 1) := ⟨n - k - 1, by omega⟩
 have hi := (List.getElem?_eq_some_iff.1 h).1
 rw [List.range_add, List.flatMap_append, List.getElem?_append_right (Nat.le_add_right _ _), Nat.add_sub_cancel_left, List.range_succ_eq_map]
 simp only [List.map_cons, List.flatMap_cons, Nat.add_zero]
 rw [List.getElem?_append_left hi]
 exact h
theorem Xt {α : Type} (W : Nat → List α) (k : Nat) : ((List.range (k + 1)).flatMap W).length = ((List.range k).flatMap W).length + (W k).length := by
 rw [List.range_succ, List.flatMap_append, List.length_append]; simp
def uX (d : zi) (k a b i j : Nat) : Option Mv := if j8 d ⟨k, a, b, i, j⟩ = true then some ⟨k, a, b, i, j⟩ else none
def vT (d : zi) (k a b i : Nat) : List Mv := (List.range (tlen d b + 1)).filterMap (uX d k a b i)
def uu (d : zi) (k a b : Nat) : List Mv := (List.range (tlen d a + 1)).flatMap (vT d k a b)
def Zq (d : zi) (k a : Nat) : List Mv := (List.range d.length).flatMap (uu d k a)
def uv (d : zi) (k : Nat) : List Mv := (List.range d.length).flatMap (Zq d k)
def ux (d : zi) : List Mv := (List.range 4).flatMap (uv d)
abbrev Z0 (m : Mv) : List PV := [.agg (vn m)]
theorem ZkZ (d : zi) (k a b : Nat) (hdn : d.length ≤ 1048576) (hdt : ∀ t ∈ d, t.length ≤ 1000) (hk : k ≤ 3) (ha : a < d.length) (hb : b < d.length) :
  Xh Tryz.prog 182 (fun y => [.agg [L d], .agg [I k, I a, I b, I 0, I 0], jl y]) ((uu d k a b).map Z0) (B true) := by
 refine Zcp Tryz.func182 (by rfl) rfl Tryz.ntmps182 (congrArg Array.toList Tryz.results182) (by simp) fun y V keep nx J hJd hY A0 hA0 => ?_
 obtain ⟨ta, xa, a1, -, -, a0⟩ := zE rfl d a ha
 obtain ⟨tb, xb, b1, -, -, b0⟩ := zE rfl d b hb
 have ha1 : 1 ≤ d.length - a := by omega
 have hb1 : 1 ≤ d.length - b := by omega
 have la : tlen d a = ta.length := by unfold tlen; rw [List.getD_eq_getElem?_getD, a1]; rfl
 have lb : tlen d b = tb.length := by unfold tlen; rw [List.getD_eq_getElem?_getD, b1]; rfl
 have hal := hdt ta (List.mem_of_getElem? a1)
 have hbl := hdt tb (List.mem_of_getElem? b1)
 have hall : ∀ t ∈ d, t.length ≤ 1048576 := fun t ht => Nat.le_trans (hdt t ht) (by decide)
 have hlook := fun i j (hi : i ≤ 1048576) (hj : j ≤ 1048576) => Vp d ⟨k, a, b, i, j⟩ hdn hall hk ha hb hi hj
 have hpl : uu d k a b = (List.range (ta.length + 1)).flatMap (vT d k a b) := by unfold uu; rw [la]
 have hrow : ∀ i, vT d k a b i = (List.range (tb.length + 1)).filterMap (uX d k a b i) := fun i => by unfold vT; rw [lb]
 rw [hpl] at hY ⊢
 clear hpl la lb
 refine za (zb ?_)
 intro v0 v1
 repeat apply za
 refine zb ?_
 refine zj (jo (σ := Nat × Int × Store) (fun s' => s'.1 ≤ ta.length + 1 ∧ J ((List.range s'.1).flatMap (vT d k a b)).length s'.2.2) (fun s' => [(2, jl y), (3, .ptr nx v0 0), (4, .ptr (nx + 1) v1 0)]) (fun s' => s'.2.2)
  (fun (i, jv, _) => [.cells v0 58 [L d], .cells v1 151 [I k, I a, I b, I i, I jv]]) (fun s' => ta.length + 1 - s'.1) (zP (0, 0, A0) [] (by simpa using hA0) (by simp) rfl (by simp)) ?_)
 rintro ⟨i, jv, A⟩ ⟨hi, hJ⟩
 simp only at hi hJ ⊢
 repeat apply za
 refine zC (some [nx, nx + 1]) (Row.pures [0, 1, 2, 3, 4, 5, 6, 7, 8, 9, 10] .done) mixed (zF a0 ha ha1) ?_
 refine zr rfl (fun hc => ?_) (fun hc => ?_)
 ·simp at hc
  have hrl := Xt (vT d k a b) i
  refine zh (za (zj (za (zb ?_))))
  refine zj (jo (σ := Nat × Store) (fun s' => s'.1 ≤ tb.length + 1 ∧ J (((List.range i).flatMap (vT d k a b)).length + ((List.range s'.1).filterMap (uX d k a b i)).length) s'.2) (fun s' => [(2, jl y), (3, .ptr nx v0 0), (4, .ptr (nx + 1) v1 0)]) (fun s' => s'.2)
   (fun (j, _) => [.cells v0 58 [L d], .cells v1 151 [I k, I a, I b, I i, I j]]) (fun s' => tb.length + 1 - s'.1) (zP (0, A) [] (by simpa using hJ) (by simp) rfl (by simp)) ?_)
  clear hJ A jv
  rintro ⟨j, A⟩ ⟨hj, hJ⟩
  simp only at hj hJ ⊢
  repeat apply za
  refine zC (some [nx, nx + 1]) (Row.pures [0, 1, 2, 3, 4, 5, 6, 7, 8, 9, 10] .done) mixed (zF b0 hb hb1) ?_
  refine zr rfl (fun hcj => ?_) (fun hcj => ?_)
  ·simp at hcj
   have hlk := hlook i j (by omega) (by omega)
   have wj := zt j (by omega)
   refine zh (za (zj ?_))
   cases hm : j8 d ⟨k, a, b, i, j⟩ with
   | true =>
    have hce : uX d k a b i j = some ⟨k, a, b, i, j⟩ := by unfold uX; rw [if_pos hm]
    have hlo : ut d ⟨k, a, b, i, j⟩ = ((z8 d ⟨k, a, b, i, j⟩).1, (z8 d ⟨k, a, b, i, j⟩).2, true) := by unfold ut; rw [if_pos hm]
    rw [hlo] at hlk
    have hat := Zcr (n := tb.length + 1) (by omega) hce
    rw [← hrow] at hat
    have hat2 := Xs (W := vT d k a b) (n := ta.length + 1) (by omega) hat
    have hy : (((List.range (ta.length + 1)).flatMap (vT d k a b)).map Z0)[((List.range i).flatMap (vT d k a b)).length + ((List.range j).filterMap (uX d k a b i)).length]? = some (Z0 ⟨k, a, b, i, j⟩) := by
     rw [List.getElem?_map, hat2]; rfl
    have hnx := Zct hce
    generalize (z8 d ⟨k, a, b, i, j⟩).1 = r1 at *
    generalize (z8 d ⟨k, a, b, i, j⟩).2 = r2 at *
    refine za (zb ?_)
    refine zz hlk ?_
    intro v2 v3
    refine za (zV [(1, 50)] (by rfl) (by rfl) fun K Gc Gh hK hGc hGh X hX0 hX => ?_)
    simp -implicitDefEqProofs [hX0, hX]
    try clear hX0 hX X
    refine hGh _ _ _ _ _ fun hsuf => YE rfl rfl rfl (hY _ _ _ _ hy hJ) ?_
    rintro _ ⟨A', hJ', rfl⟩
    refine ⟨_, _, rfl, ?_⟩
    clear hGc hGh
    clear Gc Gh
    refine zR hsuf (D := [(1, 50)]) (by rfl) fun Gc Gh hGc hGh X hX0 hX => ?_
    simp -implicitDefEqProofs [hX0, hX]
    try clear hX0 hX X
    refine hK _ _ _ ?_
    clear hK hGc hGh
    clear K Gc Gh
    refine zn rfl (zh (zb ?_))
    exact zp (j + 1, A') [_, _] ⟨by simp; omega, by rw [hnx]; exact hJ'⟩ (by simp; omega) (by simp) rfl (by simp [wj]; exact ⟨rfl, rfl⟩)
   | false =>
    have hce : uX d k a b i j = none := by unfold uX; rw [if_neg (by simp [hm])]
    have hlo : ut d ⟨k, a, b, i, j⟩ = (jF, jF, false) := by unfold ut; rw [if_neg (by simp [hm])]
    rw [hlo] at hlk
    have hnx := Zcs hce
    generalize jF = r0 at *
    refine za (zb ?_)
    refine zz hlk ?_
    intro v2 v3
    refine za (ze [(1, 50)] zL ?_)
    refine zn rfl (zh (zb ?_))
    exact zp (j + 1, A) [_, _] ⟨by simp; omega, by rw [hnx]; exact hJ⟩ (by simp; omega) (by simp) rfl (by simp [wj]; exact ⟨rfl, rfl⟩)
  ·simp at hcj
   obtain rfl : j = tb.length + 1 := by omega
   rw [← hrow, ← hrl] at hJ
   refine zy ?_
   have wi := zt i (by omega)
   refine zb ?_
   exact zp (i + 1, ((tb.length + 1 : Nat) : Int), A) [] ⟨by simp; omega, hJ⟩ (by simp; omega) (by simp) rfl (by simp [wi])
 ·simp at hc
  obtain rfl : i = ta.length + 1 := by omega
  refine zy (za (zb ?_))
  exact zg (Xi (hJd _ _ hJ) (by simp; rfl) (by simp [zq]) (by simpa using hJ))
theorem Zk0 (d : zi) : Pure Tryz.prog 145 [.agg [L d]] (.fn (.func 180) [] [.ip [L d]]) := by
 refine zx Tryz.func145 Tryz.ntmps145 Tryz.results145 fun S nx hd => ?_
 refine za (zb ?_)
 intro v0
 refine za (zb ?_)
 refine j4 0 rfl ?_
 exact zg (zk hd (by simp; rfl) rfl)
theorem Zk1 (d : zi) (hdn : d.length ≤ 1000) (hdt : ∀ t ∈ d, t.length ≤ 1000) : Ze Tryz.prog 180 [.ip [L d]] ((ux d).map Z0) := by
 have hpl := fun k a b (hk : k ≤ 3) (ha : a < d.length) (hb : b < d.length) => ZkZ d k a b (by omega) hdt hk ha hb
 have hkinds := Zc4
 generalize Xo = kl at hkinds
 refine QB Tryz.func180 (by rfl) rfl Tryz.ntmps180 (congrArg Array.toList Tryz.results180) (by simp) fun l V keep nx J hJd hY A0 hA0 => ?_
 refine za (zb ?_)
 refine zz hkinds ?_
 refine zj (jo (σ := Nat × Store) (fun s' => s'.1 ≤ 4 ∧ J ((List.range s'.1).flatMap (uv d)).length s'.2) (fun s' => [(0, jl l), (1, .ip [L d]), (7, I s'.1)]) (fun s' => s'.2) (fun _ => []) (fun s' => 4 - s'.1) (zP (0, A0) [] (by simpa using hA0) (by simp) rfl (by simp)) ?_)
 rintro ⟨k, A⟩ ⟨hk, hJ⟩
 simp only at hk hJ ⊢
 by_cases hk4 : k < 4
 ·have hk4' : (k : Int) < 4 := by omega
  have hlA := Xt (uv d) k
  refine za (ze [] hk4' ?_)
  refine za (zo rfl (zh (za (zj (za (zb ?_))))))
  refine za (zb ?_)
  refine zj (jo (σ := Nat × Store) (fun s' => s'.1 ≤ d.length ∧ J (((List.range k).flatMap (uv d)).length + ((List.range s'.1).flatMap (Zq d k)).length) s'.2) (fun s' => [(0, jl l), (1, .ip [L d]), (3, I k), (7, I k), (12, I d.length), (13, I s'.1)]) (fun s' => s'.2) (fun _ => []) (fun s' => d.length - s'.1) (zP (0, A) [] (by simpa using hJ) (by simp) rfl (by simp)) ?_)
  clear hJ A
  rintro ⟨a, A⟩ ⟨ha, hJ⟩
  simp only at ha hJ ⊢
  refine za (zb ?_)
  refine za (zr rfl (fun hca => ?_) (fun hca => ?_))
  ·simp at hca
   have hlK := Xt (Zq d k) a
   refine zh (za (zj (za (zb ?_))))
   refine za (zb ?_)
   refine zj (jo (σ := Nat × Store) (fun s' => s'.1 ≤ d.length ∧ J (((List.range k).flatMap (uv d)).length + ((List.range a).flatMap (Zq d k)).length + ((List.range s'.1).flatMap (uu d k a)).length) s'.2) (fun s' => [(0, jl l), (1, .ip [L d]), (3, I k), (4, I a), (7, I k), (12, I d.length), (13, I a), (18, I d.length), (19, I s'.1)]) (fun s' => s'.2) (fun _ => []) (fun s' => d.length - s'.1) (zP (0, A) [] (by simpa using hJ) (by simp) rfl (by simp)) ?_)
   clear hJ A
   rintro ⟨b, A⟩ ⟨hb, hJ⟩
   simp only at hb hJ ⊢
   refine za (zb ?_)
   refine za (zr rfl (fun hcb => ?_) (fun hcb => ?_))
   ·simp at hcb
    have hw := hpl k a b (by omega) hca hcb
    have hlP := Xt (uu d k a) b
    have hin : ∀ (i : Nat) (x : List PV), ((uu d k a b).map Z0)[i]? = some x → ((ux d).map Z0)[((List.range k).flatMap (uv d)).length + ((List.range a).flatMap (Zq d k)).length + ((List.range b).flatMap (uu d k a)).length + i]? = some x := by
     intro i x hx
     rw [List.getElem?_map] at hx ⊢
     obtain ⟨m, hm, rfl⟩ := Option.map_eq_some_iff.1 hx
     have e1 := Xs (W := uu d k a) (n := d.length) hcb hm
     have e2 := Xs (W := Zq d k) (n := d.length) hca e1
     have e3 := Xs (W := uv d) (n := 4) hk4 e2
     rw [Nat.add_assoc, Nat.add_assoc]
     unfold ux
     rw [e3]; rfl
    refine zh (za (zj (za (zb ?_))))
    refine za (zV [] (by rfl) (by rfl) fun K Gc Gh hK hGc hGh X hX0 hX => ?_)
    simp -implicitDefEqProofs [hX0, hX]
    try clear hX0 hX X
    refine hGc _ _ _ _ _ _ _ fun hsuf => ((Zcq hw keep hY _ hin hJ _).mono ?_)
    rintro _ _ ⟨A', rfl, hJ', rfl⟩
    rw [List.length_map, Nat.add_assoc, ← hlP] at hJ'
    refine ⟨_, _, rfl, ?_⟩
    clear hGc hGh
    clear Gc Gh
    refine zR hsuf (D := []) (by rfl) fun Gc Gh hGc hGh X hX0 hX => ?_
    simp -implicitDefEqProofs [hX0, hX]
    clear hX0 hX X
    refine hK _ _ _ ?_
    clear hK hGc hGh
    clear K Gc Gh
    refine zn rfl (zh (zb ?_))
    exact zp (b + 1, A') [] ⟨hcb, hJ'⟩ (by simp; omega) (by simp [zt b (by omega)]) rfl (by simp)
   ·simp at hcb
    obtain rfl : b = d.length := by omega
    refine zy ?_
    have hJ2 : J (((List.range k).flatMap (uv d)).length + ((List.range (a + 1)).flatMap (Zq d k)).length) A := by rw [hlK, ← Nat.add_assoc]; exact hJ
    refine zb ?_
    exact zp (a + 1, A) [] ⟨hca, hJ2⟩ (by simp; omega) (by simp [zt a (by omega)]) rfl (by simp)
  ·simp at hca
   obtain rfl : a = d.length := by omega
   refine zy ?_
   have hJ2 : J ((List.range (k + 1)).flatMap (uv d)).length A := by rw [hlA]; exact hJ
   refine zb ?_
   exact zp (k + 1, A) [] ⟨hk4, hJ2⟩ (by simp; omega) (by simp [zt k (by omega)]) rfl (by simp)
 ·obtain rfl : k = 4 := by omega
  refine za (zb ?_)
  refine za (zn rfl (zy (vf (hJd _ _ hJ) rfl ?_)))
  rw [List.length_map]; exact hJ
open Go Go.Proofs
theorem Z1 {d : zi} {m : Mv} (h : j8 d m = true) : m.k ≤ 3 ∧ m.a < d.length ∧ m.b < d.length ∧ wV d (z8 d m).1 ∧ wV d (z8 d m).2 := by
 unfold j8 at h
 rw [Bool.and_eq_true] at h
 obtain ⟨h1, h2⟩ := h
 have h1 := of_decide_eq_true h1
 refine ⟨h1.1, h1.2.1, h1.2.2, ?_⟩
 unfold xZ at h2
 unfold z8 jG
 have e0 := ZkD d
 have key : ∀ p : Pc, YX d p ↔ (p.f < p.o → p.t < d.length ∧ p.o ≤ tlen d p.t) := fun _ => Iff.rfl
 by_cases k0 : m.k = 0
 ·rw [if_pos k0] at h2 ⊢
  have h2 := of_decide_eq_true h2
  refine ⟨?_, e0⟩
  intro p hp
  simp only [Rw5.l, List.mem_cons, List.not_mem_nil, or_false] at hp
  rcases hp with rfl | rfl | rfl | rfl | rfl <;> refine (key _).2 ?_ <;> simp only [yr] <;> omega
 rw [if_neg k0] at h2 ⊢
 by_cases k1 : m.k = 1
 ·rw [if_pos k1] at h2 ⊢
  have h2 := of_decide_eq_true h2
  by_cases hab : m.a = m.b
  ·rw [if_pos hab, hab] at h2
   rw [if_neg (by simp [hab])]
   by_cases hij : m.i < m.j
   ·rw [if_pos hij]
    refine ⟨?_, e0⟩
    intro p hp
    simp only [Rw5.l, List.mem_cons, List.not_mem_nil, or_false] at hp
    rcases hp with rfl | rfl | rfl | rfl | rfl <;> refine (key _).2 ?_ <;> simp only [yr] <;> (try rw [hab]) <;> omega
   ·rw [if_neg hij]
    refine ⟨?_, e0⟩
    intro p hp
    simp only [Rw5.l, List.mem_cons, List.not_mem_nil, or_false] at hp
    rcases hp with rfl | rfl | rfl | rfl | rfl <;> refine (key _).2 ?_ <;> simp only [yr] <;> (try rw [hab]) <;> omega
  ·rw [if_neg hab] at h2
   rw [if_pos hab]
   constructor <;> intro p hp <;> simp only [Rw5.l, List.mem_cons, List.not_mem_nil, or_false] at hp <;> rcases hp with rfl | rfl | rfl | rfl | rfl <;> refine (key _).2 ?_ <;> simp only [yr] <;> omega
 rw [if_neg k1] at h2 ⊢
 by_cases k2 : m.k = 2
 ·rw [if_pos k2] at h2 ⊢
  have h2 := of_decide_eq_true h2
  by_cases hab : m.a = m.b
  ·rw [if_pos hab]
   rw [hab] at h2
   refine ⟨?_, e0⟩
   intro p hp
   simp only [Rw5.l, List.mem_cons, List.not_mem_nil, or_false] at hp
   rcases hp with rfl | rfl | rfl | rfl | rfl <;> refine (key _).2 ?_ <;> simp only [yr, hab] <;> omega
  ·rw [if_neg hab]
   constructor <;> intro p hp <;> simp only [Rw5.l, List.mem_cons, List.not_mem_nil, or_false] at hp <;> rcases hp with rfl | rfl | rfl | rfl | rfl <;> refine (key _).2 ?_ <;> simp only [yr] <;> omega
 rw [if_neg k2] at h2 ⊢
 have h2 := of_decide_eq_true h2
 constructor <;> intro p hp <;> simp only [Rw5.l, List.mem_cons, List.not_mem_nil, or_false] at hp <;> rcases hp with rfl | rfl | rfl | rfl | rfl <;> refine (key _).2 ?_ <;> simp only [yr] <;> omega
theorem VA {d : zi} {m : Mv} : m ∈ ux d → j8 d m = true ∧ m.i ≤ tlen d m.a ∧ m.j ≤ tlen d m.b := by
 unfold ux uv Zq uu vT uX
 intro h
 simp only [List.mem_flatMap, List.mem_range, List.mem_filterMap] at h
 obtain ⟨k, hk, a, ha, b, hb, i, hi, j, hj, h⟩ := h
 split at h
 ·rename_i hm
  cases h
  exact ⟨hm, by simp only; omega, by simp only; omega⟩
 ·cases h
def Z2 : Mv := ⟨0, 0, 0, 0, 0⟩
def xP (x : Inst) (d : zi) (r : Rw5) : Prop := Zp d r ≤ x.cap ∧ xq x d r ≤ x.len
instance (x : Inst) (d : zi) (r : Rw5) : Decidable (xP x d r) := by unfold xP; infer_instance
def Zr (x : Inst) (d : zi) (m : Mv) : Int := QZ x d m (z8 d m).1 (z8 d m).2
def Zs (x : Inst) (d : zi) (st : Mv × Int) (m : Mv) : Mv × Int := if Zr x d m < st.2 ∧ xP x d (z8 d m).1 ∧ xP x d (z8 d m).2 then (m, Zr x d m) else st
def xQ (x : Inst) (d : zi) : Mv × Int := (ux d).foldl (Zs x d) (Z2, 0)
theorem Zk2 (x : Inst) (d : zi) (hx : qH x) (hd' : MvDay d) : Pure Tryz.prog 106 [.agg (zA x), .agg [L d]] (.tup [.agg (vn (xQ x d).1), I (xQ x d).2, B (decide ((xQ x d).2 < 0))]) := by
 have hdn := hd'.n
 have hit := Zk1 d hdn hd'.t
 have hread := ZkT x d hx hd'
 have hfacts : ∀ m ∈ ux d, Pure Tryz.prog 146 [.agg [L d], .agg (vn m)] (.tup [.agg (yk (z8 d m).1), .agg (yk (z8 d m).2), B true]) ∧ Pure Tryz.prog 147 [.ip (wW x d), .agg (vn m), .agg (yk (z8 d m).1), .agg (yk (z8 d m).2)] (I (Zr x d m)) ∧
   Pure Tryz.prog 148 [.ip (wW x d), .agg (yk (z8 d m).1)] (B (decide (xP x d (z8 d m).1))) ∧ Pure Tryz.prog 148 [.ip (wW x d), .agg (yk (z8 d m).2)] (B (decide (xP x d (z8 d m).2))) := by
  intro m hm
  obtain ⟨h1, h2, h3⟩ := VA hm
  obtain ⟨hk, ha, hb, r1, r2⟩ := Z1 h1
  have hl : ∀ a, tlen d a ≤ 1000 := by
   intro a
   unfold tlen
   rw [List.getD_eq_getElem?_getD]
   cases hq : d[a]? with
   | none => simp
   | some l => exact hd'.t l (List.mem_of_getElem? hq)
  have hla := hl m.a
  have hlb := hl m.b
  have hlk := Vp d m (by omega) (fun t ht => Nat.le_trans (hd'.t t ht) (by decide)) hk ha hb (by omega) (by omega)
  unfold ut at hlk
  rw [if_pos h1] at hlk
  exact ⟨hlk, ZkY x d m _ _ hx hd' r1 r2 ha hb, Zdk x d _ hx hd' r1, Zdk x d _ hx hd' r2⟩
 unfold xQ
 generalize ux d = xs at *
 generalize wW x d = rd at *
 have hea := Zk0 d
 refine zx Tryz.func106 Tryz.ntmps106 Tryz.results106 fun S nx hd => ?_
 refine za (zb ?_)
 intro v0 v1 v2
 refine za (zb ?_)
 refine zz hread ?_
 intro v3
 refine za (zb ?_)
 intro v4 v5
 repeat apply za
 refine zb ?_
 refine zz hea ?_
 refine zj (YF (xs := xs.map Z0) (σ := Mv × Int) (fun i st => st = (xs.take i).foldl (Zs x d) (Z2, 0)) [(2, .ptr nx v0 0), (3, .ptr (nx + 1) v1 0), (4, .ptr (nx + 2) v2 0), (7, .ptr (nx + 3) v3 0), (8, .ptr (nx + 4) v4 0), (9, .ptr (nx + 5) v5 0)] (fun _ => S)
  (fun (b, least) => [.cells v0 25 (zA x), .cells v1 58 [L d], .cells v2 151 [I 0, I 0, I 0, I 0, I 0], .cells v3 187 [.ip rd], .cells v4 151 (vn b), .cells v5 3 [I least]]) (Z2, 0)
  hit rfl (by intro x hx; obtain ⟨y, _, rfl⟩ := List.mem_map.1 hx; rfl) (by decide) (by simp) (by simp) rfl (by simp [Z2]) (by simp [Z2]) ?_ ?_)
 ·rintro l i ⟨b, least⟩ more y hst hy
  simp only at hst ⊢
  rw [List.getElem?_map] at hy
  obtain ⟨m, hm, rfl⟩ := Option.map_eq_some_iff.1 hy
  have hsucc := Vj (f := Zs x d) (b := (Z2, 0)) hm
  rw [← hst] at hsucc
  obtain ⟨f1, f2, f3, f4⟩ := hfacts m (List.mem_of_getElem? hm)
  unfold Zs at hsucc
  simp only at hsucc
  generalize (z8 d m).1 = r1 at *
  generalize (z8 d m).2 = r2 at *
  generalize Zr x d m = by_ at *
  refine zb ?_
  intro v6
  refine zj (za (zb ?_))
  refine zz f1 ?_
  intro v7 v8
  refine za (zb ?_)
  refine zz f2 ?_
  by_cases hlt : by_ < least
  ·refine za (ze [(3, 37), (8, 42)] hlt ?_)
   refine jB [(3, 37), (8, 42)] f3 hlt ?_
   by_cases hf1 : xP x d r1
   ·rw [decide_eq_true hf1]
    refine jB [(3, 37), (8, 42)] f4 hlt ?_
    by_cases hf2 : xP x d r2
    ·rw [if_pos ⟨hlt, hf1, hf2⟩] at hsucc
     refine zo (by simp [hf2]) ?_
     refine zb ?_
     simp only [qX]
     exact xF (m, by_) [_, _, _] hsucc.symm rfl (by simp; exact ⟨rfl, rfl, rfl⟩)
    ·rw [if_neg fun e => hf2 e.2.2] at hsucc
     refine zn (by simp [hf2]) ?_
     refine zh ?_
     simp only [qX]
     exact xF (b, least) [_, _, _] hsucc.symm rfl (by simp; exact ⟨rfl, rfl, rfl⟩)
   ·rw [decide_eq_false hf1]
    rw [if_neg fun e => hf1 e.2.1] at hsucc
    refine zn rfl (zh ?_)
    simp only [qX]
    exact xF (b, least) [_, _, _] hsucc.symm rfl (by simp; exact ⟨rfl, rfl, rfl⟩)
  ·rw [if_neg fun e => hlt e.1] at hsucc
   refine za (ze [(3, 37), (8, 42)] (zm hlt zL) ?_)
   refine zn rfl (zh ?_)
   simp only [qX]
   exact xF (b, least) [_, _, _] hsucc.symm rfl (by simp; exact ⟨rfl, rfl, rfl⟩)
 ·rintro ⟨b, least⟩ hst
  rw [List.take_of_length_le (by simp)] at hst
  simp only at hst ⊢
  rw [← hst]
  refine za (zC (some [nx + 4, nx + 5]) (Row.pures [0, 1, 2, 3] (.alt 4 (Row.pures [5, 6] .done) .stop)) mixed trivial ?_)
  exact zg (zk hd (by simp; rfl) (by simp [zq]))
open Go Go.Proofs
def jH (d : zi) (m : Mv) (i : Nat) : zD := if i = m.a then yH d (z8 d m).1 else if i = m.b then yH d (z8 d m).2 else d.getD i []
def je (d : zi) (m : Mv) (i : Nat) : Option zD := if (jH d m i).length = 0 then none else some (jH d m i)
def x4 (d : zi) (m : Mv) : zi := (List.range d.length).filterMap (je d m)
theorem Zdl {d : zi} {r : Rw5} {k : Nat} (h : ∀ t ∈ d, t.length ≤ k) : (yH d r).length ≤ 5 * k := by
 have h1 := fun p => Zc6 (d := d) (p := p) h
 have a1 := h1 r.a
 have a2 := h1 r.b
 have a3 := h1 r.c
 have a4 := h1 r.d
 have a5 := h1 r.e
 unfold yH Rw5.l
 simp only [List.flatMap_cons, List.flatMap_nil, List.length_append, List.append_nil]
 omega
theorem Zk3 (x : Inst) (d : zi) (m : Mv) (hdn : d.length ≤ 1000) (hdt : ∀ t ∈ d, t.length ≤ 1000) (hm : j8 d m = true) (hi : m.i ≤ 1048576) (hj : m.j ≤ 1048576) : Pure Tryz.prog 107 [.agg (zA x), .agg [L d], .agg (vn m)] (.tup [.agg [L (x4 d m)], I 0]) := by
 obtain ⟨hk, ha, hb, r1, r2⟩ := Z1 hm
 have hlk := Vp d m (by omega) (fun t ht => Nat.le_trans (hdt t ht) (by decide)) hk ha hb hi hj
 unfold ut at hlk
 rw [if_pos hm] at hlk
 have g1 := Zc7 d _ (by omega) hdt r1
 have g2 := Zc7 d _ (by omega) hdt r2
 have n1 := Zdl (r := (z8 d m).1) hdt
 have n2 := Zdl (r := (z8 d m).2) hdt
 have hmk : ∀ i, jH d m i = if i = m.a then yH d (z8 d m).1 else if i = m.b then yH d (z8 d m).2 else d.getD i [] := fun _ => rfl
 generalize yH d (z8 d m).1 = t1 at *
 generalize yH d (z8 d m).2 = t2 at *
 generalize (z8 d m).1 = c1 at *
 generalize (z8 d m).2 = c2 at *
 have hme : x4 d m = (List.range d.length).filterMap (je d m) := rfl
 rw [hme]
 clear hme
 refine zx Tryz.func107 Tryz.ntmps107 Tryz.results107 fun S nx hd => ?_
 refine za (zb ?_)
 intro v0 v1 v2 v3
 refine za (zb ?_)
 refine zz hlk ?_
 intro v4 v5
 repeat apply za
 refine zb ?_
 refine zn rfl (zh (za (zb ?_)))
 intro v6
 refine qQ 6 0 72 1 rfl rfl fun v7 => ?_
 repeat apply za
 refine zb ?_
 refine zj (zG (fun s' : Nat × Nat => s'.1 ≤ d.length) (fun (k, v7) => [(4, .ptr (nx + 1) v1 0), (5, .ptr (nx + 2) v2 0), (6, .ptr (nx + 3) v3 0), (8, .ptr (nx + 4) v4 0), (9, .ptr (nx + 5) v5 0), (11, .ptr (nx + 6) v6 0), (26, L d), (27, I d.length), (28, I k)])
  (fun (k, v7) => [.cells v0 25 (zA x), .cells v1 58 [L d], .cells v2 151 (vn m), .cells v3 58 [yG], .cells v4 195 (yk c1), .cells v5 195 (yk c2), .cells v6 58 [.sl (nx + 7) v7 1 0 ((List.range k).filterMap (je d m)).length], .cells v7 72 (((List.range k).filterMap (je d m)).flatMap Enc.enc)]) (fun s' => d.length - s'.1) (0, v7) [] (by simp) (by simp) (by simp) ?_)
 rintro ⟨k, v7⟩ hk0
 simp only at hk0 ⊢
 refine za (zb ?_)
 refine za (zr rfl (fun hc => ?_) (fun hc => ?_))
 ·simp at hc
  obtain ⟨t, tl, a1, a2, a3, e0⟩ := zE rfl d k hc
  have hk1 : 1 ≤ d.length - k := by omega
  have htl := hdt t (List.mem_of_getElem? a1)
  have hcl := Xg t (by omega)
  have hgk : d.getD k [] = t := by rw [List.getD_eq_getElem?_getD, a1]; rfl
  have hmkk := hmk k
  have hlen : ((List.range k).filterMap (je d m)).length ≤ k := by have := List.length_filterMap_le (je d m) (List.range k); simpa using this
  have hnext : (List.range (k + 1)).filterMap (je d m) = (List.range k).filterMap (je d m) ++ (je d m k).toList := by
   rw [List.range_succ, List.filterMap_append]
   simp only [List.filterMap_cons, List.filterMap_nil]
   cases je d m k <;> rfl
  have hT1 : je d m k = if (jH d m k).length = 0 then none else some (jH d m k) := rfl
  rw [hgk] at hmkk
  have hTl : (jH d m k).length ≤ 5000 := by rw [hmkk]; (repeat' split) <;> omega
  have hof : (((List.range k).filterMap (je d m)).flatMap Enc.enc : List PV).length = ((List.range k).filterMap (je d m)).length := jp _
  generalize (List.range k).filterMap (je d m) = out at *
  have hot : (out.flatMap Enc.enc : List PV).take out.length = out.flatMap Enc.enc := List.take_of_length_le (by omega)
  have wk := zt k (by omega)
  refine zh (za (zj (za (ze [] (zF e0 hc hk1) ?_))))
  intro v8
  refine za (zb ?_)
  refine zz hcl ?_
  repeat apply za
  refine zb ?_
  refine qh (nx := nx) (fun _ : Unit => True) (fun _ => [(4, .ptr (nx + 1) v1 0), (5, .ptr (nx + 2) v2 0), (6, .ptr (nx + 3) v3 0), (8, .ptr (nx + 4) v4 0), (9, .ptr (nx + 5) v5 0), (11, .ptr (nx + 6) v6 0), (14, L (jH d m k)), (26, L d), (27, I d.length), (28, I k)]) (fun _ => S)
   (fun _ => [.cells v0 25 (zA x), .cells v1 58 [L d], .cells v2 151 (vn m), .cells v3 58 [yG], .cells v4 195 (yk c1), .cells v5 195 (yk c2), .cells v6 58 [.sl (nx + 7) v7 1 0 out.length], .cells v7 72 (out.flatMap Enc.enc), .cells v8 72 [L t]]) ?_ ?_
  ·refine zj ?_
   by_cases h1 : k = m.a
   ·rw [if_pos h1] at hmkk
    have h1' : (k : Int) = m.a := by omega
    rw [hmkk]
    refine za (zb ?_)
    refine zo (by simp; omega) ?_
    refine zb ?_
    refine zz g1 ?_
    simp only [qX]
    exact zP () [] trivial (by simp) rfl (by simp)
   ·rw [if_neg h1] at hmkk
    have h1' : ¬ (k : Int) = m.a := by omega
    refine za (zb ?_)
    refine zn (by simp; omega) ?_
    by_cases h2 : k = m.b
    ·rw [if_pos h2] at hmkk
     have h2' : (k : Int) = m.b := by omega
     rw [hmkk]
     refine za (zb ?_)
     refine zo (by simp; omega) ?_
     refine zb ?_
     refine zz g2 ?_
     simp only [qX]
     exact zP () [] trivial (by simp) rfl (by simp)
    ·rw [if_neg h2] at hmkk
     have h2' : ¬ (k : Int) = m.b := by omega
     rw [hmkk]
     refine za (zb ?_)
     refine zn (by simp; omega) ?_
     refine zh ?_
     simp only [qX]
     exact zP () [] trivial (by simp) rfl (by simp)
  ·rintro ⟨⟩ -
   generalize jH d m k = tt at *
   clear hmkk hcl e0
   by_cases h0 : tt.length = 0
   ·have e : (je d m k).toList = [] := by rw [hT1, if_pos h0]; rfl
    have h0' : ¬ 0 < tt.length := by omega
    refine za (ze [] h0' ?_)
    refine zn (by simp [h0']) ?_
    refine zh (zb ?_)
    exact zp (k + 1, v7) [_] (by simp; omega) (by simp; omega) (by simp [wk, hnext, e]) rfl (by simp [hnext, e]; rfl)
   ·have e : (je d m k).toList = [tt] := by rw [hT1, if_neg h0]; rfl
    have h0' : 0 < tt.length := by omega
    refine za (ze [] h0' ?_)
    refine zo (by simp [h0']) ?_
    refine ze [] (zm hof hot) ?_
    refine ⟨by omega, ?_⟩
    refine zb ?_
    exact zp (k + 1, v7 + 1) [_] (by simp; omega) (by simp; omega) (by simp [wk, hnext, e]) rfl (by simp [hnext, e]; rfl)
 ·simp at hc
  obtain rfl : k = d.length := by omega
  refine zy (yc 7 rfl ?_)
  refine za (zb ?_)
  exact zg (zk hd (by simp; rfl) (by simp [zq]))
open Go Go.Proofs
def Z3 (d : zi) (s : Stop) (t k : Nat) : Nat := ((d.getD t []).take k).count s
theorem VB (d : zi) (s : Stop) (t : Nat) : Z3 d s t 0 = 0 := by simp [Z3]
theorem Zdm (d : zi) (s : Stop) (t : Nat) : Z3 d s t (tlen d t) = (d.getD t []).count s := by unfold Z3 tlen; rw [List.take_length]
theorem Zk4 (d : zi) (s : Stop) (p : Pc) : p.f ≤ p.o → (qe d p).count s + Z3 d s p.t p.f = Z3 d s p.t p.o := by
 intro h
 unfold qe Z3
 generalize d.getD p.t [] = u
 by_cases hf : p.f < p.o
 ·rw [if_pos hf, show p.o = p.f + (p.o - p.f) by omega, List.take_add, List.count_append, show p.f + (p.o - p.f) - p.f = p.o - p.f by omega]
  cases p.b
  ·rw [cond_false]; omega
  ·rw [cond_true, List.count_reverse]; omega
 ·rw [if_neg hf, show p.o = p.f by omega]; simp
theorem Zdn (d : zi) (s : Stop) (r : Rw5) : (yH d r).count s = (qe d r.a).count s + (qe d r.b).count s + (qe d r.c).count s + (qe d r.d).count s + (qe d r.e).count s := by
 unfold yH Rw5.l
 simp only [List.flatMap_cons, List.flatMap_nil, List.count_append, List.append_nil]
 omega
theorem Zk5 {d : zi} {m : Mv} (h : j8 d m = true) (s : Stop) : (yH d (z8 d m).1).count s + (if m.a = m.b then 0 else (yH d (z8 d m).2).count s) = (d.getD m.a []).count s + (if m.a = m.b then 0 else (d.getD m.b []).count s) := by
 unfold j8 at h
 rw [Bool.and_eq_true] at h
 obtain ⟨-, h2⟩ := h
 unfold xZ at h2
 unfold z8 jG
 have e0 := VB d s
 have ea := VB d s m.a
 have eb := VB d s m.b
 have la := Zdm d s m.a
 have lb := Zdm d s m.b
 have key := Zk4 d s
 rw [Zdn, Zdn]
 by_cases k0 : m.k = 0
 ·rw [if_pos k0] at h2 ⊢
  have h2 := of_decide_eq_true h2
  rw [if_pos h2.1.symm, if_pos h2.1.symm]
  have q1 := key ⟨m.a, 0, m.i, false⟩
  have q2 := key ⟨m.a, m.i, m.j + 1, true⟩
  have q3 := key ⟨m.a, m.j + 1, tlen d m.a, false⟩
  have q0 := key yr
  simp only [yr] at q1 q2 q3 q0 ⊢
  omega
 rw [if_neg k0] at h2 ⊢
 by_cases k1 : m.k = 1
 ·rw [if_pos k1] at h2 ⊢
  have h2 := of_decide_eq_true h2
  by_cases hab : m.a = m.b
  ·rw [if_pos hab] at h2
   rw [if_pos hab, if_pos hab, if_neg (by simp [hab])]
   rw [← hab] at h2
   by_cases hij : m.i < m.j
   ·rw [if_pos hij]
    have q1 := key ⟨m.a, 0, m.i, false⟩
    have q2 := key ⟨m.a, m.i + 1, m.j + 1, false⟩
    have q3 := key ⟨m.a, m.i, m.i + 1, false⟩
    have q4 := key ⟨m.a, m.j + 1, tlen d m.a, false⟩
    have q0 := key yr
    simp only [yr] at q1 q2 q3 q4 q0 ⊢
    omega
   ·rw [if_neg hij]
    have q1 := key ⟨m.a, 0, m.j, false⟩
    have q2 := key ⟨m.a, m.i, m.i + 1, false⟩
    have q3 := key ⟨m.a, m.j, m.i, false⟩
    have q4 := key ⟨m.a, m.i + 1, tlen d m.a, false⟩
    have q0 := key yr
    simp only [yr] at q1 q2 q3 q4 q0 ⊢
    omega
  ·rw [if_neg hab] at h2
   rw [if_neg hab, if_neg hab, if_pos hab]
   have q1 := key ⟨m.a, 0, m.i, false⟩
   have q2 := key ⟨m.a, m.i + 1, tlen d m.a, false⟩
   have q3 := key ⟨m.b, 0, m.j, false⟩
   have q4 := key ⟨m.a, m.i, m.i + 1, false⟩
   have q5 := key ⟨m.b, m.j, tlen d m.b, false⟩
   have q0 := key yr
   simp only [yr] at q1 q2 q3 q4 q5 q0 ⊢
   omega
 rw [if_neg k1] at h2 ⊢
 by_cases k2 : m.k = 2
 ·rw [if_pos k2] at h2 ⊢
  have h2 := of_decide_eq_true h2
  by_cases hab : m.a = m.b
  ·rw [if_pos hab, if_pos hab, if_pos hab]
   rw [← hab] at h2 ⊢
   have q1 := key ⟨m.a, 0, m.i, false⟩
   have q2 := key ⟨m.a, m.j, m.j + 1, false⟩
   have q3 := key ⟨m.a, m.i + 1, m.j, false⟩
   have q4 := key ⟨m.a, m.i, m.i + 1, false⟩
   have q5 := key ⟨m.a, m.j + 1, tlen d m.a, false⟩
   simp only at q1 q2 q3 q4 q5 ⊢
   omega
  ·rw [if_neg hab, if_neg hab, if_neg hab]
   have q1 := key ⟨m.a, 0, m.i, false⟩
   have q2 := key ⟨m.b, m.j, m.j + 1, false⟩
   have q3 := key ⟨m.a, m.i + 1, tlen d m.a, false⟩
   have q4 := key ⟨m.b, 0, m.j, false⟩
   have q5 := key ⟨m.a, m.i, m.i + 1, false⟩
   have q6 := key ⟨m.b, m.j + 1, tlen d m.b, false⟩
   have q0 := key yr
   simp only [yr] at q1 q2 q3 q4 q5 q6 q0 ⊢
   omega
 rw [if_neg k2] at h2 ⊢
 have h2 := of_decide_eq_true h2
 rw [if_neg (by omega), if_neg (by omega)]
 have q1 := key ⟨m.a, 0, m.i, false⟩
 have q2 := key ⟨m.b, m.j, tlen d m.b, false⟩
 have q3 := key ⟨m.b, 0, m.j, false⟩
 have q4 := key ⟨m.a, m.i, tlen d m.a, false⟩
 have q0 := key yr
 simp only [yr] at q1 q2 q3 q4 q0 ⊢
 omega
theorem VC {d : zi} {i : Nat} {u : zD} (t : zD) (h : d[i]? = some u) (s : Stop) : (d.set i t).flatten.count s + u.count s = t.count s + d.flatten.count s := by
 obtain ⟨hi, rfl⟩ := List.getElem?_eq_some_iff.1 h
 have e : d = d.take i ++ d[i] :: d.drop (i + 1) := by rw [← List.drop_eq_getElem_cons hi, List.take_append_drop]
 rw [List.set_eq_take_append_cons_drop, if_pos hi]
 conv => rhs; rw [e]
 simp only [List.flatten_append, List.flatten_cons, List.count_append]
 omega
theorem VD {d : zi} {i : Nat} {u : zD} (t : zD) (h : d[i]? = some u) (x : Inst) : zM x (d.set i t) + zX x (u.map (·.c)) = zX x (t.map (·.c)) + zM x d := by
 obtain ⟨hi, rfl⟩ := List.getElem?_eq_some_iff.1 h
 have e : d = d.take i ++ d[i] :: d.drop (i + 1) := by rw [← List.drop_eq_getElem_cons hi, List.take_append_drop]
 unfold zM
 rw [List.set_eq_take_append_cons_drop, if_pos hi]
 conv => rhs; rw [e]
 simp only [List.map_append, List.map_cons, List.sum_append, List.sum_cons]
 omega
theorem Zdo (d : zi) (m : Mv) : (List.range d.length).map (jH d m) = (d.set m.b (yH d (z8 d m).2)).set m.a (yH d (z8 d m).1) := by
 refine List.ext_getElem? fun i => ?_
 by_cases hi : i < d.length
 ·rw [List.getElem?_map, List.getElem?_range hi]
  simp only [Option.map_some, jH, List.getElem?_set, List.length_set]
  by_cases h1 : i = m.a
  ·rw [if_pos h1, if_pos h1.symm, if_pos (by omega)]
  ·rw [if_neg h1, if_neg (fun e : m.a = i => h1 e.symm)]
   by_cases h2 : i = m.b
   ·rw [if_pos h2, if_pos h2.symm, if_pos (by omega)]
   ·rw [if_neg h2, if_neg (fun e : m.b = i => h2 e.symm), List.getD_eq_getElem?_getD, List.getElem?_eq_getElem hi]; rfl
 ·rw [List.getElem?_eq_none (by simp; omega), List.getElem?_eq_none (by simp; omega)]
theorem VE (d : zi) (m : Mv) : ∀ l : List Nat, (l.filterMap (je d m)).flatten = (l.map (jH d m)).flatten ∧ ∀ x, zM x (l.filterMap (je d m)) = zM x (l.map (jH d m))
 | [] => ⟨rfl, fun _ => rfl⟩
 | i :: l => by
  obtain ⟨h1, h2⟩ := VE d m l
  have e : je d m i = if (jH d m i).length = 0 then none else some (jH d m i) := rfl
  rw [List.filterMap_cons, e, List.map_cons]
  by_cases h : (jH d m i).length = 0
  ·rw [if_pos h, List.length_eq_zero_iff.1 h]
   refine ⟨by simpa using h1, fun x => ?_⟩
   have := h2 x
   unfold zM at this ⊢
   simpa [zX] using this
  ·rw [if_neg h]
   refine ⟨by simpa using h1, fun x => ?_⟩
   have := h2 x
   unfold zM at this ⊢
   simpa using this
theorem Zk6 {d : zi} {m : Mv} {t : zD} (h : t ∈ x4 d m) : t ≠ [] ∧ (t = yH d (z8 d m).1 ∨ t = yH d (z8 d m).2 ∨ t ∈ d) := by
 unfold x4 at h
 obtain ⟨i, hi, h⟩ := List.mem_filterMap.1 h
 unfold je at h
 split at h
 ·cases h
 ·rename_i h0
  cases h
  refine ⟨fun e => h0 (by rw [e]; rfl), ?_⟩
  unfold jH
  split
  ·exact .inl rfl
  ·split
   ·exact .inr (.inl rfl)
   ·refine .inr (.inr ?_)
    have hi := List.mem_range.1 hi
    rw [List.getD_eq_getElem?_getD, List.getElem?_eq_getElem hi]
    exact List.getElem_mem hi
theorem Zk7 (d : zi) (m : Mv) : (x4 d m).length ≤ d.length := by
 have := List.length_filterMap_le (je d m) (List.range d.length)
 simpa [x4] using this
theorem Zdp {d : zi} {m : Mv} (h : j8 d m = true) : (x4 d m).flatten.Perm d.flatten := by
 obtain ⟨-, ha, hb, -, -⟩ := Z1 h
 refine List.perm_iff_count.2 fun s => ?_
 have hc := Zk5 h s
 unfold x4
 rw [(VE d m _).1, Zdo]
 obtain ⟨ua, hua⟩ : ∃ u, d[m.a]? = some u := ⟨_, List.getElem?_eq_getElem ha⟩
 obtain ⟨ub, hub⟩ : ∃ u, d[m.b]? = some u := ⟨_, List.getElem?_eq_getElem hb⟩
 have ga : d.getD m.a [] = ua := by rw [List.getD_eq_getElem?_getD, hua]; rfl
 have gb : d.getD m.b [] = ub := by rw [List.getD_eq_getElem?_getD, hub]; rfl
 rw [ga, gb] at hc
 generalize yH d (z8 d m).1 = t1 at *
 generalize yH d (z8 d m).2 = t2 at *
 by_cases hab : m.a = m.b
 ·rw [if_pos hab, if_pos hab] at hc
  rw [← hab, List.set_set]
  have := VC t1 hua s
  omega
 ·rw [if_neg hab, if_neg hab] at hc
  have h1 := VC t2 hub s
  have h2 := VC (d := d.set m.b t2) (i := m.a) (u := ua) t1 (by rw [List.getElem?_set_ne (fun e => hab e.symm)]; exact hua) s
  omega
theorem Zk8 {x : Inst} {d : zi} {m : Mv} (h : j8 d m = true) (h0 : arc x 0 0 = 0) : zM x (x4 d m) = zM x d + Zr x d m := by
 obtain ⟨-, ha, hb, r1, r2⟩ := Z1 h
 unfold x4 Zr QZ
 rw [(VE d m _).2, Zdo, Vy r1 h0, Vy r2 h0]
 obtain ⟨ua, hua⟩ : ∃ u, d[m.a]? = some u := ⟨_, List.getElem?_eq_getElem ha⟩
 obtain ⟨ub, hub⟩ : ∃ u, d[m.b]? = some u := ⟨_, List.getElem?_eq_getElem hb⟩
 have ga : d.getD m.a [] = ua := by rw [List.getD_eq_getElem?_getD, hua]; rfl
 have gb : d.getD m.b [] = ub := by rw [List.getD_eq_getElem?_getD, hub]; rfl
 rw [ga, gb]
 generalize yH d (z8 d m).1 = t1 at *
 generalize yH d (z8 d m).2 = t2 at *
 by_cases hab : m.a = m.b
 ·rw [if_pos hab, ← hab, List.set_set]
  have := VD t1 hua x
  omega
 ·rw [if_neg hab]
  have h1 := VD t2 hub x
  have h2 := VD (d := d.set m.b t2) (i := m.a) (u := ua) t1 (by rw [List.getElem?_set_ne (fun e => hab e.symm)]; exact hua) x
  omega
open Go Go.Proofs Hp
theorem VF (x : Inst) : ∀ (ds : List zi) (st : zi × Int × Bool), (ds.foldl (jE x) st).2.2 = true → ds.foldl (jE x) st = st ∨ (∃ d ∈ ds, yq x d = 0 ∧ ds.foldl (jE x) st = (d, W (zM x d), true))
 | [], st, _ => .inl rfl
 | d :: ds, st, h => by
  rw [List.foldl_cons] at h ⊢
  rcases VF x ds _ h with e | ⟨d2, h1, h2, h3⟩
  ·rw [e]
   unfold jE
   split
   ·rename_i h0
    split
    ·exact .inr ⟨d, by simp, h0, rfl⟩
    ·exact .inl rfl
   ·exact .inl rfl
  ·exact .inr ⟨d2, by simp [h1], h2, h3⟩
theorem Zdq {x : Inst} {e : Int} {ds : List zi} (h : (j6 x e ds).2 = 0) : e = 0 ∧ (j6 x e ds).1 ∈ ds ∧ yq x (j6 x e ds).1 = 0 := by
 unfold j6 at h ⊢
 by_cases he : e = 0
 ·rw [if_pos he] at h ⊢
  cases hz : (wR x ds).2.2 with
  | false => rw [hz] at h; cases h
  | true =>
   refine ⟨he, ?_⟩
   rcases VF x ds ([], 0, false) hz with q | ⟨d, h1, h2, h3⟩
   ·have : (wR x ds).2.2 = false := by unfold wR; rw [q]
    rw [this] at hz; cases hz
   ·have : wR x ds = (d, W (zM x d), true) := h3
    rw [this]; exact ⟨h1, h2⟩
 ·rw [if_neg he] at h; exact absurd h he
theorem Zdr (x : Inst) : qH (zO x) := by
 refine ZcZ fun row hr d hd => ?_
 simp only [zO, List.mem_map] at hr
 obtain ⟨a, _, rfl⟩ := hr
 unfold xi at hd
 obtain ⟨b, _, rfl⟩ := List.mem_map.1 hd
 split
 ·have := qG (arc x a b) 0 60 (by omega); omega
 ·omega
theorem Zk9 (x : Inst) : 0 ≤ (zO x).veh := (qG x.veh 0 5 (by omega)).1
open Go Go.Proofs
structure SG (x : Inst) (l : List Stop) (d : zi) : Prop where
 may : ∀ t ∈ d, zJ x t = 0
 perm : d.flatten.Perm l
def Zds (x : Inst) (t : zD) : Prop := (∀ s ∈ t, q9 x s = true) ∧ (t.map (·.c)).Nodup ∧ t.length ≤ 1000
theorem VG {x : Inst} {t : zD} (h : zJ x t = 0) : (∀ s ∈ t, q9 x s = true) ∧ t ≠ [] := by
 have := ((ZX x t).1 h).1
 unfold qn at this
 rw [Bool.and_eq_true, List.all_eq_true] at this
 refine ⟨this.1, fun e => ?_⟩
 subst e
 simp at this
theorem VH {x : Inst} : ∀ t : zD, (∀ s ∈ t, q9 x s = true) → 0 ≤ zK t ∧ zK t ≤ 2147483648 * (t.length : Int)
 | [], _ => by simp [zK]
 | s :: t, h => by
  have h1 := VH t fun s hs => h s (by simp [hs])
  have h2 := h s (by simp)
  simp [q9] at h2
  unfold zK at h1 ⊢
  simp only [List.map_cons, List.sum_cons, List.length_cons]
  omega
theorem Q0 {x : Inst} (hx : qH x) {t : zD} (h : Zds x t) (hn : t ≠ []) : zJ x t = 0 ↔ zK t ≤ x.cap ∧ zX x (t.map (·.c)) ≤ x.len := by
 obtain ⟨h1, h2, h3⟩ := h
 have b1 := VH t h1
 have b2 := YS hx (t.map (·.c))
 rw [List.length_map] at b2
 have w1 : W (zK t) = zK t := wr _ (by omega) (by omega)
 have w2 : W (zX x (t.map (·.c))) = zX x (t.map (·.c)) := wr _ (by omega) (by omega)
 rw [ZX, w1, w2]
 have : qn x t = true := by
  unfold qn
  rw [Bool.and_eq_true, List.all_eq_true]
  exact ⟨h1, by cases t <;> simp at hn ⊢⟩
 exact ⟨fun e => e.2.2, fun e => ⟨this, h2, e⟩⟩
theorem SG.each {x : Inst} {l : List Stop} {d : zi} (g : SG x l d) : ∀ s ∈ l, q9 x s = true := by
 intro s hs
 obtain ⟨t, ht, hst⟩ := List.mem_flatten.1 (g.perm.symm.subset hs)
 exact (VG (g.may t ht)).1 s hst
section
variable {x : Inst} {l : List Stop} (h : SOk x l)
include h
theorem SG.len {d : zi} (g : SG x l d) : d.flatten.length ≤ 1000 ∧ d.length ≤ 1000 := by
 have h1 := QR d fun t ht => (VG (g.may t ht)).2
 have h2 := g.perm.length_eq
 have h3 := h.len
 omega
theorem SG.tour {d : zi} (g : SG x l d) {e : zi} (he : e.flatten.Perm l) {t : zD} (ht : t ∈ e) : Zds x t := by
 have hs := vN ht
 have hl := h.len
 refine ⟨fun s q => g.each s (he.subset (hs.subset q)), ?_, ?_⟩
 ·exact ((he.map _).nodup_iff.2 h.nd).sublist (hs.map _)
 ·have := hs.length_le
  have := he.length_eq
  omega
theorem SG.mv {d : zi} (g : SG x l d) : MvDay d := by
 refine ⟨(g.len h).2, fun t ht => (g.tour h g.perm ht).2.2, fun t ht s hs => ?_⟩
 have := (g.tour h g.perm ht).1 s hs
 have hc := h.cust
 simp [q9] at this
 unfold small
 omega
theorem SG.ok {d : zi} (g : SG x l d) : DayOk d := by
 have h1 := g.len h
 have h2 := g.mv h
 exact ⟨by omega, fun t ht => Nat.le_trans (h2.t t ht) (by decide), fun t ht s hs => (h2.s t ht s hs).1⟩
end
theorem Zdt {x : Inst} {d : zi} {r : Rw5} (hr : wV d r) (h0 : arc x 0 0 = 0) : xP x d r ↔ zK (yH d r) ≤ x.cap ∧ zX x ((yH d r).map (·.c)) ≤ x.len := by
 unfold xP
 rw [Vy hr h0, ZkW hr]
theorem Zla {d : zi} {m : Mv} (h : j8 d m = true) (hab : m.a = m.b) : yH d (z8 d m).2 = [] := by
 have e0 : yH d jF = [] := rfl
 unfold j8 at h
 rw [Bool.and_eq_true] at h
 obtain ⟨-, h2⟩ := h
 unfold xZ at h2
 unfold z8 jG
 by_cases k0 : m.k = 0
 ·rw [if_pos k0]; exact e0
 rw [if_neg k0] at h2 ⊢
 by_cases k1 : m.k = 1
 ·rw [if_pos k1, if_neg (by simp [hab])]
  split <;> exact e0
 rw [if_neg k1] at h2 ⊢
 by_cases k2 : m.k = 2
 ·rw [if_pos k2, if_pos hab]; exact e0
 rw [if_neg k2] at h2
 have h2 := of_decide_eq_true h2
 omega
theorem Zlb {d : zi} {m : Mv} (h : j8 d m = true) (hn : yH d (z8 d m).1 ≠ []) : yH d (z8 d m).1 ∈ x4 d m := by
 obtain ⟨-, ha, -⟩ := Z1 h
 refine List.mem_filterMap.2 ⟨m.a, List.mem_range.2 ha, ?_⟩
 have e : jH d m m.a = yH d (z8 d m).1 := by unfold jH; rw [if_pos rfl]
 unfold je
 rw [e, if_neg fun q => hn (List.length_eq_zero_iff.1 q)]
theorem Zlc {d : zi} {m : Mv} (h : j8 d m = true) (hab : m.a ≠ m.b) (hn : yH d (z8 d m).2 ≠ []) : yH d (z8 d m).2 ∈ x4 d m := by
 obtain ⟨-, -, hb, -⟩ := Z1 h
 refine List.mem_filterMap.2 ⟨m.b, List.mem_range.2 hb, ?_⟩
 have e : jH d m m.b = yH d (z8 d m).2 := by unfold jH; rw [if_neg fun q => hab q.symm, if_pos rfl]
 unfold je
 rw [e, if_neg fun q => hn (List.length_eq_zero_iff.1 q)]
theorem Zld {x : Inst} {l : List Stop} (h : SOk x l) (h0 : arc x 0 0 = 0) {d : zi} (g : SG x l d) {m : Mv} (hm : j8 d m = true) : (xP x d (z8 d m).1 ∧ xP x d (z8 d m).2) ↔ ∀ t ∈ x4 d m, zJ x t = 0 := by
 obtain ⟨-, ha, hb, r1, r2⟩ := Z1 hm
 have hp : (x4 d m).flatten.Perm l := (Zdp hm).trans g.perm
 rw [Zdt r1 h0, Zdt r2 h0]
 have hz : 0 ≤ x.cap ∧ 0 ≤ x.len := by
  have ht := g.may _ (List.getElem_mem ha)
  have hg := g.tour h g.perm (List.getElem_mem ha)
  have := (Q0 h.arc hg (VG ht).2).1 ht
  have b1 := VH _ hg.1
  have b2 := YS h.arc (d[m.a].map (·.c))
  omega
 have e0 : zK [] = 0 ∧ zX x (([] : zD).map (·.c)) = 0 := ⟨rfl, rfl⟩
 constructor
 ·rintro ⟨q1, q2⟩ t ht
  obtain ⟨hn, h3⟩ := Zk6 ht
  have hg := g.tour h hp ht
  rcases h3 with rfl | rfl | h3
  ·exact (Q0 h.arc hg hn).2 q1
  ·exact (Q0 h.arc hg hn).2 q2
  ·exact g.may t h3
 ·intro hall
  constructor
  ·by_cases hn : yH d (z8 d m).1 = []
   ·rw [hn, e0.1, e0.2]; exact hz
   ·have ht := Zlb hm hn
    exact (Q0 h.arc (g.tour h hp ht) hn).1 (hall _ ht)
  ·by_cases hn : yH d (z8 d m).2 = []
   ·rw [hn, e0.1, e0.2]; exact hz
   ·by_cases hab : m.a = m.b
    ·exact absurd (Zla hm hab) hn
    ·have ht := Zlc hm hab hn
     exact (Q0 h.arc (g.tour h hp ht) hn).1 (hall _ ht)
theorem Zdu (x : Inst) (d : zi) : ∀ (ms : List Mv) (st : Mv × Int), (ms.foldl (Zs x d) st = st) ∨ (∃ m ∈ ms, (ms.foldl (Zs x d) st) = (m, Zr x d m) ∧ xP x d (z8 d m).1 ∧ xP x d (z8 d m).2)
 | [], st => .inl rfl
 | m :: ms, st => by
  rw [List.foldl_cons]
  rcases Zdu x d ms (Zs x d st m) with e | ⟨m2, h1, h2, h3⟩
  ·rw [e]
   unfold Zs
   split
   ·rename_i hc
    exact .inr ⟨m, by simp, rfl, hc.2⟩
   ·exact .inl rfl
  ·exact .inr ⟨m2, by simp [h1], h2, h3⟩
def wD (x : Inst) (d : zi) : Option zi := if (xQ x d).2 < 0 then some (x4 d (xQ x d).1) else none
theorem Zdv {x : Inst} {d : zi} (hb : (xQ x d).2 < 0) : (xQ x d).1 ∈ ux d ∧ Zr x d (xQ x d).1 < 0 ∧ xP x d (z8 d (xQ x d).1).1 ∧ xP x d (z8 d (xQ x d).1).2 := by
 rcases Zdu x d (ux d) (Z2, 0) with e | ⟨m, h1, h2, h3⟩
 ·unfold xQ at hb; rw [e] at hb; cases hb
 ·unfold xQ at hb ⊢
  rw [h2] at hb ⊢
  exact ⟨h1, hb, h3⟩
theorem Zdw {x : Inst} {l : List Stop} (h : SOk x l) (h0 : arc x 0 0 = 0) {d e : zi} (g : SG x l d) (hs : wD x d = some e) : SG x l e ∧ zM x e < zM x d ∧ e.length ≤ d.length := by
 unfold wD at hs
 split at hs
 ·rename_i hb
  cases hs
  obtain ⟨h1, h2, h3⟩ := Zdv hb
  have hm := (VA h1).1
  refine ⟨⟨(Zld h h0 g hm).1 h3, (Zdp hm).trans g.perm⟩, ?_, Zk7 _ _⟩
  rw [Zk8 hm h0]; omega
 ·cases hs
theorem Zdx {x : Inst} {l : List Stop} (h : SOk x l) (h0 : arc x 0 0 = 0) : Zc2 x (wD x) (SG x l) := by
 intro d g
 have hv := g.mv h
 have hl : ∀ a, tlen d a ≤ 1000 := by
  intro a
  unfold tlen
  rw [List.getD_eq_getElem?_getD]
  cases hq : d[a]? with
  | none => simp
  | some l => exact hv.t l (List.mem_of_getElem? hq)
 have hd1 : (wD x d).isSome = decide ((xQ x d).2 < 0) := by
  unfold wD
  split
  ·rename_i q; simp [q]
  ·rename_i q; simp [q]
 refine ⟨_, _, _, _, _, _, by rw [hd1]; exact Zk2 x d h.arc hv, fun e he => ⟨?_, (Zdw h h0 g he).1⟩⟩
 unfold wD at he
 split at he
 ·rename_i hb
  cases he
  obtain ⟨h1, -, -⟩ := Zdv hb
  obtain ⟨h1, h2, h3⟩ := VA h1
  have := hl (xQ x d).1.a
  have := hl (xQ x d).1.b
  exact Zk3 x d _ hv.n hv.t h1 (by omega) (by omega)
 ·cases he
theorem Xu {x : Inst} {l : List Stop} (h : SOk x l) (h0 : arc x 0 0 = 0) : ∀ (n : Nat) (d : zi), SG x l d → SG x l (xM (wD x) n d) ∧ zM x (xM (wD x) n d) ≤ zM x d ∧ (xM (wD x) n d).length ≤ d.length
 | 0, d, g => ⟨g, Int.le_refl _, Nat.le_refl _⟩
 | n + 1, d, g => by
  unfold xM
  cases hs : wD x d with
  | none => exact ⟨g, Int.le_refl _, Nat.le_refl _⟩
  | some e =>
   obtain ⟨a, b, c⟩ := Zdw h h0 g hs
   obtain ⟨a', b', c'⟩ := Xu h h0 n e a
   exact ⟨a', by simp only; omega, by simp only; omega⟩
open Go Go.Proofs Hp
theorem Zdy (x : Inst) : arc (zO x) 0 0 = 0 := by
 have h1 : (zO x).dist[0]? = some (xi x (x.cust.take 6).length 0) := by
  unfold zO
  rw [List.getElem?_map, List.getElem?_range (by omega)]; rfl
 have h2 : (xi x (x.cust.take 6).length 0)[0]? = some 0 := by
  unfold xi
  rw [List.getElem?_map, List.getElem?_range (by omega)]; rfl
 unfold arc
 split
 ·rfl
 ·rw [List.getD_eq_getElem?_getD, List.getD_eq_getElem?_getD]
  show (((zO x).dist[0]?).getD [])[0]?.getD 0 = 0
  rw [h1]
  show ((xi x (x.cust.take 6).length 0)[0]?).getD 0 = 0
  rw [h2]; rfl
theorem Zdz {x : Inst} {l : List Stop} (h : jD x l = 0) : ∀ s ∈ l, zJ x [s] = 0 := by
 unfold jD at h
 intro s hs
 cases hf : l.find? (fun s => zJ x [s] != 0) with
 | some s2 =>
  have := List.find?_some hf
  rw [hf] at h
  simp only at h
  rw [h] at this; simp at this
 | none =>
  have := List.find?_eq_none.1 hf s hs
  simpa using this
theorem Zle {x : Inst} {l : List Stop} (h : SOk x l) (hf : jD x l = 0) : ∀ t ∈ xJ x l, zJ x t = 0 := by
 have key : ∀ (ps : List Pr) (st : zi × Int), (∀ t ∈ st.1, t.length ≤ 1 ∨ zJ x t = 0) → ∀ t ∈ (ps.foldl (qw x) st).1, t.length ≤ 1 ∨ zJ x t = 0 := by
  intro ps
  induction ps with
  | nil => intro st h; exact h
  | cons p ps ih =>
   intro st hst
   rw [List.foldl_cons]
   refine ih _ fun t ht => ?_
   unfold qw YO at ht
   generalize vj st.1 p.a = i at ht
   generalize vj st.1 p.b = k at ht
   generalize st.1.getD i [] = a at ht
   generalize st.1.getD k [] = b at ht
   cases hc : y8 x st.2 p i k a b with
   | false => rw [hc] at ht; exact hst t ht
   | true =>
    rw [hc] at ht
    simp only [cond_true] at ht
    unfold y8 at hc
    simp only [Bool.and_eq_true, decide_eq_true_eq] at hc
    rcases List.mem_or_eq_of_mem_set ht with ht | ht
    ·rcases List.mem_or_eq_of_mem_set ht with ht | ht
     ·exact hst t ht
     ·rw [ht]; exact .inr hc.2
    ·rw [ht]; exact .inl (by simp)
 intro t ht
 obtain ⟨-, hp, -, hne⟩ := h.join
 have hs := vN ht
 have h1 := key (qA x (l.map fun s : Stop => s.c)) (l.map fun s => [s], (l.length : Int)) (fun t ht => by obtain ⟨s, _, rfl⟩ := List.mem_map.1 ht; simp) t (List.mem_filter.1 ht).1
 rcases h1 with h1 | h1
 ·have := hne t ht
  match t, h1, this with
  | [s], _, _ => exact Zdz hf s (hp.subset (hs.subset (by simp)))
 ·exact h1
theorem VI {x : Inst} {l : List Stop} (h : SOk x l) (hf : jD x l = 0) : ∀ d ∈ uW x l, SG x l d := by
 intro d hd
 unfold uW at hd
 simp only [List.cons_append, List.nil_append, List.mem_cons] at hd
 rcases hd with rfl | rfl | hd
 ·exact ⟨Zle h hf, h.join.2.1⟩
 ·refine ⟨fun t ht => ?_, by rw [h.apart.2.1]⟩
  obtain ⟨s, hs, rfl⟩ := List.mem_map.1 ht
  exact Zdz hf s hs
 ·cases hall : (qI x l).2 with
  | false => rw [hall] at hd; simp at hd
  | true =>
   rw [hall] at hd
   simp at hd; subst hd
   obtain ⟨r, hp⟩ := h.regret
   exact ⟨((xo x _).1 r.may).1, hp hall⟩
def jS (x : Inst) (b : Int) (d : zi) : zi := xM (wD x) b.toNat d
def qP (x : Inst) (b : Int) (l : List Stop) : zi × Int := j6 x (jD x l) (vS x (jS x b) l)
theorem Zlf {x : Inst} {l : List Stop} (h : SOk x l) (h0 : arc x 0 0 = 0) (hf : jD x l = 0) {b : Int} (hb : b ≤ 9223372036854775807) : Zdc x b (jS x b) (uW x l) := by
 intro d hd
 have g := VI h hf d hd
 obtain ⟨g2, -, -⟩ := Xu h h0 b.toNat d g
 have o := g.ok h
 refine ⟨⟨_, Zc3 x d b (wD x) (SG x l) hb o.n o.t (fun _ => g) (Zdx h h0)⟩, g2.ok h, ?_⟩
 have := (g2.len h).1
 show (xM (wD x) b.toNat d).flatten.length ≤ 1048576
 omega
theorem Zlg {x : Inst} {l : List Stop} (h : SOk x l) (h0 : arc x 0 0 = 0) {b : Int} (hb : b ≤ 9223372036854775807) : Pure Tryz.prog 126 [.agg (zA x), L l, I b] (.tup [.agg [L (qP x b l).1], I (qP x b l).2]) :=
 ZkN x l b _ h fun hf => Zlf h h0 hf hb
theorem ZdA {x : Inst} {l : List Stop} (h : SOk x l) (h0 : arc x 0 0 = 0) (hf : jD x l = 0) (b : Int) : ∀ d ∈ vS x (jS x b) l, SG x l d := by
 have hb := VI h hf
 have hi := fun d g => (Xu h h0 b.toNat d g).1
 intro d hd
 unfold vS at hd
 unfold uW at hb
 simp only [List.cons_append, List.nil_append, List.mem_cons] at hd hb
 rcases hd with rfl | rfl | rfl | hd
 ·exact hb _ (.inr (.inl rfl))
 ·exact hi _ (hb _ (.inl rfl))
 ·exact hi _ (hb _ (.inr (.inl rfl)))
 ·cases hall : (qI x l).2 with
  | false => rw [hall] at hd; simp at hd
  | true =>
   rw [hall] at hd
   simp at hd; subst hd
   exact hi _ (hb _ (.inr (.inr (by rw [hall]; simp))))
theorem ZdB (x : Inst) : ∀ (ds : List zi) (st : zi × Int × Bool), (st.2.2 = true → (ds.foldl (jE x) st).2.2 = true ∧ (ds.foldl (jE x) st).2.1 ≤ st.2.1) ∧ ∀ d ∈ ds, yq x d = 0 → (ds.foldl (jE x) st).2.2 = true ∧ (ds.foldl (jE x) st).2.1 ≤ W (zM x d)
 | [], st => ⟨fun e => ⟨e, Int.le_refl _⟩, by simp⟩
 | d :: ds, st => by
  rw [List.foldl_cons]
  obtain ⟨h1, h2⟩ := ZdB x ds (jE x st d)
  constructor
  ·intro e
   have : (jE x st d).2.2 = true ∧ (jE x st d).2.1 ≤ st.2.1 := by
    unfold jE
    split
    ·split
     ·rename_i hc
      rcases hc with hc | hc
      ·rw [e] at hc; cases hc
      ·exact ⟨rfl, Int.le_of_lt hc⟩
     ·exact ⟨e, Int.le_refl _⟩
    ·exact ⟨e, Int.le_refl _⟩
   obtain ⟨a, b⟩ := h1 this.1
   exact ⟨a, Int.le_trans b this.2⟩
  ·intro d2 hd hz
   rcases List.mem_cons.1 hd with rfl | hd
   ·have : (jE x st d2).2.2 = true ∧ (jE x st d2).2.1 ≤ W (zM x d2) := by
     unfold jE
     rw [if_pos hz]
     split
     ·exact ⟨rfl, Int.le_refl _⟩
     ·rename_i hc
      cases hq : st.2.2 with
      | false => exact absurd (.inl hq) hc
      | true => exact ⟨rfl, Int.not_lt.1 fun q => hc (.inr q)⟩
    obtain ⟨a, b⟩ := h1 this.1
    exact ⟨a, Int.le_trans b this.2⟩
   ·exact h2 d2 hd hz
theorem ZdC {x : Inst} {e : Int} {ds : List zi} (he : e = 0) {d : zi} (hd : d ∈ ds) (hz : yq x d = 0) : (j6 x e ds).2 = 0 ∧ W (zM x (j6 x e ds).1) ≤ W (zM x d) := by
 obtain ⟨h1, h2⟩ := (ZdB x ds ([], 0, false)).2 d hd hz
 change (wR x ds).2.2 = true at h1
 change (wR x ds).2.1 ≤ W (zM x d) at h2
 unfold j6
 rw [if_pos he, h1]
 refine ⟨rfl, ?_⟩
 rcases VF x ds ([], 0, false) h1 with q | ⟨d2, g1, g2, g3⟩
 ·have : (wR x ds).2.2 = false := by unfold wR; rw [q]
  rw [this] at h1; cases h1
 ·have : wR x ds = (d2, W (zM x d2), true) := g3
  rw [this] at h2 ⊢; exact h2
theorem ZdD {x : Inst} {e : Int} {ds : List zi} (h : (j6 x e ds).2 ≠ 0) : (j6 x e ds).1 = [] := by
 unfold j6 at h ⊢
 by_cases he : e = 0
 ·rw [if_pos he] at h ⊢
  cases hz : (wR x ds).2.2 with
  | true => rw [hz] at h; exact absurd rfl h
  | false => rfl
 ·rw [if_neg he]
theorem ZdE (x : Inst) (imp : zi → zi) (l : List Stop) : qi l ∈ vS x imp l := by simp [vS]
section
variable {x : Inst} {l : List Stop} (h : SOk x l) (h0 : arc x 0 0 = 0) (b : Int)
include h h0
theorem Zlh : DayOk (qP x b l).1 ∧ (qP x b l).1.length ≤ 1000 ∧ (qP x b l).1.flatten.length ≤ 1000 := by
 by_cases he : (qP x b l).2 = 0
 ·obtain ⟨hf, hm, -⟩ := Zdq he
  have g := ZdA h h0 hf b _ hm
  exact ⟨g.ok h, (g.len h).2, (g.len h).1⟩
 ·have : (qP x b l).1 = [] := ZdD he
  rw [this]; exact ⟨⟨by simp, by simp, by simp⟩, by simp, by simp⟩
theorem Xv (he : (qP x b l).2 = 0) : jD x l = 0 ∧ yq x (qP x b l).1 = 0 ∧ (qP x b l).1.flatten.Perm l ∧ (yq x (qi l) = 0 → W (zM x (qP x b l).1) ≤ W (zM x (qi l))) := by
 obtain ⟨hf, hm, hz⟩ := Zdq he
 have g := ZdA h h0 hf b _ hm
 exact ⟨hf, hz, g.perm, fun q => (ZdC hf (ZdE x _ l) q).2⟩
omit h0 in
theorem Zli (he : (qP x b l).2 ≠ 0) : (qP x b l).1 = [] ∧ (jD x l ≠ 0 ∨ x.veh < l.length) := by
 refine ⟨ZdD he, ?_⟩
 by_cases hf : jD x l = 0
 ·refine .inr ?_
  by_cases hv : x.veh < l.length
  ·exact hv
  ·refine absurd (ZdC hf (ZdE x (jS x b) l) ?_).1 he
   have g := VI h hf (qi l) (by simp [uW])
   refine (xo x _).2 ⟨g.may, by rw [h.apart.2.1]; exact h.nd, ?_⟩
   rw [Vu]; omega
 ·exact .inl hf
end
open Go
structure Visit where
 d : Int
 q : Int
 deriving DecidableEq
instance : Inhabited Visit := ⟨⟨0, 0⟩⟩
instance : Enc Visit := ⟨fun s => [I s.d, I s.q], 2, fun _ => rfl, fun _ => rfl⟩
@[simp] theorem ZrG (s : Visit) : Enc.enc s = [I s.d, I s.q] := rfl
@[simp high] theorem ZrH (l : List Visit) : (l.flatMap Enc.enc).length = l.length * 2 := jQ l
@[simp high] theorem ZrI (l : List Visit) : (l.flatMap Enc.enc).take (l.length * 2) = l.flatMap Enc.enc := uO l
def told : Nat → List zi → List (Stop × Nat)
 | _, [] => []
 | i, d :: ds => d.flatten.map (·, i) ++ told (i + 1) ds
def Q1 (x : Stop × Nat) : List PV := [.agg [I x.1.c, I x.1.q, I x.2]]
theorem Zlj (p : zu) : Pure Tryz.prog 240 [.agg [L p]] (.fn (.func 259) [] [.ip [L p]]) := by
 refine zx Tryz.func240 Tryz.ntmps240 Tryz.results240 fun S nx hd => ?_
 refine za (zb ?_)
 intro v0
 refine za (zb ?_)
 refine j4 0 rfl ?_
 exact zg (zk hd (by simp; rfl) rfl)
theorem Zlk (p : zu) (hp : p.length ≤ 1048576) (hd : ∀ d ∈ p, d.length ≤ 1048576) (ht : ∀ d ∈ p, ∀ t ∈ d, t.length ≤ 1048576) : Ze Tryz.prog 259 [.ip [L p]] ((told 0 p).map Q1) := by
 have yieldX : ∀ (pre rest : List (Stop × Nat)) (x : Stop × Nat), told 0 p = pre ++ x :: rest → ((told 0 p).map Q1)[pre.length]? = some (Q1 x) := by
  intro pre rest x e; rw [e]; simp
 refine QB Tryz.func259 (by rfl) rfl Tryz.ntmps259 (congrArg Array.toList Tryz.results259) (by simp) fun l V keep nx J hJd hY A0 hA0 => ?_
 refine za (zb ?_)
 refine zj (jo (σ := Nat × Store × List (Stop × Nat)) (fun s => s.1 ≤ p.length ∧ J s.2.2.length s.2.1 ∧ told 0 p = s.2.2 ++ told s.1 (p.drop s.1)) (fun s => [(0, jl l), (10, L p), (11, I p.length), (12, I s.1)]) (fun s => s.2.1) (fun s => []) (fun s => p.length - s.1) (zP (0, A0, []) [] (by simp [hA0]) (by simp) rfl (by simp)) ?_)
 rintro ⟨a, A, pre⟩ ⟨ha, hJ, hr⟩
 simp only at ha hJ hr ⊢
 refine za (zb ?_)
 refine za (zr rfl (fun hc => ?_) (fun hc => ?_))
 ·simp at hc
  obtain ⟨d, tl, a1, a2, a3, e0⟩ := zE rfl p a hc
  have hdm := List.mem_of_getElem? a1
  have hdl := hd d hdm
  rw [a2] at hr
  simp only [told] at hr
  refine zh (za (zj (za (ze [] (zm e0 hc) ?_))))
  intro v0
  refine za (zb ?_)
  refine zj (jo (σ := Nat × Store × List (Stop × Nat)) (fun s => s.1 ≤ d.length ∧ J s.2.2.length s.2.1 ∧ told 0 p = s.2.2 ++ ((d.drop s.1).flatten.map (·, a) ++ told (a + 1) (p.drop (a + 1)))) (fun s => [(0, jl l), (3, I a), (10, L p), (11, I p.length), (12, I a), (18, L d), (19, I d.length), (20, I s.1)]) (fun s => s.2.1) (fun s => []) (fun s => d.length - s.1) (zP (0, A, pre) [_] (by simp [hJ, hr]) (by simp) rfl rfl) ?_)
  rintro ⟨b, A, pre⟩ ⟨hb, hJ, hr⟩
  simp only at hb hJ hr ⊢
  refine za (zb ?_)
  refine za (zr rfl (fun hc2 => ?_) (fun hc2 => ?_))
  ·simp at hc2
   obtain ⟨t, tl2, b1, b2, b3, e2⟩ := zE rfl d b hc2
   have htl := ht d hdm t (List.mem_of_getElem? b1)
   rw [b2] at hr
   simp only [List.flatten_cons, List.map_append, List.append_assoc] at hr
   refine zh (za (zj (za (ze [] (zm e2 hc2) ?_))))
   intro v1
   refine za (zb ?_)
   refine zj (jo (σ := Nat × Store × List (Stop × Nat)) (fun s => s.1 ≤ t.length ∧ J s.2.2.length s.2.1 ∧ told 0 p = s.2.2 ++ ((t.drop s.1).map (·, a) ++ ((d.drop (b + 1)).flatten.map (·, a) ++ told (a + 1) (p.drop (a + 1))))) (fun s => [(0, jl l), (3, I a), (10, L p), (11, I p.length), (12, I a), (18, L d), (19, I d.length), (20, I b), (25, L t), (26, I t.length), (27, I s.1)]) (fun s => s.2.1) (fun s => []) (fun s => t.length - s.1) (zP (0, A, pre) [_] (by simp [hJ, hr]) (by simp) rfl rfl) ?_)
   rintro ⟨j, A, pre⟩ ⟨hj, hJ, hr⟩
   simp only at hj hJ hr ⊢
   refine za (zb ?_)
   refine za (zr rfl (fun hc3 => ?_) (fun hc3 => ?_))
   ·simp at hc3
    obtain ⟨s, tl3, c1, c2, c3, _, e3⟩ := el 2 rfl t j hc3
    rw [c2] at hr
    simp only [List.map_cons, List.cons_append] at hr
    refine zh (za (zj (za (ze [] (zm e3 hc3) ?_))))
    intro v2
    refine za (zV [] (by rfl) (by rfl) fun K Gc Gh hK hGc hGh X hX0 hX => ?_)
    simp -implicitDefEqProofs [hX0, hX]
    try clear hX0 hX X
    refine hGh _ _ _ _ _ fun hsuf => YE rfl rfl rfl (hY _ _ _ _ (yieldX pre _ (s, a) hr) hJ) ?_
    rintro _ ⟨A', hJ', rfl⟩
    refine ⟨_, _, rfl, ?_⟩
    clear hGc hGh
    clear Gc Gh
    refine zR hsuf (D := []) (by rfl) fun Gc Gh hGc hGh X hX0 hX => ?_
    simp -implicitDefEqProofs [hX0, hX]
    try clear hX0 hX X
    refine hK _ _ _ ?_
    clear hK hGc hGh
    clear K Gc Gh
    refine zn rfl (zh (zb ?_))
    exact zp (j + 1, A', pre ++ [(s, a)]) [_] ⟨hc3, by simpa using hJ', by simp [hr]⟩ (by simp; omega) (by simp [zt j (by omega)]) rfl rfl
   ·simp at hc3
    have : j = t.length := by omega
    subst this
    simp only [List.drop_length, List.map_nil, List.nil_append] at hr
    refine zy (zb ?_)
    exact zp (b + 1, A, pre) [] ⟨hc2, hJ, hr⟩ (by simp; omega) (by simp [zt b (by omega)]) rfl (by simp)
  ·simp at hc2
   have : b = d.length := by omega
   subst this
   simp only [List.drop_length, List.flatten_nil, List.map_nil, List.nil_append] at hr
   refine zy (zb ?_)
   exact zp (a + 1, A, pre) [] ⟨hc, hJ, hr⟩ (by simp; omega) (by simp [zt a (by omega)]) rfl (by simp)
 ·simp at hc
  have : a = p.length := by omega
  subst this
  simp only [List.drop_length, told, List.append_nil] at hr
  refine zy (vf (hJd _ _ hJ) rfl ?_)
  simpa [hr] using hJ
open Go
def yd (c : Int) (l : List (Stop × Nat)) : List Visit := (l.filter fun x => decide (x.1.c = c)).map fun x => ⟨x.2, x.1.q⟩
theorem uY (c : Int) (l m : List (Stop × Nat)) : yd c (l ++ m) = yd c l ++ yd c m := by simp [yd]
theorem Y4 (c : Int) (x : Stop × Nat) : yd c [x] = if x.1.c = c then [⟨x.2, x.1.q⟩] else [] := by
 by_cases h : x.1.c = c <;> simp [yd, h]
theorem ZdF (c : Int) (l : List (Stop × Nat)) : (yd c l).length ≤ l.length := by
 simp only [yd, List.length_map]; exact List.length_filter_le _ _
structure PlanOk (p : zu) : Prop where
 n : p.length ≤ 1048576
 d : ∀ d ∈ p, d.length ≤ 1048576
 t : ∀ d ∈ p, ∀ t ∈ d, t.length ≤ 1048576
 told : (told 0 p).length ≤ 1048576
theorem Zll (p : zu) (c : Int) (hp : PlanOk p) : Pure Tryz.prog 207 [.agg [L p], I c] (L (yd c (told 0 p))) := by
 have hlen := hp.told
 refine zx Tryz.func207 Tryz.ntmps207 Tryz.results207 fun S nx hd => ?_
 refine za (zb ?_)
 intro v0 v1
 refine za (zb ?_)
 intro v2
 repeat apply za
 refine zb ?_
 refine zz (Zlj p) ?_
 refine qQ 2 0 85 2 rfl rfl fun v3 => ?_
 refine zj (YF (xs := (told 0 p).map Q1) (σ := List Visit × Nat) (fun i s => s.1 = yd c ((told 0 p).take i) ∧ s.1.length ≤ i ∧ i ≤ (told 0 p).length) [(3, .ptr (nx + 1) v1 0), (5, .ptr (nx + 2) v2 0)] (fun _ => S)
  (fun (out, v3) => [.cells v0 38 [L p], .cells v1 3 [I c], .cells v2 26 [.sl (nx + 3) v3 2 0 out.length], .cells v3 85 (out.flatMap Enc.enc)]) ([], v3)
  (Zlk p hp.n hp.d hp.t) rfl (by intro x hx; obtain ⟨y, _, rfl⟩ := List.mem_map.1 hx; rfl) (by decide) (by simp) ⟨by simp [yd], by simp, by simp⟩ rfl (by simp) (by simp) ?_ ?_)
 ·rintro l i ⟨out, v3⟩ more x ⟨ho, hl, hi⟩ hx
  simp only at ho hl hi ⊢
  rw [List.getElem?_map] at hx
  obtain ⟨y, hy, rfl⟩ := Option.map_eq_some_iff.1 hx
  obtain ⟨s, d⟩ := y
  obtain ⟨hil, hyi⟩ := List.getElem?_eq_some_iff.1 hy
  have htk : (told 0 p).take (i + 1) = (told 0 p).take i ++ [(s, d)] := by rw [List.take_succ_eq_append_getElem hil, hyi]
  refine zV [] (by rfl) (by rfl) fun K Gc Gh hK hGc hGh X hX0 hX => ?_
  simp -implicitDefEqProofs [hX0, hX, Q1]
  try clear hX0 hX X
  intro v4
  refine hK _ _ _ ?_
  clear hK hGc hGh
  clear K Gc Gh
  refine zj (za (zb ?_))
  refine zr rfl (fun hc => ?_) (fun hc => ?_)
  ·simp at hc
   refine zb ?_
   refine ⟨by omega, ?_⟩
   simp only [qX]
   exact xF (out ++ [⟨d, s.q⟩], v3 + 1) [_] ⟨by rw [htk, uY, Y4, if_pos hc, ho], by simp; omega, by omega⟩ rfl (by simp; rfl)
  ·simp at hc
   refine zh ?_
   simp only [qX]
   exact xF (out, v3) [_] ⟨by rw [htk, uY, Y4, if_neg hc, ho, List.append_nil], Nat.le_succ_of_le hl, by omega⟩ rfl (by simp; rfl)
 ·rintro ⟨out, v3⟩ ⟨ho, hl, -⟩
  simp only [List.length_map, List.take_length] at ho hl ⊢
  refine za (zb ?_)
  refine yc 3 rfl ?_
  exact zg (zk hd (by simp; rfl) (by rw [ho]; rfl))
open Go
def jT (n : Nat) (d : Int) : Nat := if 0 ≤ d ∧ d < 64 then n ||| 2 ^ d.toNat else n
theorem ZdG (n : Nat) (d : Int) (hn : n < 2 ^ 64) : jT n d < 2 ^ 64 := by
 unfold jT; split
 ·exact Nat.or_lt_two_pow hn (Nat.pow_lt_pow_right (by decide) (by omega))
 ·exact hn
def VJ (l : List Int) : Nat := l.foldl jT 0
theorem VK (d : Int) : Pure Tryz.prog 235 [I d] (B (decide (0 ≤ d ∧ d < 64))) := by
 refine zx Tryz.func235 Tryz.ntmps235 Tryz.results235 fun S nx hd => ?_
 refine za (zb ?_)
 by_cases h1 : 0 ≤ d
 ·refine za (ze [(2, 5)] h1 ?_)
  exact zg (zk hd (by simp; rfl) (by simp [h1, zq]))
 ·refine za (ze [(2, 5)] (zm h1 zL) ?_)
  exact zg (zk hd (by simp; rfl) (by simp [h1, zq]))
theorem Zlm (d : Nat) (h : d < 64) : IntKind.u64.wrap (2 ^ d) = ((2 ^ d : Nat) : Int) := by
 have h2 : (2 : Nat) ^ d < 2 ^ 64 := Nat.pow_lt_pow_right (by decide) h
 have h3 : ((2 ^ d : Nat) : Int) < 2 ^ 64 := by exact_mod_cast h2
 have h4 : (2 : Int) ^ d = ((2 ^ d : Nat) : Int) := by simp
 rw [h4]
 generalize (2 ^ d : Nat) = m at h3 ⊢
 simp only [IntKind.wrap, IntKind.bits, IntKind.signed]
 simp
 omega
theorem Zln (n : Nat) (d : Int) (hn : n < 2 ^ 64) : Pure Tryz.prog 192 [U n, I d] (U (jT n d)) := by
 refine zx Tryz.func192 Tryz.ntmps192 Tryz.results192 fun S nx hd => ?_
 refine za (zb ?_)
 repeat apply za
 refine zb ?_
 refine zz (VK d) ?_
 by_cases h : 0 ≤ d ∧ d < 64
 ·repeat apply za
  refine zn (by simp [h]) ?_
  refine zh ?_
  have h1 : ¬ d < 0 := by omega
  have h2 : min d.toNat 64 = d.toNat := by omega
  have h3 := Zlm d.toNat (by omega)
  have h4 : bits BinOp.or IntKind.u64 (n : Int) (2 ^ d.toNat) = ((n ||| 2 ^ d.toNat : Nat) : Int) := by
   have := bits_or_u64_nat n (2 ^ d.toNat) (by omega) (by have : (2 : Nat) ^ d.toNat < 2 ^ 64 := Nat.pow_lt_pow_right (by decide) (by omega); omega)
   simpa using this
  refine za (zV [] (by rfl) (by rfl) fun K Gc Gh hK hGc hGh X hX0 hX => ?_)
  simp -implicitDefEqProofs [hX0, hX, h1, h2, IntKind.bits, h3, h4]
  try clear hX0 hX X
  refine hK _ _ _ ?_
  clear hK hGc hGh
  clear K Gc Gh
  exact zg (zk hd (by simp; rfl) (by simp [jT, h, zq]))
 ·repeat apply za
  refine zo (by simp; omega) ?_
  refine za (zb ?_)
  exact zg (zk hd (by simp; rfl) (by simp [jT, h, zq]))
open Go
structure CustFits (c : Cust) : Prop where
 rate : 0 ≤ c.rate ∧ c.rate ≤ 2147483648
 size : 0 ≤ c.size ∧ c.size ≤ 2147483648
 start : 0 ≤ c.start ∧ c.start ≤ 2147483648
def jI (q : Int) : Bool := decide (q < 0 ∨ 2147483648 < q)
def yl (size rate : Int) : Int → List Int → Option (List Int)
 | _, [] => some []
 | there, q :: l => if size < there + q ∨ there + q < rate then none else (yl size rate (there + q - rate) l).map ((there + q - rate) :: ·)
def yD (c : Cust) (q : List Int) : List Int × Int :=
 if q.any jI then ([], 1) else match yl c.size c.rate c.start q with
 | none => ([], 8)
 | some l => (l, 0)
theorem ZdH (c : Cust) {S : Store} {nx : Nat} (hd : zW nx S) : Spec Tryz.prog 205 [.agg (zZ c)] S (fun p S' => ∃ v, p = .fn (.func 239) [] [.ptr (nx + 1) v 0, .ip (zZ c)] ∧ S' = S.set (nx + 1) (.cells v 3 [I c.start])) := by
 refine ui hd Tryz.func205 Tryz.ntmps205 Tryz.results205 ?_
 refine za (zb ?_)
 intro v0
 refine za (zb ?_)
 intro v1
 refine za (zb ?_)
 refine j4 0 rfl ?_
 refine zg ⟨_, _, rfl, ⟨v1, by simp [zq], rfl⟩, YC (j := 1) hd (by simp)⟩
theorem ZdI (c : Cust) (q there : Int) {S : Store} {id v : Nat} (hid : S id = .cells v 3 [I there]) (h1 : -4611686018427387904 ≤ there + q ∧ there + q ≤ 4611686018427387904) (h2 : -4611686018427387904 ≤ there + q - c.rate ∧ there + q - c.rate ≤ 4611686018427387904) :
  Spec Tryz.prog 239 [I q, .ptr id v 0, .ip (zZ c)] S (fun p S' => p = .tup [I (there + q), I (there + q - c.rate)] ∧ S' = S.set id (.cells v 3 [I (there + q - c.rate)])) := by
 refine yU Tryz.func239 Tryz.ntmps239 Tryz.results239 fun nx hd => ?_
 have hlt : id < nx := by
  rcases Nat.lt_or_ge id nx with h | h
  ·exact h
  ·rw [hd id h] at hid; cases hid
 have hge : ¬ nx ≤ id := by omega
 have hE : ∀ obs, ext S nx obs id = .cells v 3 [I there] := fun obs => (zH hlt).trans hid
 have hE2 : ∀ obs x, ext (S.set id x) nx obs id = x := fun obs x => (zH hlt).trans (Store.set_same _ _ _)
 have hd2 : ∀ x, zW nx (S.set id x) := fun x i hi => by rw [Store.set_other _ _ _ _ (by omega)]; exact hd i hi
 have w1 : IntKind.i64.wrap (there + q) = there + q := wr _ (by omega) (by omega)
 have w2 : IntKind.i64.wrap (there + q - c.rate) = there + q - c.rate := wr _ (by omega) (by omega)
 refine za (zb ?_)
 refine za (ze [] (zm hE w1) ?_)
 refine za (ze [] (zF hE hge w2) ?_)
 refine za (zC none (Row.pures [0, 1, 2, 3] .done) mixed hE2 ?_)
 refine zg ⟨_, _, rfl, ⟨rfl, rfl⟩, yb (hd2 _)⟩
theorem ZdJ {size rate there q : Int} {l : List Int} {out : List Int} {r : Option (List Int)} (h : r = (yl size rate there (q :: l)).map (out ++ ·)) (hs : ¬ size < there + q) (hr : ¬ there + q < rate) :
  r = (yl size rate (there + q - rate) l).map ((out ++ [there + q - rate]) ++ ·) := by
 rw [h]
 simp only [yl, hs, hr, or_self, if_false, Option.map_map]
 congr 1
 funext x
 simp
theorem VL (c : Cust) (q : List Int) (hc : CustFits c) (hq : q.length ≤ 1048576) : Pure Tryz.prog 164 [.agg (zZ c), L q] (.tup [L (yD c q).1, I (yD c q).2]) := by
 obtain ⟨hr, hsz, hst⟩ := hc
 refine zx Tryz.func164 Tryz.ntmps164 Tryz.results164 fun S nx hd => ?_
 refine za (zb ?_)
 intro v0
 repeat apply za
 refine zb ?_
 refine qh (nx := nx) (σ := Nat) (fun v0 => q.any jI = false) (fun v0 => [(1, L q), (2, .ptr nx v0 0)]) (fun _ => S) (fun v0 => [.cells v0 65 (zZ c)]) ?_ ?_
 ·refine zj (zG (fun s : Nat => s ≤ q.length ∧ (q.take s).any jI = false) (fun k => [(1, L q), (2, .ptr nx v0 0), (14, L q), (15, I q.length), (16, I k)]) (fun _ => [.cells v0 65 (zZ c)]) (fun s => q.length - s) 0 [] (by simp) (by simp) (by simp) ?_)
  rintro k ⟨hk, ho⟩
  refine za (zb ?_)
  refine za (zr rfl (fun hc => ?_) (fun hc => ?_))
  ·simp at hc
   obtain ⟨z, tl, a1, a2, a3, e0⟩ := zE rfl q k hc
   have bad : jI z = true → yD c q = ([], 1) := fun h => by
    have : q.any jI = true := by rw [List.any_eq_true]; exact ⟨z, List.mem_of_getElem? a1, h⟩
    simp [yD, this]
   refine zh (za (zj (za (ze [] (zm e0 hc) ?_))))
   by_cases h1 : z < 0
   ·refine za (ze [(2, 22)] (zm h1 zL) ?_)
    refine zo rfl (za (zb ?_))
    refine ve 4 rfl ?_
    exact zg (zk hd (by simp; rfl) (by rw [bad (by simp [jI, h1])]; rfl))
   by_cases h2 : (2147483648 : Int) < z
   ·refine za (ze [(2, 22)] (zm h1 h2) ?_)
    refine zo rfl (za (zb ?_))
    refine ve 4 rfl ?_
    exact zg (zk hd (by simp; rfl) (by rw [bad (by simp [jI, h2])]; rfl))
   refine za (ze [(2, 22)] (zm h1 h2) ?_)
   refine zn rfl (zh (zb ?_))
   exact zp (k + 1) [] ⟨hc, by rw [a3, List.any_append, ho]; simp [jI]; omega⟩ (by omega) (by simp [zt k (by omega)]) rfl (by simp)
  ·simp at hc
   obtain rfl : k = q.length := by omega
   rw [List.take_length] at ho
   exact zy (zP v0 [] ho (by simp) rfl (by simp))
 ·intro v0 hb
  have hq0 : ∀ z ∈ q, 0 ≤ z ∧ z ≤ 2147483648 := by
   intro z hz
   rw [List.any_eq_false] at hb
   have := hb z hz
   simp [jI] at this
   omega
  have hres : yD c q = match yl c.size c.rate c.start q with | none => ([], 8) | some l => (l, 0) := by simp [yD, hb]
  refine za (zV [] (by rfl) (by rfl) fun K Gc Gh hK hGc hGh X hX0 hX => ?_)
  simp -implicitDefEqProofs [hX0, hX]
  try clear hX0 hX X
  refine hGc _ _ _ _ _ _ _ fun hsuf => ((ZdH c jO).mono ?_).v
  rintro p T ⟨v1, rfl, rfl⟩
  refine ⟨_, _, YD _, ?_⟩
  clear hGc hGh
  clear Gc Gh
  refine zR hsuf (D := []) (by rfl) fun Gc Gh hGc hGh X hX0 hX => ?_
  simp -implicitDefEqProofs [hX0, hX]
  clear hX0 hX X
  refine hK _ _ _ ?_
  clear hK hGc hGh
  clear K Gc Gh
  refine za (zb ?_)
  refine ⟨by omega, fun v2 => ?_⟩
  refine Zgy 3 0 rfl ?_
  simp only [List.take_zero, List.set_cons_succ, List.set_cons_zero, List.append_eq, List.cons_append, List.nil_append, List.length_cons, List.length_nil]
  repeat apply za
  refine zb ?_
  refine zj (zG (fun s : Nat × Int × List Int × Nat => s.1 ≤ q.length ∧ s.2.2.1.length = s.1 ∧ (0 ≤ s.2.1 ∧ s.2.1 ≤ 2147483648) ∧ yl c.size c.rate c.start q = (yl c.size c.rate s.2.1 (q.drop s.1)).map (s.2.2.1 ++ ·))
   (fun (k, there, out, v2) => [(2, .ptr nx v0 0), (8, .fn (.func 239) [] [.ptr (nx + 2) v1 0, .ip (zZ c)]), (9, .sl (nx + 3) v2 1 0 out.length), (32, L q), (33, I q.length), (34, I k)])
   (fun (k, there, out, v2) => [.cells v0 65 (zZ c), .dead, .cells v1 3 [I there], .cells v2 3 (out.flatMap Enc.enc)]) (fun s => q.length - s.1) (0, c.start, [], v2) [] ?_ (by simp) (by simp) ?_)
  ·refine ⟨by simp, by simp, hst, ?_⟩
   simp
  rintro ⟨k, there, out, v2⟩ ⟨hk, hol, hth, ho⟩
  simp only at hk hol hth ho ⊢
  refine za (zb ?_)
  refine za (zr rfl (fun hc => ?_) (fun hc => ?_))
  ·simp at hc
   obtain ⟨z, tl, a1, a2, a3, e0⟩ := zE rfl q k hc
   have hz := hq0 z (List.mem_of_getElem? a1)
   rw [a2] at ho
   refine zh (za (zj (za (ze [] (zm e0 hc) ?_))))
   refine za (zV [] (by rfl) (by rfl) fun K Gc Gh hK hGc hGh X hX0 hX => ?_)
   simp -implicitDefEqProofs [hX0, hX]
   try clear hX0 hX X
   refine hGc _ _ _ _ _ _ _ fun hsuf => ((ZdI c z there (id := nx + 2) (v := v1) (by simp) (by omega) (by omega)).mono ?_).v
   rintro p T ⟨rfl, rfl⟩
   refine ⟨_, _, y9 _ (by omega) (by simp), ?_⟩
   clear hGc hGh
   clear Gc Gh
   refine zR hsuf (D := []) (by rfl) fun Gc Gh hGc hGh X hX0 hX => ?_
   simp -implicitDefEqProofs [hX0, hX]
   clear hX0 hX X
   refine hK _ _ _ ?_
   clear hK hGc hGh
   clear K Gc Gh
   have bad : (c.size < there + z ∨ there + z < c.rate) → yD c q = ([], 8) := fun h => by
    rw [hres, ho]; simp only [yl, if_pos h, Option.map_none]
   by_cases h1 : c.size < there + z
   ·repeat apply za
    refine ze [(4, 48)] (zm h1 zL) ?_
    refine zo rfl (za (zb ?_))
    refine ve 4 rfl ?_
    exact zg (zk hd (by simp; rfl) (by rw [bad (.inl h1)]; rfl))
   by_cases h2 : there + z < c.rate
   ·repeat apply za
    refine ze [(4, 48)] (zm h1 h2) ?_
    refine zo rfl (za (zb ?_))
    refine ve 4 rfl ?_
    exact zg (zk hd (by simp; rfl) (by rw [bad (.inr h2)]; rfl))
   repeat apply za
   refine ze [(4, 48)] (zm h1 h2) ?_
   refine zn rfl (zh (zb ?_))
   refine ⟨by omega, ?_⟩
   refine zb ?_
   exact zp (k + 1, there + z - c.rate, out ++ [there + z - c.rate], v2 + 1) [] ⟨hc, by simp [hol], by dsimp only; omega, ZdJ ho h1 h2⟩ (by simp; omega) (by simp [zt k (by omega)]) rfl (by simp)
  ·simp at hc
   obtain rfl : k = q.length := by omega
   rw [List.drop_length] at ho
   simp only [yl, Option.map_some, List.append_nil] at ho
   refine zy (za (zb ?_))
   refine yc 3 rfl ?_
   exact zg (zk hd (by simp; rfl) (by rw [hres, ho]; simp [zq]))
open Go
def j9 (rate size : Int) : List Int → List Int → Bool
 | z :: q, n :: l => decide (0 < z ∧ n + rate ≠ size) || j9 rate size q l
 | _, _ => false
def x5 (c : Cust) (q : List Int) : Int :=
 if (yD c q).2 ≠ 0 then (yD c q).2 else if c.rule ≠ 1 then 0 else if j9 c.rate c.size q (yD c q).1 then 9 else 0
def x6 (c : Cust) (ns : List Int) : Int := W (c.hold * W ns.sum)
theorem Y5 (l : List Int) (x : Int) : (l ++ [x]).sum = l.sum + x := by simp
theorem VM (c : Cust) (ns : List Int) (hn : ns.length ≤ 1048576) : Pure Tryz.prog 166 [.agg (zZ c), L ns] (I (x6 c ns)) := by
 refine zx Tryz.func166 Tryz.ntmps166 Tryz.results166 fun S nx hd => ?_
 refine za (zb ?_)
 intro v0
 refine za (zb ?_)
 repeat apply za
 refine zb ?_
 refine zj (zG (fun s : Nat => s ≤ ns.length) (fun k => [(2, .ptr nx v0 0), (5, I (W (ns.take k).sum)), (8, L ns), (9, I ns.length), (10, I k)]) (fun _ => [.cells v0 65 (zZ c)]) (fun s => ns.length - s) 0 [] (by simp) (by simp) (by simp) ?_)
 rintro k hk
 refine za (zb ?_)
 refine za (zr rfl (fun hc => ?_) (fun hc => ?_))
 ·simp at hc
  obtain ⟨z, tl, a1, a2, a3, e0⟩ := zE rfl ns k hc
  refine zh (za (zj (za (ze [] (zm e0 hc) ?_))))
  refine zb ?_
  refine zb ?_
  have hw : W (W (ns.take k).sum + z) = W (ns.take (k + 1)).sum := by rw [a3, Y5, xE]
  exact zp (k + 1) [] hc (by omega) (by simp [zt k (by omega)]; exact hw) rfl (by simp)
 ·simp at hc
  obtain rfl : k = ns.length := by omega
  rw [List.take_length]
  refine zy (za (zb ?_))
  exact zg (zk hd (by simp; rfl) rfl)
theorem Zlo (c : Cust) (q : List Int) (hc : CustFits c) (hq : q.length ≤ 1048576) : Pure Tryz.prog 258 [.agg (zZ c), L q] (I (x5 c q)) := by
 have hni := VL c q hc hq
 obtain ⟨hr, hsz, hst⟩ := hc
 refine zx Tryz.func258 Tryz.ntmps258 Tryz.results258 fun S nx hd => ?_
 refine za (zb ?_)
 intro v0
 repeat apply za
 refine zb ?_
 refine zz hni ?_
 by_cases he : (yD c q).2 = 0
 case neg =>
  refine za (ze [] he ?_)
  refine zo (by simp [he]) ?_
  refine za (zb ?_)
  exact zg (zk hd (by simp; rfl) (by simp [x5, he, zq]))
 refine za (ze [] he ?_)
 refine zn (by simp [he]) ?_
 refine zh ?_
 by_cases hru : c.rule = 1
 case neg =>
  repeat apply za
  refine ze [] hru ?_
  refine zo (by simp [hru]) ?_
  refine za (zb ?_)
  exact zg (zk hd (by simp; rfl) (by simp [x5, he, hru, zq]))
 repeat apply za
 refine ze [] hru ?_
 refine zn (by simp [hru]) ?_
 refine zh ?_
 have hres : x5 c q = if j9 c.rate c.size q (yD c q).1 then 9 else 0 := by simp [x5, he, hru]
 obtain ⟨l, hl, hq0⟩ : ∃ l, yl c.size c.rate c.start q = some l ∧ (yD c q).1 = l ∧ ∀ z ∈ q, 0 ≤ z ∧ z ≤ 2147483648 := by
  unfold yD at he ⊢
  split at he
  ·simp at he
  ·rename_i hb
   cases hrn : yl c.size c.rate c.start q with
   | none => simp [hrn] at he
   | some l =>
    refine ⟨l, rfl, by simp [hb], fun z hz => ?_⟩
    simp only [Bool.not_eq_true, List.any_eq_false] at hb
    have := hb z hz
    simp [jI] at this
    omega
 obtain ⟨hl1, hq0⟩ := hq0
 rw [hl1] at hres
 refine za (zV [] (by rfl) (by rfl) fun K Gc Gh hK hGc hGh X hX0 hX => ?_)
 simp -implicitDefEqProofs [hX0, hX]
 try clear hX0 hX X
 refine hGc _ _ _ _ _ _ _ fun hsuf => ((ZdH c jO).mono ?_).v
 rintro p T ⟨v1, rfl, rfl⟩
 refine ⟨_, _, YD _, ?_⟩
 clear hGc hGh
 clear Gc Gh
 refine zR hsuf (D := []) (by rfl) fun Gc Gh hGc hGh X hX0 hX => ?_
 simp -implicitDefEqProofs [hX0, hX]
 clear hX0 hX X
 refine hK _ _ _ ?_
 clear hK hGc hGh
 clear K Gc Gh
 repeat apply za
 refine zb ?_
 refine zj (zG (fun s : Nat × Int => s.1 ≤ q.length ∧ (0 ≤ s.2 ∧ s.2 ≤ 2147483648) ∧ yl c.size c.rate s.2 (q.drop s.1) = some (l.drop s.1) ∧ j9 c.rate c.size q l = j9 c.rate c.size (q.drop s.1) (l.drop s.1))
  (fun (k, there) => [(2, .ptr nx v0 0), (7, .fn (.func 239) [] [.ptr (nx + 2) v1 0, .ip (zZ c)]), (26, L q), (27, I q.length), (28, I k)])
  (fun (k, there) => [.cells v0 65 (zZ c), .dead, .cells v1 3 [I there]]) (fun s => q.length - s.1) (0, c.start) [] ⟨by simp, hst, by simpa using hl, by simp⟩ (by simp) (by simp) ?_)
 rintro ⟨k, there⟩ ⟨hk, hth, hrn, ho⟩
 simp only at hk hth hrn ho ⊢
 refine za (zb ?_)
 refine za (zr rfl (fun hc => ?_) (fun hc => ?_))
 ·simp at hc
  obtain ⟨z, tl, a1, a2, a3, e0⟩ := zE rfl q k hc
  have hz := hq0 z (List.mem_of_getElem? a1)
  rw [a2] at hrn ho
  simp only [yl] at hrn
  split at hrn
  ·cases hrn
  rename_i hno
  obtain ⟨l2, hl2, hl3⟩ := Option.map_eq_some_iff.1 hrn
  rw [← hl3] at ho
  simp only [j9] at ho
  have hl4 : l.drop (k + 1) = l2 := by rw [← List.drop_drop, ← hl3]; rfl
  have hs1 : there + z - c.rate + c.rate = there + z := by omega
  rw [hs1] at ho
  refine zh (za (zj (za (ze [] (zm e0 hc) ?_))))
  refine za (zV [] (by rfl) (by rfl) fun K Gc Gh hK hGc hGh X hX0 hX => ?_)
  simp -implicitDefEqProofs [hX0, hX]
  try clear hX0 hX X
  refine hGc _ _ _ _ _ _ _ fun hsuf => ((ZdI c z there (id := nx + 2) (v := v1) (by simp) (by omega) (by omega)).mono ?_).v
  rintro p T ⟨rfl, rfl⟩
  refine ⟨_, _, y9 _ (by omega) (by simp), ?_⟩
  clear hGc hGh
  clear Gc Gh
  refine zR hsuf (D := []) (by rfl) fun Gc Gh hGc hGh X hX0 hX => ?_
  simp -implicitDefEqProofs [hX0, hX]
  clear hX0 hX X
  refine hK _ _ _ ?_
  clear hK hGc hGh
  clear K Gc Gh
  by_cases h1 : 0 < z
  ·by_cases h2 : there + z = c.size
   ·refine za (ze [(2, 40)] (zm h1 h2) ?_)
    refine zn (by simp [h2]) ?_
    refine zh (zb ?_)
    exact zp (k + 1, there + z - c.rate) [] ⟨hc, by dsimp only; omega, by rw [hl4]; exact hl2, by rw [ho, hl4, decide_eq_false (by omega), Bool.false_or]⟩ (by simp; omega) (by simp [zt k (by omega)]) rfl (by simp [h2])
   ·refine za (ze [(2, 40)] (zm h1 h2) ?_)
    refine zo (by simp [h2]) ?_
    refine za (zb ?_)
    exact zg (zk hd (by simp; rfl) (by rw [hres, ho]; simp [h1, h2, zq]))
  ·refine za (ze [(2, 40)] (zm h1 zL) ?_)
   refine zn rfl (zh (zb ?_))
   exact zp (k + 1, there + z - c.rate) [] ⟨hc, by dsimp only; omega, by rw [hl4]; exact hl2, by rw [ho, hl4, decide_eq_false (by omega), Bool.false_or]⟩ (by simp; omega) (by simp [zt k (by omega)]) rfl (by simp)
 ·simp at hc
  obtain rfl : k = q.length := by omega
  rw [List.drop_length] at ho
  simp only [j9] at ho
  refine zy (za (zb ?_))
  exact zg (zk hd (by simp; rfl) (by rw [hres, ho]; rfl))
def vU (a b : Int) : Int := if a + b < -9223372036854775808 then -9223372036854775808 else if 9223372036854775807 < a + b then 9223372036854775807 else a + b
theorem Zlp (a b : Int) (ha : zU a) (hb : zU b) : Pure Tryz.prog 257 [I a, I b] (if -9223372036854775808 ≤ a + b ∧ a + b ≤ 9223372036854775807 then .tup [I (a + b), B true] else .tup [I 0, B false]) := by
 unfold zU at ha hb
 refine zx Tryz.func257 Tryz.ntmps257 Tryz.results257 fun S nx hd => ?_
 refine za (zb ?_)
 by_cases h : -9223372036854775808 ≤ a + b ∧ a + b ≤ 9223372036854775807
 ·have w1 : IntKind.i64.wrap (a + b) = a + b := wr _ h.1 h.2
  refine za (ze [] w1 ?_)
  by_cases h1 : b < 0
  ·have h2 : a + b < a := by omega
   repeat apply za
   refine ze [] (zm h1 h2) ?_
   refine zn (by simp) ?_
   refine zh (za (zb ?_))
   exact zg (zk hd (by simp; rfl) (by simp [h, zq]))
  ·have h2 : ¬ a + b < a := by omega
   repeat apply za
   refine ze [] (zm h1 h2) ?_
   refine zn (by simp) ?_
   refine zh (za (zb ?_))
   exact zg (zk hd (by simp; rfl) (by simp [h, zq]))
 ·by_cases h0 : a + b < -9223372036854775808
  ·have w1 : IntKind.i64.wrap (a + b) = a + b + 18446744073709551616 := by rw [IntKind.wrap_i64]; omega
   have h1 : b < 0 := by omega
   have h2 : ¬ a + b + 18446744073709551616 < a := by omega
   refine za (ze [] w1 ?_)
   repeat apply za
   refine ze [] (zm h1 h2) ?_
   refine zo (by simp) ?_
   refine za (zb ?_)
   exact zg (zk hd (by simp; rfl) (by simp only [h, if_false]; rfl))
  ·have w1 : IntKind.i64.wrap (a + b) = a + b - 18446744073709551616 := by rw [IntKind.wrap_i64]; omega
   have h1 : ¬ b < 0 := by omega
   have h2 : a + b - 18446744073709551616 < a := by omega
   refine za (ze [] w1 ?_)
   repeat apply za
   refine ze [] (zm h1 h2) ?_
   refine zo (by simp) ?_
   refine za (zb ?_)
   exact zg (zk hd (by simp; rfl) (by simp only [h, if_false]; rfl))
theorem ZdK (a b : Int) (ha : zU a) (hb : zU b) : Pure Tryz.prog 234 [I a, I b] (I (vU a b)) := by
 have hadd := Zlp a b ha hb
 unfold zU at ha hb
 refine zx Tryz.func234 Tryz.ntmps234 Tryz.results234 fun S nx hd => ?_
 refine za (zb ?_)
 by_cases h : -9223372036854775808 ≤ a + b ∧ a + b ≤ 9223372036854775807
 ·rw [if_pos h] at hadd
  refine za (zb ?_)
  refine zz hadd ?_
  refine za (zj (za (zb ?_)))
  refine zo rfl (za (zb ?_))
  exact zg (zk hd (by simp; rfl) (by simp only [vU, zq]; rw [if_neg (by omega), if_neg (by omega)]))
 ·rw [if_neg h] at hadd
  refine za (zb ?_)
  refine zz hadd ?_
  refine za (zj (za (zb ?_)))
  refine zn rfl (za (zb ?_))
  refine zr rfl (fun h1 => ?_) (fun h1 => ?_)
  ·simp at h1
   refine za (zb ?_)
   exact zg (zk hd (by simp; rfl) (by simp only [vU, zq]; rw [if_pos (by omega)]))
  ·simp at h1
   refine zh (za (zb ?_))
   exact zg (zk hd (by simp; rfl) (by simp only [vU, zq]; rw [if_neg (by omega), if_pos (by omega)]))
theorem Xw (a lo hi : Int) : Pure Tryz.prog 79 [I a, I lo, I hi] (I (min (max a lo) hi)) := by
 have h1 : vy (xA a lo) hi = min (max a lo) hi := by unfold vy xA; split <;> split <;> omega
 refine zx Tryz.func79 Tryz.ntmps79 Tryz.results79 fun S nx hd => ?_
 refine za (zb ?_)
 refine za (ze [] h1 ?_)
 exact zg (zk hd (by simp; rfl) rfl)
def zT (v : List Visit) (n : Int) : List Int := (List.range (min (max n 0) 64).toNat).map fun (d : Nat) => ((v.filter fun s => decide (s.d = (d : Int))).map (·.q)).sum
theorem Q3 (v : List Visit) (n : Int) : (zT v n).length = (min (max n 0) 64).toNat := by simp [zT]
theorem ZdL (n : Int) : zT [] n = List.replicate (min (max n 0) 64).toNat 0 := by
 apply List.ext_getElem
 ·simp [zT]
 ·intro i h1 h2; simp [zT]
theorem Zlq (v : List Visit) (n : Int) (s : Visit) (h : ¬ (0 ≤ s.d ∧ s.d < ((min (max n 0) 64).toNat : Int))) : zT (v ++ [s]) n = zT v n := by
 unfold zT
 apply List.map_congr_left
 intro d hd
 have hdl := List.mem_range.1 hd
 have : ¬ s.d = (d : Int) := by omega
 simp [this]
theorem Zlr (v : List Visit) (n : Int) (s : Visit) (d : Nat) (hs : s.d = (d : Int)) (b : Int) (hb : (zT v n)[d]? = some b) : zT (v ++ [s]) n = (zT v n).set d (b + s.q) := by
 obtain ⟨hdl, hbe⟩ := List.getElem?_eq_some_iff.1 hb
 apply List.ext_getElem
 ·simp [zT]
 ·intro i h1 h2
  rw [List.getElem_set]
  have hil : i < (zT v n).length := by simpa using h2
  by_cases q : d = i
  ·subst q
   rw [if_pos rfl, ← hbe]
   simp [zT, hs]
  ·rw [if_neg q]
   have : ¬ s.d = (i : Int) := by omega
   simp [zT, this]
structure VisOk (v : List Visit) : Prop where
 n : v.length ≤ 1048576
 q : ∀ s ∈ v, 0 ≤ s.q ∧ s.q ≤ 2147483648
 d : ∀ s ∈ v, zU s.d
theorem ZdM (v : List Visit) (p : Visit → Bool) (h : ∀ s ∈ v, 0 ≤ s.q ∧ s.q ≤ 2147483648) : 0 ≤ ((v.filter p).map (·.q)).sum ∧ ((v.filter p).map (·.q)).sum ≤ 2147483648 * v.length := by
 induction v with
 | nil => simp
 | cons s v ih =>
  have h1 := ih fun x hx => h x (by simp [hx])
  have h2 := h s (by simp)
  rw [List.filter_cons]
  split
  ·simp only [List.map_cons, List.sum_cons, List.length_cons]; omega
  ·simp only [List.length_cons]; omega
theorem Zls {v : List Visit} (hv : ∀ s ∈ v, 0 ≤ s.q ∧ s.q ≤ 2147483648) (n : Int) : ∀ b ∈ zT v n, 0 ≤ b ∧ b ≤ 2147483648 * v.length := by
 intro b hb
 simp only [zT, List.mem_map] at hb
 obtain ⟨d, _, rfl⟩ := hb
 exact ZdM v _ hv
theorem ZdN (v : List Visit) (n : Int) (hv : VisOk v) : Pure Tryz.prog 206 [L v, I n] (L (zT v n)) := by
 have hvn := hv.n
 have hm : min (max n 0) 64 = (((min (max n 0) 64).toNat : Nat) : Int) := by omega
 have hm64 : (min (max n 0) 64).toNat ≤ 64 := by omega
 refine zx Tryz.func206 Tryz.ntmps206 Tryz.results206 fun S nx hd => ?_
 refine za (zb ?_)
 refine za (zb ?_)
 refine zz (Xw n 0 64) ?_
 refine ⟨by omega, fun v1 => ?_⟩
 generalize hmm : (min (max n 0) 64).toNat = m at hm hm64
 have hz := ZdL n
 rw [hmm] at hz
 repeat apply za
 refine zb ?_
 refine zj (zG (fun s : Nat => s ≤ v.length) (fun k => [(5, .sl nx v1 1 0 m), (11, L v), (12, I v.length), (13, I k)]) (fun k => [.cells v1 3 ((zT (v.take k) n).flatMap Enc.enc)]) (fun s => v.length - s) 0 [] (by simp) (by simp [hmm]) (by simp [hz, hmm, WE]) ?_)
 rintro k hk
 have hbl := Q3 (v.take k) n
 rw [hmm] at hbl
 refine za (zb ?_)
 refine za (zr rfl (fun hc => ?_) (fun hc => ?_))
 ·simp at hc
  obtain ⟨s, tl, a1, a2, a3, _, e0⟩ := el 2 rfl v k hc
  have hsm := List.mem_of_getElem? a1
  have hsq := hv.q s hsm
  have hout := Zlq (v.take k) n s
  rw [hmm] at hout
  refine zh (za (zj (za (ze [] (zm e0 hc) ?_))))
  intro v2
  by_cases h1 : 0 ≤ s.d
  ·by_cases h2 : s.d < (m : Int)
   ·obtain ⟨d, hd⟩ := Int.eq_ofNat_of_zero_le h1
    have hdm : d < m := by omega
    obtain ⟨b, tl2, b1, b2, b3, e2⟩ := zE rfl (zT (v.take k) n) d (by omega)
    have hbm := Zls (fun x hx => hv.q x (List.mem_of_mem_take hx)) n b (List.mem_of_getElem? b1)
    have htl : (v.take k).length ≤ 1048576 := by simp; omega
    have hin := Zlr (v.take k) n s d hd b b1
    have hsp := J0 (zT (v.take k) n) d (b + s.q) (by omega)
    have hsat : vU b s.q = b + s.q := by unfold vU; rw [if_neg (by omega), if_neg (by omega)]
    have hflen : ((zT (v.take k) n).flatMap Enc.enc).length = m := by rw [q8, hbl]
    refine za (ze [(3, 20)] (zm h1 h2) ?_)
    refine zo rfl (zC (some [nx + 1]) (Row.pures [0, 1, 2, 3, 4, 5, 6, 8, 9] (.alt 7 (Row.pures [10, 11] (.alt 12 (.done) .stop)) .stop)) mixed (yi hd hdm e2 hbl) ?_)
    refine zI (ZdK b s.q (by unfold zU; omega) (by unfold zU; omega)) (qm hsat hsp hbl hdm hd) ?_
    refine ⟨by omega, ?_⟩
    refine zb ?_
    exact zp (k + 1) [_] hc (by omega) (by simp [zt k (by omega)]) rfl (by rw [a3, hin]; rfl)
   ·refine za (ze [(3, 20)] (zm h1 h2) ?_)
    refine zn rfl (zh (zb ?_))
    exact zp (k + 1) [_] hc (by omega) (by simp [zt k (by omega)]) rfl (by rw [a3, hout (by omega)]; rfl)
  ·refine za (ze [(3, 20)] (zm h1 zL) ?_)
   refine zn rfl (zh (zb ?_))
   exact zp (k + 1) [_] hc (by omega) (by simp [zt k (by omega)]) rfl (by rw [a3, hout (by omega)]; rfl)
 ·simp at hc
  obtain rfl : k = v.length := by omega
  rw [List.take_length] at hbl ⊢
  refine zy (za (zb ?_))
  refine yc 0 rfl ?_
  exact zg (zk hd (by simp; rfl) (by simp [hbl, zq]))
open Go
def yx (n : Nat) : List Int := if h : n = 0 then [] else ((n % 65536 : Nat) : Int) :: yx (n / 65536)
termination_by n
decreasing_by omega
theorem Zt : yx 0 = [] := by rw [yx]; simp
theorem Zu {n : Nat} (h : n ≠ 0) : yx n = ((n % 65536 : Nat) : Int) :: yx (n / 65536) := by rw [yx]; simp [h]
def yg : List Int → Int
 | [] => 0
 | d :: l => d + 65536 * yg l
def xu (l : List Int) : Prop := ∀ d ∈ l, 0 ≤ d ∧ d < 65536
def Z4 : List Int → Prop
 | [] => True
 | [d] => d ≠ 0
 | _ :: e :: l => Z4 (e :: l)
theorem Zv : ∀ n : Nat, xu (yx n) ∧ yg (yx n) = n ∧ Z4 (yx n) ∧ (n < 65536 ^ 4 → (yx n).length ≤ 4) := by
 intro n
 induction n using Nat.strongRecOn with
 | _ n ih =>
  by_cases h : n = 0
  ·subst h; rw [Zt]; exact ⟨fun d hd => (nomatch hd), rfl, trivial, by simp⟩
  ·obtain ⟨h1, h2, h3, _⟩ := ih (n / 65536) (by omega)
   rw [Zu h]
   refine ⟨?_, ?_, ?_, ?_⟩
   ·intro d hd
    rcases List.mem_cons.1 hd with rfl | hd
    ·omega
    ·exact h1 d hd
   ·simp only [yg, h2]; omega
   ·cases hl : yx (n / 65536) with
    | nil =>
     rw [hl] at h2
     simp only [yg] at h2
     simp only [Z4]; omega
    | cons e l => rw [hl] at h3; exact h3
   ·intro hlt
    have : ∀ m : Nat, ∀ k : Nat, m < 65536 ^ k → (yx m).length ≤ k := by
     intro m k
     induction k generalizing m with
     | zero => intro hm; simp at hm; subst hm; rw [Zt]; simp
     | succ k ihk =>
      intro hm
      by_cases h0 : m = 0
      ·subst h0; rw [Zt]; simp
      ·rw [Zu h0]
       have := ihk (m / 65536) (by rw [Nat.pow_succ] at hm; exact Nat.div_lt_of_lt_mul (by rw [Nat.mul_comm]; exact hm))
       simp; exact this
    have := this n 4 hlt
    rw [Zu h] at this
    exact this
theorem VN {l : List Int} (h : xu l) : 0 ≤ yg l := by
 induction l with
 | nil => simp [yg]
 | cons d l ih =>
  have h1 := h d (by simp)
  have h2 := ih fun x hx => h x (by simp [hx])
  simp only [yg]; omega
theorem Xx (a b : List Int) : yg (a ++ b) = yg a + 65536 ^ a.length * yg b := by
 induction a with
 | nil => simp [yg]
 | cons d a ih => simp only [List.cons_append, yg, ih, List.length_cons, Int.pow_succ]; rw [Int.mul_add, Int.mul_comm (65536 ^ a.length) 65536, Int.mul_assoc]; omega
theorem Zlt : ∀ {l : List Int}, xu l → Z4 l → l = yx (yg l).toNat := by
 intro l
 induction l with
 | nil => intro _ _; simp only [yg]; exact Zt.symm
 | cons d l ih =>
  intro h ht
  have h1 := h d (by simp)
  have hl : xu l := fun x hx => h x (by simp [hx])
  have h2 := VN hl
  cases l with
  | nil =>
   simp only [Z4] at ht
   simp only [yg]
   rw [Zu (by omega)]
   have e1 : (d + 65536 * 0).toNat / 65536 = 0 := by omega
   rw [e1, Zt]
   congr 1; omega
  | cons e l =>
   have := ih hl ht
   have hpos : yg (e :: l) ≠ 0 := by
    intro h0
    rw [h0] at this
    rw [show (0 : Int).toNat = 0 from rfl, Zt] at this
    cases this
   have ev : yg (d :: e :: l) = d + 65536 * yg (e :: l) := rfl
   rw [ev, Zu (by omega)]
   have e1 : (d + 65536 * yg (e :: l)).toNat / 65536 = (yg (e :: l)).toNat := by omega
   rw [e1, ← this]
   congr 1; omega
theorem Xy (n : Int) (hn : zU n) : Pure Tryz.prog 156 [I n] (.agg [L (yx n.natAbs), B (decide (n < 0))]) := by
 unfold zU at hn
 have hd4 := (Zv n.natAbs).2.2.2 (by rw [show (65536 : Nat) ^ 4 = 18446744073709551616 from by decide]; omega)
 refine zx Tryz.func156 Tryz.ntmps156 Tryz.results156 fun S nx hd => ?_
 refine za (zb ?_)
 intro v0
 refine za (zb ?_)
 intro v1
 refine za (zb ?_)
 refine za (qQ 1 0 3 1 rfl rfl fun v2 => ?_)
 refine zj (zG (fun s : Int × List Int × Nat => yx n.natAbs = s.2.1 ++ yx s.1.natAbs ∧ (-9223372036854775808 ≤ s.1 ∧ s.1 ≤ 9223372036854775807)) (fun (m, out, v2) => [(0, I m), (2, .ptr nx v0 0), (3, .ptr (nx + 1) v1 0)])
  (fun (m, out, v2) => [.cells v0 204 [.sc (.slice none 0 0), B false], .cells v1 204 [.sl (nx + 2) v2 1 0 out.length, B (decide (n < 0))], .cells v2 3 (out.flatMap Enc.enc)]) (fun s => s.1.natAbs) (n, [], v2) [] (by simp; exact hn) (by simp) (by simp) ?_)
 rintro ⟨m, out, v2⟩ ⟨ho, hm⟩
 simp only at ho hm ⊢
 by_cases h0 : m = 0
 ·subst h0
  rw [show (0 : Int).natAbs = 0 from rfl, Zt, List.append_nil] at ho
  repeat apply za
  refine zb ?_
  refine zn rfl (zy (za (zb ?_)))
  refine yc 2 rfl ?_
  exact zg (zk hd (by simp; rfl) (by rw [ho]; simp [zq]))
 ·repeat apply za
  refine ze [] h0 ?_
  refine zo (by simp [h0]) ?_
  refine zh (zj ?_)
  have hdm : yx m.natAbs = ((m.natAbs % 65536 : Nat) : Int) :: yx (m.tdiv 65536).natAbs := by
   rw [Zu (by omega)]
   congr 2
   rw [Int.natAbs_tdiv]; rfl
  rw [hdm] at ho
  have hol : out.length ≤ 4 := by rw [ho] at hd4; simp at hd4; omega
  have hq : (m.tdiv 65536).natAbs = m.natAbs / 65536 := by rw [Int.natAbs_tdiv]; rfl
  have hq2 : -9223372036854775808 ≤ m.tdiv 65536 ∧ m.tdiv 65536 ≤ 9223372036854775807 := by omega
  have w1 : IntKind.i64.wrap (m.tdiv 65536) = m.tdiv 65536 := wr _ hq2.1 hq2.2
  refine za (zb ?_)
  repeat apply za
  refine zb ?_
  by_cases hneg : m.tmod 65536 < 0
  ·have e1 : -(m.tmod 65536) = ((m.natAbs % 65536 : Nat) : Int) := by
    have := Int.natAbs_tmod m 65536
    have e : (65536 : Int).natAbs = 65536 := rfl
    rw [e] at this; omega
   have w2 : IntKind.i64.wrap (-(m.tmod 65536)) = ((m.natAbs % 65536 : Nat) : Int) := by rw [wr _ (by omega) (by omega)]; exact e1
   refine zo (by simp [hneg]) ?_
   refine ze [] w2 ?_
   refine za (zb ?_)
   refine ⟨by omega, ?_⟩
   refine ze [] w1 ?_
   exact zp (m.tdiv 65536, out ++ [((m.natAbs % 65536 : Nat) : Int)], v2 + 1) [] ⟨by rw [ho]; simp, hq2⟩ (by dsimp only; omega) (by simp) rfl (by simp)
  ·have e1 : m.tmod 65536 = ((m.natAbs % 65536 : Nat) : Int) := by
    have := Int.natAbs_tmod m 65536
    have e : (65536 : Int).natAbs = 65536 := rfl
    rw [e] at this; omega
   refine zn (by simp; omega) ?_
   refine zh (za (ze [] e1 ?_))
   refine ⟨by omega, ?_⟩
   refine ze [] w1 ?_
   exact zp (m.tdiv 65536, out ++ [((m.natAbs % 65536 : Nat) : Int)], v2 + 1) [] ⟨by rw [ho]; simp, hq2⟩ (by dsimp only; omega) (by simp) rfl (by simp)
def qB : List Int → List Int → Int → List Int
 | [], [], c => if 0 < c then [c] else []
 | a :: u, [], c => (a + c) % 65536 :: qB u [] ((a + c) / 65536)
 | [], b :: bs, c => (b + c) % 65536 :: qB [] bs ((b + c) / 65536)
 | a :: u, b :: bs, c => (a + b + c) % 65536 :: qB u bs ((a + b + c) / 65536)
theorem Zlu : ∀ (a b : List Int) (c : Int), xu a → xu b → 0 ≤ c → c ≤ 1 → xu (qB a b c) ∧ yg (qB a b c) = yg a + yg b + c ∧ (qB a b c).length ≤ max a.length b.length + 1 := by
 intro a
 induction a with
 | nil =>
  intro b
  induction b with
  | nil =>
   intro c _ _ h0 h1
   simp only [qB]
   split
   ·refine ⟨?_, by simp [yg], by simp⟩
    intro d hd; simp at hd; omega
   ·refine ⟨by intro d hd; simp at hd, by simp [yg]; omega, by simp⟩
  | cons b bs ih =>
   intro c ha hb h0 h1
   have hb1 := hb b (by simp)
   obtain ⟨q1, q2, q3⟩ := ih ((b + c) / 65536) ha (fun x hx => hb x (by simp [hx])) (by omega) (by omega)
   simp only [qB]
   refine ⟨?_, by simp only [yg] at q2 ⊢; rw [q2]; omega, by simp at q3 ⊢; omega⟩
   intro d hd
   rcases List.mem_cons.1 hd with rfl | hd
   ·omega
   ·exact q1 d hd
 | cons a u iha =>
  intro b
  cases b with
  | nil =>
   intro c ha hb h0 h1
   have ha1 := ha a (by simp)
   obtain ⟨q1, q2, q3⟩ := iha [] ((a + c) / 65536) (fun x hx => ha x (by simp [hx])) hb (by omega) (by omega)
   simp only [qB]
   refine ⟨?_, by simp only [yg] at q2 ⊢; rw [q2]; omega, by simp at q3 ⊢; omega⟩
   intro d hd
   rcases List.mem_cons.1 hd with rfl | hd
   ·omega
   ·exact q1 d hd
  | cons b bs =>
   intro c ha hb h0 h1
   have ha1 := ha a (by simp)
   have hb1 := hb b (by simp)
   obtain ⟨q1, q2, q3⟩ := iha bs ((a + b + c) / 65536) (fun x hx => ha x (by simp [hx])) (fun x hx => hb x (by simp [hx])) (by omega) (by omega)
   simp only [qB]
   refine ⟨?_, by simp only [yg] at q2 ⊢; rw [q2]; omega, by simp at q3 ⊢; omega⟩
   intro d hd
   rcases List.mem_cons.1 hd with rfl | hd
   ·omega
   ·exact q1 d hd
theorem Zlv (a b : List Int) (c : Int) (h : a ≠ [] ∨ b ≠ [] ∨ 0 < c) : qB a b c = (a.headD 0 + b.headD 0 + c) % 65536 :: qB a.tail b.tail ((a.headD 0 + b.headD 0 + c) / 65536) ∨ (a = [] ∧ b = [] ∧ qB a b c = [c]) := by
 cases a with
 | nil =>
  cases b with
  | nil => right; simp at h; simp [qB, h]
  | cons b bs => left; simp [qB]
 | cons a u =>
  cases b with
  | nil => left; simp [qB]
  | cons b bs => left; simp [qB]
theorem Xz (l : List Int) (k : Nat) : (l.drop k).headD 0 = l.getD k 0 := by simp [List.headD_eq_head?_getD, List.head?_drop, List.getD_eq_getElem?_getD]
theorem Zlw (a b : List Int) (ha : xu a) (hb : xu b) (hal : a.length ≤ 1000) (hbl : b.length ≤ 1000) : Pure Tryz.prog 200 [L a, L b] (L (qB a b 0)) := by
 refine zx Tryz.func200 Tryz.ntmps200 Tryz.results200 fun S nx hd => ?_
 refine za (zb ?_)
 refine za (zb ?_)
 refine za (qZ 5 3 1 rfl fun v1 => ?_)
 refine zb ?_
 repeat apply za
 refine zb ?_
 refine zj (zG (fun s : Nat × Int × List Int × Nat => s.1 ≤ max a.length b.length + 1 ∧ (0 ≤ s.2.1 ∧ s.2.1 ≤ 1) ∧ s.2.2.1.length = s.1 ∧ qB a b 0 = s.2.2.1 ++ qB (a.drop s.1) (b.drop s.1) s.2.1 ∧ (s.1 = max a.length b.length + 1 → s.2.1 = 0)) (fun (k, c, out, v1) => [(0, L a), (1, L b), (5, .sl nx v1 1 0 out.length), (6, I c), (7, I k)])
  (fun (k, c, out, v1) => [.cells v1 3 (out.flatMap Enc.enc)]) (fun s => max a.length b.length + 1 - s.1) (0, 0, [], v1) [] (by simp) (by simp) (by simp) ?_)
 rintro ⟨k, c, out, v1⟩ ⟨hk, hc, hol, ho, hend⟩
 simp only at hk hc hol ho hend ⊢
 by_cases hlive : k < a.length ∨ k < b.length ∨ 0 < c
 ·have hkl : k < max a.length b.length + 1 := by
   rcases Nat.lt_or_ge k (max a.length b.length + 1) with h | h
   ·exact h
   ·have := hend (by omega); omega
  -- the sum at this place
  have hx : 0 ≤ a.getD k 0 ∧ a.getD k 0 < 65536 := by
   rw [List.getD_eq_getElem?_getD]
   cases h : a[k]? with
   | none => simp
   | some x => exact ha x (List.mem_of_getElem? h)
  have hy : 0 ≤ b.getD k 0 ∧ b.getD k 0 < 65536 := by
   rw [List.getD_eq_getElem?_getD]
   cases h : b[k]? with
   | none => simp
   | some x => exact hb x (List.mem_of_getElem? h)
  generalize hxx : a.getD k 0 = x at hx
  generalize hyy : b.getD k 0 = y at hy
  have hnext : ∀ s, s = c + x + y → qB a b 0 = (out ++ [s % 65536]) ++ qB (a.drop (k + 1)) (b.drop (k + 1)) (s / 65536) ∧ (k + 1 = max a.length b.length + 1 → s / 65536 = 0) := by
   rintro s rfl
   have hne : a.drop k ≠ [] ∨ b.drop k ≠ [] ∨ 0 < c := by
    rcases hlive with h | h | h
    ·left; intro e; have := List.drop_eq_nil_iff.1 e; omega
    ·right; left; intro e; have := List.drop_eq_nil_iff.1 e; omega
    ·exact .inr (.inr h)
   have hsum : (a.drop k).headD 0 + (b.drop k).headD 0 + c = c + x + y := by rw [Xz, Xz, hxx, hyy]; omega
   have h0 : k + 1 = max a.length b.length + 1 → c + x + y = c := by
    intro q
    have e1 : x = 0 := by rw [← hxx, List.getD_eq_getElem?_getD, List.getElem?_eq_none (by omega)]; rfl
    have e2 : y = 0 := by rw [← hyy, List.getD_eq_getElem?_getD, List.getElem?_eq_none (by omega)]; rfl
    omega
   refine ⟨?_, fun q => by have := h0 q; omega⟩
   rcases Zlv (a.drop k) (b.drop k) c hne with e | ⟨e1, e2, e3⟩
   ·rw [ho, e, hsum]
    simp [List.tail_drop]
   ·have hx0 : x = 0 := by rw [← hxx, ← Xz, e1]; rfl
    have hy0 : y = 0 := by rw [← hyy, ← Xz, e2]; rfl
    have d1 : a.drop (k + 1) = [] := by rw [← List.drop_drop, e1]; rfl
    have d2 : b.drop (k + 1) = [] := by rw [← List.drop_drop, e2]; rfl
    have z1 : (c + x + y) % 65536 = c := by omega
    have z2 : (c + x + y) / 65536 = 0 := by omega
    rw [ho, e3, d1, d2, z1, z2]; simp [qB]
  have fin : ∀ s : Int, s = c + x + y → s.tmod 65536 = s % 65536 ∧ IntKind.i64.wrap (s.tdiv 65536) = s / 65536 := by
   intro s hs
   refine ⟨Int.tmod_eq_emod_of_nonneg (by omega), ?_⟩
   rw [Int.tdiv_eq_ediv_of_nonneg (by omega), wr _ (by omega) (by omega)]
  obtain ⟨f1, f2⟩ := fin _ rfl
  obtain ⟨g1, g2⟩ := hnext _ rfl
  have wa : IntKind.i64.wrap (c + x) = c + x := wr _ (by omega) (by omega)
  have wb : IntKind.i64.wrap (c + x + y) = c + x + y := wr _ (by omega) (by omega)
  by_cases h1 : k < a.length
  ·obtain ⟨x', tl, a1, a2, a3, e0⟩ := zE rfl a k h1
   obtain rfl : x' = x := by rw [← hxx, List.getD_eq_getElem?_getD, a1]; rfl
   repeat apply za
   refine ze [(4, 12), (10, 18)] (zm h1 zL) ?_
   refine zo (by simp) ?_
   refine zh (za (zj ?_))
   repeat apply za
   refine zb ?_
   refine zo (by simp [h1]) ?_
   refine ze [] (zF e0 h1 wa) ?_
   by_cases h2 : k < b.length
   ·obtain ⟨y', tl2, b1, b2, b3, e2⟩ := zE rfl b k h2
    obtain rfl : y' = y := by rw [← hyy, List.getD_eq_getElem?_getD, b1]; rfl
    repeat apply za
    refine zb ?_
    refine zo (by simp [h2]) ?_
    refine ze [] (zF e2 h2 wb) ?_
    refine za (ze [] f1 ?_)
    refine ⟨by omega, ?_⟩
    refine ze [] f2 ?_
    refine zb ?_
    exact zp (k + 1, (c + x' + y') / 65536, out ++ [(c + x' + y') % 65536], v1 + 1) [] ⟨by omega, by dsimp only; omega, by simp [hol], g1, g2⟩ (by simp; omega) (by simp [zt k (by omega)]) rfl (by simp)
   ·obtain rfl : y = 0 := by rw [← hyy, List.getD_eq_getElem?_getD, List.getElem?_eq_none (by omega)]; rfl
    rw [Int.add_zero] at f1 f2 g1 g2
    repeat apply za
    refine zb ?_
    refine zn (by simp; omega) ?_
    refine zh (za (ze [] f1 ?_))
    refine ⟨by omega, ?_⟩
    refine ze [] f2 ?_
    refine zb ?_
    exact zp (k + 1, (c + x') / 65536, out ++ [(c + x') % 65536], v1 + 1) [] ⟨by omega, by dsimp only; omega, by simp [hol], g1, g2⟩ (by simp; omega) (by simp [zt k (by omega)]) rfl (by simp)
  ·obtain rfl : x = 0 := by rw [← hxx, List.getD_eq_getElem?_getD, List.getElem?_eq_none (by omega)]; rfl
   by_cases h2 : k < b.length
   ·obtain ⟨y', tl2, b1, b2, b3, e2⟩ := zE rfl b k h2
    obtain rfl : y' = y := by rw [← hyy, List.getD_eq_getElem?_getD, b1]; rfl
    have f1' : (c + y').tmod 65536 = (c + y') % 65536 := by rw [show c + y' = c + 0 + y' by omega]; exact f1
    have f2' : IntKind.i64.wrap ((c + y').tdiv 65536) = (c + y') / 65536 := by rw [show c + y' = c + 0 + y' by omega]; exact f2
    have wb' : IntKind.i64.wrap (c + y') = c + y' := wr _ (by omega) (by omega)
    rw [show c + 0 + y' = c + y' by omega] at g1 g2
    repeat apply za
    refine ze [(4, 12), (10, 18)] (zF h1 h2 zL) ?_
    refine zo (by simp) ?_
    refine zh (za (zj ?_))
    repeat apply za
    refine zb ?_
    refine zn (by simp; omega) ?_
    refine zh ?_
    repeat apply za
    refine zb ?_
    refine zo (by simp [h2]) ?_
    refine ze [] (zF e2 h2 wb') ?_
    refine za (ze [] f1' ?_)
    refine ⟨by omega, ?_⟩
    refine ze [] f2' ?_
    refine zb ?_
    exact zp (k + 1, (c + y') / 65536, out ++ [(c + y') % 65536], v1 + 1) [] ⟨by omega, by dsimp only; omega, by simp [hol], g1, g2⟩ (by simp; omega) (by simp [zt k (by omega)]) rfl (by simp)
   ·obtain rfl : y = 0 := by rw [← hyy, List.getD_eq_getElem?_getD, List.getElem?_eq_none (by omega)]; rfl
    have h3 : 0 < c := by omega
    obtain rfl : c = 1 := by omega
    rw [show (1 : Int) + 0 + 0 = 1 by rfl] at f1 f2 g1 g2
    repeat apply za
    refine ze [(4, 12), (10, 18)] (zm h1 h2) ?_
    refine zo (by simp) ?_
    refine zh (za (zj ?_))
    repeat apply za
    refine zb ?_
    refine zn (by simp; omega) ?_
    refine zh ?_
    repeat apply za
    refine zb ?_
    refine zn (by simp; omega) ?_
    refine zh (za (ze [] f1 ?_))
    refine ⟨by omega, ?_⟩
    refine ze [] f2 ?_
    refine zb ?_
    exact zp (k + 1, (1 : Int) / 65536, out ++ [(1 : Int) % 65536], v1 + 1) [] ⟨by omega, by dsimp only; omega, by simp [hol], g1, g2⟩ (by simp; omega) (by simp [zt k (by omega)]) rfl (by simp)
 ·have h1 : ¬ k < a.length := by omega
  have h2 : ¬ k < b.length := by omega
  have h3 : ¬ 0 < c := by omega
  rw [List.drop_of_length_le (by omega), List.drop_of_length_le (by omega)] at ho
  simp only [qB, h3, if_false, List.append_nil] at ho
  repeat apply za
  refine ze [(4, 12), (10, 18)] (zF h1 h2 h3) ?_
  refine zn (by simp) ?_
  refine zy (za (zb ?_))
  refine yc 0 rfl ?_
  exact zg (zk hd (by simp; rfl) (by rw [ho]; simp [zq]))
open Go
theorem Zlx {l : List Int} (h : l = [] ∨ ∃ m x, l = m ++ [x] ∧ x ≠ 0) : Z4 l := by
 rcases h with rfl | ⟨m, x, rfl, hx⟩
 ·trivial
 ·induction m with
  | nil => exact hx
  | cons a m ih =>
   cases m with
   | nil => exact hx
   | cons b m => exact ih
theorem Zly (l : List Int) (k : Nat) (h : ∀ d ∈ l.drop k, d = 0) : yg l = yg (l.take k) := by
 have hz : ∀ m : List Int, (∀ d ∈ m, d = 0) → yg m = 0 := by
  intro m; induction m with
  | nil => intro _; rfl
  | cons a m ih => intro h; simp only [yg]; rw [ih fun d hd => h d (by simp [hd]), h a (by simp)]; rfl
 conv => lhs; rw [← List.take_append_drop k l]
 rw [Xx, hz _ h]; simp
theorem Zlz (l : List Int) (neg : Bool) (hl : xu l) (hn : l.length ≤ 1000) : Pure Tryz.prog 199 [.agg [L l, B neg]] (.agg [L (yx (yg l).toNat), B (if yx (yg l).toNat = [] then false else neg)]) := by
 refine zx Tryz.func199 Tryz.ntmps199 Tryz.results199 fun S nx hd => ?_
 refine za (zb ?_)
 intro v0 v1
 have fl : ∀ k, k ≤ l.length → ((l.flatMap Enc.enc).take k) = ((l.take k).flatMap Enc.enc) := fun k _ => by
  have := Zb (α := Int) Enc.enc 1 (fun _ => rfl) l k
  rw [Nat.mul_one] at this; exact this
 refine za (qh (nx := nx) (σ := Unit) (fun _ => True) (fun _ => [(1, .ptr nx v0 0), (2, .ptr (nx + 1) v1 0)]) (fun _ => S) (fun _ => [.cells v0 204 [L (yx (yg l).toNat), B neg], .cells v1 204 [.sc (.slice none 0 0), B false]]) ?_ ?_)
 ·refine zj (zG (fun s : Nat => s ≤ l.length ∧ (∀ d ∈ l.drop s, d = 0)) (fun k => [(1, .ptr nx v0 0), (2, .ptr (nx + 1) v1 0)]) (fun k => [.cells v0 204 [L (l.take k), B neg], .cells v1 204 [.sc (.slice none 0 0), B false]]) (fun s => s) l.length [] (by simp) (by simp) (by simp) ?_)
  rintro k ⟨hk, ho⟩
  have htk : (l.take k).length = k := by simp; omega
  have stop : Z4 (l.take k) → L (l.take k) = L (yx (yg l).toNat) := by
   intro h
   rw [Zly l k ho, ← Zlt (fun d hd => hl d (List.mem_of_mem_take hd)) h]
  match k, hk with
  | 0, _ =>
   repeat apply za
   refine ze [(4, 7)] zL ?_
   refine zn rfl (zy (zP () [] trivial (by simp) rfl ?_))
   have := stop trivial
   simp only [List.take_zero] at this
   simp [this]
  | j + 1, hk =>
   obtain ⟨d, tl, a1, a2, a3, e0⟩ := zE rfl l j (by omega)
   have hw : IntKind.i64.wrap ((j : Int) + 1 - 1) = (j : Int) := by rw [wr _ (by omega) (by omega)]; omega
   have hw' : IntKind.i64.wrap (j : Int) = (j : Int) := wr _ (by omega) (by omega)
   have hlast : ((l.take (j + 1)).flatMap Enc.enc).drop j = [I d] := by
    rw [a3, List.flatMap_append, List.drop_append_of_le_length (by rw [q8]; simp; omega), List.drop_of_length_le (by rw [q8]; simp; omega)]; rfl
   have hjj : (j : Int) < (j : Int) + 1 := by omega
   by_cases h0 : d = 0
   ·repeat apply za
    refine ze [(4, 7)] (yh htk hw hw' hlast hjj h0) ?_
    refine zo (by simp) ?_
    refine zh (zj ?_)
    have hft : ((l.take (j + 1)).flatMap Enc.enc).take j = (l.take j).flatMap Enc.enc := by rw [← fl (j + 1) hk, List.take_take, fl _ (by omega)]; congr 2; omega
    have hjl : (l.take j).length = j := by simp; omega
    refine ze [] (yi htk hw hw' hft) ?_
    exact zp j [] ⟨by omega, fun e he => by rw [a2] at he; rcases List.mem_cons.1 he with q | q; exact q.trans h0; exact ho e q⟩ (by omega) (by simp) rfl (by simp [hjl, hft])
   ·repeat apply za
    refine ze [(4, 7)] (yh htk hw hw' hlast hjj h0) ?_
    refine zn (by simp) ?_
    have := stop (Zlx (.inr ⟨l.take j, d, a3, h0⟩))
    refine zy (zP () [] trivial (by simp) rfl (by rw [this]; rfl))
 ·intro _ _
  have hdl := Zv (yg l).toNat
  generalize yx (yg l).toNat = m at hdl ⊢
  cases m with
  | nil =>
   repeat apply za
   refine zb ?_
   refine zo (by simp) ?_
   refine zb ?_
   refine za (zb ?_)
   exact zg (zk hd (by simp; rfl) rfl)
  | cons a m =>
   have h1 : ¬ ((m.length : Int) + 1 = 0) := by omega
   repeat apply za
   refine ze [] h1 ?_
   refine zn (by simp) ?_
   refine zh (za (zb ?_))
   exact zg (zk hd (by simp; rfl) rfl)
def uy : List Int → List Int → Int
 | x :: a, y :: b => if x < y then -1 else if y < x then 1 else uy a b
 | _, _ => 0
def Zw (a b : List Int) : Int := if a.length < b.length then -1 else if b.length < a.length then 1 else uy a.reverse b.reverse
theorem ZlA (a b : List Int) (ha : a.length ≤ 1000) (hb : b.length ≤ 1000) : Pure Tryz.prog 198 [L a, L b] (I (Zw a b)) := by
 refine zx Tryz.func198 Tryz.ntmps198 Tryz.results198 fun S nx hd => ?_
 refine za (zb ?_)
 by_cases h1 : a.length = b.length
 case neg =>
  have h1' : ¬ ((a.length : Int) = b.length) := by omega
  repeat apply za
  refine ze [] h1' ?_
  refine zo (by simp [h1']) ?_
  by_cases h2 : a.length < b.length
  ·repeat apply za
   refine zb ?_
   refine zo (by simp [h2]) ?_
   refine za (zb ?_)
   exact zg (zk hd (by simp; rfl) (by simp [Zw, h2, zq]))
  ·repeat apply za
   refine zb ?_
   refine zn (by simp; omega) ?_
   refine zh (za (zb ?_))
   exact zg (zk hd (by simp; rfl) (by simp [Zw, h2, show b.length < a.length by omega, zq]))
 have hres : Zw a b = uy a.reverse b.reverse := by simp [Zw, h1]
 rw [hres]
 have h1' : ((a.length : Int) = b.length) := by omega
 repeat apply za
 refine ze [] h1' ?_
 refine zn (by simp [h1']) ?_
 refine zh ?_
 repeat apply za
 refine zb ?_
 have w0 : IntKind.i64.wrap ((a.length : Int) - 1) = (a.length : Int) - 1 := wr _ (by omega) (by omega)
 refine zj (zG (fun m : Nat => m ≤ a.length ∧ uy a.reverse b.reverse = uy (a.take m).reverse (b.take m).reverse) (fun m => [(0, L a), (1, L b), (5, I ((m : Int) - 1))]) (fun _ => []) (fun m => m) a.length [] ⟨Nat.le_refl _, by rw [List.take_length, List.take_of_length_le (by omega)]⟩ (by simp [w0]) (by simp) ?_)
 rintro m ⟨hm, ho⟩
 match m, hm with
 | 0, _ =>
  repeat apply za
  refine zb ?_
  refine zn (by simp) ?_
  refine zy (za (zb ?_))
  exact zg (zk hd (by simp; rfl) (by rw [ho]; simp [uy, zq]))
 | j + 1, hm =>
  have s1 : ((j + 1 : Nat) : Int) - 1 = (j : Int) := by omega
  obtain ⟨x, tl, a1, a2, a3, e0⟩ := zE rfl a j (by omega)
  obtain ⟨y, tl2, b1, b2, b3, e2⟩ := zE rfl b j (by omega)
  rw [a3, b3] at ho
  simp only [List.reverse_append, List.reverse_cons, List.reverse_nil, List.nil_append, List.cons_append, uy] at ho
  have g1 : j < a.length := by omega
  have g2 : j < b.length := by omega
  have s2 : (j : Int) + 1 - 1 = (j : Int) := by omega
  repeat apply za
  refine ze [] (zm s1 s2) ?_
  refine zo (by simp) ?_
  refine zh (za (zj ?_))
  repeat apply za
  refine zC none (Row.pures [0, 1, 2, 3, 4, 5, 6, 7, 8] .done) mixed (yh s1 s2 g1 g2 e0 e2) ?_
  by_cases h3 : x < y
  ·repeat apply za
   refine zo (by simp [h3]) ?_
   refine za (zb ?_)
   exact zg (zk hd (by simp; rfl) (by rw [ho, if_pos h3]; rfl))
  ·repeat apply za
   refine zn (by simp; omega) ?_
   refine zh (za (zC none (Row.pures [0, 1, 2, 3, 4, 5, 6, 7, 8] .done) mixed (yh s1 s2 g1 g2 e0 e2) ?_))
   by_cases h4 : y < x
   ·repeat apply za
    refine zo (by simp [h4]) ?_
    refine za (zb ?_)
    exact zg (zk hd (by simp; rfl) (by rw [ho, if_neg h3, if_pos h4]; rfl))
   ·repeat apply za
    refine zn (by simp; omega) ?_
    refine zh ?_
    have w1 : IntKind.i64.wrap ((j : Int) - 1) = (j : Int) - 1 := wr _ (by omega) (by omega)
    refine ze [] (zF s1 s2 w1) ?_
    exact zp j [] ⟨by omega, by rw [ho, if_neg h3, if_neg h4]⟩ (by omega) (by simp) rfl (by simp)
theorem VO (l : List Int) (h : xu l) (k : Nat) : 0 ≤ yg (l.take k) ∧ yg (l.take k) < 65536 ^ k := by
 have hd : xu (l.take k) := fun d hd => h d (List.mem_of_mem_take hd)
 refine ⟨VN hd, ?_⟩
 have main : ∀ (k : Nat) (m : List Int), xu m → m.length ≤ k → yg m < 65536 ^ k := by
  intro k
  induction k with
  | zero => intro m _ hm; simp at hm; subst hm; simp [yg]
  | succ k ih =>
   intro m hm hl
   cases m with
   | nil => simp only [yg]; exact Int.pow_pos (by decide)
   | cons d m =>
    have h1 := hm d (by simp)
    have h2 := ih m (fun x hx => hm x (by simp [hx])) (by simpa using hl)
    simp only [yg, Int.pow_succ]; omega
 exact main k _ hd (by simp; omega)
theorem ZlB : ∀ (m : Nat) (a b : List Int), xu a → xu b → a.length = m → b.length = m → yg a ≤ yg b → uy a.reverse b.reverse ≤ 0 := by
 intro m
 induction m with
 | zero => intro a b _ _ ha hb _; rw [List.eq_nil_of_length_eq_zero ha]; simp [uy]
 | succ m ih =>
  intro a b ha hb hal hbl hv
  have hane : a ≠ [] := by intro e; subst e; cases hal
  have hbne : b ≠ [] := by intro e; subst e; cases hbl
  obtain ⟨a', x, rfl⟩ : ∃ a' x, a = a' ++ [x] := ⟨a.dropLast, a.getLast hane, (List.dropLast_concat_getLast hane).symm⟩
  obtain ⟨b', y, rfl⟩ : ∃ b' y, b = b' ++ [y] := ⟨b.dropLast, b.getLast hbne, (List.dropLast_concat_getLast hbne).symm⟩
  have hal' : a'.length = m := by simpa using hal
  have hbl' : b'.length = m := by simpa using hbl
  have ha' : xu a' := fun d hd => ha d (by simp [hd])
  have hb' : xu b' := fun d hd => hb d (by simp [hd])
  have p1 := VO (b' ++ [y]) hb m
  have p2 := VO (a' ++ [x]) ha m
  rw [List.take_append_of_le_length (by omega), List.take_of_length_le (by omega)] at p1 p2
  rw [Xx, Xx, hal', hbl'] at hv
  simp only [yg, Int.mul_zero, Int.add_zero] at hv
  simp only [List.reverse_append, List.reverse_cons, List.reverse_nil, List.nil_append, List.cons_append, uy]
  by_cases h1 : x < y
  ·rw [if_pos h1]; omega
  ·rw [if_neg h1]
   by_cases h2 : y < x
   ·exfalso
    have : (65536 : Int) ^ m * x ≥ 65536 ^ m * (y + 1) := Int.mul_le_mul_of_nonneg_left (by omega) (by omega)
    rw [Int.mul_add] at this
    omega
   ·rw [if_neg h2]
    have hxy : x = y := by omega
    subst hxy
    exact ih a' b' ha' hb' hal' hbl' (by omega)
theorem ZlC {a b : Nat} (h : a ≤ b) : (yx a).length ≤ (yx b).length := by
 induction b using Nat.strongRecOn generalizing a with
 | _ b ih =>
  by_cases h0 : a = 0
  ·subst h0; rw [Zt]; simp
  ·rw [Zu h0, Zu (show b ≠ 0 by omega)]
   have := ih (b / 65536) (by omega) (a := a / 65536) (Nat.div_le_div_right h)
   simpa using this
theorem ZlD {a b : Nat} (h : a ≤ b) : Zw (yx a) (yx b) ≤ 0 := by
 have hl := ZlC h
 unfold Zw
 split
 ·omega
 ·rw [if_neg (by omega)]
  have h1 := Zv a
  have h2 := Zv b
  exact ZlB _ _ _ h1.1 h2.1 rfl (by omega) (by rw [h1.2.1, h2.2.1]; omega)
theorem XA {n : Nat} (h : n ≤ 18446744073709551615) : (yx n).length ≤ 4 := (Zv n).2.2.2 (by rw [show (65536 : Nat) ^ 4 = 18446744073709551616 from by decide]; omega)
theorem ZlE (a b : Nat) (ha : a ≤ 9223372036854775807) (hb : b ≤ 9223372036854775807) : Pure Tryz.prog 155 [.agg [L (yx a), B false], .agg [L (yx b), B false]] (.agg [L (yx (a + b)), B false]) := by
 have h1 := Zv a
 have h2 := Zv b
 have l1 := XA (n := a) (by omega)
 have l2 := XA (n := b) (by omega)
 obtain ⟨p1, p2, p3⟩ := Zlu (yx a) (yx b) 0 h1.1 h2.1 (by omega) (by omega)
 have hv : (yg (qB (yx a) (yx b) 0)).toNat = a + b := by rw [p2, h1.2.1, h2.2.1]; omega
 have hpl := Zlw (yx a) (yx b) h1.1 h2.1 (by omega) (by omega)
 have htr := Zlz (qB (yx a) (yx b) 0) false p1 (by omega)
 rw [hv, ite_self] at htr
 generalize yx a = x at *
 generalize yx b = y at *
 generalize qB x y 0 = z at *
 refine zx Tryz.func155 Tryz.ntmps155 Tryz.results155 fun S nx hd => ?_
 refine za (zb ?_)
 intro v0 v1 v2
 repeat apply za
 refine zb ?_
 refine zo (by simp) ?_
 refine za (zC (some [nx, nx + 1]) (Row.pures [0, 1, 2, 3, 4, 5, 6, 7, 8] (.alt 9 (.done) .stop)) mixed trivial ?_)
 refine zI (hpl) trivial ?_
 refine zI (htr) trivial ?_
 exact zg (zk hd (by simp; rfl) rfl)
theorem ZlF (n : Nat) (hn : n ≤ 9223372036854775807) : Pure Tryz.prog 154 [.agg [L (yx n), B false]] (.tup [I n, B true]) := by
 have h1 := Zv n
 have l1 := XA (n := n) (by omega)
 have hsz := ZlD (a := n) (b := 9223372036854775807) hn
 have hs := ZlA (yx n) (yx 9223372036854775807) (by omega) (by have := XA (n := 9223372036854775807) (by omega); omega)
 have o1 := Xy 9223372036854775807 (by unfold zU; omega)
 have o2 := Xy (-9223372036854775808) (by unfold zU; omega)
 rw [show ((9223372036854775807 : Int)).natAbs = 9223372036854775807 from rfl, show decide ((9223372036854775807 : Int) < 0) = false from rfl] at o1
 rw [show decide ((-9223372036854775808 : Int) < 0) = true from rfl] at o2
 generalize yx (-9223372036854775808 : Int).natAbs = lo at *
 generalize yx 9223372036854775807 = hi at *
 generalize hdn : yx n = l at *
 have hg : ¬ 0 < Zw l hi := by omega
 refine zx Tryz.func154 Tryz.ntmps154 Tryz.results154 fun S nx hd => ?_
 refine za (zb ?_)
 intro v0
 refine za (zb ?_)
 refine zz o1 ?_
 intro v1
 refine za (zb ?_)
 refine zz o2 ?_
 intro v2
 repeat apply za
 refine ze [(3, 13)] trivial ?_
 refine jB [(3, 13)] hs hg ?_
 refine zn (by simp) ?_
 refine zh ?_
 repeat apply za
 refine ze [(2, 23)] zL ?_
 refine zn (by simp) ?_
 refine zh (za (zb ?_))
 have w0 : IntKind.i64.wrap ((l.length : Int) - 1) = (l.length : Int) - 1 := wr _ (by omega) (by omega)
 repeat apply za
 refine ze [] w0 ?_
 refine zj (zG (fun m : Nat => m ≤ l.length) (fun m => [(1, .ptr nx v0 0), (6, I (yg (l.drop m))), (7, I ((m : Int) - 1))]) (fun _ => [.cells v0 204 [L l, B false]]) (fun m => m) l.length [_, _] (Nat.le_refl _) (by simp [yg]) rfl ?_)
 rintro m hm
 match m, hm with
 | 0, _ =>
  repeat apply za
  refine zb ?_
  refine zn (by simp) ?_
  refine zy (za (zb ?_))
  exact zg (zk hd (by simp; rfl) (by simp [h1.2.1, zq]))
 | j + 1, hm =>
  have s1 : ((j + 1 : Nat) : Int) - 1 = (j : Int) := by omega
  have s2 : (j : Int) + 1 - 1 = (j : Int) := by omega
  obtain ⟨x, tl, a1, a2, a3, e0⟩ := zE rfl l j (by omega)
  have g1 : j < l.length := by omega
  have hx := h1.1 x (List.mem_of_getElem? a1)
  have hv0 : 0 ≤ yg (l.drop (j + 1)) := VN fun d hd => h1.1 d (List.mem_of_mem_drop hd)
  have hvj : yg (l.drop j) = x + 65536 * yg (l.drop (j + 1)) := by rw [a2]; rfl
  have hvle : yg (l.drop j) ≤ n := by
   have e := Xx (l.take j) (l.drop j)
   rw [List.take_append_drop, h1.2.1] at e
   have t0 := (VO l h1.1 j).1
   have hp : (1 : Int) ≤ 65536 ^ (l.take j).length := by have := Int.pow_pos (n := 65536) (m := (l.take j).length) (by decide); omega
   have hd0 : 0 ≤ yg (l.drop j) := by omega
   have := Int.mul_le_mul_of_nonneg_right hp hd0
   rw [Int.one_mul] at this
   omega
  have w1 : IntKind.i64.wrap (yg (l.drop (j + 1)) * 65536) = yg (l.drop (j + 1)) * 65536 := wr _ (by omega) (by omega)
  have w2 : IntKind.i64.wrap (yg (l.drop (j + 1)) * 65536 + x) = yg (l.drop j) := by rw [wr _ (by omega) (by omega)]; omega
  have w3 : IntKind.i64.wrap ((j : Int) - 1) = (j : Int) - 1 := wr _ (by omega) (by omega)
  repeat apply za
  refine ze [] (zm s1 s2) ?_
  refine zo (by simp) ?_
  refine zh (za (zj (za (ze [] w1 ?_))))
  refine za (zb ?_)
  refine zn (by simp) ?_
  refine ze [] (qm s1 s2 g1 e0 w2) ?_
  refine ze [] (zF s1 s2 w3) ?_
  exact zp j [] (by omega) (by omega) (by simp) rfl (by simp)
theorem ZlG (a b : Int) (ha : 0 ≤ a) (hb : 0 ≤ b) (hab : a + b ≤ 9223372036854775807) : Pure Tryz.prog 114 [I a, I b] (I (a + b)) := by
 obtain ⟨x, rfl⟩ := Int.eq_ofNat_of_zero_le ha
 obtain ⟨y, rfl⟩ := Int.eq_ofNat_of_zero_le hb
 have o1 := Xy (x : Int) (by unfold zU; omega)
 have o2 := Xy (y : Int) (by unfold zU; omega)
 rw [Int.natAbs_natCast, decide_eq_false (by omega)] at o1 o2
 have h3 := ZlE x y (by omega) (by omega)
 have h4 := ZlF (x + y) (by omega)
 rw [show ((x + y : Nat) : Int) = (x : Int) + (y : Int) by omega] at h4
 refine zx Tryz.func114 Tryz.ntmps114 Tryz.results114 fun S nx hd => ?_
 refine za (zb ?_)
 refine za (zb ?_)
 refine zz o1 ?_
 refine zz o2 ?_
 refine zz h3 ?_
 refine zz h4 ?_
 repeat apply za
 refine zb ?_
 refine zo (by simp) ?_
 refine za (zb ?_)
 exact zg (zk hd (by simp; rfl) rfl)
open Go
theorem ZlH (c : Cust) (ns : List Int) (hn : ns.length ≤ 1048576) : Pure Tryz.prog 109 [.agg (zZ c), L ns] (I (x6 c ns)) := by
 refine zx Tryz.func109 Tryz.ntmps109 Tryz.results109 fun S nx hd => ?_
 refine za (zb ?_)
 intro v0
 refine za (zb ?_)
 repeat apply za
 refine zb ?_
 refine zj (zG (fun s : Nat => s ≤ ns.length) (fun k => [(1, L ns), (2, .ptr nx v0 0), (5, I (W (ns.take k).sum)), (6, I k)]) (fun _ => [.cells v0 65 (zZ c)]) (fun s => ns.length - s) 0 [] (by simp) (by simp) (by simp) ?_)
 rintro k hk
 repeat apply za
 refine zb ?_
 refine zr rfl (fun hc => ?_) (fun hc => ?_)
 ·simp at hc
  obtain ⟨z, tl, a1, a2, a3, e0⟩ := zE rfl ns k hc
  refine zh (za (zj ?_))
  have hw : W (W (ns.take k).sum + z) = W (ns.take (k + 1)).sum := by rw [a3, Y5, xE]
  refine ze [] (zm e0 hc) ?_
  refine zb ?_
  exact zp (k + 1) [] hc (by omega) (by simp [zt k (by omega)]; exact hw) rfl (by simp)
 ·simp at hc
  obtain rfl : k = ns.length := by omega
  rw [List.take_length]
  refine zy (za (zb ?_))
  exact zg (zk hd (by simp; rfl) rfl)
theorem VP {q : List Int} (h : ∀ z ∈ q, 0 ≤ z ∧ z ≤ 2147483648) : ∀ k : Nat, k ≤ q.length → 0 ≤ (q.take k).sum ∧ (q.take k).sum ≤ 2147483648 * k := by
 intro k
 induction k with
 | zero => intro _; simp
 | succ k ih =>
  intro hk
  have := ih (by omega)
  have hz := h q[k] (List.getElem_mem (by omega))
  rw [List.take_succ_eq_append_getElem (by omega), Y5]
  omega
theorem ZlI (c : Cust) (q : List Int) (hc : CustFits c) (hq : q.length ≤ 1048576) : Pure Tryz.prog 108 [.agg (zZ c), L q] (.tup [L (yD c q).1, I (yD c q).2]) := by
 obtain ⟨hr, hsz, hst⟩ := hc
 refine zx Tryz.func108 Tryz.ntmps108 Tryz.results108 fun S nx hd => ?_
 refine za (zb ?_)
 intro v0
 repeat apply za
 refine zb ?_
 refine qh (nx := nx) (σ := Nat) (fun v0 => q.any jI = false) (fun v0 => [(1, L q), (2, .ptr nx v0 0)]) (fun _ => S) (fun v0 => [.cells v0 65 (zZ c)]) ?_ ?_
 ·refine zj (zG (fun s : Nat => s ≤ q.length ∧ (q.take s).any jI = false) (fun k => [(1, L q), (2, .ptr nx v0 0), (6, I k)]) (fun _ => [.cells v0 65 (zZ c)]) (fun s => q.length - s) 0 [] (by simp) (by simp) (by simp) ?_)
  rintro k ⟨hk, ho⟩
  repeat apply za
  refine zb ?_
  refine zr rfl (fun hc => ?_) (fun hc => ?_)
  ·simp at hc
   obtain ⟨z, tl, a1, a2, a3, e0⟩ := zE rfl q k hc
   have bad : jI z = true → yD c q = ([], 1) := fun h => by
    have : q.any jI = true := by rw [List.any_eq_true]; exact ⟨z, List.mem_of_getElem? a1, h⟩
    simp [yD, this]
   refine zh (za (zj ?_))
   by_cases h1 : z < 0
   ·refine za (ze [(5, 23)] (yi e0 hc h1 zL) ?_)
    refine zo rfl (za (zb ?_))
    refine ve 4 rfl ?_
    exact zg (zk hd (by simp; rfl) (by rw [bad (by simp [jI, h1])]; rfl))
   by_cases h2 : (2147483648 : Int) < z
   ·refine za (ze [(5, 23)] (yi e0 hc h1 h2) ?_)
    refine zo rfl (za (zb ?_))
    refine ve 4 rfl ?_
    exact zg (zk hd (by simp; rfl) (by rw [bad (by simp [jI, h2])]; rfl))
   refine za (ze [(5, 23)] (yi e0 hc h1 h2) ?_)
   refine zn rfl (zh (zb ?_))
   exact zp (k + 1) [] ⟨hc, by rw [a3, List.any_append, ho]; simp [jI]; omega⟩ (by omega) (by simp [zt k (by omega)]) rfl (by simp)
  ·simp at hc
   obtain rfl : k = q.length := by omega
   rw [List.take_length] at ho
   exact zy (zP v0 [] ho (by simp) rfl (by simp))
 ·intro v0 hb
  have hq0 : ∀ z ∈ q, 0 ≤ z ∧ z ≤ 2147483648 := by
   intro z hz
   rw [List.any_eq_false] at hb
   have := hb z hz
   simp [jI] at this
   omega
  have hres : yD c q = match yl c.size c.rate c.start q with | none => ([], 8) | some l => (l, 0) := by unfold yD; rw [hb]; rfl
  refine za (zb ?_)
  refine qZ 7 3 1 rfl fun v1 => ?_
  repeat apply za
  refine zb ?_
  refine zj (zG (fun s : Nat × List Int × Nat => s.1 ≤ q.length ∧ s.2.1.length = s.1 ∧ (0 ≤ c.start + (q.take s.1).sum - c.rate * s.1 ∧ c.start + (q.take s.1).sum - c.rate * s.1 ≤ 2147483648) ∧ yl c.size c.rate c.start q = (yl c.size c.rate (c.start + (q.take s.1).sum - c.rate * s.1) (q.drop s.1)).map (s.2.1 ++ ·))
   (fun (k, out, v1) => [(1, L q), (2, .ptr nx v0 0), (7, .sl (nx + 1) v1 1 0 out.length), (8, I k)])
   (fun (k, out, v1) => [.cells v0 65 (zZ c), .cells v1 3 (out.flatMap Enc.enc)]) (fun s => q.length - s.1) (0, [], v1) [] ?_ (by simp) (by simp) ?_)
  ·refine ⟨by simp, by simp, by simpa using hst, ?_⟩
   simp
  rintro ⟨k, out, v1⟩ ⟨hk, hol, hth, ho⟩
  simp only at hk hol hth ho ⊢
  repeat apply za
  refine zb ?_
  refine zr rfl (fun hc => ?_) (fun hc => ?_)
  ·simp at hc
   obtain ⟨z, tl, a1, a2, a3, e0⟩ := zE rfl q k hc
   have hz := hq0 z (List.mem_of_getElem? a1)
   have hst1 := VP hq0 k hk
   have hst2 := VP hq0 (k + 1) hc
   have hsum : (q.take (k + 1)).sum = (q.take k).sum + z := by rw [a3, Y5]
   have hrk : 0 ≤ c.rate * k ∧ c.rate * k ≤ 2147483648 * 1048576 := ⟨Int.mul_nonneg hr.1 (by omega), Int.mul_le_mul hr.2 (by omega) (by omega) (by omega)⟩
   rw [a2] at ho
   refine zh (za (zj (za (zb ?_))))
   repeat apply za
   refine zb ?_
   refine qh (nx := nx) (σ := Nat) (fun _ => True) (fun v1 => [(1, L q), (2, .ptr nx v0 0), (7, .sl (nx + 1) v1 1 0 out.length), (8, I k), (9, I (c.start + (q.take (k + 1)).sum))]) (fun _ => S) (fun v1 => [.cells v0 65 (zZ c), .cells v1 3 (out.flatMap Enc.enc)]) ?_ ?_
   ·refine zj (zG (fun s : Nat => s ≤ k + 1) (fun j => [(1, L q), (2, .ptr nx v0 0), (7, .sl (nx + 1) v1 1 0 out.length), (8, I k), (9, I (c.start + (q.take j).sum)), (10, I j)]) (fun _ => [.cells v0 65 (zZ c), .cells v1 3 (out.flatMap Enc.enc)]) (fun s => k + 1 - s) 0 [] (by simp) (by simp) (by simp) ?_)
    rintro j hj
    repeat apply za
    refine zb ?_
    refine zr rfl (fun hc2 => ?_) (fun hc2 => ?_)
    ·simp at hc2
     obtain ⟨y, tl2, b1, b2, b3, e2⟩ := zE rfl q j (by omega)
     have hsj := VP hq0 (j + 1) (by omega)
     have hjq : j < q.length := by omega
     have hsum2 : c.start + (q.take j).sum + y = c.start + (q.take (j + 1)).sum := by rw [b3, Y5]; omega
     have w1 : IntKind.i64.wrap (c.start + (q.take (j + 1)).sum) = c.start + (q.take (j + 1)).sum := wr _ (by omega) (by omega)
     refine zh (za (zj (ze [] (yi e2 hjq hsum2 w1) ?_)))
     refine zb ?_
     exact zp (j + 1) [] (by omega) (by omega) (by simp [zt j (by omega)]) rfl (by simp)
    ·simp at hc2
     obtain rfl : j = k + 1 := by omega
     exact zy (zP v1 [] trivial (by simp) rfl (by simp))
   ·intro v1 _
    have w1 : IntKind.i64.wrap (c.rate * (k : Int)) = c.rate * (k : Int) := wr _ (by omega) (by omega)
    have hbe : c.start + (q.take (k + 1)).sum - c.rate * (k : Int) = (c.start + (q.take k).sum - c.rate * (k : Int)) + z := by omega
    generalize hth' : c.start + (q.take k).sum - c.rate * (k : Int) = there at hth ho hbe
    have w2 : IntKind.i64.wrap (there + z) = there + z := wr _ (by omega) (by omega)
    have w3 : IntKind.i64.wrap (there + z - c.rate) = there + z - c.rate := wr _ (by omega) (by omega)
    have bad : (c.size < there + z ∨ there + z < c.rate) → yD c q = ([], 8) := fun h => by
     rw [hres, ho]; simp only [yl, if_pos h, Option.map_none]
    refine za (ze [] (zF w1 hbe w2) ?_)
    by_cases h1 : c.size < there + z
    ·repeat apply za
     refine ze [(4, 59)] (zm h1 zL) ?_
     refine zo rfl (za (zb ?_))
     refine ve 4 rfl ?_
     exact zg (zk hd (by simp; rfl) (by rw [bad (.inl h1)]; rfl))
    by_cases h2 : there + z - c.rate < 0
    ·repeat apply za
     refine ze [(4, 59)] (zF h1 h2 w3) ?_
     refine zo rfl (za (zb ?_))
     refine ve 4 rfl ?_
     exact zg (zk hd (by simp; rfl) (by rw [bad (.inr (by omega))]; rfl))
    repeat apply za
    refine ze [(4, 59)] (zF h1 h2 w3) ?_
    refine zn rfl (zh (ze [] w3 ?_))
    refine ⟨by omega, ?_⟩
    refine zb ?_
    have hnext : c.start + (q.take (k + 1)).sum - c.rate * ((k + 1 : Nat) : Int) = there + z - c.rate := by
     have : c.rate * ((k + 1 : Nat) : Int) = c.rate * (k : Int) + c.rate := by rw [show ((k + 1 : Nat) : Int) = (k : Int) + 1 by omega, Int.mul_add, Int.mul_one]
     omega
    exact zp (k + 1, out ++ [there + z - c.rate], v1 + 1) [] ⟨hc, by simp [hol], by dsimp only; rw [hnext]; omega, by dsimp only; rw [hnext]; exact ZdJ ho h1 (by omega)⟩ (by simp; omega) (by simp [zt k (by omega)]) rfl (by simp)
  ·simp at hc
   obtain rfl : k = q.length := by omega
   rw [List.drop_length] at ho
   simp only [yl, Option.map_some, List.append_nil] at ho
   refine zy (za (zb ?_))
   refine yc 1 rfl ?_
   exact zg (zk hd (by simp; rfl) (by rw [hres, ho]; simp [zq]))
theorem ZlJ {size rate : Int} : ∀ {q : List Int} {there : Int} {l : List Int}, yl size rate there q = some l → l.length = q.length := by
 intro q
 induction q with
 | nil => intro there l h; simp only [yl, Option.some.injEq] at h; subst h; rfl
 | cons z q ih =>
  intro there l h
  simp only [yl] at h
  split at h
  ·cases h
  ·obtain ⟨l2, h2, rfl⟩ := Option.map_eq_some_iff.1 h
   simp [ih h2]
open Go
def Q4 (v : List Visit) (k : Nat) : List Int := (List.range k).map fun (d : Nat) => ((v.filter fun s => decide (s.d = (d : Int))).map (·.q)).sum
theorem ZlK (v : List Visit) (n : Int) (hv : VisOk v) : Pure Tryz.prog 72 [L v, I n] (L (zT v n)) := by
 have hvn := hv.n
 have hres : zT v n = Q4 v (min (max n 0) 64).toNat := rfl
 rw [hres]
 refine zx Tryz.func72 Tryz.ntmps72 Tryz.results72 fun S nx hd => ?_
 refine za (zb ?_)
 repeat apply za
 refine zb ?_
 refine qh (nx := nx) (σ := Unit) (fun _ => True) (fun _ => [(0, L v), (1, I (min n 64))]) (fun _ => S) (fun _ => []) ?_ ?_
 ·by_cases h : (64 : Int) < n
  ·refine zo (by simp [h]) ?_
   refine zb ?_
   exact zP () [] trivial (by simp; omega) rfl (by simp)
  ·refine zn (by simp; omega) ?_
   exact zh (zP () [] trivial (by simp; omega) rfl (by simp))
 intro _ _
 generalize hm : (min (max n 0) 64).toNat = m
 have hm64 : m ≤ 64 := by omega
 have hcmp : ∀ k : Nat, ((k : Int) < min n 64) = (k < m) := fun k => propext ⟨fun h => by omega, fun h => by omega⟩
 refine za (zb ?_)
 refine qZ 5 3 1 rfl fun v1 => ?_
 repeat apply za
 refine zb ?_
 refine zj (zG (fun s : Nat × List Int × Nat => s.1 ≤ m ∧ s.2.1 = Q4 v s.1) (fun (k, out, v1) => [(0, L v), (1, I (min n 64)), (5, .sl nx v1 1 0 out.length), (6, I k)]) (fun (k, out, v1) => [.cells v1 3 (out.flatMap Enc.enc)]) (fun s => m - s.1) (0, [], v1) [] (by simp [Q4]) (by simp) (by simp) ?_)
 rintro ⟨k, out, v1⟩ ⟨hk, ho⟩
 simp only at hk ho ⊢
 have hol : out.length = k := by rw [ho]; simp [Q4]
 by_cases hc : k < m
 ·repeat apply za
  refine ze [] (zm hcmp hc) ?_
  refine zo (by simp) ?_
  refine zh (za (zj (za (zb ?_))))
  repeat apply za
  refine zb ?_
  refine qh (nx := nx) (σ := Nat) (fun _ => True) (fun v1 => [(0, L v), (1, I (min n 64)), (5, .sl nx v1 1 0 out.length), (6, I k), (7, I ((v.filter fun s => decide (s.d = (k : Int))).map (·.q)).sum)]) (fun _ => S) (fun v1 => [.cells v1 3 (out.flatMap Enc.enc)]) ?_ ?_
  ·refine zj (zG (fun s : Nat => s ≤ v.length) (fun j => [(0, L v), (1, I (min n 64)), (5, .sl nx v1 1 0 out.length), (6, I k), (7, I (((v.take j).filter fun s => decide (s.d = (k : Int))).map (·.q)).sum), (8, I j)]) (fun _ => [.cells v1 3 (out.flatMap Enc.enc)]) (fun s => v.length - s) 0 [] (by simp) (by simp) (by simp) ?_)
   rintro j hj
   repeat apply za
   refine zb ?_
   refine zr rfl (fun hc2 => ?_) (fun hc2 => ?_)
   ·simp at hc2
    obtain ⟨s, tl, a1, a2, a3, e1, e0⟩ := el 2 rfl v j hc2
    have hsq := hv.q s (List.mem_of_getElem? a1)
    have hlj : (v.take j).length ≤ 1048576 := by simp; omega
    have hle := ZdM (v.take j) (fun s => decide (s.d = (k : Int))) (fun x hx => hv.q x (List.mem_of_mem_take hx))
    have e11 := e1 1 (by omega)
    refine zh (za (zj ?_))
    by_cases h : s.d = (k : Int)
    ·have hsum : (((v.take j).filter fun s => decide (s.d = (k : Int))).map (·.q)).sum + s.q = (((v.take (j + 1)).filter fun s => decide (s.d = (k : Int))).map (·.q)).sum := by rw [a3]; simp [h]
     refine za (ze [] (zF e0 hc2 h) ?_)
     refine zo (by simp) ?_
     refine ze [] (zm e11 hc2) ?_
     refine zz (ZlG _ _ hle.1 hsq.1 (by omega)) ?_
     refine zb ?_
     exact zp (j + 1) [] hc2 (by omega) (by simp [zt j (by omega)]; exact hsum) rfl (by simp)
    ·have hsum : (((v.take j).filter fun s => decide (s.d = (k : Int))).map (·.q)).sum = (((v.take (j + 1)).filter fun s => decide (s.d = (k : Int))).map (·.q)).sum := by rw [a3]; simp [h]
     refine za (ze [] (zF e0 hc2 h) ?_)
     refine zn (by simp) ?_
     refine zh (zb ?_)
     exact zp (j + 1) [] hc2 (by omega) (by simp [zt j (by omega)]; exact hsum) rfl (by simp)
   ·simp at hc2
    obtain rfl : j = v.length := by omega
    rw [List.take_length]
    exact zy (zP v1 [] trivial (by simp) rfl (by simp))
  ·intro v1 _
   refine zb ?_
   refine ⟨by omega, ?_⟩
   refine zb ?_
   exact zp (k + 1, out ++ [((v.filter fun s => decide (s.d = (k : Int))).map (·.q)).sum], v1 + 1) [] ⟨hc, by rw [ho]; simp [Q4, List.range_succ]⟩ (by simp; omega) (by simp [zt k (by omega)]) rfl (by simp)
 ·obtain rfl : k = m := by omega
  repeat apply za
  refine ze [] hcmp ?_
  refine zn (by simp) ?_
  refine zy (za (zb ?_))
  refine yc 0 rfl ?_
  exact zg (zk hd (by simp; rfl) (by rw [ho]; simp [zq]))
theorem ZlL (p : zu) (c : Int) (hp : PlanOk p) : Pure Tryz.prog 33 [.agg [L p], I c] (L (yd c (told 0 p))) := by
 have hlen := hp.told
 have ol : ∀ pre rest, told 0 p = pre ++ rest → (yd c pre).length ≤ 1048576 := fun pre rest e => by
  have := ZdF c pre
  have := congrArg List.length e
  simp at this; omega
 refine zx Tryz.func33 Tryz.ntmps33 Tryz.results33 fun S nx hd => ?_
 refine za (zb ?_)
 intro v0
 refine za (zb ?_)
 refine za (qZ 5 85 2 rfl fun v1 => ?_)
 refine za (zb ?_)
 refine zj (zG (fun s : Nat × List (Stop × Nat) × Nat => s.1 ≤ p.length ∧ told 0 p = s.2.1 ++ told s.1 (p.drop s.1)) (fun (a, pre, v1) => [(1, I c), (2, .ptr nx v0 0), (5, .sl (nx + 1) v1 2 0 (yd c pre).length), (6, I a)]) (fun (a, pre, v1) => [.cells v0 38 [L p], .cells v1 85 ((yd c pre).flatMap Enc.enc)]) (fun s => p.length - s.1) (0, [], v1) [] (by simp) (by simp [yd]) (by simp [yd]) ?_)
 rintro ⟨a, pre, v1⟩ ⟨ha, hr⟩
 simp only at ha hr ⊢
 have hpn := hp.n
 repeat apply za
 refine zb ?_
 refine zr rfl (fun hc => ?_) (fun hc => ?_)
 ·simp at hc
  obtain ⟨d, tl, a1, a2, a3, e0⟩ := zE rfl p a hc
  have hdm := List.mem_of_getElem? a1
  have hdl := hp.d d hdm
  rw [a2] at hr
  simp only [told] at hr
  refine zh (za (zj (za (zb ?_))))
  refine zj (zG (fun s : Nat × List (Stop × Nat) × Nat => s.1 ≤ d.length ∧ told 0 p = s.2.1 ++ ((d.drop s.1).flatten.map (·, a) ++ told (a + 1) (p.drop (a + 1)))) (fun (b, pre, v1) => [(1, I c), (2, .ptr nx v0 0), (5, .sl (nx + 1) v1 2 0 (yd c pre).length), (6, I a), (7, I b)]) (fun (b, pre, v1) => [.cells v0 38 [L p], .cells v1 85 ((yd c pre).flatMap Enc.enc)]) (fun s => d.length - s.1) (0, pre, v1) [] (by simp [hr]) (by simp) (by simp) ?_)
  rintro ⟨b, pre, v1⟩ ⟨hb, hr⟩
  simp only at hb hr ⊢
  repeat apply za
  refine ze [] (zm e0 hc) ?_
  refine zr rfl (fun hc2 => ?_) (fun hc2 => ?_)
  ·simp at hc2
   obtain ⟨t, tl2, b1, b2, b3, e2⟩ := zE rfl d b hc2
   have htl := hp.t d hdm t (List.mem_of_getElem? b1)
   rw [b2] at hr
   simp only [List.flatten_cons, List.map_append, List.append_assoc] at hr
   refine zh (za (zj (za (ze [] (yi e0 hc e2 hc2) ?_))))
   refine za (zb ?_)
   refine zj (zG (fun s : Nat × List (Stop × Nat) × Nat => s.1 ≤ t.length ∧ told 0 p = s.2.1 ++ ((t.drop s.1).map (·, a) ++ ((d.drop (b + 1)).flatten.map (·, a) ++ told (a + 1) (p.drop (a + 1))))) (fun (j, pre, v1) => [(1, I c), (2, .ptr nx v0 0), (5, .sl (nx + 1) v1 2 0 (yd c pre).length), (6, I a), (7, I b), (8, L t), (9, I j)]) (fun (j, pre, v1) => [.cells v0 38 [L p], .cells v1 85 ((yd c pre).flatMap Enc.enc)]) (fun s => t.length - s.1) (0, pre, v1) [] (by simp [hr]) (by simp) (by simp) ?_)
   rintro ⟨j, pre, v1⟩ ⟨hj, hr⟩
   simp only at hj hr ⊢
   repeat apply za
   refine zb ?_
   refine zr rfl (fun hc3 => ?_) (fun hc3 => ?_)
   ·simp at hc3
    obtain ⟨s, tl3, c1, c2, c3, e4, e3⟩ := el 2 rfl t j hc3
    have e31 := e4 1 (by omega)
    rw [c2] at hr
    simp only [List.map_cons, List.cons_append] at hr
    have hl := ol pre _ hr
    refine zh (za (zj ?_))
    by_cases h : s.c = c
    ·refine za (ze [] (zF e3 hc3 h) ?_)
     refine zo (by simp) ?_
     refine ze [] (zm e31 hc3) ?_
     refine ⟨by omega, ?_⟩
     refine zb ?_
     exact zp (j + 1, pre ++ [(s, a)], v1 + 1) [] ⟨hc3, by simp [hr]⟩ (by simp; omega) (by simp [zt j (by omega), uY, Y4, h]) rfl (by simp [uY, Y4, h])
    ·refine za (ze [] (zF e3 hc3 h) ?_)
     refine zn (by simp) ?_
     refine zh (zb ?_)
     exact zp (j + 1, pre ++ [(s, a)], v1) [] ⟨hc3, by simp [hr]⟩ (by simp; omega) (by simp [zt j (by omega), uY, Y4, h]) rfl (by simp [uY, Y4, h])
   ·simp at hc3
    obtain rfl : j = t.length := by omega
    simp only [List.drop_length, List.map_nil, List.nil_append] at hr
    refine zy (zb ?_)
    exact zp (b + 1, pre, v1) [] ⟨hc2, hr⟩ (by simp; omega) (by simp [zt b (by omega)]) rfl (by simp)
  ·simp at hc2
   obtain rfl : b = d.length := by omega
   simp only [List.drop_length, List.flatten_nil, List.map_nil, List.nil_append] at hr
   refine zy (zb ?_)
   exact zp (a + 1, pre, v1) [] ⟨hc, hr⟩ (by simp; omega) (by simp [zt a (by omega)]) rfl (by simp)
 ·simp at hc
  obtain rfl : a = p.length := by omega
  simp only [List.drop_length, told, List.append_nil] at hr
  refine zy (za (zb ?_))
  refine yc 1 rfl ?_
  exact zg (zk hd (by simp; rfl) (by rw [hr]; simp [zq]))
open Go
theorem ZlM (n d : Nat) : ((n : Int).fdiv (2 ^ d)) = ((n / 2 ^ d : Nat) : Int) := by
 have h : (2 : Int) ^ d = ((2 ^ d : Nat) : Int) := by simp
 rw [h, Int.fdiv_eq_ediv_of_nonneg _ (Int.natCast_nonneg _)]
 rfl
theorem ZlN (n : Nat) (d : Int) (hn : n < 2 ^ 64) : Pure Tryz.prog 256 [U n, I d] (B (decide (0 ≤ d ∧ d < 64 ∧ yR n d.toNat = 1))) := by
 by_cases h : 0 ≤ d ∧ d < 64
 ·have h1 : ¬ d < 0 := by omega
  have h2 : min d.toNat 64 = d.toNat := by omega
  have hlt : n / 2 ^ d.toNat ≤ n := Nat.div_le_self _ _
  have h3 := ZlM n d.toNat
  have hb : yR n d.toNat = n / 2 ^ d.toNat % 2 := rfl
  generalize n / 2 ^ d.toNat = m at hlt h3 hb
  have h4 := and_one_u64 (m : Int) (by omega) (by omega)
  have h5 : IntKind.u64.wrap (m : Int) = (m : Int) := by
   simp only [IntKind.wrap, IntKind.bits, IntKind.signed]
   simp
   omega
  have h6 : ((m : Int) % 2 = 1) = (yR n d.toNat = 1) := by rw [hb]; exact propext ⟨fun q => by omega, fun q => by omega⟩
  refine zx Tryz.func256 Tryz.ntmps256 Tryz.results256 fun S nx hd => ?_
  refine za (zb ?_)
  refine za (zV [(2, 7)] (by rfl) (by rfl) fun K Gc Gh hK hGc hGh X hX0 hX => ?_)
  simp -implicitDefEqProofs [hX0, hX]
  try clear hX0 hX X
  refine hGc _ _ _ _ _ _ _ fun hsuf => ((VK d _).mono ?_).v
  rintro _ _ ⟨rfl, rfl⟩
  refine ⟨_, _, rfl, ?_⟩
  clear hGc hGh
  clear Gc Gh
  refine zR hsuf (D := [(2, 7)]) (by rfl) fun Gc Gh hGc hGh X hX0 hX => ?_
  simp -implicitDefEqProofs [hX0, hX, h, h1, h2, h3, h5, h4, IntKind.bits]
  try clear hX0 hX X
  refine hK _ _ _ ?_
  clear hK hGc hGh
  clear K Gc Gh
  exact zg (zk hd (by simp; rfl) (by simp [h, zq, h6]))
 ·refine zx Tryz.func256 Tryz.ntmps256 Tryz.results256 fun S nx hd => ?_
  refine za (zb ?_)
  refine za (ze [(2, 7)] trivial ?_)
  refine jB [(2, 7)] (VK d) (zm h zL) ?_
  have h7 : ¬ (0 ≤ d ∧ d < 64 ∧ yR n d.toNat = 1) := fun q => h ⟨q.1, q.2.1⟩
  exact zg (zk hd (by simp; rfl) (by simp only [h7, zq, decide_false]))
def yy (n a k : Nat) : List Int := ((List.range k).filter fun i => decide (a ≤ i) && decide (yR n i = 1)).map fun (i : Nat) => (i : Int)
theorem Q5 (n a k : Nat) : (yy n a k).length ≤ k := by
 simp only [yy, List.length_map]
 exact Nat.le_trans (List.length_filter_le _ _) (by simp)
theorem ZlO (n a k : Nat) (h : a ≤ k) : yy n a (k + 1) = yy n a k ++ (if yR n k = 1 then [(k : Int)] else []) := by
 simp only [yy, List.range_succ, List.filter_append, List.map_append]
 by_cases q : yR n k = 1 <;> simp [q, h]
theorem VQ (n a k : Nat) (h : k ≤ a) : yy n a k = [] := by
 simp only [yy, List.map_eq_nil_iff, List.filter_eq_nil_iff, List.mem_range]
 intro i hi; simp; omega
theorem ZlP (n : Nat) (d : Int) (hn : n < 2 ^ 64) (hdl : d ≤ 1000) : Pure Tryz.prog 255 [.fn (.func 256) [U n] [], I d] (L (yy n d.toNat 64)) := by
 have hmax : xA d 0 = ((d.toNat : Nat) : Int) := by unfold xA; split <;> omega
 have h64 : yy n d.toNat (max d.toNat 64) = yy n d.toNat 64 := by
  by_cases q : d.toNat ≤ 64
  ·rw [Nat.max_eq_right q]
  ·rw [Nat.max_eq_left (by omega), VQ _ _ _ (Nat.le_refl _), VQ _ _ _ (by omega)]
 have ha : d.toNat ≤ 1000 := by omega
 have main : ∀ a : Nat, a ≤ 1000 → yy n a (max a 64) = yy n d.toNat 64 → xA d 0 = (a : Int) → Pure Tryz.prog 255 [.fn (.func 256) [U n] [], I d] (L (yy n d.toNat 64)) := by
  intro a ha h64 hmax
  refine zx Tryz.func255 Tryz.ntmps255 Tryz.results255 fun S nx hd => ?_
  refine za (zb ?_)
  refine za (zb ?_)
  refine za (qZ 5 3 1 rfl fun v1 => ?_)
  refine za (ze [] hmax ?_)
  refine zj (zG (fun s : Nat × List Int × Nat => a ≤ s.1 ∧ s.1 ≤ max a 64 ∧ s.2.1 = yy n a s.1) (fun (k, out, v1) => [(0, .fn (.func 256) [U n] []), (5, .sl nx v1 1 0 out.length), (6, I k)]) (fun (k, out, v1) => [.cells v1 3 (out.flatMap Enc.enc)]) (fun s => max a 64 - s.1) (a, [], v1) [] (by simp [VQ]; omega) (by simp) (by simp) ?_)
  rintro ⟨k, out, v1⟩ ⟨hk0, hk, ho⟩
  simp only at hk0 hk ho ⊢
  have hol : out.length ≤ k := by rw [ho]; exact Q5 _ _ _
  repeat apply za
  refine zb ?_
  refine zr rfl (fun hc => ?_) (fun hc => ?_)
  ·simp at hc
   have hc' : k < 64 := by omega
   refine zh (za (zj (za (zb ?_))))
   refine zz (ZlN n k hn) ?_
   have hs := ZlO n a k hk0
   refine zr rfl (fun hb => ?_) (fun hb => ?_)
   ·simp at hb
    refine zb ?_
    refine ⟨by omega, ?_⟩
    refine zb ?_
    exact zp (k + 1, out ++ [(k : Int)], v1 + 1) [] ⟨by omega, by omega, by rw [hs, if_pos hb.2, ho]⟩ (by simp; omega) (by simp [zt k (by omega)]) rfl (by simp)
   ·have hb' : ¬ yR n k = 1 := by simp at hb; exact hb (by omega)
    refine zh (zb ?_)
    exact zp (k + 1, out, v1) [] ⟨by omega, by omega, by rw [hs, if_neg hb', ho]; simp⟩ (by simp; omega) (by simp [zt k (by omega)]) rfl (by simp)
  ·simp at hc
   obtain rfl : k = max a 64 := by omega
   refine zy (za (zb ?_))
   refine yc 0 rfl ?_
   exact zg (zk hd (by simp; rfl) (by simp [ho, h64, zq]))
 exact main d.toNat ha h64 hmax
def ZdO (n : Nat) (d : Int) : Int := (yy n d.toNat 64).headD (-1)
open Go
def x7 (n lo hi : Int) : Bool := decide (lo ≤ n ∧ n ≤ hi)
def ZdP (c : Cust) (days : Int) : Bool := (c.pats.all fun p => decide (ZdO p days < 0)) && x7 c.pats.length 1 64
def ZdQ (c : Cust) : Bool := decide (c.rate = 0 ∧ c.size = 0 ∧ c.start = 0 ∧ c.rule = 0 ∧ c.hold = 0)
def ZdR (c : Cust) : Bool := decide (c.rule = 1 ∨ c.rule = 2)
def ZdS (c : Cust) : Bool := decide (c.pats.length = 0 ∧ c.demand = 0)
structure Must where
 f : FuncId
 b : Bool
instance : Enc Must := ⟨fun m => [.fn (.func m.f) [] []], 1, fun _ => rfl, fun _ => rfl⟩
@[simp] theorem ZrJ (m : Must) : Enc.enc m = [.fn (.func m.f) [] []] := rfl
@[simp high] theorem ZrK (l : List Must) : (l.flatMap Enc.enc).length = l.length := (jQ l).trans (Nat.mul_one _)
def XB (c : Cust) (d : Int) : Bool :=
 if c.kind = 1 then (x7 c.demand 1 2147483648 && ZdP c d && ZdQ c)
 else if c.kind = 2 then (x7 c.rate 0 2147483648 && x7 c.size 1 2147483648 && x7 c.start 0 c.size && ZdR c && x7 c.hold 0 1024 && ZdS c) else false
open Go
def XC (n : Nat) : Nat → List (List Int) → Bool
 | _, [] => true
 | a, row :: l => (decide (row.length = n) && decide (row.getD a 0 = 0) && row.all (x7 · 0 2147483648)) && XC n (a + 1) l
def ZdT (l : List (List Int)) (n : Nat) : Bool := decide (l.length = n) && XC n 0 l
def Q6 (x : Inst) : Bool :=
 x7 x.days 1 64 && decide (x.cust.length ≤ 2000) && x7 x.veh 0 2147483648 && x7 x.cap 0 2147483648 && x7 x.len 0 2147483648 && x.cust.all (XB · x.days) && ZdT x.dist (x.cust.length + 1)
open Go
theorem ZlQ (n : Nat) (d : Int) : yy n d.toNat 64 = (yy n 0 64).filter fun x => decide (d ≤ x) := by
 simp only [yy, List.filter_map, List.filter_filter, Nat.zero_le, decide_true, Bool.true_and]
 congr 1
 apply List.filter_congr
 intro i _
 have : (d.toNat ≤ i) = (d ≤ (i : Int)) := propext ⟨fun h => by omega, fun h => by omega⟩
 simp only [Function.comp, this]
open Go
abbrev ZlR (x : Inst) (p : zu) (i : Int) : List PV := [I x.days, I x.veh, I x.cap, I x.len, L x.cust, L x.dist, L p, I i]
def VR (c : Cust) (v : List Visit) : Int := if (v.any fun s => decide (s.q ≠ c.demand)) = true then 9 else if VJ (v.map (·.d)) ∈ c.pats then 0 else 10
def XE (x : Inst) (p : zu) (i : Nat) : Int :=
 match x.cust[i]? with
 | none => 5
 | some c => if c.kind = 2 then x5 c (zT (yd i (told 0 p)) x.days) else VR c (yd i (told 0 p))
structure Serves (x : Inst) (p : zu) : Prop where
 sz : PlanOk p
 q : ∀ s ∈ told 0 p, 0 ≤ s.1.q ∧ s.1.q ≤ 2147483648
 days : p.length ≤ 64
theorem ZdU : ∀ (p : zu) (i : Nat) (x : Stop × Nat), x ∈ told i p → i ≤ x.2 ∧ x.2 < i + p.length
 | [], _, _, h => by cases h
 | d :: p, i, x, h => by
  simp only [told, List.mem_append, List.mem_map] at h
  simp only [List.length_cons]
  rcases h with ⟨s, _, rfl⟩ | h
  ·simp only; omega
  ·have := ZdU p (i + 1) x h; omega
theorem ZdV {x : Inst} {p : zu} (h : Serves x p) (c : Int) : VisOk (yd c (told 0 p)) ∧ ∀ s ∈ yd c (told 0 p), 0 ≤ s.d ∧ s.d ≤ 63 := by
 have hd : ∀ s ∈ yd c (told 0 p), (0 ≤ s.q ∧ s.q ≤ 2147483648) ∧ 0 ≤ s.d ∧ s.d ≤ 63 := by
  intro s hs
  simp only [yd, List.mem_map, List.mem_filter] at hs
  obtain ⟨y, ⟨hy, _⟩, rfl⟩ := hs
  have h1 := h.q y hy
  have h2 := ZdU p 0 y hy
  have h3 := h.days
  simp only; omega
 exact ⟨⟨Nat.le_trans (ZdF _ _) h.sz.told, fun s hs => (hd s hs).1, fun s hs => by have := (hd s hs).2; unfold zU; omega⟩, fun s hs => (hd s hs).2⟩
theorem ZlS (x : Inst) (p : zu) (i : Nat) (h : Serves x p) : Pure Tryz.prog 165 [.agg (ZlR x p i)] (L (zT (yd i (told 0 p)) x.days)) := by
 have h1 := Zll p i h.sz
 have h2 := ZdN _ x.days (ZdV h i).1
 generalize zT (yd i (told 0 p)) x.days = q at h2 ⊢
 generalize yd i (told 0 p) = v at h1 h2
 refine zx Tryz.func165 Tryz.ntmps165 Tryz.results165 fun S nx hd => ?_
 refine za (zb ?_)
 intro v0
 refine za (zC (some [nx]) (Row.pures [0, 1, 2, 3, 4, 5, 6, 7, 8, 9] .done) mixed trivial ?_)
 refine zI (h1) trivial ?_
 refine zI (h2) trivial ?_
 exact zg (zk hd (by simp; rfl) rfl)
open Go
theorem ZdW : ∀ (l : List Int), (∀ b ∈ l, b = 0 ∨ b = 1) → ∀ i : Nat, (jC l).toNat.testBit i = decide (l[i]? = some 1)
 | [], _, i => by simp [jC]
 | b :: l, h, i => by
  have hl : ∀ b ∈ l, b = 0 ∨ b = 1 := fun x hx => h x (by simp [hx])
  have h0 := (WD l hl).1
  have hb := h b (by simp)
  have hn : jC (b :: l) = 2 * jC l + b := rfl
  cases i with
  | zero =>
   rw [Nat.testBit_zero, hn]
   simp only [List.getElem?_cons_zero, Option.some.injEq]
   apply decide_eq_decide.2
   omega
  | succ i =>
   rw [Nat.testBit_succ, hn]
   have : (2 * jC l + b).toNat / 2 = (jC l).toNat := by omega
   rw [this, ZdW l hl i]
   simp
theorem Y6 (n i : Nat) : n.testBit i = decide (yR n i = 1) := by rw [Nat.testBit_eq_decide_div_mod_eq]; rfl
theorem ZlT (n d : Nat) (hn : n < 2 ^ 64) (hd : d < 64) : YI n d = jT n d := by
 have h01 : ∀ b ∈ (jq n).set d 1, b = 0 ∨ b = 1 := fun b hb => by
  rcases WF hb with h | h
  ·exact WC n b h
  ·exact .inr h
 apply Nat.eq_of_testBit_eq
 intro i
 unfold YI QF jT
 rw [ZdW _ h01, if_pos (by omega), Nat.testBit_or, Int.toNat_natCast, Nat.testBit_two_pow, List.getElem?_set]
 have hl := YH n
 by_cases h : d = i
 ·subst h; simp [hl, hd]
 ·rw [if_neg h]
  by_cases hi : i < 64
  ·rw [Zbu n i hi, Y6]
   simp [h]; omega
  ·rw [List.getElem?_eq_none (by omega)]
   have : n.testBit i = false := Nat.testBit_lt_two_pow (Nat.lt_of_lt_of_le hn (Nat.pow_le_pow_right (by decide) (by omega)))
   simp [this, h]
open Go
def jU : List Int → Int
 | [] => 0
 | e :: l => if e ≠ 0 then e else jU l
theorem XF {l : List Int} (h : ∀ e ∈ l, e = 0) : jU l = 0 := by
 induction l with
 | nil => rfl
 | cons e l ih => simp only [jU, h e (by simp), ne_eq, not_true, if_false]; exact ih fun x hx => h x (by simp [hx])
theorem ZlU {l : List Int} {k : Nat} {e : Int} (h : ∀ e ∈ l.take k, e = 0) (hk : l[k]? = some e) (he : e ≠ 0) : jU l = e := by
 induction l generalizing k with
 | nil => cases hk
 | cons a l ih =>
  cases k with
  | zero => simp at hk; subst hk; simp [jU, he]
  | succ k =>
   simp only [jU, h a (by simp), ne_eq, not_true, if_false]
   exact ih (k := k) (fun x hx => h x (by rw [List.take_succ_cons]; simp [hx])) (by simpa using hk)
theorem VS (l : List Int) : jU l = 0 ↔ ∀ e ∈ l, e = 0 := by
 refine ⟨fun h => ?_, XF⟩
 induction l with
 | nil => intro e he; cases he
 | cons a l ih =>
  simp only [jU] at h
  split at h
  ·rename_i hne; exact absurd h hne
  ·rename_i hne
   intro e he
   rcases List.mem_cons.1 he with rfl | he
   ·simpa using hne
   ·exact ih h e he
def Q7 (x : Inst) (p : zu) : Int :=
 if Q6 x = false then 3 else if (p.length : Int) ≠ x.days then 1 else if jU (p.map (yq x)) ≠ 0 then jU (p.map (yq x)) else jU ((List.range x.cust.length).map (XE x p))
structure PlanSz (p : zu) : Prop where
 ok : PlanOk p
 f : ∀ d ∈ p, d.flatten.length ≤ 1048576
theorem ZdX : ∀ (p : zu) (i : Nat) (x : Stop × Nat), x ∈ told i p → ∃ d ∈ p, x.1 ∈ d.flatten
 | [], _, _, h => by cases h
 | d :: p, i, x, h => by
  simp only [told, List.mem_append, List.mem_map] at h
  rcases h with ⟨s, hs, rfl⟩ | h
  ·exact ⟨d, by simp, hs⟩
  ·obtain ⟨d', h1, h2⟩ := ZdX p (i + 1) x h; exact ⟨d', by simp [h1], h2⟩
theorem ZdY {x : Inst} {d : zi} (h : yq x d = 0) : ∀ s ∈ d.flatten, q9 x s = true := by
 intro s hs
 obtain ⟨t, ht, hst⟩ := List.mem_flatten.1 hs
 have hm : zJ x t = 0 := by
  unfold yq at h
  split at h
  ·rename_i u hu
   have := List.find?_some hu
   simp [h] at this
  ·rename_i hn
   rw [List.find?_eq_none] at hn
   simpa using hn t ht
 have : qn x t = true := by
  by_cases q : qn x t = true
  ·exact q
  ·simp [zJ, q] at hm
 unfold qn at this
 simp only [Bool.and_eq_true, List.all_eq_true] at this
 exact this.1 s hst
open Go Go.Proofs Hp
def Z5 (l : List Visit) (day : Int) (i k : Nat) : List Stop := ((l.take k).filter (fun w => w.d = day)).map fun w => ⟨i, w.q⟩
def wE (v : List (List Visit)) (day : Int) (i : Nat) : List Stop := ((v.getD i []).filter (fun w => w.d = day)).map fun w => ⟨i, w.q⟩
def qr (v : List (List Visit)) (day : Int) (n : Nat) : List Stop := (List.range n).flatMap (wE v day)
theorem VT (v : List (List Visit)) (day : Int) (n : Nat) : qr v day (n + 1) = qr v day n ++ wE v day n := by simp [qr, List.range_succ]
theorem ZlV (l : List Visit) (day : Int) (i : Nat) : Z5 l day i 0 = [] := rfl
theorem ZlW (v : List (List Visit)) (day : Int) (i : Nat) (l : List Visit) (h : v[i]? = some l) : Z5 l day i l.length = wE v day i := by
 unfold Z5 wE; rw [List.take_length, List.getD_eq_getElem?_getD, h]; rfl
theorem ZdZ {l : List Visit} {k : Nat} {w : Visit} (h : l[k]? = some w) (day : Int) (i : Nat) : Z5 l day i (k + 1) = Z5 l day i k ++ (if w.d = day then [⟨i, w.q⟩] else []) := by
 unfold Z5
 rw [List.take_add_one, h]
 simp only [Option.toList_some, List.filter_append, List.map_append]
 split
 ·rename_i e; simp [e]
 ·rename_i e; simp [e]
structure VsOk (m n : Nat) (v : List (List Visit)) : Prop where
 len : v.length = m
 ok : ∀ l ∈ v, ∀ w ∈ l, (0 ≤ w.d ∧ w.d < n) ∧ 1 ≤ w.q ∧ w.q ≤ 2147483648
 nd : ∀ l ∈ v, (l.map (·.d)).Nodup
 few : ∀ l ∈ v, l.length ≤ 1000
theorem VsOk.at {m n : Nat} {v : List (List Visit)} (h : VsOk m n v) (i : Nat) : (∀ w ∈ v.getD i [], (0 ≤ w.d ∧ w.d < n) ∧ 1 ≤ w.q ∧ w.q ≤ 2147483648) ∧ ((v.getD i []).map (·.d)).Nodup := by
 rw [List.getD_eq_getElem?_getD]
 cases e : v[i]? with
 | none => exact ⟨by simp, by simp⟩
 | some l => exact ⟨h.ok l (List.mem_of_getElem? e), h.nd l (List.mem_of_getElem? e)⟩
theorem Zd0 {l : List Visit} (h : (l.map (·.d)).Nodup) (day : Int) : (l.filter (fun w => w.d = day)).length ≤ 1 := by
 have h1 := (List.filter_sublist (p := fun w : Visit => decide (w.d = day)) (l := l)).map (·.d)
 have h2 := h.sublist h1
 have h3 : ∀ w ∈ l.filter (fun w => w.d = day), w.d = day := fun w hw => by simpa using (List.mem_filter.1 hw).2
 generalize l.filter (fun w => decide (w.d = day)) = m at h2 h3
 match m, h2, h3 with
 | [], _, _ => simp
 | [_], _, _ => simp
 | a :: b :: m, h2, h3 =>
  exfalso
  have ea := h3 a (by simp)
  have eb := h3 b (by simp)
  simp only [List.map_cons, List.nodup_cons, List.mem_cons] at h2
  exact h2.1 (.inl (by rw [ea, eb]))
theorem Zd1 {m n : Nat} {v : List (List Visit)} (h : VsOk m n v) (day : Int) (i : Nat) : (wE v day i).length ≤ 1 := by
 unfold wE; rw [List.length_map]; exact Zd0 (h.at i).2 day
theorem Zd2 {m n : Nat} {v : List (List Visit)} (h : VsOk m n v) {day : Int} {i : Nat} {s : Stop} (hs : s ∈ wE v day i) : s.c = i ∧ 1 ≤ s.q ∧ s.q ≤ 2147483648 := by
 obtain ⟨w, hw, rfl⟩ := List.mem_map.1 hs
 exact ⟨rfl, ((h.at i).1 w (List.mem_filter.1 hw).1).2⟩
theorem VU {m n : Nat} {v : List (List Visit)} (h : VsOk m n v) (day : Int) : ∀ k : Nat, (qr v day k).length ≤ k ∧ (∀ s ∈ qr v day k, (0 ≤ s.c ∧ s.c < k) ∧ 1 ≤ s.q ∧ s.q ≤ 2147483648) ∧ ((qr v day k).map (·.c)).Nodup
 | 0 => ⟨by simp [qr], by simp [qr], by simp [qr]⟩
 | k + 1 => by
  obtain ⟨h1, h2, h3⟩ := VU h day k
  have h4 := Zd1 h day k
  have h5 : ∀ s ∈ wE v day k, s.c = k ∧ 1 ≤ s.q ∧ s.q ≤ 2147483648 := fun s hs => Zd2 h hs
  rw [VT]
  refine ⟨by rw [List.length_append]; omega, fun s hs => ?_, ?_⟩
  ·rcases List.mem_append.1 hs with hs | hs
   ·have := h2 s hs; omega
   ·have := h5 s hs; omega
  ·rw [List.map_append]
   generalize wE v day k = e at h4 h5
   match e, h4, h5 with
   | [], _, _ => simpa using h3
   | [s], _, h5 =>
    refine J9 _ _ h3 fun hm => ?_
    obtain ⟨u, hu, e⟩ := List.mem_map.1 hm
    have q1 := h2 u hu
    have q2 := h5 s (by simp)
    have q3 : u.c = s.c := e
    omega
   | _ :: _ :: _, h4, _ => simp at h4
structure InstH (x : Inst) : Prop where
 cust : x.cust.length ≤ 1000
 diag : arc x 0 0 = 0
 arc : qH x
 veh : 0 ≤ x.veh
theorem Y7 {x : Inst} (hx : InstH x) {n : Nat} {v : List (List Visit)} (h : VsOk x.cust.length n v) (day : Int) : SOk x (qr v day x.cust.length) := by
 obtain ⟨h1, h2, h3⟩ := VU h day x.cust.length
 have := hx.cust
 exact ⟨by omega, hx.arc, hx.veh, by omega, fun s hs => by have := h2 s hs; unfold small; omega, h3⟩
def Z6 (x : Inst) (v : List (List Visit)) (b : Int) (n : Nat) : List (zi × Int) := (List.range n).map fun d : Nat => qP x b (qr v d x.cust.length)
def jf (x : Inst) (v : List (List Visit)) (b : Int) (n : Nat) : zu := (Z6 x v b n).map (·.1)
def qC (x : Inst) (v : List (List Visit)) (b : Int) (n : Nat) : List Int := (Z6 x v b n).map (·.2)
theorem Q8 (x : Inst) (v : List (List Visit)) (b : Int) (n : Nat) : (jf x v b n).length = n := by simp [jf, Z6]
theorem Zd3 (x : Inst) (v : List (List Visit)) (b : Int) (n : Nat) : (qC x v b n).length = n := by simp [qC, Z6]
theorem Zd4 (x : Inst) (v : List (List Visit)) (b : Int) (n : Nat) : jf x v b (n + 1) = jf x v b n ++ [(qP x b (qr v n x.cust.length)).1] := by simp [jf, Z6, List.range_succ]
theorem ZlX (x : Inst) (v : List (List Visit)) (b : Int) (n : Nat) : qC x v b (n + 1) = qC x v b n ++ [(qP x b (qr v n x.cust.length)).2] := by simp [qC, Z6, List.range_succ]
open Go Go.Proofs Hp
theorem ZlY (x : Inst) (v : List (List Visit)) (day : Int) (n : Nat) (hx : x.cust.length ≤ 1000) (hv : VsOk x.cust.length n v) : Pure Tryz.prog 15 [.agg (zA x), L v, I day] (L (qr v day x.cust.length)) := by
 have hvl := hv.len
 have hso := fun k => (VU hv day k).1
 have hmi : vy (x.cust.length : Int) (x.cust.length : Int) = x.cust.length := by unfold vy; simp
 refine zx Tryz.func15 Tryz.ntmps15 Tryz.results15 fun S nx hd => ?_
 refine za (zb ?_)
 intro v0
 refine za (zb ?_)
 refine za (qZ 7 35 2 rfl fun v1 => ?_)
 refine za (zb ?_)
 refine zj (zG (fun s : Nat × List Stop × Nat => s.1 ≤ x.cust.length ∧ s.2.1 = qr v day s.1) (fun (i, out, w) => [(1, L v), (2, I day), (7, .sl (nx + 1) w 2 0 out.length), (16, I x.cust.length), (17, I i)]) (fun (i, out, w) => [.cells v0 25 (zA x), .cells w 35 (out.flatMap Enc.enc)]) (fun s => x.cust.length - s.1) (0, [], v1) [] (by simp [qr]) (by simp [hvl, hmi]) (by simp) ?_)
 rintro ⟨i, out, w⟩ ⟨hi, ho⟩
 simp only at hi ho ⊢
 refine za (zb ?_)
 refine za (zr rfl (fun hc => ?_) (fun hc => ?_))
 ·simp at hc
  have hiv : i < v.length := by omega
  obtain ⟨l, tl, a1, a2, a3, e0⟩ := zE rfl v i hiv
  have hll := hv.few l (List.mem_of_getElem? a1)
  have hoi := hso i
  refine zh (za (zj (za (zb ?_))))
  refine za (ze [] (zm e0 hiv) ?_)
  refine zj (zG (fun s : Nat × List Stop × Nat => s.1 ≤ l.length ∧ s.2.1 = qr v day i ++ Z5 l day i s.1 ∧ s.2.1.length ≤ i + s.1) (fun (k, out, w) => [(1, L v), (2, I day), (7, .sl (nx + 1) w 2 0 out.length), (8, I i), (16, I x.cust.length), (17, I i), (23, L l), (24, I l.length), (25, I k)]) (fun (k, out, w) => [.cells v0 25 (zA x), .cells w 35 (out.flatMap Enc.enc)]) (fun s => l.length - s.1) (0, out, w) [] ⟨by simp, by simp [ZlV, ho], by simp [ho]; omega⟩ (by simp) (by simp) ?_)
  clear ho
  rintro ⟨k, out, w⟩ ⟨hk, ho, hol⟩
  simp only at hk ho hol ⊢
  refine za (zb ?_)
  refine za (zr rfl (fun hc2 => ?_) (fun hc2 => ?_))
  ·simp at hc2
   obtain ⟨s, tl2, b1, b2, b3, e1, e2⟩ := el 2 rfl l k hc2
   refine zh (za (zj (za (ze [] (zF e1 e2 hc2) ?_))))
   intro v2
   refine za (zb ?_)
   by_cases hd : s.d = day
   ·repeat apply za
    refine zo (by simp [hd]) ?_
    refine zb ?_
    refine ⟨by omega, ?_⟩
    refine zb ?_
    exact zp (k + 1, out ++ [⟨i, s.q⟩], w + 1) [_] ⟨hc2, by rw [ZdZ b1, if_pos hd, ho]; simp, by simp; omega⟩ (by simp; omega) (by simp [zt k (by omega)]) rfl (by simp; rfl)
   ·repeat apply za
    refine zn (by simp [hd]) ?_
    refine zh (zb ?_)
    exact zp (k + 1, out, w) [_] ⟨hc2, by rw [ZdZ b1, if_neg hd, ho]; simp, by dsimp only; omega⟩ (by simp; omega) (by simp [zt k (by omega)]) rfl (by simp; rfl)
  ·simp at hc2
   obtain rfl : k = l.length := by omega
   rw [ZlW v day i l a1, ← VT] at ho
   refine zy (zb ?_)
   exact zp (i + 1, out, w) [] ⟨hc, ho⟩ (by simp; omega) (by simp [zt i (by omega)]) rfl (by simp)
 ·simp at hc
  obtain rfl : i = x.cust.length := by omega
  refine zy (yc 1 rfl ?_)
  refine za (zb ?_)
  exact zg (zk hd (by simp; rfl) (by simp [zq, ho]))
theorem ZlZ (a b : zu) (ha : a.length ≤ 1048576) (hat : ∀ t ∈ a, t.length ≤ 1048576) (hau : ∀ t ∈ a, ∀ u ∈ t, u.length ≤ 1048576) : Pure Tryz.prog 19 [.agg [L a], .agg [L b]] (B (decide (a = b))) := by
 refine zx Tryz.func19 Tryz.ntmps19 Tryz.results19 fun S nx hd => ?_
 refine za (zb ?_)
 intro v0 v1
 by_cases hab : a.length = b.length
 case neg =>
  have : a ≠ b := fun e => hab (by rw [e])
  repeat apply za
  refine zb ?_
  refine zo (by simp; omega) ?_
  refine za (zb ?_)
  exact zg (zk hd rfl (by simp [this]))
 repeat apply za
 refine zb ?_
 refine zn (by simp; omega) ?_
 refine zh ?_
 repeat apply za
 refine zb ?_
 refine zj (zG (fun k : Nat => k ≤ a.length ∧ a.take k = b.take k) (fun k => [(2, .ptr nx v0 0), (3, .ptr (nx + 1) v1 0), (5, I k)]) (fun _ => [.cells v0 38 [L a], .cells v1 38 [L b]]) (fun k => a.length - k) 0 [] (by simp) (by simp) (by simp) ?_)
 rintro k ⟨hk, hkt⟩
 repeat apply za
 refine zb ?_
 refine zr rfl (fun hc => ?_) (fun hc => ?_)
 ·simp at hc
  obtain ⟨s, ts, a1, -, a3, e1⟩ := zE rfl a k hc
  obtain ⟨t, tt, b1, -, b3, e2⟩ := zE rfl b k (by omega)
  have hcb : k < b.length := by omega
  have h1 : 1 ≤ a.length - k := by omega
  have h2 : 1 ≤ b.length - k := by omega
  have hsl := hat s (List.mem_of_getElem? a1)
  have hsu := hau s (List.mem_of_getElem? a1)
  refine zh (za (zj ?_))
  repeat apply za
  refine zC (some [nx, nx + 1]) (Row.pures [0, 1, 2, 3, 4, 5, 6, 7, 8, 9, 10, 11, 12, 13, 14] .done) mixed (yh e1 e2 hc hcb h1 h2) ?_
  by_cases hst : s.length = t.length
  case neg =>
   have : a ≠ b := YV a1 b1 fun e => hst (by rw [e])
   refine zo (by simp; omega) ?_
   refine za (zb ?_)
   exact zg (zk hd rfl (by simp [this]))
  refine zn (by simp; omega) ?_
  refine zh (za (zb ?_))
  refine zj (zG (fun j : Nat => j ≤ s.length ∧ s.take j = t.take j) (fun j => [(2, .ptr nx v0 0), (3, .ptr (nx + 1) v1 0), (5, I k), (6, I j)]) (fun _ => [.cells v0 38 [L a], .cells v1 38 [L b]]) (fun j => s.length - j) 0 [] (by simp) (by simp) (by simp) ?_)
  rintro j ⟨hj, hjt⟩
  repeat apply za
  refine ze [] (zF e1 hc h1) ?_
  refine zr rfl (fun hcj => ?_) (fun hcj => ?_)
  ·simp at hcj
   obtain ⟨p, tp, p1, -, p3, q1⟩ := zE rfl s j hcj
   obtain ⟨q, tq, c1, -, c3, q2⟩ := zE rfl t j (by omega)
   have hjb : j < t.length := by omega
   have g1 : 1 ≤ s.length - j := by omega
   have g2 : 1 ≤ t.length - j := by omega
   have hpl := hsu p (List.mem_of_getElem? p1)
   refine zh (za (zj (za (ze [] (yh e1 hc h1 q1 hcj g1) ?_))))
   refine za (ze [] (yh e2 hcb h2 q2 hjb g2) ?_)
   repeat apply za
   refine zb ?_
   by_cases hpq : p.length = q.length
   case neg =>
    have : a ≠ b := YV a1 b1 (YV p1 c1 fun e => hpq (by rw [e]))
    refine zo (by simp; omega) ?_
    refine za (zb ?_)
    exact zg (zk hd rfl (by simp [this]))
   refine zn (by simp; omega) ?_
   refine zh (za (zb ?_))
   refine zj (zG (fun i : Nat => i ≤ p.length ∧ p.take i = q.take i) (fun i => [(2, .ptr nx v0 0), (3, .ptr (nx + 1) v1 0), (5, I k), (6, I j), (7, L p), (8, L q), (9, I i)]) (fun _ => [.cells v0 38 [L a], .cells v1 38 [L b]]) (fun i => p.length - i) 0 [] (by simp) (by simp) (by simp) ?_)
   rintro i ⟨hi, hit⟩
   repeat apply za
   refine zb ?_
   refine zr rfl (fun hci => ?_) (fun hci => ?_)
   ·simp at hci
    obtain ⟨y, ty, y1, -, y3, -, r1⟩ := el 2 rfl p i hci
    obtain ⟨z, tz, z1, -, z3, -, r2⟩ := el 2 rfl q i (by omega)
    have hib : i < q.length := by omega
    refine zh (za (zj (za (zC none (Row.pures [0, 1, 2, 3, 4, 5, 6, 7, 8] .done) mixed (yi r1 r2 hci hib) ?_))))
    by_cases hyz : y = z
    ·subst hyz
     refine zn (by simp) ?_
     refine zh (zb ?_)
     exact zp (i + 1) [] ⟨by omega, by rw [y3, z3, hit]⟩ (by omega) (by simp [zt i (by omega)]) rfl (by simp)
    ·have hne : ¬ y.c = z.c ∨ ¬ y.q = z.q := by
      by_cases h1 : y.c = z.c
      ·right
       intro h2
       apply hyz
       cases y; cases z
       cases h1; cases h2; rfl
      ·exact .inl h1
     have : a ≠ b := YV a1 b1 (YV p1 c1 (YV y1 z1 hyz))
     refine zo (by simp; exact hne) ?_
     refine za (zb ?_)
     exact zg (zk hd rfl (by simp [this]))
   ·simp at hci
    obtain rfl : i = p.length := by omega
    rw [List.take_length, hpq, List.take_length] at hit
    refine zy (zb ?_)
    exact zp (j + 1) [] ⟨by omega, by rw [p3, c3, hjt, hit]⟩ (by omega) (by simp [zt j (by omega)]) rfl (by simp)
  ·simp at hcj
   obtain rfl : j = s.length := by omega
   rw [List.take_length, hst, List.take_length] at hjt
   refine zy (zb ?_)
   exact zp (k + 1) [] ⟨by omega, by rw [a3, b3, hkt, hjt]⟩ (by omega) (by simp [zt k (by omega)]) rfl (by simp)
 ·simp at hc
  obtain rfl : k = a.length := by omega
  rw [List.take_length, hab, List.take_length] at hkt
  refine zy (za (zb ?_))
  exact zg (zk hd rfl (by simp [hkt]))
open Go
section
variable {P : Program} {r : Rd} {n N : Nat} {Q : Exit → (Nat → PV) → Store → Prop} {F : Nat → PV} {c : Code}
theorem Zl0 {S1 T : Store} {G : Nat → PV} {id ver e : Nat} {cs : List PV} (hid : S1 id = .cells ver e cs) (hT : T id = .dead) (hat : ∀ o, T o = .dead ∨ T o = S1 o ∨ T o = jP id ver cs (S1 o))
  (hG : ∀ i, G i = F i ∨ G i = yZ id ver cs (F i)) (h : PW P r n N c Q G T) : PW P r n N c Q F S1 := by
 refine uL (F' := G) (S' := T) (fun C w a st => ?_) h
 have hver : ∀ o v, (T o).ver = some v → (S1 o).ver = some v := by
  intro o v hv
  rcases hat o with q | q | q
  ·rw [q] at hv; cases hv
  ·rw [q] at hv; exact hv
  ·rw [q, Zbd] at hv; exact hv
 have hne : ∀ o, T o ≠ .dead → S1 o ≠ .dead := by
  intro o ho hd
  rcases hat o with q | q | q
  ·exact ho q
  ·exact ho (q.trans hd)
  ·rw [hd] at q; exact ho q
 have hM : ∀ b, C.M T b → C.M S1 b := fun b ⟨o, k, ho, hl⟩ => ⟨o, k, hne o ho, hl⟩
 have hstep : Step C S1 w C T w := ⟨rfl, ⟨rfl, Nat.le_refl _⟩, rfl, Nat.le_refl _, Nat.le_refl _, Nat.le_refl _, fun b _ hb => ⟨rfl, fun h => hb (hM b h)⟩, fun o v1 hv => .inr ⟨v1, hver o v1 hv, Nat.le_refl _, fun _ => rfl⟩⟩
 have hrel : ∀ {p u}, Rel C S1 w p u → Rel C T w (yZ id ver cs p) u := fun h => JT st.sim hid hT hne hstep h
 refine ⟨C, ⟨⟨fun o ho => st.sim.lt o (hne o ho), fun o v hv => st.sim.clk o v (hver o v hv), fun o o' b k k' ho ho' => st.sim.dist o o' b k k' (hne o ho) (hne o' ho'), ?_, ?_⟩, st.size, fun i => ?_, r.keep hstep st.v⟩, hstep⟩
 ·intro o v e' ds ho
  rcases hat o with q | q | q
  ·rw [q] at ho; cases ho
  ·rw [q] at ho
   rcases st.sim.cells o v e' ds ho with hn | ⟨b, k, c, h1, h2, h3, h4, h5, h6⟩
   ·exact .inl hn
   ·exact .inr ⟨b, k, c, h1, h2, h3, h4, h5, fun i p u hp hu => (h6 i p u hp hu).mono hstep⟩
  ·rw [q] at ho
   cases hs : S1 o with
   | dead => rw [hs] at ho; cases ho
   | map v es => rw [hs] at ho; cases ho
   | cells v2 e2 ds2 =>
    rw [hs] at ho
    cases ho
    rcases st.sim.cells o _ _ ds2 hs with ⟨h1, h2⟩ | ⟨b, k, c, h1, h2, h3, h4, h5, h6⟩
    ·exact .inl ⟨h1, by rw [h2]; rfl⟩
    ·refine .inr ⟨b, k, c, h1, h2, h3, by simpa using h4, fun i v hi hv => h5 i v (by simpa using hi) hv, fun i p u hp hu => ?_⟩
     rw [List.getElem?_map] at hp
     obtain ⟨p0, hp0, rfl⟩ := Option.map_eq_some_iff.1 hp
     exact hrel (h6 i p0 u hp0 hu)
 ·intro o v es ho
  have hs : S1 o = .map v es := by
   rcases hat o with q | q | q
   ·rw [q] at ho; cases ho
   ·rw [q] at ho; exact ho
   ·rw [q] at ho
    cases hs : S1 o with
    | dead => rw [hs] at ho; cases ho
    | map v es => rw [hs] at ho; exact ho
    | cells v2 e2 ds2 => rw [hs] at ho; cases ho
  obtain ⟨b, k, ms, cl, h1, h2, h3, h4⟩ := st.sim.maps o v es hs
  exact ⟨b, k, ms, cl, h1, h2, h3, fun i x m hx hm => ⟨(h4 i x m hx hm).1, (h4 i x m hx hm).2.mono hstep⟩⟩
 ·rcases hG i with q | q
  ·rw [q]; exact (st.fr i).mono hstep
  ·rw [q]; exact hrel (st.fr i)
def x8 {α : Type} (base sz : Nat) (ws : Nat → Nat) (rows : List (List α)) : List PV := (List.range rows.length).map fun i => .sl (base + i) (ws i) sz 0 (rows.getD i []).length
theorem Y8 {α : Type} (base sz : Nat) (ws : Nat → Nat) (rows : List (List α)) : (x8 base sz ws rows).length = rows.length := by simp [x8]
theorem Q9 {α : Type} (base sz : Nat) (ws : Nat → Nat) (rows : List (List α)) (i : Nat) (h : i < rows.length) : (x8 base sz ws rows)[i]? = some (.sl (base + i) (ws i) sz 0 (rows.getD i []).length) := by
 simp [x8, h]
theorem VV {α : Type} (base sz : Nat) (ws : Nat → Nat) (rows : List (List α)) (i : Nat) (h : i < rows.length) : ∃ tl, (x8 base sz ws rows).drop i = .sl (base + i) (ws i) sz 0 (rows.getD i []).length :: tl := by
 refine ⟨(x8 base sz ws rows).drop (i + 1), ?_⟩
 have hl : i < (x8 base sz ws rows).length := by rw [Y8]; exact h
 rw [List.drop_eq_getElem_cons hl]
 have := Q9 base sz ws rows i h
 rw [List.getElem?_eq_getElem hl] at this
 rw [Option.some.inj this]
structure RowsAt {α : Type} [Enc α] (T : Store) (A va tA base e sz : Nat) (ws : Nat → Nat) (rows : List (List α)) : Prop where
 arr : T A = .cells va tA (x8 base sz ws rows)
 row : ∀ i, i < rows.length → T (base + i) = .cells (ws i) e ((rows.getD i []).flatMap Enc.enc)
 out : A < base
theorem RowsAt.other {α : Type} [Enc α] {T T' : Store} {A va tA base e sz : Nat} {ws : Nat → Nat} {rows : List (List α)} (h : RowsAt T A va tA base e sz ws rows) (hT : ∀ o, o = A ∨ (base ≤ o ∧ o < base + rows.length) → T' o = T o) : RowsAt T' A va tA base e sz ws rows :=
 ⟨(hT A (.inl rfl)).trans h.arr, fun i hi => (hT _ (.inr ⟨by omega, by omega⟩)).trans (h.row i hi), h.out⟩
theorem RowsAt.turn {α : Type} [Enc α] {T T' : Store} {A va tA base e sz : Nat} {ws : Nat → Nat} {rows : List (List α)} (h : RowsAt T A va tA base e sz ws rows) {i : Nat} (hi : i < rows.length) (w : Nat) (l : List α)
  (hA : T' A = .cells va tA ((x8 base sz ws rows).set i (.sl (base + i) w sz 0 l.length))) (hB : T' (base + i) = .cells w e (l.flatMap Enc.enc)) (hT : ∀ o, o ≠ A → o ≠ base + i → T' o = T o) : RowsAt T' A va tA base e sz (fun k => if k = i then w else ws k) (rows.set i l) := by
 have hout := h.out
 refine ⟨?_, fun k hk => ?_, h.out⟩
 ·rw [hA]
  congr 1
  apply List.ext_getElem?
  intro k
  rw [List.getElem?_set, Y8]
  by_cases hki : i = k
  ·subst hki
   rw [if_pos rfl, if_pos hi, Q9 _ _ _ _ _ (by simpa using hi)]
   simp [hi]
  ·rw [if_neg hki]
   by_cases hk : k < rows.length
   ·rw [Q9 _ _ _ _ _ hk, Q9 _ _ _ _ _ (by simpa using hk)]
    simp only [List.getD_eq_getElem?_getD, List.getElem?_set_ne hki, if_neg (fun e : k = i => hki e.symm)]
   ·rw [List.getElem?_eq_none (by rw [Y8]; omega), List.getElem?_eq_none (by rw [Y8]; simp; omega)]
 ·rw [List.length_set] at hk
  by_cases hki : k = i
  ·subst hki
   rw [hB, if_pos rfl]
   simp [hi]
  ·rw [hT _ (by omega) (by omega), h.row k hk, if_neg hki]
   simp only [List.getD_eq_getElem?_getD, List.getElem?_set_ne (fun e : i = k => hki e.symm)]
theorem Zl1 {α : Type} (base sz : Nat) (ws : Nat → Nat) (m : Nat) : x8 (α := α) base sz ws (List.replicate m []) = (List.range m).map fun i => .sl (base + i) (ws i) sz 0 0 := by
 unfold x8
 rw [List.length_replicate]
 refine List.map_congr_left fun i hi => ?_
 have := List.mem_range.1 hi
 simp [this]
theorem Zd5 {α : Type} [Enc α] (A va tA base e sz m : Nat) (hAb : A < base) : ∀ (j k : Nat) (T : Store) (ws : Nat → Nat), k + j = m → T A = .cells va tA ((List.range k).map (fun i => .sl (base + i) (ws i) sz 0 0) ++ List.replicate j (.sc (.slice none 0 0))) →
  (∀ i, i < k → T (base + i) = .cells (ws i) e []) → zW (base + k) T →
  (∀ (T' : Store) (ws' : Nat → Nat), RowsAt T' A va tA base e sz ws' (List.replicate m ([] : List α)) → (∀ o, o ≠ A → o < base → T' o = T o) → zW (base + m) T' → PW P r n N c Q F T') → PW P r n N c Q F T
 | 0, k, T, ws, hk, hA, hrow, hd, h => by
  obtain rfl : k = m := by omega
  refine h T ws ⟨by rw [hA, Zl1]; simp, fun i hi => ?_, hAb⟩ (fun _ _ _ => rfl) hd
  rw [List.length_replicate] at hi
  rw [hrow i hi]; simp [hi]
 | j + 1, k, T, ws, hk, hA, hrow, hd, h => by
  have hget : ((List.range k).map (fun i => PV.sl (base + i) (ws i) sz 0 0) ++ List.replicate (j + 1) (.sc (.slice none 0 0)))[k]? = some (.sc (.slice none 0 0)) := by
   rw [List.getElem?_append_right (by simp)]; simp
  refine Wn (o := A) k e sz hA hget (uc (X := fun id v => PW P r n N c Q F ((T.set id (.cells v e [])).set A (.cells va tA (((List.range k).map (fun i => PV.sl (base + i) (ws i) sz 0 0) ++ List.replicate (j + 1) (PV.sc (.slice none 0 0))).set k (.sl id v sz 0 0))))) (base + k) (hd _ (Nat.le_refl _)) fun v => ?_)
  refine Zd5 A va tA base e sz m hAb j (k + 1) _ (fun i => if i = k then v else ws i) (by omega) ?_ ?_ ?_ fun T' ws' hR hT' hd' => h T' ws' hR (fun o ho hob => ?_) hd'
  ·rw [Store.set_same]
   congr 1
   rw [List.set_append_right _ _ (by simp), List.range_succ, List.map_append]
   simp only [List.length_map, List.length_range, Nat.sub_self, List.replicate_succ, List.set_cons_zero, List.map_cons, List.map_nil, if_true]
   rw [List.append_assoc]
   congr 1
   refine List.map_congr_left fun i hi => ?_
   have := List.mem_range.1 hi
   rw [if_neg (by omega)]
  ·intro i hi
   rw [Store.set_other _ _ _ _ (by omega)]
   by_cases hik : i = k
   ·subst hik; rw [Store.set_same, if_pos rfl]
   ·rw [Store.set_other _ _ _ _ (by omega), if_neg hik]
    exact hrow i (by omega)
  ·intro i hi
   rw [Store.set_other _ _ _ _ (by omega), Store.set_other _ _ _ _ (by omega)]
   exact hd i (by omega)
  ·rw [hT' o ho hob, Store.set_other _ _ _ _ ho, Store.set_other _ _ _ _ (by omega)]
theorem Zl2 {α : Type} [Enc α] (A va tA base e sz m : Nat) {T : Store} (hA : T A = .cells va tA (List.replicate m (.sc (.slice none 0 0)))) (hd : zW base T)
  (h : ∀ (T' : Store) (ws : Nat → Nat), RowsAt T' A va tA base e sz ws (List.replicate m ([] : List α)) → (∀ o, o ≠ A → o < base → T' o = T o) → zW (base + m) T' → PW P r n N c Q F T') : PW P r n N c Q F T := by
 have hAb : A < base := by
  rcases Nat.lt_or_ge A base with q | q
  ·exact q
  ·rw [hd A q] at hA; cases hA
 exact Zd5 A va tA base e sz m hAb m 0 T (fun _ => 0) (by omega) (by simpa using hA) (fun i hi => by omega) (by simpa using hd) h
theorem Zd6 {nx : Nat} {S : Store} {obs : List Ob} {id ver e0 : Nat} {cs : List PV} (i e sz : Nat) (hlt : id < nx) (hs : S id = .cells ver e0 cs) (hi : cs[i]? = some (.sc (.slice none 0 0)))
  (h : ∀ v, PW P r n N c Q F (ext (S.set id (.cells ver e0 (cs.set i (.sl (nx + obs.length) v sz 0 0)))) nx (obs ++ [.cells v e []]))) : PW P r n N c Q F (ext S nx obs) :=
 Wn (o := id) i e sz (by rw [zH hlt]; exact hs) hi (uc (X := fun id' v => PW P r n N c Q F (((ext S nx obs).set id' (.cells v e [])).set id (.cells ver e0 (cs.set i (.sl id' v sz 0 0))))) _ uf fun v => by
  rw [jk, jZ _ hlt]; exact h v)
end
open Go Go.Proofs
instance : Enc Mv := ⟨fun m => vn m, 5, fun _ => rfl, fun _ => rfl⟩
@[simp] theorem ZrL (m : Mv) : Enc.enc m = vn m := rfl
@[simp high] theorem ZrM (l : List Mv) : (l.flatMap Enc.enc).length = l.length * 5 := jQ l
@[simp high] theorem ZrN (l : List Mv) : (l.flatMap Enc.enc).take (l.length * 5) = l.flatMap Enc.enc := uO l
end Go.Proofs.YtcnbiofjmioaiaaGreat.Pv
