/- Part of a proof, packed. -/
import Derived.Test.YtcnbiofjmioaiaaGreatR4
set_option maxRecDepth 100000
set_option maxHeartbeats 3200000
namespace Go.Proofs.YtcnbiofjmioaiaaGreat.Pv
open Go Go.Proofs Hp
theorem ZkF {P : Program} {r : Rd} {n : Nat} {F : Nat → PV} {S : Store} {o : Oper} {t e : TypeId} {len : Nat} {parts : Array (Nat × Operand)} {cs : List PV} {K : PV → Store → Prop} (ho : o.op = .buildSlice t len parts) (ht : P.underlying t = some (.slice e)) (h0 : P.cellsOf e ≠ 0) (hlen : len ≤ 1048576)
  (hl : uI P e len (parts.toList.map fun x => (x.1, ev F x.2)) = some cs)
  (hK : ∀ C : Ctx, S C.next = .dead → ∃ id v, Fresh C S id v ∧ K (.sl id v (P.cellsOf e) 0 len) (S.set id (.cells v e cs))) : PO P r n o F S K := by
 intro G hG C w a N st next Q' hnext
 have hmap : parts.toList.map (fun x => (x.1, ev G x.2)) = parts.toList.map (fun x => (x.1, ev F x.2)) := List.map_congr_left fun x hx => by
  rw [hG x.2 (by simp only [ho, Op.operands, List.mem_toArray, List.mem_map]; first | exact ⟨x, hx, rfl⟩ | (simp; exact ⟨x.1, by simpa using hx⟩))]
 rw [← hmap] at hl
 obtain ⟨vs, hrun, hr, hsz⟩ := ZaC (w := w) ht (ev G) a.eval st.ev hl
 obtain ⟨id, ver, hfr, hK⟩ := hK C st.sim.free
 obtain ⟨k1, k2⟩ := st.sim.object' hfr e vs cs (Nat.le_of_eq hr.1) (fun i v _ hv => hr.2.1 i v hv) hr.2.2
 refine qt (x := .value (.slice (some ⟨w.heap.size, 0, none⟩) len len)) (w' := w.alloc (.cells vs e)) (by intro c hc; rw [ho] at hc; cases hc) ?_
  (hnext _ _ _ _ _ hK (Qp C S w _ _ _ _ _ _ _ _ rfl (Nat.le_refl _) (by unfold jk; omega) (by unfold maxLen; omega) hsz.symm) k1 k2)
 unfold execOp
 simp only [ho]
 have e1 : (parts.map fun x => (x.1, a.eval x.2)) = (parts.toList.map fun x => (x.1, a.eval x.2)).toArray := by
  apply Array.toList_inj.1; simp
 simp only [e1, hrun, Sem.run_bind, Sem.run_pure, Result.andThen_ok]
theorem ZkG {P : Program} {r : Rd} {n nx : Nat} {F : Nat → PV} {S : Store} {obs : List Ob} {o : Oper} {t e : TypeId} {len : Nat} {parts : Array (Nat × Operand)} {cs : List PV} {K : PV → Store → Prop} (ho : o.op = .buildSlice t len parts) (ht : P.underlying t = some (.slice e)) (h0 : P.cellsOf e ≠ 0) (hlen : len ≤ 1048576)
  (hl : uI P e len (parts.toList.map fun x => (x.1, ev F x.2)) = some cs) (hK : ∀ v, K (.sl (nx + obs.length) v (P.cellsOf e) 0 len) (ext S nx (obs ++ [.cells v e cs]))) : PO P r n o F (ext S nx obs) K :=
 ZkF ho ht h0 hlen hl (vZ (X := fun id v => K (.sl id v (P.cellsOf e) 0 len) ((ext S nx obs).set id (.cells v e cs))) _ ue fun v => by rw [jf]; exact hK v)
open Go Go.Proofs
theorem ZkH {P : Program} {r : Rd} {n nx N : Nat} {Q : Exit → (Nat → PV) → Store → Prop} {F : Nat → PV} {S : Store} {obs : List Ob} {A : Prop} {R : Nat → KT → CT → HT → Prop} {id : Nat} {ops : Array Oper} {o : Oper} {os : List Oper} {t e : TypeId} {len : Nat} {parts : Array (Nat × Operand)}
  (D : List (Nat × Nat)) (cs : List PV) (ht : P.underlying t = some (.slice e)) (a : A) (h : ∀ v, R v (fun F' S' obs' => Q .normal F' (ext S' nx obs')) (CQ P r n nx ops fun F' S' obs' => Q .normal F' (ext S' nx obs')) (HQ P r n nx ops fun F' S' obs' => Q .normal F' (ext S' nx obs')))
  (hops : ops.toList = o :: os := by rfl) (hg : o.guard = none := by rfl) (ho : o.op = .buildSlice t len parts := by rfl) (h0 : P.cellsOf e ≠ 0 := by simp) (hlen : len ≤ 1048576 := by decide)
  (hl : uI P e len (parts.toList.map fun x => (x.1, ev F x.2)) = some cs := by simp [uI, uH]) (hN : xB N ops = true := by rfl) (hD : vB ops D = true := by rfl)
  (hR : A → ∀ v, XQ P nx D os (zO F o.dst (.sl (nx + obs.length) v (P.cellsOf e) 0 len)) S (obs ++ [.cells v e cs]) (R v) := by intro a v K Gc Gh X hX0 hX h; simp -implicitDefEqProofs [hX0, hX, a]; exact h) : PW P r n N (.region id ops false) Q F (ext S nx obs) := by
 refine Wu hN ?_
 rw [hops]
 unfold XS
 have : gd ops F o = some true := by unfold gd; rw [hg]
 rw [this]
 exact ZkG ho ht h0 hlen hl fun v => ⟨_, _, rfl, QA (by rw [hops]; exact List.suffix_cons _ _) hD (hR a v) (h v)⟩
def yo (x : Inst) (t : zD) : Nat → Int
 | 0 => 0
 | i + 1 => yo x t i + arc x ((t.getD i default).c + 1) ((t.getD (i + 1) default).c + 1)
def yp (x : Inst) (t : zD) : Nat → Int
 | 0 => 0
 | i + 1 => yp x t i + arc x ((t.getD (i + 1) default).c + 1) ((t.getD i default).c + 1)
theorem YX {x : Inst} (h : jh x) (t : zD) : ∀ i : Nat, 0 ≤ yo x t i ∧ yo x t i ≤ 2147483648 * (i : Int)
 | 0 => by simp [yo]
 | i + 1 => by
  have h1 := YX h t i
  have h2 := h ((t.getD i default).c + 1) ((t.getD (i + 1) default).c + 1)
  unfold yo; omega
theorem YY {x : Inst} (h : jh x) (t : zD) : ∀ i : Nat, 0 ≤ yp x t i ∧ yp x t i ≤ 2147483648 * (i : Int)
 | 0 => by simp [yp]
 | i + 1 => by
  have h1 := YY h t i
  have h2 := h ((t.getD (i + 1) default).c + 1) ((t.getD i default).c + 1)
  unfold yp; omega
structure Sm where
 f : List Int
 b : List Int
 l : List Int
 n : Int
instance : Enc Sm := ⟨fun s => [L s.f, L s.b, L s.l, I s.n], 4, fun _ => rfl, fun _ => rfl⟩
@[simp] theorem Zro (s : Sm) : Enc.enc s = [L s.f, L s.b, L s.l, I s.n] := rfl
@[simp high] theorem Zc6 (l : List Sm) : (l.flatMap Enc.enc).length = l.length * 4 := jO l
@[simp high] theorem Zrp (l : List Sm) : (l.flatMap Enc.enc).take (l.length * 4) = l.flatMap Enc.enc := uO l
def jt (x : Inst) (t : zD) : Sm := ⟨(List.range t.length).map (yo x t), (List.range t.length).map (yp x t), (List.range (t.length + 1)).map fun i => zK (t.take i), zW x (t.map (·.c))⟩
abbrev wT (x : Inst) (d : zi) : List PV := [I x.days, I x.veh, I x.cap, I x.len, L x.cust, L x.dist, L d, L (d.map (jt x))]
structure MvDay (d : zi) : Prop where
 n : d.length ≤ 1000
 t : ∀ t ∈ d, t.length ≤ 1000
 s : ∀ t ∈ d, ∀ s ∈ t, small s.c ∧ 0 ≤ s.q ∧ s.q ≤ 2147483648
theorem ZkI {t : zD} {i : Nat} {s : Stop} (h : t.take (i + 1) = t.take i ++ [s]) : zK (t.take (i + 1)) = zK (t.take i) + s.q := by rw [h, J6]
theorem Vs {α : Type} (f : Nat → α) (k : Nat) : (List.range (k + 1)).map f = (List.range k).map f ++ [f k] := by rw [List.range_succ, List.map_append]; rfl
theorem ZkJ (id v : Nat) (cs : List PV) (l : List Sm) : (l.flatMap Enc.enc).map (yW id v cs) = (l.flatMap Enc.enc : List PV) := by
 induction l with
 | nil => rfl
 | cons s l ih => rw [List.flatMap_cons, List.map_append, ih]; rfl
theorem ZkK (x : Inst) (d : zi) (hx : jh x) (hd' : MvDay d) : Pure Tryz.prog 144 [.agg (zA x), .agg [L d]] (.ip (wT x d)) := by
 have hdn := hd'.n
 refine zv Tryz.func144 Tryz.ntmps144 Tryz.results144 fun S nx hd => ?_
 refine za (zb ?_)
 intro v0 v1
 refine za (zb ?_)
 intro v2
 refine qM 2 7 241 4 rfl rfl fun v3 => ?_
 repeat apply za
 refine zb ?_
 refine zj (zG (fun s' : Nat × Nat => s'.1 ≤ d.length) (fun (k, v3) => [(2, .ptr nx v0 0), (5, .ptr (nx + 2) v2 0), (20, L d), (21, I d.length), (22, I k)]) (fun (k, v3) => [.cells v0 25 (zA x), .cells v1 58 [L d], .cells v2 239 [I x.days, I x.veh, I x.cap, I x.len, L x.cust, L x.dist, L d, .sl (nx + 3) v3 4 0 k], .cells v3 241 (((d.map (jt x)).take k).flatMap Enc.enc)]) (fun s' => d.length - s'.1) (0, v3) [] (by simp) (by simp) (by simp) ?_)
 rintro ⟨k, v3⟩ hk
 simp only at hk ⊢
 refine za (zb ?_)
 refine za (zr rfl (fun hc => ?_) (fun hc => ?_))
 ·simp at hc
  obtain ⟨t, tl, a1, a2, a3, e0⟩ := zE rfl d k hc
  have hk1 : 1 ≤ d.length - k := by omega
  have htm := List.mem_of_getElem? a1
  have htl := hd'.t t htm
  have hts := hd'.s t htm
  have hlw := QE x t (by omega) (fun s hs => (hts s hs).1)
  have hwz := QT hx (t.map (·.c))
  rw [List.length_map] at hwz
  rw [show W (zW x (t.map (·.c))) = zW x (t.map (·.c)) from wr _ (by omega) (by omega)] at hlw
  refine zh (za (zj (za (ze [] (zF e0 hc hk1) ?_))))
  intro v4
  refine za (ZkH [] [I 0] Tryz.underlying45 trivial ?_)
  intro v5
  refine zz hlw ?_
  intro v6
  refine za (zb ?_)
  refine qM 6 0 3 1 rfl rfl fun v7 => ?_
  refine qM 6 1 3 1 rfl rfl fun v8 => ?_
  repeat apply za
  refine zb ?_
  generalize hpc : (((d.map (jt x)).take k).flatMap Enc.enc : List PV) = pc at *
  generalize hwl : zW x (t.map (·.c)) = wl at *
  refine zj (zG (fun s' : Nat × Nat × Nat × Nat => s'.1 ≤ t.length) (fun (i, v5, v7, v8) => [(2, .ptr nx v0 0), (5, .ptr (nx + 2) v2 0), (7, .ptr (nx + 4) v4 0), (8, .ptr (nx + 6) v6 0), (9, I (yo x t (i - 1))), (10, I (yp x t (i - 1))), (20, L d), (21, I d.length), (22, I k), (32, L t), (33, I t.length), (34, I i)])
   (fun (i, v5, v7, v8) => [.cells v0 25 (zA x), .cells v1 58 [L d], .cells v2 239 [I x.days, I x.veh, I x.cap, I x.len, L x.cust, L x.dist, L d, .sl (nx + 3) v3 4 0 k], .cells v3 241 pc, .cells v4 72 [L t], .cells v5 3 (((List.range (i + 1)).map fun i => zK (t.take i)).flatMap Enc.enc),
    .cells v6 241 [.sl (nx + 7) v7 1 0 i, .sl (nx + 8) v8 1 0 i, .sl (nx + 5) v5 1 0 (i + 1), I wl], .cells v7 3 (((List.range i).map (yo x t)).flatMap Enc.enc), .cells v8 3 (((List.range i).map (yp x t)).flatMap Enc.enc)]) (fun s' => t.length - s'.1) (0, v5, v7, v8) [] (by simp) (by simp [yo, yp]) (by simp [zK]) ?_)
  rintro ⟨i, v5, v7, v8⟩ hi
  simp only at hi ⊢
  refine za (zb ?_)
  refine za (zr rfl (fun hci => ?_) (fun hci => ?_))
  ·simp at hci
   obtain ⟨s, ts, s1, s2, s3, -, s0⟩ := el 2 rfl t i hci
   have hi2 : 2 ≤ t.length * 2 - i * 2 := by omega
   obtain ⟨hsm, hq0, hq1⟩ := hts s (List.mem_of_getElem? s1)
   have hgs : t.getD i default = s := by rw [List.getD_eq_getElem?_getD, s1]; rfl
   have wi := zt i (by omega)
   have f1 := Vs (yo x t) i
   have f2 := Vs (yp x t) i
   have f3 := Vs (fun i => zK (t.take i)) (i + 1)
   have hlz := ZkI s3
   have hlb := W9 (t := t.take i) (fun a ha => (hts a (List.mem_of_mem_take ha)).2)
   have hlt : (t.take i).length ≤ 1000 := by rw [List.length_take]; omega
   have wl1 : IntKind.i64.wrap (zK (t.take i) + s.q) = zK (t.take (i + 1)) := by rw [hlz]; exact wr _ (by omega) (by omega)
   have g1 : (((List.range i).map (yo x t)).flatMap Enc.enc : List PV).length = i := by rw [qW]; simp
   have g2 : (((List.range i).map (yp x t)).flatMap Enc.enc : List PV).length = i := by rw [qW]; simp
   have g3 : (((List.range (i + 1)).map fun i => zK (t.take i)).flatMap Enc.enc : List PV).length = i + 1 := by rw [qW]; simp
   obtain ⟨lz, tlz, z1, -, -, z0⟩ := zE rfl ((List.range (i + 1)).map fun i => zK (t.take i)) i (by simp)
   have hlzz : lz = zK (t.take i) := by simpa using z1.symm
   have c1 : (((List.range (i + 1)).map (yo x t)).flatMap Enc.enc : List PV) = ((List.range i).map (yo x t)).flatMap Enc.enc ++ [I (yo x t i)] := by rw [f1, List.flatMap_append]; rfl
   have c2 : (((List.range (i + 1)).map (yp x t)).flatMap Enc.enc : List PV) = ((List.range i).map (yp x t)).flatMap Enc.enc ++ [I (yp x t i)] := by rw [f2, List.flatMap_append]; rfl
   have c3 : (((List.range (i + 1 + 1)).map fun i => zK (t.take i)).flatMap Enc.enc : List PV) = ((List.range (i + 1)).map fun i => zK (t.take i)).flatMap Enc.enc ++ [I (zK (t.take (i + 1)))] := by rw [f3, List.flatMap_append]; rfl
   rw [hlzz] at z0
   clear f1 f2 f3 z1 hlzz hlz
   generalize (((List.range i).map (yo x t)).flatMap Enc.enc : List PV) = fc at *
   generalize (((List.range i).map (yp x t)).flatMap Enc.enc : List PV) = bc at *
   generalize (((List.range (i + 1)).map fun i => zK (t.take i)).flatMap Enc.enc : List PV) = lc at *
   have t1 : fc.take i = fc := List.take_of_length_le (by omega)
   have t2 : bc.take i = bc := List.take_of_length_le (by omega)
   have t3 : lc.take (i + 1) = lc := List.take_of_length_le (by omega)
   refine zh (za (zj (za (ze [] (zF s0 hci hi2) ?_))))
   intro v9
   apply za
   refine qj (nx := nx) (fun _ : Unit => True) (fun _ => [(2, .ptr nx v0 0), (5, .ptr (nx + 2) v2 0), (7, .ptr (nx + 4) v4 0), (8, .ptr (nx + 6) v6 0), (9, I (yo x t i)), (10, I (yp x t i)), (11, I i), (12, .ptr (nx + 9) v9 0), (20, L d), (21, I d.length), (22, I k), (32, L t), (33, I t.length), (34, I i)]) (fun _ => S)
    (fun _ => [.cells v0 25 (zA x), .cells v1 58 [L d], .cells v2 239 [I x.days, I x.veh, I x.cap, I x.len, L x.cust, L x.dist, L d, .sl (nx + 3) v3 4 0 k], .cells v3 241 pc, .cells v4 72 [L t], .cells v5 3 lc,
    .cells v6 241 [.sl (nx + 7) v7 1 0 i, .sl (nx + 8) v8 1 0 i, .sl (nx + 5) v5 1 0 (i + 1), I wl], .cells v7 3 fc, .cells v8 3 bc, .cells v9 35 [I s.c, I s.q]]) ?_ ?_
   ·by_cases h0 : 0 < i
    ·obtain ⟨j, rfl⟩ : ∃ j, i = j + 1 := ⟨i - 1, by omega⟩
     obtain ⟨p, tp, p1, -, -, -, p0⟩ := el 2 rfl t j (by omega)
     obtain ⟨hpm, -, -⟩ := hts p (List.mem_of_getElem? p1)
     have hgp : t.getD j default = p := by rw [List.getD_eq_getElem?_getD, p1]; rfl
     have hj2 : 2 ≤ t.length * 2 - j * 2 := by omega
     have hjl : j < t.length := by omega
     have wj : IntKind.i64.wrap (j : Int) = (j : Int) := wr _ (by omega) (by omega)
     have wp := vH hpm
     have ws := vH hsm
     have ar1 := wL x (p.c + 1) (s.c + 1)
     have ar2 := wL x (s.c + 1) (p.c + 1)
     have hfz : yo x t (j + 1) = yo x t j + arc x (p.c + 1) (s.c + 1) := by conv => lhs; unfold yo; rw [hgs, hgp]
     have hbz : yp x t (j + 1) = yp x t j + arc x (s.c + 1) (p.c + 1) := by conv => lhs; unfold yp; rw [hgs, hgp]
     have b1 := YX hx t (j + 1)
     have b2 := YY hx t (j + 1)
     have wf : IntKind.i64.wrap (yo x t j + arc x (p.c + 1) (s.c + 1)) = yo x t (j + 1) := by rw [hfz] at b1 ⊢; exact wr _ (by omega) (by omega)
     have wb : IntKind.i64.wrap (yp x t j + arc x (s.c + 1) (p.c + 1)) = yp x t (j + 1) := by rw [hbz] at b2 ⊢; exact wr _ (by omega) (by omega)
     simp only [Nat.add_sub_cancel]
     have h0' : (0 : Int) < ((j + 1 : Nat) : Int) := by omega
     refine za (ze [] (zm h0 h0') ?_)
     refine zo (by simp) ?_
     refine za (zB (some [nx + 4, nx + 9]) (Row.pures [0, 1, 2, 3, 4, 5, 6, 7, 8, 9, 10, 11, 12] .done) mixed (yg wj p0 hjl hj2 wp ws) ?_)
     refine za (zb ?_)
     refine jP [] ar1 wf ?_
     refine zb ?_
     refine jP [] ar2 wb ?_
     exact zP () [] trivial (by simp) rfl (by simp)
    ·obtain rfl : i = 0 := by omega
     refine za (zb ?_)
     exact zn rfl (zh (zP () [] trivial (by simp) rfl (by simp)))
   ·rintro ⟨⟩ -
    apply za
    refine qj (nx := nx) (fun _ : Unit => True) (fun _ => [(2, .ptr nx v0 0), (5, .ptr (nx + 2) v2 0), (7, .ptr (nx + 4) v4 0), (8, .ptr (nx + 6) v6 0), (9, I (yo x t i)), (10, I (yp x t i)), (11, I i), (12, .ptr (nx + 9) v9 0), (20, L d), (21, I d.length), (22, I k), (32, L t), (33, I t.length), (34, I i)]) (fun _ => S)
     (fun _ => [.cells v0 25 (zA x), .cells v1 58 [L d], .cells v2 239 [I x.days, I x.veh, I x.cap, I x.len, L x.cust, L x.dist, L d, .sl (nx + 3) v3 4 0 k], .cells v3 241 pc, .cells v4 72 [L t], .cells v5 3 lc,
     .cells v6 241 [.sl (nx + 7) (v7 + 1) 1 0 (i + 1), .sl (nx + 8) (v8 + 1) 1 0 (i + 1), .sl (nx + 5) v5 1 0 (i + 1), I wl], .cells (v7 + 1) 3 (fc ++ [I (yo x t i)]), .cells (v8 + 1) 3 (bc ++ [I (yp x t i)]), .cells v9 35 [I s.c, I s.q]]) ?_ ?_
    ·repeat apply za
     refine zB (some []) (Row.pures [0, 2, 3, 5, 7, 8] (.alt 1 (.alt 4 (.alt 6 (Row.pures [10] (.alt 9 (.alt 11 (Row.pures [12] (.alt 13 (.done) .stop)) .stop) .stop)) .stop) (.alt 6 (.alt 4 (Row.pures [10] (.alt 9 (.alt 11 (Row.pures [12] (.alt 13 (.done) .stop)) .stop) .stop)) .stop) .stop)) (.alt 6 (.alt 1 (.alt 4 (Row.pures [10] (.alt 9 (.alt 11 (Row.pures [12] (.alt 13 (.done) .stop)) .stop) .stop)) .stop) .stop) .stop))) mixed (yh g1 g2 t1 t2) ?_
     repeat' (first | refine And.intro (by omega) ?_ | apply And.intro)
     all_goals exact zP () [] trivial (by simp) rfl (by simp)
    ·rintro ⟨⟩ -
     have z1 : (i : Int) < (i : Int) + 1 := by omega
     have z2 : i < i + 1 := by omega
     have z3 : 1 ≤ i + 1 - i := by omega
     refine zB (some [nx + 9]) (Row.pures [0, 2, 4, 7, 8] (.alt 1 (.alt 3 (Row.pures [5] (.alt 6 (Row.pures [9, 10] (.alt 11 (Row.pures [12] (.alt 13 (.done) .stop)) .stop)) .stop)) .stop) (.alt 3 (Row.pures [5] (.alt 1 (.alt 6 (Row.pures [9, 10] (.alt 11 (Row.pures [12] (.alt 13 (.done) .stop)) .stop)) .stop) (.alt 6 (Row.pures [9, 10] (.alt 1 (.alt 11 (Row.pures [12] (.alt 13 (.done) .stop)) .stop) .stop)) .stop))) .stop))) mixed (yg z0 z1 z2 z3 wl1 (zm g3 t3)) ?_
     repeat' (first | refine And.intro (by omega) ?_ | apply And.intro)
     all_goals
      refine ze [] wi ?_
      exact zp (i + 1, v5 + 1, v7 + 1, v8 + 1) [_] hci (by simp; omega) (by simp [wi]) rfl (by simp [c1, c2, c3]; rfl)
  ·simp at hci
   obtain rfl : i = t.length := by omega
   refine zy ?_
   clear hi hci
   have hsm : jt x t = ⟨(List.range t.length).map (yo x t), (List.range t.length).map (yp x t), (List.range (t.length + 1)).map fun i => zK (t.take i), wl⟩ := by unfold jt; rw [hwl]
   have g1 : (((List.range t.length).map (yo x t)).flatMap Enc.enc : List PV).length = t.length := by rw [qW]; simp
   have g2 : (((List.range t.length).map (yp x t)).flatMap Enc.enc : List PV).length = t.length := by rw [qW]; simp
   have g3 : (((List.range (t.length + 1)).map fun i => zK (t.take i)).flatMap Enc.enc : List PV).length = t.length + 1 := by rw [qW]; simp
   have hfz : ∀ id v cs, pc.map (yW id v cs) = pc := fun id v cs => by rw [← hpc]; exact ZkJ id v cs _
   have hpl : pc.length = k * 4 := by rw [← hpc, Zc6]; simp; omega
   have hpt : pc.take (k * 4) = pc := List.take_of_length_le (by omega)
   have hnew : (((d.map (jt x)).take (k + 1)).flatMap Enc.enc : List PV) = pc ++ [L ((List.range t.length).map (yo x t)), L ((List.range t.length).map (yp x t)), L ((List.range (t.length + 1)).map fun i => zK (t.take i)), I wl] := by
    rw [← hpc, ← List.map_take, a3, List.map_append, List.flatMap_append, ← List.map_take, List.map_cons, hsm]; rfl
   have l1 : ((List.range t.length).map (yo x t)).length = t.length := by simp
   have l2 : ((List.range t.length).map (yp x t)).length = t.length := by simp
   have l3 : ((List.range (t.length + 1)).map fun i => zK (t.take i)).length = t.length + 1 := by simp
   generalize (List.range t.length).map (yo x t) = fl at *
   generalize (List.range t.length).map (yp x t) = bl at *
   generalize ((List.range (t.length + 1)).map fun i => zK (t.take i)) = ll at *
   clear g1 g2 g3
   refine yc 8 rfl ?_
   simp only [List.map_cons, List.map_nil, List.set_cons_succ, List.set_cons_zero, jN, hfz]
   refine yc 7 rfl ?_
   simp only [List.map_cons, List.map_nil, List.set_cons_succ, List.set_cons_zero, jN, hfz]
   refine yc 5 rfl ?_
   simp only [List.map_cons, List.map_nil, List.set_cons_succ, List.set_cons_zero, jN, hfz]
   refine zB (some [nx + 6]) (Row.pures [0, 1, 2, 3, 5, 6] (.alt 4 (.alt 7 (Row.pures [8, 9] (.alt 10 (.done) .stop)) .stop) .stop)) mixed (yZ l1 l2 l3 hpl hpt) ?_
   refine ⟨by omega, ?_⟩
   refine zb ?_
   exact zp (k + 1, v3 + 1) [_, _, _, _, _] hc (by simp; omega) (by simp [zt k (by omega)]) rfl (by simp [hnew, l1, l2, l3]; exact ⟨rfl, rfl, rfl, rfl, rfl⟩)
 ·simp at hc
  obtain rfl : k = d.length := by omega
  rw [List.take_of_length_le (by simp)]
  refine zy ?_
  have hml : ((d.map (jt x)).flatMap Enc.enc : List PV).length = d.length * 4 := by rw [Zc6]; simp
  refine yc 3 rfl ?_
  refine za (ze [] hml ?_)
  refine jZ 2 rfl ?_
  exact zg (zk hd (by simp; rfl) (by simp [zq, hml]))
open Go Go.Proofs
def ju (x : Inst) : Int → List Int → Int
 | _, [] => 0
 | a, c :: l => arc x a (c + 1) + ju x (c + 1) l
theorem Vt (x : Inst) : ∀ (l : List Int) (a : Int) (m : List Int), ju x a (l ++ m) = ju x a l + ju x (yO a l) m
 | [], a, m => by simp [ju, yO]
 | c :: l, a, m => by
  simp only [List.cons_append, ju, yO]
  rw [Vt x l (c + 1) m]; omega
theorem Vu : ∀ (l : List Int) (a : Int) (m : List Int), yO a (l ++ m) = yO (yO a l) m
 | [], a, m => rfl
 | c :: l, a, m => by simp only [List.cons_append, yO]; exact Vu l (c + 1) m
theorem Zc7 (x : Inst) : ∀ (l : List Int) (a : Int), yU x a l = ju x a l + arc x (yO a l) 0
 | [], a => by simp [yU, ju, yO]
 | c :: l, a => by
  simp only [yU, ju, yO]
  rw [Zc7 x l (c + 1)]; omega
def xN (t : zD) (f n : Nat) : zD := (t.drop f).take n
theorem QW {t : zD} {f n : Nat} {s : Stop} (h : t[f + n]? = some s) : xN t f (n + 1) = xN t f n ++ [s] := by
 have h' : (t.drop f)[n]? = some s := by rw [List.getElem?_drop]; exact h
 obtain ⟨h1, h2⟩ := List.getElem?_eq_some_iff.1 h'
 unfold xN
 rw [List.take_succ_eq_append_getElem h1, h2]
theorem getD_some {t : zD} {i : Nat} {s : Stop} (h : t[i]? = some s) : t.getD i default = s := by rw [List.getD_eq_getElem?_getD, h]; rfl
theorem Zc8 (x : Inst) (t : zD) (f : Nat) (a : Int) : ∀ n, f + n < t.length → ju x a ((xN t f (n + 1)).map (·.c)) = arc x a ((t.getD f default).c + 1) + (yo x t (f + n) - yo x t f) ∧ yO a ((xN t f (n + 1)).map (·.c)) = (t.getD (f + n) default).c + 1
 | 0, h => by
  have h0 : t[f + 0]? = some t[f] := List.getElem?_eq_getElem (by omega)
  rw [QW h0]
  have : xN t f 0 = [] := by simp [xN]
  rw [this, getD_some h0]
  simp only [Nat.add_zero] at *
  rw [getD_some h0]
  simp [ju, yO]
 | n + 1, h => by
  obtain ⟨i1, i2⟩ := Zc8 x t f a n (by omega)
  have h0 : t[f + (n + 1)]? = some t[f + (n + 1)] := List.getElem?_eq_getElem (by omega)
  rw [QW h0, List.map_append, Vt, Vu, i1, i2, getD_some h0]
  simp only [List.map_cons, List.map_nil, ju, yO]
  have e : yo x t (f + (n + 1)) = yo x t (f + n) + arc x ((t.getD (f + n) default).c + 1) ((t.getD (f + (n + 1)) default).c + 1) := rfl
  rw [e, getD_some h0]
  exact ⟨by omega, trivial⟩
theorem Zc9 (x : Inst) (t : zD) (f : Nat) : ∀ (n : Nat) (a : Int), f + n < t.length → ju x a ((xN t f (n + 1)).reverse.map (·.c)) = arc x a ((t.getD (f + n) default).c + 1) + (yp x t (f + n) - yp x t f) ∧ yO a ((xN t f (n + 1)).reverse.map (·.c)) = (t.getD f default).c + 1
 | 0, a, h => by
  have h0 : t[f + 0]? = some t[f] := List.getElem?_eq_getElem (by omega)
  rw [QW h0]
  have : xN t f 0 = [] := by simp [xN]
  rw [this, getD_some h0]
  simp only [Nat.add_zero] at *
  rw [getD_some h0]
  simp [ju, yO]
 | n + 1, a, h => by
  have h0 : t[f + (n + 1)]? = some t[f + (n + 1)] := List.getElem?_eq_getElem (by omega)
  obtain ⟨i1, i2⟩ := Zc9 x t f n ((t.getD (f + (n + 1)) default).c + 1) (by omega)
  rw [QW h0, List.reverse_append]
  simp only [List.reverse_cons, List.reverse_nil, List.nil_append, List.cons_append, List.map_cons, ju, yO]
  rw [getD_some h0] at i1 i2 ⊢
  rw [i1, i2]
  have e : yp x t (f + (n + 1)) = yp x t (f + n) + arc x ((t.getD (f + (n + 1)) default).c + 1) ((t.getD (f + n) default).c + 1) := rfl
  rw [e, getD_some h0]
  exact ⟨by omega, rfl⟩
theorem Zda (t : zD) (f : Nat) : ∀ n, f + n ≤ t.length → zK (xN t f n) = zK (t.take (f + n)) - zK (t.take f)
 | 0, _ => by simp [xN, zK]
 | n + 1, h => by
  have h0 : t[f + n]? = some t[f + n] := List.getElem?_eq_getElem (by omega)
  have e : t.take (f + n + 1) = t.take (f + n) ++ [t[f + n]] := List.take_succ_eq_append_getElem (by omega)
  rw [QW h0, J6, Zda t f n (by omega), ← Nat.add_assoc, e, J6]; omega
def qK (x : Inst) (d : zi) (st : Int × Int) (p : Pc) : Int × Int :=
 if p.f < p.o then
  (bif p.b then (((d.getD p.t []).getD p.f default).c + 1, st.2 + (arc x st.1 (((d.getD p.t []).getD (p.o - 1) default).c + 1) + yp x (d.getD p.t []) (p.o - 1) - yp x (d.getD p.t []) p.f))
  else (((d.getD p.t []).getD (p.o - 1) default).c + 1, st.2 + (arc x st.1 (((d.getD p.t []).getD p.f default).c + 1) + yo x (d.getD p.t []) (p.o - 1) - yo x (d.getD p.t []) p.f)))
 else st
def xo (x : Inst) (d : zi) (r : Rw5) : Int := (r.l.foldl (qK x d) (0, 0)).2 + arc x (r.l.foldl (qK x d) (0, 0)).1 0
def xO (d : zi) (st : Int) (p : Pc) : Int := if p.f < p.o then st + (zK ((d.getD p.t []).take p.o) - zK ((d.getD p.t []).take p.f)) else st
def Zp (d : zi) (r : Rw5) : Int := r.l.foldl (xO d) 0
theorem ZkL {x : Inst} {d : zi} {p : Pc} (h : YV d p) (g : List Stop) : qK x d (yO 0 (g.map (·.c)), ju x 0 (g.map (·.c))) p = (yO 0 ((g ++ qb d p).map (·.c)), ju x 0 ((g ++ qb d p).map (·.c))) := by
 unfold qK qb
 by_cases hfo : p.f < p.o
 ·obtain ⟨ht, ho⟩ := h hfo
  unfold tlen at ho
  rw [if_pos hfo, if_pos hfo]
  generalize d.getD p.t [] = t at *
  obtain ⟨n, hn⟩ : ∃ n, p.o = p.f + n + 1 := ⟨p.o - p.f - 1, by omega⟩
  have e1 : p.o - 1 = p.f + n := by omega
  have e2 : p.o - p.f = n + 1 := by omega
  rw [e1, e2, List.map_append, Vt, Vu]
  cases p.b with
  | true =>
   simp only [cond_true]
   obtain ⟨i1, i2⟩ := Zc9 x t p.f n (yO 0 (g.map (·.c))) (by omega)
   unfold xN at i1 i2
   rw [i1, i2]
   congr 1; omega
  | false =>
   simp only [cond_false]
   obtain ⟨i1, i2⟩ := Zc8 x t p.f (yO 0 (g.map (·.c))) n (by omega)
   unfold xN at i1 i2
   rw [i1, i2]
   congr 1; omega
 ·rw [if_neg hfo, if_neg hfo, List.append_nil]
theorem Zdb {x : Inst} {d : zi} : ∀ (l : List Pc) (g : List Stop), (∀ p ∈ l, YV d p) → l.foldl (qK x d) (yO 0 (g.map (·.c)), ju x 0 (g.map (·.c))) = (yO 0 ((g ++ l.flatMap (qb d)).map (·.c)), ju x 0 ((g ++ l.flatMap (qb d)).map (·.c)))
 | [], g, _ => by simp
 | p :: l, g, h => by
  rw [List.foldl_cons, ZkL (h p (by simp)), Zdb l _ fun q hq => h q (by simp [hq]), List.flatMap_cons, List.append_assoc]
theorem Vv {x : Inst} {d : zi} {r : Rw5} (h : wS d r) (h0 : arc x 0 0 = 0) : xo x d r = zW x ((yG d r).map (·.c)) := by
 have := Zdb (x := x) r.l [] h
 simp only [List.map_nil, yO, ju, List.nil_append] at this
 unfold xo
 rw [this]
 simp only
 unfold yG zW
 split
 ·rename_i e
  rw [e]; simp [ju, yO, h0]
 ·rw [Zc7]
theorem ZkM {d : zi} {p : Pc} (h : YV d p) (g : List Stop) : xO d (zK g) p = zK (g ++ qb d p) := by
 unfold xO qb
 by_cases hfo : p.f < p.o
 ·obtain ⟨ht, ho⟩ := h hfo
  unfold tlen at ho
  rw [if_pos hfo, if_pos hfo, Zjt]
  generalize d.getD p.t [] = t at *
  have := Zda t p.f (p.o - p.f) (by omega)
  rw [show p.f + (p.o - p.f) = p.o by omega] at this
  have hr : ∀ l : zD, zK l.reverse = zK l := fun l => by unfold zK; exact Zjs ((List.reverse_perm l).map _)
  unfold xN at this
  cases p.b with
  | true => simp only [cond_true]; rw [hr, this]
  | false => simp only [cond_false]; rw [this]
 ·rw [if_neg hfo, if_neg hfo, List.append_nil]
theorem ZkN {d : zi} {r : Rw5} (h : wS d r) : Zp d r = zK (yG d r) := by
 have key : ∀ (l : List Pc) (g : List Stop), (∀ p ∈ l, YV d p) → l.foldl (xO d) (zK g) = zK (g ++ l.flatMap (qb d)) := by
  intro l
  induction l with
  | nil => intro g _; simp
  | cons p l ih =>
   intro g h
   rw [List.foldl_cons, ZkM (h p (by simp)), ih _ fun q hq => h q (by simp [hq]), List.flatMap_cons, List.append_assoc]
 have := key r.l [] h
 simpa [Zp, yG, zK] using this
open Go Go.Proofs
abbrev YZ (x : Inst) (d : zi) (sms : List Sm) : List PV := [I x.days, I x.veh, I x.cap, I x.len, L x.cust, L x.dist, L d, L sms]
theorem Y0 {x : Inst} (h : jh x) (a b : Int) : 0 ≤ arc x a b ∧ arc x a b ≤ 2147483648 := h a b
theorem Xp {x : Inst} {d : zi} {sms : List Sm} (hs : sms = d.map (jt x)) {k : Nat} (h : k < d.length) : ∃ (t : zD) (td tf : List PV), d[k]? = some t ∧ d.getD k [] = t ∧ (d.flatMap Enc.enc : List PV).drop k = L t :: td ∧
  (sms.flatMap Enc.enc : List PV).drop (k * 4) = [L (jt x t).f, L (jt x t).b, L (jt x t).l, I (jt x t).n] ++ tf := by
 obtain ⟨t, td, a1, -, -, e0⟩ := zE rfl d k h
 rw [hs]
 obtain ⟨s, ts, b1, -, -, -, f0⟩ := el 4 rfl (d.map (jt x)) k (by simpa using h)
 have : s = jt x t := by rw [List.getElem?_map, a1] at b1; exact (Option.some.inj b1).symm
 subst this
 exact ⟨t, td, ts, a1, by rw [List.getD_eq_getElem?_getD, a1]; rfl, e0, f0⟩
theorem Y1 {α : Type} [Enc α] (n : Nat) (hn : Enc.sz α = 1) (f : Nat → α) {i : Nat} (h : i < n) : ∃ tl, (((List.range n).map f).flatMap Enc.enc : List PV).drop i = Enc.enc (f i) ++ tl := by
 obtain ⟨s, ts, b1, -, -, f0⟩ := zE hn ((List.range n).map f) i (by simpa using h)
 have : s = f i := by rw [List.getElem?_map, List.getElem?_range h] at b1; exact (Option.some.inj b1).symm
 subst this
 exact ⟨ts, f0⟩
theorem Vw (x : Inst) (d : zi) (r : Rw5) (hx : jh x) (hd' : MvDay d) (hr : wS d r) : Pure Tryz.prog 183 [.ip (wT x d), .agg (yi r)] (I (xo x d r)) := by
 obtain ⟨sms, hsms⟩ : ∃ sms, sms = d.map (jt x) := ⟨_, rfl⟩
 have hml : sms.length = d.length := by rw [hsms]; simp
 rw [show wT x d = YZ x d sms from by rw [hsms]]
 have hdn := hd'.n
 have hat := fun k (h : k < 5) => Xo r h
 have hz : xo x d r = ((r.l.take 5).foldl (qK x d) (0, 0)).2 + arc x ((r.l.take 5).foldl (qK x d) (0, 0)).1 0 := by unfold xo; rw [List.take_of_length_le (by simp [Rw5.l])]
 rw [hz]
 clear hz
 have hcl : (yi r).length = 20 := rfl
 have hct : (yi r).take 20 = yi r := rfl
 generalize hrc : yi r = rc at *
 refine zv Tryz.func183 Tryz.ntmps183 Tryz.results183 fun S nx hd => ?_
 refine za (zb ?_)
 intro v0
 refine za (zb ?_)
 repeat apply za
 refine ze [] (zm hcl hct) ?_
 refine zj (zG (fun k : Nat => k ≤ 5 ∧ -(8796093022208 * (k : Int)) ≤ ((r.l.take k).foldl (qK x d) (0, 0)).2 ∧ ((r.l.take k).foldl (qK x d) (0, 0)).2 ≤ 8796093022208 * k) (fun k => [(0, .ip (YZ x d sms)), (3, .ptr nx v0 0), (5, I ((r.l.take k).foldl (qK x d) (0, 0)).1), (6, I ((r.l.take k).foldl (qK x d) (0, 0)).2), (13, .agg rc), (14, I k)]) (fun _ => [.cells v0 195 rc]) (fun k => 5 - k) 0 [] (by simp) (by simp) (by simp) ?_)
 rintro k ⟨hk, hb1, hb2⟩
 by_cases hk5 : k < 5
 ·obtain ⟨p, hp1, hp2, hp3⟩ := hat k hk5
  have hk5' : (k : Int) < 5 := by omega
  have hk6 : 4 ≤ 20 - k * 4 := by omega
  have hok := hr p (List.mem_of_getElem? hp1)
  have hnx : (r.l.take (k + 1)).foldl (qK x d) (0, 0) = qK x d ((r.l.take k).foldl (qK x d) (0, 0)) p := by rw [hp3, List.foldl_append]; rfl
  generalize (r.l.take k).foldl (qK x d) (0, 0) = st at *
  obtain ⟨at_, all⟩ := st
  simp only at hb1 hb2 ⊢
  have wk := zt k (by omega)
  refine za (ze [] hk5' ?_)
  refine za (zo rfl (zh (za (zj (za (ze [] (yZ hp2 hk5 hk5' hcl hk6) ?_))))))
  intro v3
  by_cases hfo : p.f < p.o
  case neg =>
   have hpz : qK x d (at_, all) p = (at_, all) := by unfold qK; rw [if_neg hfo]
   rw [hpz] at hnx
   have hfo' : p.o ≤ p.f := by omega
   repeat apply za
   refine ze [] hfo' ?_
   refine zo (by simp [hfo']) ?_
   refine zy (zb ?_)
   exact zp (k + 1) [_] ⟨by omega, by rw [hnx]; simp only; omega, by rw [hnx]; simp only; omega⟩ (by omega) (by simp [wk, hnx]) rfl (by simp; rfl)
  obtain ⟨ht, ho⟩ := hok hfo
  obtain ⟨t, td, tf, a1, hgt, e0, f0⟩ := Xp hsms ht
  unfold tlen at ho
  rw [hgt] at ho
  have htm := List.mem_of_getElem? a1
  have htl := hd'.t t htm
  have hts := hd'.s t htm
  have ht1 : 1 ≤ d.length - p.t := by omega
  have ht4 : 4 ≤ d.length * 4 - p.t * 4 := by omega
  obtain ⟨n, hn⟩ : ∃ n, p.o = n + 1 := ⟨p.o - 1, by omega⟩
  have hfo' : ¬ p.o ≤ p.f := by omega
  have hst : qK x d (at_, all) p = bif p.b then ((t.getD p.f default).c + 1, all + (arc x at_ ((t.getD n default).c + 1) + yp x t n - yp x t p.f)) else ((t.getD n default).c + 1, all + (arc x at_ ((t.getD p.f default).c + 1) + yo x t n - yo x t p.f)) := by
   unfold qK; rw [if_pos hfo, hgt, show p.o - 1 = n by omega]
  rw [hst] at hnx
  clear hst
  obtain ⟨sf, tsf, s1, -, -, -, s0⟩ := el 2 rfl t p.f (by omega)
  obtain ⟨sl, tsl, l1, -, -, -, l0⟩ := el 2 rfl t n (by omega)
  have hgf : t.getD p.f default = sf := getD_some s1
  have hgl : t.getD n default = sl := getD_some l1
  rw [hgf, hgl] at hnx
  have q1 : p.f < t.length := by omega
  have q2 : n < t.length := by omega
  have q3 : 2 ≤ t.length * 2 - p.f * 2 := by omega
  have q4 : 2 ≤ t.length * 2 - n * 2 := by omega
  have wo : IntKind.i64.wrap ((p.o : Int) - 1) = (n : Int) := by rw [wr _ (by omega) (by omega)]; omega
  have wsf := vH (hts sf (List.mem_of_getElem? s1)).1
  have wsl := vH (hts sl (List.mem_of_getElem? l1)).1
  have bf1 := YX hx t p.f
  have bf2 := YX hx t n
  have bb1 := YY hx t p.f
  have bb2 := YY hx t n
  have hlen : ((List.range t.length).map (yo x t)).length = t.length ∧ ((List.range t.length).map (yp x t)).length = t.length := by simp
  obtain ⟨z1, hz1⟩ := Y1 t.length rfl (yo x t) q1
  obtain ⟨z2, hz2⟩ := Y1 t.length rfl (yo x t) q2
  obtain ⟨z3, hz3⟩ := Y1 t.length rfl (yp x t) q1
  obtain ⟨z4, hz4⟩ := Y1 t.length rfl (yp x t) q2
  have q5 : 1 ≤ t.length - p.f := by omega
  have q6 : 1 ≤ t.length - n := by omega
  simp only [jt] at f0
  generalize hfl : (List.range t.length).map (yo x t) = fl at *
  generalize hbl : (List.range t.length).map (yp x t) = bl at *
  generalize ((List.range (t.length + 1)).map fun i => zK (t.take i)) = ll at *
  generalize zW x (t.map (·.c)) = wl at *
  obtain ⟨hl1, hl2⟩ := hlen
  have hfll : (fl.flatMap Enc.enc : List PV).length = t.length := by rw [qW, hl1]
  have hbll : (bl.flatMap Enc.enc : List PV).length = t.length := by rw [qW, hl2]
  repeat apply za
  refine ze [] hfo' ?_
  refine zn (by simp [hfo']) ?_
  refine zh (za (zB (some [nx + 1]) (Row.pures [0, 1, 2, 3, 4, 5, 6, 7, 8, 9, 10, 11, 12, 13, 14, 15, 16, 17, 18, 19, 20] .done) mixed (yg e0 f0 ht ht1 ht4 hml) ?_))
  refine za (zB (some [nx + 1]) (Row.pures [0, 1, 2, 3, 4, 5, 6] .done) mixed wo ?_)
  apply za
  cases hpb : p.b with
  | false =>
   rw [hpb] at hnx
   simp only [cond_false] at hnx
   have har := Y0 hx at_ (sf.c + 1)
   have ar := wL x at_ (sf.c + 1)
   have w1 : IntKind.i64.wrap (arc x at_ (sf.c + 1) + yo x t n) = arc x at_ (sf.c + 1) + yo x t n := wr _ (by omega) (by omega)
   have w2 : IntKind.i64.wrap (arc x at_ (sf.c + 1) + yo x t n - yo x t p.f) = arc x at_ (sf.c + 1) + yo x t n - yo x t p.f := wr _ (by omega) (by omega)
   have w3 : IntKind.i64.wrap (all + (arc x at_ (sf.c + 1) + yo x t n - yo x t p.f)) = all + (arc x at_ (sf.c + 1) + yo x t n - yo x t p.f) := wr _ (by omega) (by omega)
   refine za (ze [] hpb ?_)
   refine zn rfl (zh (za (zB (some [nx + 1]) (Row.pures [0, 1, 2, 3, 4, 5, 6, 7, 8, 9, 10, 11, 12, 13, 14, 15, 16, 17, 18, 19, 20, 21, 22, 23, 24, 25, 26, 27] .done) mixed (yg s0 q1 q3 wsf wo (zm (yg hz1 hz2 hfll hl1 q2 q5) (yh q6 w1 w2 w3))) ?_)))
   refine zI (ar) (yg s0 q1 q3 wsf wo (zm (yg hz1 hz2 hfll hl1 q2 q5) (yh q6 w1 w2 w3))) ?_
   refine ze [] (yh l0 q2 q4 wsl) ?_
   refine zb ?_
   exact zp (k + 1) [_] ⟨by omega, by rw [hnx]; simp only; omega, by rw [hnx]; simp only; omega⟩ (by omega) (by simp [wk, hnx]) rfl (by simp; rfl)
  | true =>
   rw [hpb] at hnx
   simp only [cond_true] at hnx
   have har := Y0 hx at_ (sl.c + 1)
   have ar := wL x at_ (sl.c + 1)
   have w1 : IntKind.i64.wrap (arc x at_ (sl.c + 1) + yp x t n) = arc x at_ (sl.c + 1) + yp x t n := wr _ (by omega) (by omega)
   have w2 : IntKind.i64.wrap (arc x at_ (sl.c + 1) + yp x t n - yp x t p.f) = arc x at_ (sl.c + 1) + yp x t n - yp x t p.f := wr _ (by omega) (by omega)
   have w3 : IntKind.i64.wrap (all + (arc x at_ (sl.c + 1) + yp x t n - yp x t p.f)) = all + (arc x at_ (sl.c + 1) + yp x t n - yp x t p.f) := wr _ (by omega) (by omega)
   refine za (ze [] hpb ?_)
   refine zo rfl (zB (some [nx + 1]) (Row.pures [0, 1, 2, 3, 4, 5, 6, 7, 8, 9, 10, 11, 12, 13] .done) mixed (yh f0 ht ht4 hml) ?_)
   refine za (zB (some [nx + 1]) (Row.pures [0, 1, 2, 3, 4, 5, 6, 7, 8, 9, 10, 11, 12, 13, 14, 15, 16, 17, 18, 19, 20, 21, 22, 23, 24, 25, 26, 27] .done) mixed (yg l0 q2 q4 wsl wo (zm (yg hz3 hz4 hbll hl2 q1 q5) (yh q6 w1 w2 w3))) ?_)
   refine zI (ar) (yg l0 q2 q4 wsl wo (zm (yg hz3 hz4 hbll hl2 q1 q5) (yh q6 w1 w2 w3))) ?_
   refine ze [] (yh s0 q1 q3 wsf) ?_
   refine zb ?_
   exact zp (k + 1) [_] ⟨by omega, by rw [hnx]; simp only; omega, by rw [hnx]; simp only; omega⟩ (by omega) (by simp [wk, hnx]) rfl (by simp; rfl)
 ·obtain rfl : k = 5 := by omega
  generalize (r.l.take 5).foldl (qK x d) (0, 0) = st at *
  obtain ⟨at_, all⟩ := st
  simp only at hb1 hb2 ⊢
  have har := Y0 hx at_ 0
  have ar := wL x at_ 0
  have w1 : IntKind.i64.wrap (all + arc x at_ 0) = all + arc x at_ 0 := wr _ (by omega) (by omega)
  refine za (zb ?_)
  refine za (zn rfl (zy (za (zb ?_))))
  refine jP [] ar w1 ?_
  exact zg (zk hd rfl rfl)
open Go Go.Proofs
theorem ZkO (x : Inst) (d : zi) (r : Rw5) (hd' : MvDay d) (hr : wS d r) : Pure Tryz.prog 184 [.ip (wT x d), .agg (yi r)] (I (Zp d r)) := by
 obtain ⟨sms, hsms⟩ : ∃ sms, sms = d.map (jt x) := ⟨_, rfl⟩
 have hml : sms.length = d.length := by rw [hsms]; simp
 rw [show wT x d = YZ x d sms from by rw [hsms]]
 have hdn := hd'.n
 have hat := fun k (h : k < 5) => Xo r h
 have hz : Zp d r = (r.l.take 5).foldl (xO d) 0 := by unfold Zp; rw [List.take_of_length_le (by simp [Rw5.l])]
 rw [hz]
 clear hz
 have hcl : (yi r).length = 20 := rfl
 have hct : (yi r).take 20 = yi r := rfl
 generalize hrc : yi r = rc at *
 refine zv Tryz.func184 Tryz.ntmps184 Tryz.results184 fun S nx hd => ?_
 refine za (zb ?_)
 intro v0
 refine za (zb ?_)
 repeat apply za
 refine ze [] (zm hcl hct) ?_
 refine zj (zG (fun k : Nat => k ≤ 5 ∧ -(8796093022208 * (k : Int)) ≤ (r.l.take k).foldl (xO d) 0 ∧ (r.l.take k).foldl (xO d) 0 ≤ 8796093022208 * k) (fun k => [(0, .ip (YZ x d sms)), (3, .ptr nx v0 0), (5, I ((r.l.take k).foldl (xO d) 0)), (8, .agg rc), (9, I k)]) (fun _ => [.cells v0 195 rc]) (fun k => 5 - k) 0 [] (by simp) (by simp) (by simp) ?_)
 rintro k ⟨hk, hb1, hb2⟩
 by_cases hk5 : k < 5
 ·obtain ⟨p, hp1, hp2, hp3⟩ := hat k hk5
  have hk5' : (k : Int) < 5 := by omega
  have hk6 : 4 ≤ 20 - k * 4 := by omega
  have hok := hr p (List.mem_of_getElem? hp1)
  have hnx : (r.l.take (k + 1)).foldl (xO d) 0 = xO d ((r.l.take k).foldl (xO d) 0) p := by rw [hp3, List.foldl_append]; rfl
  generalize (r.l.take k).foldl (xO d) 0 = all at *
  have wk := zt k (by omega)
  refine za (ze [] hk5' ?_)
  refine za (zo rfl (zh (za (zj (za (ze [] (yZ hp2 hk5 hk5' hcl hk6) ?_))))))
  intro v3
  by_cases hfo : p.f < p.o
  case neg =>
   have hpz : xO d all p = all := by unfold xO; rw [if_neg hfo]
   rw [hpz] at hnx
   refine za (ze [] hfo ?_)
   refine zn (by simp [hfo]) ?_
   refine zh (zb ?_)
   exact zp (k + 1) [_] ⟨by omega, by rw [hnx]; omega, by rw [hnx]; omega⟩ (by omega) (by simp [wk, hnx]) rfl (by simp; rfl)
  obtain ⟨ht, ho⟩ := hok hfo
  obtain ⟨t, td, tf, a1, hgt, e0, f0⟩ := Xp hsms ht
  unfold tlen at ho
  rw [hgt] at ho
  have htm := List.mem_of_getElem? a1
  have htl := hd'.t t htm
  have hts := hd'.s t htm
  have ht4 : 4 ≤ d.length * 4 - p.t * 4 := by omega
  have hst : xO d all p = all + (zK (t.take p.o) - zK (t.take p.f)) := by unfold xO; rw [if_pos hfo, hgt]
  rw [hst] at hnx
  have b1 := W9 (t := t.take p.o) (fun a ha => (hts a (List.mem_of_mem_take ha)).2)
  have b2 := W9 (t := t.take p.f) (fun a ha => (hts a (List.mem_of_mem_take ha)).2)
  have b3 : (t.take p.o).length ≤ 1000 := by rw [List.length_take]; omega
  have b4 : (t.take p.f).length ≤ 1000 := by rw [List.length_take]; omega
  have w1 : IntKind.i64.wrap (zK (t.take p.o) - zK (t.take p.f)) = zK (t.take p.o) - zK (t.take p.f) := wr _ (by omega) (by omega)
  have w2 : IntKind.i64.wrap (all + (zK (t.take p.o) - zK (t.take p.f))) = all + (zK (t.take p.o) - zK (t.take p.f)) := wr _ (by omega) (by omega)
  obtain ⟨z1, hz1⟩ := Y1 (t.length + 1) rfl (fun i => zK (t.take i)) (show p.o < t.length + 1 by omega)
  obtain ⟨z2, hz2⟩ := Y1 (t.length + 1) rfl (fun i => zK (t.take i)) (show p.f < t.length + 1 by omega)
  have hll : ((List.range (t.length + 1)).map fun i => zK (t.take i)).length = t.length + 1 := by simp
  simp only [jt] at f0
  generalize (List.range t.length).map (yo x t) = fl at *
  generalize (List.range t.length).map (yp x t) = bl at *
  generalize ((List.range (t.length + 1)).map fun i => zK (t.take i)) = ll at *
  generalize zW x (t.map (·.c)) = wl at *
  generalize zK (t.take p.o) = lo at *
  generalize zK (t.take p.f) = lf at *
  have hlf : (ll.flatMap Enc.enc : List PV).length = t.length + 1 := by rw [qW, hll]
  have q1 : p.o < t.length + 1 := by omega
  have q2 : p.f < t.length + 1 := by omega
  have q3 : 1 ≤ t.length + 1 - p.o := by omega
  have q4 : 1 ≤ t.length + 1 - p.f := by omega
  have q5 : (p.o : Int) < (t.length : Int) + 1 := by omega
  have q6 : (p.f : Int) < (t.length : Int) + 1 := by omega
  refine za (ze [] hfo ?_)
  refine zo (by simp [hfo]) ?_
  refine zB (some [nx + 1]) (Row.pures [0, 1, 2, 3, 4, 5, 6, 7, 8, 9, 10, 11, 12, 13, 14, 15, 16, 17, 18, 19, 20, 21, 22, 23, 24, 25, 26, 27, 28, 29] .done) mixed (yg f0 ht ht4 hml hz1 (zm (yg hz2 hll hlf q1 q2 q3) (yZ q4 q5 q6 w1 w2))) ?_
  refine zb ?_
  exact zp (k + 1) [_] ⟨by omega, by rw [hnx]; omega, by rw [hnx]; omega⟩ (by omega) (by simp [wk, hnx]) rfl (by simp; rfl)
 ·obtain rfl : k = 5 := by omega
  refine za (zb ?_)
  refine za (zn rfl (zy (za (zb ?_))))
  exact zg (zk hd rfl rfl)
def QX (x : Inst) (d : zi) (m : Mv) (r1 r2 : Rw5) : Int := xo x d r1 - zW x ((d.getD m.a []).map (·.c)) + (if m.a = m.b then 0 else xo x d r2 - zW x ((d.getD m.b []).map (·.c)))
theorem Zdc {x : Inst} (hx : jh x) {d : zi} (hd' : MvDay d) {r : Rw5} (hr : wS d r) : -52776558133248 ≤ xo x d r ∧ xo x d r ≤ 52776558133248 := by
 have key : ∀ k : Nat, k ≤ 5 → -(8796093022208 * (k : Int)) ≤ ((r.l.take k).foldl (qK x d) (0, 0)).2 ∧ ((r.l.take k).foldl (qK x d) (0, 0)).2 ≤ 8796093022208 * k := by
  intro k
  induction k with
  | zero => intro _; simp
  | succ k ih =>
   intro hk
   obtain ⟨h1, h2⟩ := ih (by omega)
   obtain ⟨p, hp1, -, hp3⟩ := Xo r (show k < 5 by omega)
   have hok := hr p (List.mem_of_getElem? hp1)
   rw [hp3, List.foldl_append, List.foldl_cons, List.foldl_nil]
   generalize (r.l.take k).foldl (qK x d) (0, 0) = st at *
   unfold qK
   by_cases hfo : p.f < p.o
   ·obtain ⟨ht, ho⟩ := hok hfo
    have htm : d.getD p.t [] ∈ d := List.mem_of_getElem? (i := p.t) (by rw [List.getD_eq_getElem?_getD, List.getElem?_eq_getElem ht]; rfl)
    have htl := hd'.t _ htm
    unfold tlen at ho
    generalize d.getD p.t [] = t at *
    have b1 := YX hx t p.f
    have b2 := YX hx t (p.o - 1)
    have b3 := YY hx t p.f
    have b4 := YY hx t (p.o - 1)
    rw [if_pos hfo]
    cases p.b with
    | true =>
     have := Y0 hx st.1 ((t.getD (p.o - 1) default).c + 1)
     simp only [cond_true]; omega
    | false =>
     have := Y0 hx st.1 ((t.getD p.f default).c + 1)
     simp only [cond_false]; omega
   ·rw [if_neg hfo]; omega
 have h5 := key 5 (by omega)
 rw [List.take_of_length_le (by simp [Rw5.l])] at h5
 have := Y0 hx (r.l.foldl (qK x d) (0, 0)).1 0
 unfold xo
 omega
theorem ZkP (x : Inst) (d : zi) (m : Mv) (r1 r2 : Rw5) (hx : jh x) (hd' : MvDay d) (hr1 : wS d r1) (hr2 : wS d r2) (ha : m.a < d.length) (hb : m.b < d.length) : Pure Tryz.prog 147 [.ip (wT x d), .agg (vj m), .agg (yi r1), .agg (yi r2)] (I (QX x d m r1 r2)) := by
 have l1 := Vw x d r1 hx hd' hr1
 have l2 := Vw x d r2 hx hd' hr2
 have b1 := Zdc hx hd' hr1
 have b2 := Zdc hx hd' hr2
 obtain ⟨sms, hsms⟩ : ∃ sms, sms = d.map (jt x) := ⟨_, rfl⟩
 have hml : sms.length = d.length := by rw [hsms]; simp
 rw [show wT x d = YZ x d sms from by rw [hsms]] at l1 l2 ⊢
 have hdn := hd'.n
 obtain ⟨ta, tda, tfa, a1, hga, -, fa⟩ := Xp hsms ha
 obtain ⟨tb, tdb, tfb, c1, hgb, -, fb⟩ := Xp hsms hb
 have wa := QT hx (ta.map (·.c))
 have wb := QT hx (tb.map (·.c))
 rw [List.length_map] at wa wb
 have hta := hd'.t ta (List.mem_of_getElem? a1)
 have htb := hd'.t tb (List.mem_of_getElem? c1)
 have hdef : QX x d m r1 r2 = xo x d r1 - zW x (ta.map (·.c)) + (if m.a = m.b then 0 else xo x d r2 - zW x (tb.map (·.c))) := by unfold QX; rw [hga, hgb]
 rw [hdef]
 clear hdef
 simp only [jt] at fa fb
 generalize xo x d r1 = k1 at *
 generalize xo x d r2 = k2 at *
 generalize zW x (ta.map (·.c)) = wl at *
 generalize zW x (tb.map (·.c)) = wm at *
 have ha4 : 4 ≤ d.length * 4 - m.a * 4 := by omega
 have hb4 : 4 ≤ d.length * 4 - m.b * 4 := by omega
 have w1 : IntKind.i64.wrap (k1 - wl) = k1 - wl := wr _ (by omega) (by omega)
 have w2 : IntKind.i64.wrap (k2 - wm) = k2 - wm := wr _ (by omega) (by omega)
 have w3 : IntKind.i64.wrap (k1 - wl + (k2 - wm)) = k1 - wl + (k2 - wm) := wr _ (by omega) (by omega)
 have hc1 : (yi r1).length = 20 := rfl
 have ht1 : (yi r1).take 20 = yi r1 := rfl
 have hc2 : (yi r2).length = 20 := rfl
 have ht2 : (yi r2).take 20 = yi r2 := rfl
 generalize hrc1 : yi r1 = rc1 at *
 generalize hrc2 : yi r2 = rc2 at *
 refine zv Tryz.func147 Tryz.ntmps147 Tryz.results147 fun S nx hd => ?_
 refine za (zb ?_)
 intro v0 v1 v2
 refine za (zB (some [nx, nx + 1]) (Row.pures [0, 1, 2, 3, 4, 5, 6, 7, 8, 9, 10, 11, 12, 13] .done) mixed (yg hc1 ht1 fa ha ha4 (zm hml w1)) ?_)
 refine zI (l1) (yg hc1 ht1 fa ha ha4 (zm hml w1)) ?_
 by_cases hab : m.a = m.b
 ·have hab' : (m.a : Int) = m.b := by omega
  rw [if_pos hab]
  repeat apply za
  refine ze [] hab' ?_
  refine zn (by simp [hab']) ?_
  refine zh (za (zb ?_))
  exact zg (zk hd rfl (by simp [zq]))
 ·have hab' : ¬ (m.a : Int) = m.b := by omega
  rw [if_neg hab]
  repeat apply za
  refine ze [] hab' ?_
  refine zo (by simp [hab']) ?_
  refine zB (some [nx, nx + 2]) (Row.pures [0, 1, 2, 3, 4, 5, 6, 7, 8, 9, 10, 11, 12, 13, 14, 15] .done) mixed (yg hc2 ht2 fb hb hb4 (zF hml w2 w3)) ?_
  refine zI (l2) (yg hc2 ht2 fb hb hb4 (zF hml w2 w3)) ?_
  refine za (zb ?_)
  exact zg (zk hd rfl (by simp [zq]))
theorem Zdd (x : Inst) (d : zi) (r : Rw5) (hx : jh x) (hd' : MvDay d) (hr : wS d r) : Pure Tryz.prog 148 [.ip (wT x d), .agg (yi r)] (B (decide (Zp d r ≤ x.cap ∧ xo x d r ≤ x.len))) := by
 have l1 := Vw x d r hx hd' hr
 have l2 := ZkO x d r hd' hr
 obtain ⟨sms, hsms⟩ : ∃ sms, sms = d.map (jt x) := ⟨_, rfl⟩
 rw [show wT x d = YZ x d sms from by rw [hsms]] at l1 l2 ⊢
 generalize xo x d r = k1 at *
 generalize Zp d r = k2 at *
 have hc1 : (yi r).length = 20 := rfl
 have ht1 : (yi r).take 20 = yi r := rfl
 generalize hrc1 : yi r = rc at *
 refine zv Tryz.func148 Tryz.ntmps148 Tryz.results148 fun S nx hd => ?_
 refine za (zb ?_)
 intro v0
 by_cases h1 : k2 ≤ x.cap
 ·refine za (zB (some [nx]) (Row.pures [0, 1, 2, 3, 4, 5, 6, 7, 8, 9, 10, 11, 12, 13, 14, 15, 16, 17, 18, 19, 20] .done) mixed (zF hc1 ht1 h1) ?_)
  refine zI (l2) (zF hc1 ht1 h1) ?_
  refine zI (l1) (zF hc1 ht1 h1) ?_
  exact zg (zk hd rfl (by simp [zq, h1]))
 ·refine za (zB (some [nx]) (Row.pures [0, 1, 2, 3, 4, 5, 6, 7, 8, 9, 10, 11, 12, 13, 14, 15, 16, 17, 18, 19, 20] .done) mixed (yh hc1 ht1 h1 zL) ?_)
  refine zI (l2) (yh hc1 ht1 h1 zL) ?_
  exact zg (zk hd rfl (by simp [zq, h1]))
open Go Go.Proofs
theorem Xq {α : Type} {W : Nat → List α} {n k i : Nat} {x : α} (hk : k < n) (h : (W k)[i]? = some x) : ((List.range n).flatMap W)[((List.range k).flatMap W).length + i]? = some x := by
 obtain ⟨m, rfl⟩ : ∃ m, n = k + (m + 1) := ⟨n - k - 1, by omega⟩
 have hi := (List.getElem?_eq_some_iff.1 h).1
 rw [List.range_add, List.flatMap_append, List.getElem?_append_right (Nat.le_add_right _ _), Nat.add_sub_cancel_left, List.range_succ_eq_map]
 simp only [List.map_cons, List.flatMap_cons, Nat.add_zero]
 rw [List.getElem?_append_left hi]
 exact h
theorem Xr {α : Type} (W : Nat → List α) (k : Nat) : ((List.range (k + 1)).flatMap W).length = ((List.range k).flatMap W).length + (W k).length := by
 rw [List.range_succ, List.flatMap_append, List.length_append]; simp
def uY (d : zi) (k a b i j : Nat) : Option Mv := if j6 d ⟨k, a, b, i, j⟩ = true then some ⟨k, a, b, i, j⟩ else none
def vS (d : zi) (k a b i : Nat) : List Mv := (List.range (tlen d b + 1)).filterMap (uY d k a b i)
def ur (d : zi) (k a b : Nat) : List Mv := (List.range (tlen d a + 1)).flatMap (vS d k a b)
def Zq (d : zi) (k a : Nat) : List Mv := (List.range d.length).flatMap (ur d k a)
def ut (d : zi) (k : Nat) : List Mv := (List.range d.length).flatMap (Zq d k)
def uu (d : zi) : List Mv := (List.range 4).flatMap (ut d)
abbrev Z1 (m : Mv) : List PV := [.agg (vj m)]
theorem ZkQ (d : zi) (k a b : Nat) (hdn : d.length ≤ 1048576) (hdt : ∀ t ∈ d, t.length ≤ 1000) (hk : k ≤ 3) (ha : a < d.length) (hb : b < d.length) :
  Xf Tryz.prog 182 (fun y => [.agg [L d], .agg [I k, I a, I b, I 0, I 0], jg y]) ((ur d k a b).map Z1) (B true) := by
 refine Zcj Tryz.func182 (by rfl) rfl Tryz.ntmps182 (congrArg Array.toList Tryz.results182) (by simp) fun y V keep nx J hJd hY A0 hA0 => ?_
 obtain ⟨ta, xa, a1, -, -, a0⟩ := zE rfl d a ha
 obtain ⟨tb, xb, b1, -, -, b0⟩ := zE rfl d b hb
 have ha1 : 1 ≤ d.length - a := by omega
 have hb1 : 1 ≤ d.length - b := by omega
 have la : tlen d a = ta.length := by unfold tlen; rw [List.getD_eq_getElem?_getD, a1]; rfl
 have lb : tlen d b = tb.length := by unfold tlen; rw [List.getD_eq_getElem?_getD, b1]; rfl
 have hal := hdt ta (List.mem_of_getElem? a1)
 have hbl := hdt tb (List.mem_of_getElem? b1)
 have hall : ∀ t ∈ d, t.length ≤ 1048576 := fun t ht => Nat.le_trans (hdt t ht) (by decide)
 have hlook := fun i j (hi : i ≤ 1048576) (hj : j ≤ 1048576) => Vm d ⟨k, a, b, i, j⟩ hdn hall hk ha hb hi hj
 have hpl : ur d k a b = (List.range (ta.length + 1)).flatMap (vS d k a b) := by unfold ur; rw [la]
 have hrow : ∀ i, vS d k a b i = (List.range (tb.length + 1)).filterMap (uY d k a b i) := fun i => by unfold vS; rw [lb]
 rw [hpl] at hY ⊢
 clear hpl la lb
 refine za (zb ?_)
 intro v0 v1
 repeat apply za
 refine zb ?_
 refine zj (jl (σ := Nat × Int × Store) (fun s' => s'.1 ≤ ta.length + 1 ∧ J ((List.range s'.1).flatMap (vS d k a b)).length s'.2.2) (fun s' => [(2, jg y), (3, .ptr nx v0 0), (4, .ptr (nx + 1) v1 0)]) (fun s' => s'.2.2)
  (fun (i, jv, _) => [.cells v0 58 [L d], .cells v1 151 [I k, I a, I b, I i, I jv]]) (fun s' => ta.length + 1 - s'.1) (zP (0, 0, A0) [] (by simpa using hA0) (by simp) rfl (by simp)) ?_)
 rintro ⟨i, jv, A⟩ ⟨hi, hJ⟩
 simp only at hi hJ ⊢
 repeat apply za
 refine zB (some [nx, nx + 1]) (Row.pures [0, 1, 2, 3, 4, 5, 6, 7, 8, 9, 10] .done) mixed (zF a0 ha ha1) ?_
 refine zr rfl (fun hc => ?_) (fun hc => ?_)
 ·simp at hc
  have hrl := Xr (vS d k a b) i
  refine zh (za (zj (za (zb ?_))))
  refine zj (jl (σ := Nat × Store) (fun s' => s'.1 ≤ tb.length + 1 ∧ J (((List.range i).flatMap (vS d k a b)).length + ((List.range s'.1).filterMap (uY d k a b i)).length) s'.2) (fun s' => [(2, jg y), (3, .ptr nx v0 0), (4, .ptr (nx + 1) v1 0)]) (fun s' => s'.2)
   (fun (j, _) => [.cells v0 58 [L d], .cells v1 151 [I k, I a, I b, I i, I j]]) (fun s' => tb.length + 1 - s'.1) (zP (0, A) [] (by simpa using hJ) (by simp) rfl (by simp)) ?_)
  clear hJ A jv
  rintro ⟨j, A⟩ ⟨hj, hJ⟩
  simp only at hj hJ ⊢
  repeat apply za
  refine zB (some [nx, nx + 1]) (Row.pures [0, 1, 2, 3, 4, 5, 6, 7, 8, 9, 10] .done) mixed (zF b0 hb hb1) ?_
  refine zr rfl (fun hcj => ?_) (fun hcj => ?_)
  ·simp at hcj
   have hlk := hlook i j (by omega) (by omega)
   have wj := zt j (by omega)
   refine zh (za (zj ?_))
   cases hm : j6 d ⟨k, a, b, i, j⟩ with
   | true =>
    have hce : uY d k a b i j = some ⟨k, a, b, i, j⟩ := by unfold uY; rw [if_pos hm]
    have hlo : uq d ⟨k, a, b, i, j⟩ = ((zZ d ⟨k, a, b, i, j⟩).1, (zZ d ⟨k, a, b, i, j⟩).2, true) := by unfold uq; rw [if_pos hm]
    rw [hlo] at hlk
    have hat := Zcl (n := tb.length + 1) (by omega) hce
    rw [← hrow] at hat
    have hat2 := Xq (W := vS d k a b) (n := ta.length + 1) (by omega) hat
    have hy : (((List.range (ta.length + 1)).flatMap (vS d k a b)).map Z1)[((List.range i).flatMap (vS d k a b)).length + ((List.range j).filterMap (uY d k a b i)).length]? = some (Z1 ⟨k, a, b, i, j⟩) := by
     rw [List.getElem?_map, hat2]; rfl
    have hnx := Zcn hce
    generalize (zZ d ⟨k, a, b, i, j⟩).1 = r1 at *
    generalize (zZ d ⟨k, a, b, i, j⟩).2 = r2 at *
    refine za (zb ?_)
    refine zz hlk ?_
    intro v2 v3
    refine za (zT [(1, 50)] (by rfl) (by rfl) fun K Gc Gh hK hGc hGh X hX0 hX => ?_)
    simp -implicitDefEqProofs [hX0, hX]
    try clear hX0 hX X
    refine hGh _ _ _ _ _ fun hsuf => YD rfl rfl rfl (hY _ _ _ _ hy hJ) ?_
    rintro _ ⟨A', hJ', rfl⟩
    refine ⟨_, _, rfl, ?_⟩
    clear hGc hGh
    clear Gc Gh
    refine zQ hsuf (D := [(1, 50)]) (by rfl) fun Gc Gh hGc hGh X hX0 hX => ?_
    simp -implicitDefEqProofs [hX0, hX]
    try clear hX0 hX X
    refine hK _ _ _ ?_
    clear hK hGc hGh
    clear K Gc Gh
    refine zn rfl (zh (zb ?_))
    exact zp (j + 1, A') [_, _] ⟨by simp; omega, by rw [hnx]; exact hJ'⟩ (by simp; omega) (by simp) rfl (by simp [wj]; exact ⟨rfl, rfl⟩)
   | false =>
    have hce : uY d k a b i j = none := by unfold uY; rw [if_neg (by simp [hm])]
    have hlo : uq d ⟨k, a, b, i, j⟩ = (jD, jD, false) := by unfold uq; rw [if_neg (by simp [hm])]
    rw [hlo] at hlk
    have hnx := Zcm hce
    generalize jD = r0 at *
    refine za (zb ?_)
    refine zz hlk ?_
    intro v2 v3
    refine za (ze [(1, 50)] zL ?_)
    refine zn rfl (zh (zb ?_))
    exact zp (j + 1, A) [_, _] ⟨by simp; omega, by rw [hnx]; exact hJ⟩ (by simp; omega) (by simp) rfl (by simp [wj]; exact ⟨rfl, rfl⟩)
  ·simp at hcj
   obtain rfl : j = tb.length + 1 := by omega
   rw [← hrow, ← hrl] at hJ
   refine zy ?_
   have wi := zt i (by omega)
   refine zb ?_
   exact zp (i + 1, ((tb.length + 1 : Nat) : Int), A) [] ⟨by simp; omega, hJ⟩ (by simp; omega) (by simp) rfl (by simp [wi])
 ·simp at hc
  obtain rfl : i = ta.length + 1 := by omega
  refine zy (za (zb ?_))
  exact zg (Xg (hJd _ _ hJ) (by simp; rfl) (by simp [zq]) (by simpa using hJ))
theorem ZkR (d : zi) : Pure Tryz.prog 145 [.agg [L d]] (.fn (.func 180) [] [.ip [L d]]) := by
 refine zv Tryz.func145 Tryz.ntmps145 Tryz.results145 fun S nx hd => ?_
 refine za (zb ?_)
 intro v0
 refine za (zb ?_)
 refine jZ 0 rfl ?_
 exact zg (zk hd (by simp; rfl) rfl)
theorem ZkS (d : zi) (hdn : d.length ≤ 1000) (hdt : ∀ t ∈ d, t.length ≤ 1000) : Ze Tryz.prog 180 [.ip [L d]] ((uu d).map Z1) := by
 have hpl := fun k a b (hk : k ≤ 3) (ha : a < d.length) (hb : b < d.length) => ZkQ d k a b (by omega) hdt hk ha hb
 have hkinds := ZcX
 generalize Xm = kl at hkinds
 refine Qy Tryz.func180 (by rfl) rfl Tryz.ntmps180 (congrArg Array.toList Tryz.results180) (by simp) fun l V keep nx J hJd hY A0 hA0 => ?_
 refine za (zb ?_)
 refine zz hkinds ?_
 refine zj (jl (σ := Nat × Store) (fun s' => s'.1 ≤ 4 ∧ J ((List.range s'.1).flatMap (ut d)).length s'.2) (fun s' => [(0, jg l), (1, .ip [L d]), (7, I s'.1)]) (fun s' => s'.2) (fun _ => []) (fun s' => 4 - s'.1) (zP (0, A0) [] (by simpa using hA0) (by simp) rfl (by simp)) ?_)
 rintro ⟨k, A⟩ ⟨hk, hJ⟩
 simp only at hk hJ ⊢
 by_cases hk4 : k < 4
 ·have hk4' : (k : Int) < 4 := by omega
  have hlA := Xr (ut d) k
  refine za (ze [] hk4' ?_)
  refine za (zo rfl (zh (za (zj (za (zb ?_))))))
  refine za (zb ?_)
  refine zj (jl (σ := Nat × Store) (fun s' => s'.1 ≤ d.length ∧ J (((List.range k).flatMap (ut d)).length + ((List.range s'.1).flatMap (Zq d k)).length) s'.2) (fun s' => [(0, jg l), (1, .ip [L d]), (3, I k), (7, I k), (12, I d.length), (13, I s'.1)]) (fun s' => s'.2) (fun _ => []) (fun s' => d.length - s'.1) (zP (0, A) [] (by simpa using hJ) (by simp) rfl (by simp)) ?_)
  clear hJ A
  rintro ⟨a, A⟩ ⟨ha, hJ⟩
  simp only at ha hJ ⊢
  refine za (zb ?_)
  refine za (zr rfl (fun hca => ?_) (fun hca => ?_))
  ·simp at hca
   have hlK := Xr (Zq d k) a
   refine zh (za (zj (za (zb ?_))))
   refine za (zb ?_)
   refine zj (jl (σ := Nat × Store) (fun s' => s'.1 ≤ d.length ∧ J (((List.range k).flatMap (ut d)).length + ((List.range a).flatMap (Zq d k)).length + ((List.range s'.1).flatMap (ur d k a)).length) s'.2) (fun s' => [(0, jg l), (1, .ip [L d]), (3, I k), (4, I a), (7, I k), (12, I d.length), (13, I a), (18, I d.length), (19, I s'.1)]) (fun s' => s'.2) (fun _ => []) (fun s' => d.length - s'.1) (zP (0, A) [] (by simpa using hJ) (by simp) rfl (by simp)) ?_)
   clear hJ A
   rintro ⟨b, A⟩ ⟨hb, hJ⟩
   simp only at hb hJ ⊢
   refine za (zb ?_)
   refine za (zr rfl (fun hcb => ?_) (fun hcb => ?_))
   ·simp at hcb
    have hw := hpl k a b (by omega) hca hcb
    have hlP := Xr (ur d k a) b
    have hin : ∀ (i : Nat) (x : List PV), ((ur d k a b).map Z1)[i]? = some x → ((uu d).map Z1)[((List.range k).flatMap (ut d)).length + ((List.range a).flatMap (Zq d k)).length + ((List.range b).flatMap (ur d k a)).length + i]? = some x := by
     intro i x hx
     rw [List.getElem?_map] at hx ⊢
     obtain ⟨m, hm, rfl⟩ := Option.map_eq_some_iff.1 hx
     have e1 := Xq (W := ur d k a) (n := d.length) hcb hm
     have e2 := Xq (W := Zq d k) (n := d.length) hca e1
     have e3 := Xq (W := ut d) (n := 4) hk4 e2
     rw [Nat.add_assoc, Nat.add_assoc]
     unfold uu
     rw [e3]; rfl
    refine zh (za (zj (za (zb ?_))))
    refine za (zT [] (by rfl) (by rfl) fun K Gc Gh hK hGc hGh X hX0 hX => ?_)
    simp -implicitDefEqProofs [hX0, hX]
    try clear hX0 hX X
    refine hGc _ _ _ _ _ _ _ fun hsuf => ((Zck hw keep hY _ hin hJ _).mono ?_)
    rintro _ _ ⟨A', rfl, hJ', rfl⟩
    rw [List.length_map, Nat.add_assoc, ← hlP] at hJ'
    refine ⟨_, _, rfl, ?_⟩
    clear hGc hGh
    clear Gc Gh
    refine zQ hsuf (D := []) (by rfl) fun Gc Gh hGc hGh X hX0 hX => ?_
    simp -implicitDefEqProofs [hX0, hX]
    clear hX0 hX X
    refine hK _ _ _ ?_
    clear hK hGc hGh
    clear K Gc Gh
    refine zn rfl (zh (zb ?_))
    exact zp (b + 1, A') [] ⟨hcb, hJ'⟩ (by simp; omega) (by simp [zt b (by omega)]) rfl (by simp)
   ·simp at hcb
    obtain rfl : b = d.length := by omega
    refine zy ?_
    have hJ2 : J (((List.range k).flatMap (ut d)).length + ((List.range (a + 1)).flatMap (Zq d k)).length) A := by rw [hlK, ← Nat.add_assoc]; exact hJ
    refine zb ?_
    exact zp (a + 1, A) [] ⟨hca, hJ2⟩ (by simp; omega) (by simp [zt a (by omega)]) rfl (by simp)
  ·simp at hca
   obtain rfl : a = d.length := by omega
   refine zy ?_
   have hJ2 : J ((List.range (k + 1)).flatMap (ut d)).length A := by rw [hlA]; exact hJ
   refine zb ?_
   exact zp (k + 1, A) [] ⟨hk4, hJ2⟩ (by simp; omega) (by simp [zt k (by omega)]) rfl (by simp)
 ·obtain rfl : k = 4 := by omega
  refine za (zb ?_)
  refine za (zn rfl (zy (w9 (hJd _ _ hJ) rfl ?_)))
  rw [List.length_map]; exact hJ
open Go Go.Proofs
theorem Z2 {d : zi} {m : Mv} (h : j6 d m = true) : m.k ≤ 3 ∧ m.a < d.length ∧ m.b < d.length ∧ wS d (zZ d m).1 ∧ wS d (zZ d m).2 := by
 unfold j6 at h
 rw [Bool.and_eq_true] at h
 obtain ⟨h1, h2⟩ := h
 have h1 := of_decide_eq_true h1
 refine ⟨h1.1, h1.2.1, h1.2.2, ?_⟩
 unfold x4 at h2
 unfold zZ jE
 have e0 := Zku d
 have key : ∀ p : Pc, YV d p ↔ (p.f < p.o → p.t < d.length ∧ p.o ≤ tlen d p.t) := fun _ => Iff.rfl
 by_cases k0 : m.k = 0
 ·rw [if_pos k0] at h2 ⊢
  have h2 := of_decide_eq_true h2
  refine ⟨?_, e0⟩
  intro p hp
  simp only [Rw5.l, List.mem_cons, List.not_mem_nil, or_false] at hp
  rcases hp with rfl | rfl | rfl | rfl | rfl <;> refine (key _).2 ?_ <;> simp only [yn] <;> omega
 rw [if_neg k0] at h2 ⊢
 by_cases k1 : m.k = 1
 ·rw [if_pos k1] at h2 ⊢
  have h2 := of_decide_eq_true h2
  by_cases hab : m.a = m.b
  ·rw [if_pos hab, hab] at h2
   rw [if_neg (by simp [hab])]
   by_cases hij : m.i < m.j
   ·rw [if_pos hij]
    refine ⟨?_, e0⟩
    intro p hp
    simp only [Rw5.l, List.mem_cons, List.not_mem_nil, or_false] at hp
    rcases hp with rfl | rfl | rfl | rfl | rfl <;> refine (key _).2 ?_ <;> simp only [yn] <;> (try rw [hab]) <;> omega
   ·rw [if_neg hij]
    refine ⟨?_, e0⟩
    intro p hp
    simp only [Rw5.l, List.mem_cons, List.not_mem_nil, or_false] at hp
    rcases hp with rfl | rfl | rfl | rfl | rfl <;> refine (key _).2 ?_ <;> simp only [yn] <;> (try rw [hab]) <;> omega
  ·rw [if_neg hab] at h2
   rw [if_pos hab]
   constructor <;> intro p hp <;> simp only [Rw5.l, List.mem_cons, List.not_mem_nil, or_false] at hp <;> rcases hp with rfl | rfl | rfl | rfl | rfl <;> refine (key _).2 ?_ <;> simp only [yn] <;> omega
 rw [if_neg k1] at h2 ⊢
 by_cases k2 : m.k = 2
 ·rw [if_pos k2] at h2 ⊢
  have h2 := of_decide_eq_true h2
  by_cases hab : m.a = m.b
  ·rw [if_pos hab]
   rw [hab] at h2
   refine ⟨?_, e0⟩
   intro p hp
   simp only [Rw5.l, List.mem_cons, List.not_mem_nil, or_false] at hp
   rcases hp with rfl | rfl | rfl | rfl | rfl <;> refine (key _).2 ?_ <;> simp only [yn, hab] <;> omega
  ·rw [if_neg hab]
   constructor <;> intro p hp <;> simp only [Rw5.l, List.mem_cons, List.not_mem_nil, or_false] at hp <;> rcases hp with rfl | rfl | rfl | rfl | rfl <;> refine (key _).2 ?_ <;> simp only [yn] <;> omega
 rw [if_neg k2] at h2 ⊢
 have h2 := of_decide_eq_true h2
 constructor <;> intro p hp <;> simp only [Rw5.l, List.mem_cons, List.not_mem_nil, or_false] at hp <;> rcases hp with rfl | rfl | rfl | rfl | rfl <;> refine (key _).2 ?_ <;> simp only [yn] <;> omega
theorem Vx {d : zi} {m : Mv} : m ∈ uu d → j6 d m = true ∧ m.i ≤ tlen d m.a ∧ m.j ≤ tlen d m.b := by
 unfold uu ut Zq ur vS uY
 intro h
 simp only [List.mem_flatMap, List.mem_range, List.mem_filterMap] at h
 obtain ⟨k, hk, a, ha, b, hb, i, hi, j, hj, h⟩ := h
 split at h
 ·rename_i hm
  cases h
  exact ⟨hm, by simp only; omega, by simp only; omega⟩
 ·cases h
def Z3 : Mv := ⟨0, 0, 0, 0, 0⟩
def xP (x : Inst) (d : zi) (r : Rw5) : Prop := Zp d r ≤ x.cap ∧ xo x d r ≤ x.len
instance (x : Inst) (d : zi) (r : Rw5) : Decidable (xP x d r) := by unfold xP; infer_instance
def Zr (x : Inst) (d : zi) (m : Mv) : Int := QX x d m (zZ d m).1 (zZ d m).2
def Zs (x : Inst) (d : zi) (st : Mv × Int) (m : Mv) : Mv × Int := if Zr x d m < st.2 ∧ xP x d (zZ d m).1 ∧ xP x d (zZ d m).2 then (m, Zr x d m) else st
def xQ (x : Inst) (d : zi) : Mv × Int := (uu d).foldl (Zs x d) (Z3, 0)
theorem ZkT (x : Inst) (d : zi) (hx : jh x) (hd' : MvDay d) : Pure Tryz.prog 106 [.agg (zA x), .agg [L d]] (.tup [.agg (vj (xQ x d).1), I (xQ x d).2, B (decide ((xQ x d).2 < 0))]) := by
 have hdn := hd'.n
 have hit := ZkS d hdn hd'.t
 have hread := ZkK x d hx hd'
 have hfacts : ∀ m ∈ uu d, Pure Tryz.prog 146 [.agg [L d], .agg (vj m)] (.tup [.agg (yi (zZ d m).1), .agg (yi (zZ d m).2), B true]) ∧ Pure Tryz.prog 147 [.ip (wT x d), .agg (vj m), .agg (yi (zZ d m).1), .agg (yi (zZ d m).2)] (I (Zr x d m)) ∧
   Pure Tryz.prog 148 [.ip (wT x d), .agg (yi (zZ d m).1)] (B (decide (xP x d (zZ d m).1))) ∧ Pure Tryz.prog 148 [.ip (wT x d), .agg (yi (zZ d m).2)] (B (decide (xP x d (zZ d m).2))) := by
  intro m hm
  obtain ⟨h1, h2, h3⟩ := Vx hm
  obtain ⟨hk, ha, hb, r1, r2⟩ := Z2 h1
  have hl : ∀ a, tlen d a ≤ 1000 := by
   intro a
   unfold tlen
   rw [List.getD_eq_getElem?_getD]
   cases hq : d[a]? with
   | none => simp
   | some l => exact hd'.t l (List.mem_of_getElem? hq)
  have hla := hl m.a
  have hlb := hl m.b
  have hlk := Vm d m (by omega) (fun t ht => Nat.le_trans (hd'.t t ht) (by decide)) hk ha hb (by omega) (by omega)
  unfold uq at hlk
  rw [if_pos h1] at hlk
  exact ⟨hlk, ZkP x d m _ _ hx hd' r1 r2 ha hb, Zdd x d _ hx hd' r1, Zdd x d _ hx hd' r2⟩
 unfold xQ
 generalize uu d = xs at *
 generalize wT x d = rd at *
 have hea := ZkR d
 refine zv Tryz.func106 Tryz.ntmps106 Tryz.results106 fun S nx hd => ?_
 refine za (zb ?_)
 intro v0 v1 v2
 refine za (zb ?_)
 refine zz hread ?_
 intro v3
 refine za (zb ?_)
 intro v4 v5
 repeat apply za
 refine zb ?_
 refine zz hea ?_
 refine zj (YE (xs := xs.map Z1) (σ := Mv × Int) (fun i st => st = (xs.take i).foldl (Zs x d) (Z3, 0)) [(2, .ptr nx v0 0), (3, .ptr (nx + 1) v1 0), (4, .ptr (nx + 2) v2 0), (7, .ptr (nx + 3) v3 0), (8, .ptr (nx + 4) v4 0), (9, .ptr (nx + 5) v5 0)] (fun _ => S)
  (fun (b, least) => [.cells v0 25 (zA x), .cells v1 58 [L d], .cells v2 151 [I 0, I 0, I 0, I 0, I 0], .cells v3 187 [.ip rd], .cells v4 151 (vj b), .cells v5 3 [I least]]) (Z3, 0)
  hit rfl (by intro x hx; obtain ⟨y, _, rfl⟩ := List.mem_map.1 hx; rfl) (by decide) (by simp) (by simp) rfl (by simp [Z3]) (by simp [Z3]) ?_ ?_)
 ·rintro l i ⟨b, least⟩ more y hst hy
  simp only at hst ⊢
  rw [List.getElem?_map] at hy
  obtain ⟨m, hm, rfl⟩ := Option.map_eq_some_iff.1 hy
  have hsucc := Vg (f := Zs x d) (b := (Z3, 0)) hm
  rw [← hst] at hsucc
  obtain ⟨f1, f2, f3, f4⟩ := hfacts m (List.mem_of_getElem? hm)
  unfold Zs at hsucc
  simp only at hsucc
  generalize (zZ d m).1 = r1 at *
  generalize (zZ d m).2 = r2 at *
  generalize Zr x d m = by_ at *
  refine zb ?_
  intro v6
  refine zj (za (zb ?_))
  refine zz f1 ?_
  intro v7 v8
  refine za (zb ?_)
  refine zz f2 ?_
  by_cases hlt : by_ < least
  ·refine za (ze [(3, 37), (8, 42)] hlt ?_)
   refine jP [(3, 37), (8, 42)] f3 hlt ?_
   by_cases hf1 : xP x d r1
   ·rw [decide_eq_true hf1]
    refine jP [(3, 37), (8, 42)] f4 hlt ?_
    by_cases hf2 : xP x d r2
    ·rw [if_pos ⟨hlt, hf1, hf2⟩] at hsucc
     refine zo (by simp [hf2]) ?_
     refine zb ?_
     simp only [qT]
     exact xE (m, by_) [_, _, _] hsucc.symm rfl (by simp; exact ⟨rfl, rfl, rfl⟩)
    ·rw [if_neg fun e => hf2 e.2.2] at hsucc
     refine zn (by simp [hf2]) ?_
     refine zh ?_
     simp only [qT]
     exact xE (b, least) [_, _, _] hsucc.symm rfl (by simp; exact ⟨rfl, rfl, rfl⟩)
   ·rw [decide_eq_false hf1]
    rw [if_neg fun e => hf1 e.2.1] at hsucc
    refine zn rfl (zh ?_)
    simp only [qT]
    exact xE (b, least) [_, _, _] hsucc.symm rfl (by simp; exact ⟨rfl, rfl, rfl⟩)
  ·rw [if_neg fun e => hlt e.1] at hsucc
   refine za (ze [(3, 37), (8, 42)] (zm hlt zL) ?_)
   refine zn rfl (zh ?_)
   simp only [qT]
   exact xE (b, least) [_, _, _] hsucc.symm rfl (by simp; exact ⟨rfl, rfl, rfl⟩)
 ·rintro ⟨b, least⟩ hst
  rw [List.take_of_length_le (by simp)] at hst
  simp only at hst ⊢
  rw [← hst]
  refine za (zB (some [nx + 4, nx + 5]) (Row.pures [0, 1, 2, 3] (.alt 4 (Row.pures [5, 6] .done) .stop)) mixed trivial ?_)
  exact zg (zk hd (by simp; rfl) (by simp [zq]))
open Go Go.Proofs
def jF (d : zi) (m : Mv) (i : Nat) : zD := if i = m.a then yG d (zZ d m).1 else if i = m.b then yG d (zZ d m).2 else d.getD i []
def q8 (d : zi) (m : Mv) (i : Nat) : Option zD := if (jF d m i).length = 0 then none else some (jF d m i)
def x5 (d : zi) (m : Mv) : zi := (List.range d.length).filterMap (q8 d m)
theorem Zde {d : zi} {r : Rw5} {k : Nat} (h : ∀ t ∈ d, t.length ≤ k) : (yG d r).length ≤ 5 * k := by
 have h1 := fun p => ZcZ (d := d) (p := p) h
 have a1 := h1 r.a
 have a2 := h1 r.b
 have a3 := h1 r.c
 have a4 := h1 r.d
 have a5 := h1 r.e
 unfold yG Rw5.l
 simp only [List.flatMap_cons, List.flatMap_nil, List.length_append, List.append_nil]
 omega
theorem ZkU (x : Inst) (d : zi) (m : Mv) (hdn : d.length ≤ 1000) (hdt : ∀ t ∈ d, t.length ≤ 1000) (hm : j6 d m = true) (hi : m.i ≤ 1048576) (hj : m.j ≤ 1048576) : Pure Tryz.prog 107 [.agg (zA x), .agg [L d], .agg (vj m)] (.tup [.agg [L (x5 d m)], I 0]) := by
 obtain ⟨hk, ha, hb, r1, r2⟩ := Z2 hm
 have hlk := Vm d m (by omega) (fun t ht => Nat.le_trans (hdt t ht) (by decide)) hk ha hb hi hj
 unfold uq at hlk
 rw [if_pos hm] at hlk
 have g1 := Zc0 d _ (by omega) hdt r1
 have g2 := Zc0 d _ (by omega) hdt r2
 have n1 := Zde (r := (zZ d m).1) hdt
 have n2 := Zde (r := (zZ d m).2) hdt
 have hmk : ∀ i, jF d m i = if i = m.a then yG d (zZ d m).1 else if i = m.b then yG d (zZ d m).2 else d.getD i [] := fun _ => rfl
 generalize yG d (zZ d m).1 = t1 at *
 generalize yG d (zZ d m).2 = t2 at *
 generalize (zZ d m).1 = c1 at *
 generalize (zZ d m).2 = c2 at *
 have hme : x5 d m = (List.range d.length).filterMap (q8 d m) := rfl
 rw [hme]
 clear hme
 refine zv Tryz.func107 Tryz.ntmps107 Tryz.results107 fun S nx hd => ?_
 refine za (zb ?_)
 intro v0 v1 v2 v3
 refine za (zb ?_)
 refine zz hlk ?_
 intro v4 v5
 repeat apply za
 refine zb ?_
 refine zn rfl (zh (za (zb ?_)))
 intro v6
 refine qM 6 0 72 1 rfl rfl fun v7 => ?_
 repeat apply za
 refine zb ?_
 refine zj (zG (fun s' : Nat × Nat => s'.1 ≤ d.length) (fun (k, v7) => [(4, .ptr (nx + 1) v1 0), (5, .ptr (nx + 2) v2 0), (6, .ptr (nx + 3) v3 0), (8, .ptr (nx + 4) v4 0), (9, .ptr (nx + 5) v5 0), (11, .ptr (nx + 6) v6 0), (26, L d), (27, I d.length), (28, I k)])
  (fun (k, v7) => [.cells v0 25 (zA x), .cells v1 58 [L d], .cells v2 151 (vj m), .cells v3 58 [yF], .cells v4 195 (yi c1), .cells v5 195 (yi c2), .cells v6 58 [.sl (nx + 7) v7 1 0 ((List.range k).filterMap (q8 d m)).length], .cells v7 72 (((List.range k).filterMap (q8 d m)).flatMap Enc.enc)]) (fun s' => d.length - s'.1) (0, v7) [] (by simp) (by simp) (by simp) ?_)
 rintro ⟨k, v7⟩ hk0
 simp only at hk0 ⊢
 refine za (zb ?_)
 refine za (zr rfl (fun hc => ?_) (fun hc => ?_))
 ·simp at hc
  obtain ⟨t, tl, a1, a2, a3, e0⟩ := zE rfl d k hc
  have hk1 : 1 ≤ d.length - k := by omega
  have htl := hdt t (List.mem_of_getElem? a1)
  have hcl := Xe t (by omega)
  have hgk : d.getD k [] = t := by rw [List.getD_eq_getElem?_getD, a1]; rfl
  have hmkk := hmk k
  have hlen : ((List.range k).filterMap (q8 d m)).length ≤ k := by have := List.length_filterMap_le (q8 d m) (List.range k); simpa using this
  have hnext : (List.range (k + 1)).filterMap (q8 d m) = (List.range k).filterMap (q8 d m) ++ (q8 d m k).toList := by
   rw [List.range_succ, List.filterMap_append]
   simp only [List.filterMap_cons, List.filterMap_nil]
   cases q8 d m k <;> rfl
  have hT1 : q8 d m k = if (jF d m k).length = 0 then none else some (jF d m k) := rfl
  rw [hgk] at hmkk
  have hTl : (jF d m k).length ≤ 5000 := by rw [hmkk]; (repeat' split) <;> omega
  have hof : (((List.range k).filterMap (q8 d m)).flatMap Enc.enc : List PV).length = ((List.range k).filterMap (q8 d m)).length := jm _
  generalize (List.range k).filterMap (q8 d m) = out at *
  have hot : (out.flatMap Enc.enc : List PV).take out.length = out.flatMap Enc.enc := List.take_of_length_le (by omega)
  have wk := zt k (by omega)
  refine zh (za (zj (za (ze [] (zF e0 hc hk1) ?_))))
  intro v8
  refine za (zb ?_)
  refine zz hcl ?_
  repeat apply za
  refine zb ?_
  refine qj (nx := nx) (fun _ : Unit => True) (fun _ => [(4, .ptr (nx + 1) v1 0), (5, .ptr (nx + 2) v2 0), (6, .ptr (nx + 3) v3 0), (8, .ptr (nx + 4) v4 0), (9, .ptr (nx + 5) v5 0), (11, .ptr (nx + 6) v6 0), (14, L (jF d m k)), (26, L d), (27, I d.length), (28, I k)]) (fun _ => S)
   (fun _ => [.cells v0 25 (zA x), .cells v1 58 [L d], .cells v2 151 (vj m), .cells v3 58 [yF], .cells v4 195 (yi c1), .cells v5 195 (yi c2), .cells v6 58 [.sl (nx + 7) v7 1 0 out.length], .cells v7 72 (out.flatMap Enc.enc), .cells v8 72 [L t]]) ?_ ?_
  ·refine zj ?_
   by_cases h1 : k = m.a
   ·rw [if_pos h1] at hmkk
    have h1' : (k : Int) = m.a := by omega
    rw [hmkk]
    refine za (zb ?_)
    refine zo (by simp; omega) ?_
    refine zb ?_
    refine zz g1 ?_
    simp only [qT]
    exact zP () [] trivial (by simp) rfl (by simp)
   ·rw [if_neg h1] at hmkk
    have h1' : ¬ (k : Int) = m.a := by omega
    refine za (zb ?_)
    refine zn (by simp; omega) ?_
    by_cases h2 : k = m.b
    ·rw [if_pos h2] at hmkk
     have h2' : (k : Int) = m.b := by omega
     rw [hmkk]
     refine za (zb ?_)
     refine zo (by simp; omega) ?_
     refine zb ?_
     refine zz g2 ?_
     simp only [qT]
     exact zP () [] trivial (by simp) rfl (by simp)
    ·rw [if_neg h2] at hmkk
     have h2' : ¬ (k : Int) = m.b := by omega
     rw [hmkk]
     refine za (zb ?_)
     refine zn (by simp; omega) ?_
     refine zh ?_
     simp only [qT]
     exact zP () [] trivial (by simp) rfl (by simp)
  ·rintro ⟨⟩ -
   generalize jF d m k = tt at *
   clear hmkk hcl e0
   by_cases h0 : tt.length = 0
   ·have e : (q8 d m k).toList = [] := by rw [hT1, if_pos h0]; rfl
    have h0' : ¬ 0 < tt.length := by omega
    refine za (ze [] h0' ?_)
    refine zn (by simp [h0']) ?_
    refine zh (zb ?_)
    exact zp (k + 1, v7) [_] (by simp; omega) (by simp; omega) (by simp [wk, hnext, e]) rfl (by simp [hnext, e]; rfl)
   ·have e : (q8 d m k).toList = [tt] := by rw [hT1, if_neg h0]; rfl
    have h0' : 0 < tt.length := by omega
    refine za (ze [] h0' ?_)
    refine zo (by simp [h0']) ?_
    refine ze [] (zm hof hot) ?_
    refine ⟨by omega, ?_⟩
    refine zb ?_
    exact zp (k + 1, v7 + 1) [_] (by simp; omega) (by simp; omega) (by simp [wk, hnext, e]) rfl (by simp [hnext, e]; rfl)
 ·simp at hc
  obtain rfl : k = d.length := by omega
  refine zy (yc 7 rfl ?_)
  refine za (zb ?_)
  exact zg (zk hd (by simp; rfl) (by simp [zq]))
open Go Go.Proofs
def Z4 (d : zi) (s : Stop) (t k : Nat) : Nat := ((d.getD t []).take k).count s
theorem Vy (d : zi) (s : Stop) (t : Nat) : Z4 d s t 0 = 0 := by simp [Z4]
theorem Zdf (d : zi) (s : Stop) (t : Nat) : Z4 d s t (tlen d t) = (d.getD t []).count s := by unfold Z4 tlen; rw [List.take_length]
theorem ZkV (d : zi) (s : Stop) (p : Pc) : p.f ≤ p.o → (qb d p).count s + Z4 d s p.t p.f = Z4 d s p.t p.o := by
 intro h
 unfold qb Z4
 generalize d.getD p.t [] = u
 by_cases hf : p.f < p.o
 ·rw [if_pos hf, show p.o = p.f + (p.o - p.f) by omega, List.take_add, List.count_append, show p.f + (p.o - p.f) - p.f = p.o - p.f by omega]
  cases p.b
  ·rw [cond_false]; omega
  ·rw [cond_true, List.count_reverse]; omega
 ·rw [if_neg hf, show p.o = p.f by omega]; simp
theorem Zdg (d : zi) (s : Stop) (r : Rw5) : (yG d r).count s = (qb d r.a).count s + (qb d r.b).count s + (qb d r.c).count s + (qb d r.d).count s + (qb d r.e).count s := by
 unfold yG Rw5.l
 simp only [List.flatMap_cons, List.flatMap_nil, List.count_append, List.append_nil]
 omega
theorem ZkW {d : zi} {m : Mv} (h : j6 d m = true) (s : Stop) : (yG d (zZ d m).1).count s + (if m.a = m.b then 0 else (yG d (zZ d m).2).count s) = (d.getD m.a []).count s + (if m.a = m.b then 0 else (d.getD m.b []).count s) := by
 unfold j6 at h
 rw [Bool.and_eq_true] at h
 obtain ⟨-, h2⟩ := h
 unfold x4 at h2
 unfold zZ jE
 have e0 := Vy d s
 have ea := Vy d s m.a
 have eb := Vy d s m.b
 have la := Zdf d s m.a
 have lb := Zdf d s m.b
 have key := ZkV d s
 rw [Zdg, Zdg]
 by_cases k0 : m.k = 0
 ·rw [if_pos k0] at h2 ⊢
  have h2 := of_decide_eq_true h2
  rw [if_pos h2.1.symm, if_pos h2.1.symm]
  have q1 := key ⟨m.a, 0, m.i, false⟩
  have q2 := key ⟨m.a, m.i, m.j + 1, true⟩
  have q3 := key ⟨m.a, m.j + 1, tlen d m.a, false⟩
  have q0 := key yn
  simp only [yn] at q1 q2 q3 q0 ⊢
  omega
 rw [if_neg k0] at h2 ⊢
 by_cases k1 : m.k = 1
 ·rw [if_pos k1] at h2 ⊢
  have h2 := of_decide_eq_true h2
  by_cases hab : m.a = m.b
  ·rw [if_pos hab] at h2
   rw [if_pos hab, if_pos hab, if_neg (by simp [hab])]
   rw [← hab] at h2
   by_cases hij : m.i < m.j
   ·rw [if_pos hij]
    have q1 := key ⟨m.a, 0, m.i, false⟩
    have q2 := key ⟨m.a, m.i + 1, m.j + 1, false⟩
    have q3 := key ⟨m.a, m.i, m.i + 1, false⟩
    have q4 := key ⟨m.a, m.j + 1, tlen d m.a, false⟩
    have q0 := key yn
    simp only [yn] at q1 q2 q3 q4 q0 ⊢
    omega
   ·rw [if_neg hij]
    have q1 := key ⟨m.a, 0, m.j, false⟩
    have q2 := key ⟨m.a, m.i, m.i + 1, false⟩
    have q3 := key ⟨m.a, m.j, m.i, false⟩
    have q4 := key ⟨m.a, m.i + 1, tlen d m.a, false⟩
    have q0 := key yn
    simp only [yn] at q1 q2 q3 q4 q0 ⊢
    omega
  ·rw [if_neg hab] at h2
   rw [if_neg hab, if_neg hab, if_pos hab]
   have q1 := key ⟨m.a, 0, m.i, false⟩
   have q2 := key ⟨m.a, m.i + 1, tlen d m.a, false⟩
   have q3 := key ⟨m.b, 0, m.j, false⟩
   have q4 := key ⟨m.a, m.i, m.i + 1, false⟩
   have q5 := key ⟨m.b, m.j, tlen d m.b, false⟩
   have q0 := key yn
   simp only [yn] at q1 q2 q3 q4 q5 q0 ⊢
   omega
 rw [if_neg k1] at h2 ⊢
 by_cases k2 : m.k = 2
 ·rw [if_pos k2] at h2 ⊢
  have h2 := of_decide_eq_true h2
  by_cases hab : m.a = m.b
  ·rw [if_pos hab, if_pos hab, if_pos hab]
   rw [← hab] at h2 ⊢
   have q1 := key ⟨m.a, 0, m.i, false⟩
   have q2 := key ⟨m.a, m.j, m.j + 1, false⟩
   have q3 := key ⟨m.a, m.i + 1, m.j, false⟩
   have q4 := key ⟨m.a, m.i, m.i + 1, false⟩
   have q5 := key ⟨m.a, m.j + 1, tlen d m.a, false⟩
   simp only at q1 q2 q3 q4 q5 ⊢
   omega
  ·rw [if_neg hab, if_neg hab, if_neg hab]
   have q1 := key ⟨m.a, 0, m.i, false⟩
   have q2 := key ⟨m.b, m.j, m.j + 1, false⟩
   have q3 := key ⟨m.a, m.i + 1, tlen d m.a, false⟩
   have q4 := key ⟨m.b, 0, m.j, false⟩
   have q5 := key ⟨m.a, m.i, m.i + 1, false⟩
   have q6 := key ⟨m.b, m.j + 1, tlen d m.b, false⟩
   have q0 := key yn
   simp only [yn] at q1 q2 q3 q4 q5 q6 q0 ⊢
   omega
 rw [if_neg k2] at h2 ⊢
 have h2 := of_decide_eq_true h2
 rw [if_neg (by omega), if_neg (by omega)]
 have q1 := key ⟨m.a, 0, m.i, false⟩
 have q2 := key ⟨m.b, m.j, tlen d m.b, false⟩
 have q3 := key ⟨m.b, 0, m.j, false⟩
 have q4 := key ⟨m.a, m.i, tlen d m.a, false⟩
 have q0 := key yn
 simp only [yn] at q1 q2 q3 q4 q0 ⊢
 omega
theorem Vz {d : zi} {i : Nat} {u : zD} (t : zD) (h : d[i]? = some u) (s : Stop) : (d.set i t).flatten.count s + u.count s = t.count s + d.flatten.count s := by
 obtain ⟨hi, rfl⟩ := List.getElem?_eq_some_iff.1 h
 have e : d = d.take i ++ d[i] :: d.drop (i + 1) := by rw [← List.drop_eq_getElem_cons hi, List.take_append_drop]
 rw [List.set_eq_take_append_cons_drop, if_pos hi]
 conv => rhs; rw [e]
 simp only [List.flatten_append, List.flatten_cons, List.count_append]
 omega
theorem VA {d : zi} {i : Nat} {u : zD} (t : zD) (h : d[i]? = some u) (x : Inst) : zU x (d.set i t) + zW x (u.map (·.c)) = zW x (t.map (·.c)) + zU x d := by
 obtain ⟨hi, rfl⟩ := List.getElem?_eq_some_iff.1 h
 have e : d = d.take i ++ d[i] :: d.drop (i + 1) := by rw [← List.drop_eq_getElem_cons hi, List.take_append_drop]
 unfold zU
 rw [List.set_eq_take_append_cons_drop, if_pos hi]
 conv => rhs; rw [e]
 simp only [List.map_append, List.map_cons, List.sum_append, List.sum_cons]
 omega
theorem Zdh (d : zi) (m : Mv) : (List.range d.length).map (jF d m) = (d.set m.b (yG d (zZ d m).2)).set m.a (yG d (zZ d m).1) := by
 refine List.ext_getElem? fun i => ?_
 by_cases hi : i < d.length
 ·rw [List.getElem?_map, List.getElem?_range hi]
  simp only [Option.map_some, jF, List.getElem?_set, List.length_set]
  by_cases h1 : i = m.a
  ·rw [if_pos h1, if_pos h1.symm, if_pos (by omega)]
  ·rw [if_neg h1, if_neg (fun e : m.a = i => h1 e.symm)]
   by_cases h2 : i = m.b
   ·rw [if_pos h2, if_pos h2.symm, if_pos (by omega)]
   ·rw [if_neg h2, if_neg (fun e : m.b = i => h2 e.symm), List.getD_eq_getElem?_getD, List.getElem?_eq_getElem hi]; rfl
 ·rw [List.getElem?_eq_none (by simp; omega), List.getElem?_eq_none (by simp; omega)]
theorem VB (d : zi) (m : Mv) : ∀ l : List Nat, (l.filterMap (q8 d m)).flatten = (l.map (jF d m)).flatten ∧ ∀ x, zU x (l.filterMap (q8 d m)) = zU x (l.map (jF d m))
 | [] => ⟨rfl, fun _ => rfl⟩
 | i :: l => by
  obtain ⟨h1, h2⟩ := VB d m l
  have e : q8 d m i = if (jF d m i).length = 0 then none else some (jF d m i) := rfl
  rw [List.filterMap_cons, e, List.map_cons]
  by_cases h : (jF d m i).length = 0
  ·rw [if_pos h, List.length_eq_zero_iff.1 h]
   refine ⟨by simpa using h1, fun x => ?_⟩
   have := h2 x
   unfold zU at this ⊢
   simpa [zW] using this
  ·rw [if_neg h]
   refine ⟨by simpa using h1, fun x => ?_⟩
   have := h2 x
   unfold zU at this ⊢
   simpa using this
theorem ZkX {d : zi} {m : Mv} {t : zD} (h : t ∈ x5 d m) : t ≠ [] ∧ (t = yG d (zZ d m).1 ∨ t = yG d (zZ d m).2 ∨ t ∈ d) := by
 unfold x5 at h
 obtain ⟨i, hi, h⟩ := List.mem_filterMap.1 h
 unfold q8 at h
 split at h
 ·cases h
 ·rename_i h0
  cases h
  refine ⟨fun e => h0 (by rw [e]; rfl), ?_⟩
  unfold jF
  split
  ·exact .inl rfl
  ·split
   ·exact .inr (.inl rfl)
   ·refine .inr (.inr ?_)
    have hi := List.mem_range.1 hi
    rw [List.getD_eq_getElem?_getD, List.getElem?_eq_getElem hi]
    exact List.getElem_mem hi
theorem ZkY (d : zi) (m : Mv) : (x5 d m).length ≤ d.length := by
 have := List.length_filterMap_le (q8 d m) (List.range d.length)
 simpa [x5] using this
theorem Zdi {d : zi} {m : Mv} (h : j6 d m = true) : (x5 d m).flatten.Perm d.flatten := by
 obtain ⟨-, ha, hb, -, -⟩ := Z2 h
 refine List.perm_iff_count.2 fun s => ?_
 have hc := ZkW h s
 unfold x5
 rw [(VB d m _).1, Zdh]
 obtain ⟨ua, hua⟩ : ∃ u, d[m.a]? = some u := ⟨_, List.getElem?_eq_getElem ha⟩
 obtain ⟨ub, hub⟩ : ∃ u, d[m.b]? = some u := ⟨_, List.getElem?_eq_getElem hb⟩
 have ga : d.getD m.a [] = ua := by rw [List.getD_eq_getElem?_getD, hua]; rfl
 have gb : d.getD m.b [] = ub := by rw [List.getD_eq_getElem?_getD, hub]; rfl
 rw [ga, gb] at hc
 generalize yG d (zZ d m).1 = t1 at *
 generalize yG d (zZ d m).2 = t2 at *
 by_cases hab : m.a = m.b
 ·rw [if_pos hab, if_pos hab] at hc
  rw [← hab, List.set_set]
  have := Vz t1 hua s
  omega
 ·rw [if_neg hab, if_neg hab] at hc
  have h1 := Vz t2 hub s
  have h2 := Vz (d := d.set m.b t2) (i := m.a) (u := ua) t1 (by rw [List.getElem?_set_ne (fun e => hab e.symm)]; exact hua) s
  omega
theorem ZkZ {x : Inst} {d : zi} {m : Mv} (h : j6 d m = true) (h0 : arc x 0 0 = 0) : zU x (x5 d m) = zU x d + Zr x d m := by
 obtain ⟨-, ha, hb, r1, r2⟩ := Z2 h
 unfold x5 Zr QX
 rw [(VB d m _).2, Zdh, Vv r1 h0, Vv r2 h0]
 obtain ⟨ua, hua⟩ : ∃ u, d[m.a]? = some u := ⟨_, List.getElem?_eq_getElem ha⟩
 obtain ⟨ub, hub⟩ : ∃ u, d[m.b]? = some u := ⟨_, List.getElem?_eq_getElem hb⟩
 have ga : d.getD m.a [] = ua := by rw [List.getD_eq_getElem?_getD, hua]; rfl
 have gb : d.getD m.b [] = ub := by rw [List.getD_eq_getElem?_getD, hub]; rfl
 rw [ga, gb]
 generalize yG d (zZ d m).1 = t1 at *
 generalize yG d (zZ d m).2 = t2 at *
 by_cases hab : m.a = m.b
 ·rw [if_pos hab, ← hab, List.set_set]
  have := VA t1 hua x
  omega
 ·rw [if_neg hab]
  have h1 := VA t2 hub x
  have h2 := VA (d := d.set m.b t2) (i := m.a) (u := ua) t1 (by rw [List.getElem?_set_ne (fun e => hab e.symm)]; exact hua) x
  omega
open Go Go.Proofs Hp
theorem VC (x : Inst) : ∀ (ds : List zi) (st : zi × Int × Bool), (ds.foldl (jC x) st).2.2 = true → ds.foldl (jC x) st = st ∨ (∃ d ∈ ds, yv x d = 0 ∧ ds.foldl (jC x) st = (d, W (zU x d), true))
 | [], st, _ => .inl rfl
 | d :: ds, st, h => by
  rw [List.foldl_cons] at h ⊢
  rcases VC x ds _ h with e | ⟨d2, h1, h2, h3⟩
  ·rw [e]
   unfold jC
   split
   ·rename_i h0
    split
    ·exact .inr ⟨d, by simp, h0, rfl⟩
    ·exact .inl rfl
   ·exact .inl rfl
  ·exact .inr ⟨d2, by simp [h1], h2, h3⟩
theorem Zdj {x : Inst} {e : Int} {ds : List zi} (h : (j4 x e ds).2 = 0) : e = 0 ∧ (j4 x e ds).1 ∈ ds ∧ yv x (j4 x e ds).1 = 0 := by
 unfold j4 at h ⊢
 by_cases he : e = 0
 ·rw [if_pos he] at h ⊢
  cases hz : (wO x ds).2.2 with
  | false => rw [hz] at h; cases h
  | true =>
   refine ⟨he, ?_⟩
   rcases VC x ds ([], 0, false) hz with q | ⟨d, h1, h2, h3⟩
   ·have : (wO x ds).2.2 = false := by unfold wO; rw [q]
    rw [this] at hz; cases hz
   ·have : wO x ds = (d, W (zU x d), true) := h3
    rw [this]; exact ⟨h1, h2⟩
 ·rw [if_neg he] at h; exact absurd h he
theorem Zdk (x : Inst) : jh (zN x) := by
 refine ZcS fun row hr d hd => ?_
 simp only [zN, List.mem_map] at hr
 obtain ⟨a, _, rfl⟩ := hr
 unfold xh at hd
 obtain ⟨b, _, rfl⟩ := List.mem_map.1 hd
 split
 ·have := qX (arc x a b) 0 60 (by omega); omega
 ·omega
theorem Zk0 (x : Inst) : 0 ≤ (zN x).veh := (qX x.veh 0 5 (by omega)).1
open Go Go.Proofs
structure SG (x : Inst) (l : List Stop) (d : zi) : Prop where
 may : ∀ t ∈ d, zJ x t = 0
 perm : d.flatten.Perm l
def Zdl (x : Inst) (t : zD) : Prop := (∀ s ∈ t, qY x s = true) ∧ (t.map (·.c)).Nodup ∧ t.length ≤ 1000
theorem VD {x : Inst} {t : zD} (h : zJ x t = 0) : (∀ s ∈ t, qY x s = true) ∧ t ≠ [] := by
 have := ((ZY x t).1 h).1
 unfold qk at this
 rw [Bool.and_eq_true, List.all_eq_true] at this
 refine ⟨this.1, fun e => ?_⟩
 subst e
 simp at this
theorem VE {x : Inst} : ∀ t : zD, (∀ s ∈ t, qY x s = true) → 0 ≤ zK t ∧ zK t ≤ 2147483648 * (t.length : Int)
 | [], _ => by simp [zK]
 | s :: t, h => by
  have h1 := VE t fun s hs => h s (by simp [hs])
  have h2 := h s (by simp)
  simp [qY] at h2
  unfold zK at h1 ⊢
  simp only [List.map_cons, List.sum_cons, List.length_cons]
  omega
theorem QY {x : Inst} (hx : jh x) {t : zD} (h : Zdl x t) (hn : t ≠ []) : zJ x t = 0 ↔ zK t ≤ x.cap ∧ zW x (t.map (·.c)) ≤ x.len := by
 obtain ⟨h1, h2, h3⟩ := h
 have b1 := VE t h1
 have b2 := QT hx (t.map (·.c))
 rw [List.length_map] at b2
 have w1 : W (zK t) = zK t := wr _ (by omega) (by omega)
 have w2 : W (zW x (t.map (·.c))) = zW x (t.map (·.c)) := wr _ (by omega) (by omega)
 rw [ZY, w1, w2]
 have : qk x t = true := by
  unfold qk
  rw [Bool.and_eq_true, List.all_eq_true]
  exact ⟨h1, by cases t <;> simp at hn ⊢⟩
 exact ⟨fun e => e.2.2, fun e => ⟨this, h2, e⟩⟩
theorem SG.each {x : Inst} {l : List Stop} {d : zi} (g : SG x l d) : ∀ s ∈ l, qY x s = true := by
 intro s hs
 obtain ⟨t, ht, hst⟩ := List.mem_flatten.1 (g.perm.symm.subset hs)
 exact (VD (g.may t ht)).1 s hst
section
variable {x : Inst} {l : List Stop} (h : SOk x l)
include h
theorem SG.len {d : zi} (g : SG x l d) : d.flatten.length ≤ 1000 ∧ d.length ≤ 1000 := by
 have h1 := QO d fun t ht => (VD (g.may t ht)).2
 have h2 := g.perm.length_eq
 have h3 := h.len
 omega
theorem SG.tour {d : zi} (g : SG x l d) {e : zi} (he : e.flatten.Perm l) {t : zD} (ht : t ∈ e) : Zdl x t := by
 have hs := vM ht
 have hl := h.len
 refine ⟨fun s q => g.each s (he.subset (hs.subset q)), ?_, ?_⟩
 ·exact ((he.map _).nodup_iff.2 h.nd).sublist (hs.map _)
 ·have := hs.length_le
  have := he.length_eq
  omega
theorem SG.mv {d : zi} (g : SG x l d) : MvDay d := by
 refine ⟨(g.len h).2, fun t ht => (g.tour h g.perm ht).2.2, fun t ht s hs => ?_⟩
 have := (g.tour h g.perm ht).1 s hs
 have hc := h.cust
 simp [qY] at this
 unfold small
 omega
theorem SG.ok {d : zi} (g : SG x l d) : DayOk d := by
 have h1 := g.len h
 have h2 := g.mv h
 exact ⟨by omega, fun t ht => Nat.le_trans (h2.t t ht) (by decide), fun t ht s hs => (h2.s t ht s hs).1⟩
end
theorem Zdm {x : Inst} {d : zi} {r : Rw5} (hr : wS d r) (h0 : arc x 0 0 = 0) : xP x d r ↔ zK (yG d r) ≤ x.cap ∧ zW x ((yG d r).map (·.c)) ≤ x.len := by
 unfold xP
 rw [Vv hr h0, ZkN hr]
theorem Zk1 {d : zi} {m : Mv} (h : j6 d m = true) (hab : m.a = m.b) : yG d (zZ d m).2 = [] := by
 have e0 : yG d jD = [] := rfl
 unfold j6 at h
 rw [Bool.and_eq_true] at h
 obtain ⟨-, h2⟩ := h
 unfold x4 at h2
 unfold zZ jE
 by_cases k0 : m.k = 0
 ·rw [if_pos k0]; exact e0
 rw [if_neg k0] at h2 ⊢
 by_cases k1 : m.k = 1
 ·rw [if_pos k1, if_neg (by simp [hab])]
  split <;> exact e0
 rw [if_neg k1] at h2 ⊢
 by_cases k2 : m.k = 2
 ·rw [if_pos k2, if_pos hab]; exact e0
 rw [if_neg k2] at h2
 have h2 := of_decide_eq_true h2
 omega
theorem Zk2 {d : zi} {m : Mv} (h : j6 d m = true) (hn : yG d (zZ d m).1 ≠ []) : yG d (zZ d m).1 ∈ x5 d m := by
 obtain ⟨-, ha, -⟩ := Z2 h
 refine List.mem_filterMap.2 ⟨m.a, List.mem_range.2 ha, ?_⟩
 have e : jF d m m.a = yG d (zZ d m).1 := by unfold jF; rw [if_pos rfl]
 unfold q8
 rw [e, if_neg fun q => hn (List.length_eq_zero_iff.1 q)]
theorem Zk3 {d : zi} {m : Mv} (h : j6 d m = true) (hab : m.a ≠ m.b) (hn : yG d (zZ d m).2 ≠ []) : yG d (zZ d m).2 ∈ x5 d m := by
 obtain ⟨-, -, hb, -⟩ := Z2 h
 refine List.mem_filterMap.2 ⟨m.b, List.mem_range.2 hb, ?_⟩
 have e : jF d m m.b = yG d (zZ d m).2 := by unfold jF; rw [if_neg fun q => hab q.symm, if_pos rfl]
 unfold q8
 rw [e, if_neg fun q => hn (List.length_eq_zero_iff.1 q)]
theorem Zk4 {x : Inst} {l : List Stop} (h : SOk x l) (h0 : arc x 0 0 = 0) {d : zi} (g : SG x l d) {m : Mv} (hm : j6 d m = true) : (xP x d (zZ d m).1 ∧ xP x d (zZ d m).2) ↔ ∀ t ∈ x5 d m, zJ x t = 0 := by
 obtain ⟨-, ha, hb, r1, r2⟩ := Z2 hm
 have hp : (x5 d m).flatten.Perm l := (Zdi hm).trans g.perm
 rw [Zdm r1 h0, Zdm r2 h0]
 have hz : 0 ≤ x.cap ∧ 0 ≤ x.len := by
  have ht := g.may _ (List.getElem_mem ha)
  have hg := g.tour h g.perm (List.getElem_mem ha)
  have := (QY h.arc hg (VD ht).2).1 ht
  have b1 := VE _ hg.1
  have b2 := QT h.arc (d[m.a].map (·.c))
  omega
 have e0 : zK [] = 0 ∧ zW x (([] : zD).map (·.c)) = 0 := ⟨rfl, rfl⟩
 constructor
 ·rintro ⟨q1, q2⟩ t ht
  obtain ⟨hn, h3⟩ := ZkX ht
  have hg := g.tour h hp ht
  rcases h3 with rfl | rfl | h3
  ·exact (QY h.arc hg hn).2 q1
  ·exact (QY h.arc hg hn).2 q2
  ·exact g.may t h3
 ·intro hall
  constructor
  ·by_cases hn : yG d (zZ d m).1 = []
   ·rw [hn, e0.1, e0.2]; exact hz
   ·have ht := Zk2 hm hn
    exact (QY h.arc (g.tour h hp ht) hn).1 (hall _ ht)
  ·by_cases hn : yG d (zZ d m).2 = []
   ·rw [hn, e0.1, e0.2]; exact hz
   ·by_cases hab : m.a = m.b
    ·exact absurd (Zk1 hm hab) hn
    ·have ht := Zk3 hm hab hn
     exact (QY h.arc (g.tour h hp ht) hn).1 (hall _ ht)
theorem Zdn (x : Inst) (d : zi) : ∀ (ms : List Mv) (st : Mv × Int), (ms.foldl (Zs x d) st = st) ∨ (∃ m ∈ ms, (ms.foldl (Zs x d) st) = (m, Zr x d m) ∧ xP x d (zZ d m).1 ∧ xP x d (zZ d m).2)
 | [], st => .inl rfl
 | m :: ms, st => by
  rw [List.foldl_cons]
  rcases Zdn x d ms (Zs x d st m) with e | ⟨m2, h1, h2, h3⟩
  ·rw [e]
   unfold Zs
   split
   ·rename_i hc
    exact .inr ⟨m, by simp, rfl, hc.2⟩
   ·exact .inl rfl
  ·exact .inr ⟨m2, by simp [h1], h2, h3⟩
def wA (x : Inst) (d : zi) : Option zi := if (xQ x d).2 < 0 then some (x5 d (xQ x d).1) else none
theorem Zdo {x : Inst} {d : zi} (hb : (xQ x d).2 < 0) : (xQ x d).1 ∈ uu d ∧ Zr x d (xQ x d).1 < 0 ∧ xP x d (zZ d (xQ x d).1).1 ∧ xP x d (zZ d (xQ x d).1).2 := by
 rcases Zdn x d (uu d) (Z3, 0) with e | ⟨m, h1, h2, h3⟩
 ·unfold xQ at hb; rw [e] at hb; cases hb
 ·unfold xQ at hb ⊢
  rw [h2] at hb ⊢
  exact ⟨h1, hb, h3⟩
theorem Zdp {x : Inst} {l : List Stop} (h : SOk x l) (h0 : arc x 0 0 = 0) {d e : zi} (g : SG x l d) (hs : wA x d = some e) : SG x l e ∧ zU x e < zU x d ∧ e.length ≤ d.length := by
 unfold wA at hs
 split at hs
 ·rename_i hb
  cases hs
  obtain ⟨h1, h2, h3⟩ := Zdo hb
  have hm := (Vx h1).1
  refine ⟨⟨(Zk4 h h0 g hm).1 h3, (Zdi hm).trans g.perm⟩, ?_, ZkY _ _⟩
  rw [ZkZ hm h0]; omega
 ·cases hs
theorem Zdq {x : Inst} {l : List Stop} (h : SOk x l) (h0 : arc x 0 0 = 0) : ZcV x (wA x) (SG x l) := by
 intro d g
 have hv := g.mv h
 have hl : ∀ a, tlen d a ≤ 1000 := by
  intro a
  unfold tlen
  rw [List.getD_eq_getElem?_getD]
  cases hq : d[a]? with
  | none => simp
  | some l => exact hv.t l (List.mem_of_getElem? hq)
 have hd1 : (wA x d).isSome = decide ((xQ x d).2 < 0) := by
  unfold wA
  split
  ·rename_i q; simp [q]
  ·rename_i q; simp [q]
 refine ⟨_, _, _, _, _, _, by rw [hd1]; exact ZkT x d h.arc hv, fun e he => ⟨?_, (Zdp h h0 g he).1⟩⟩
 unfold wA at he
 split at he
 ·rename_i hb
  cases he
  obtain ⟨h1, -, -⟩ := Zdo hb
  obtain ⟨h1, h2, h3⟩ := Vx h1
  have := hl (xQ x d).1.a
  have := hl (xQ x d).1.b
  exact ZkU x d _ hv.n hv.t h1 (by omega) (by omega)
 ·cases he
theorem Xs {x : Inst} {l : List Stop} (h : SOk x l) (h0 : arc x 0 0 = 0) : ∀ (n : Nat) (d : zi), SG x l d → SG x l (xM (wA x) n d) ∧ zU x (xM (wA x) n d) ≤ zU x d ∧ (xM (wA x) n d).length ≤ d.length
 | 0, d, g => ⟨g, Int.le_refl _, Nat.le_refl _⟩
 | n + 1, d, g => by
  unfold xM
  cases hs : wA x d with
  | none => exact ⟨g, Int.le_refl _, Nat.le_refl _⟩
  | some e =>
   obtain ⟨a, b, c⟩ := Zdp h h0 g hs
   obtain ⟨a', b', c'⟩ := Xs h h0 n e a
   exact ⟨a', by simp only; omega, by simp only; omega⟩
open Go Go.Proofs Hp
theorem Zdr (x : Inst) : arc (zN x) 0 0 = 0 := by
 have h1 : (zN x).dist[0]? = some (xh x (x.cust.take 6).length 0) := by
  unfold zN
  rw [List.getElem?_map, List.getElem?_range (by omega)]; rfl
 have h2 : (xh x (x.cust.take 6).length 0)[0]? = some 0 := by
  unfold xh
  rw [List.getElem?_map, List.getElem?_range (by omega)]; rfl
 unfold arc
 split
 ·rfl
 ·rw [List.getD_eq_getElem?_getD, List.getD_eq_getElem?_getD]
  show (((zN x).dist[0]?).getD [])[0]?.getD 0 = 0
  rw [h1]
  show ((xh x (x.cust.take 6).length 0)[0]?).getD 0 = 0
  rw [h2]; rfl
theorem Zds {x : Inst} {l : List Stop} (h : jB x l = 0) : ∀ s ∈ l, zJ x [s] = 0 := by
 unfold jB at h
 intro s hs
 cases hf : l.find? (fun s => zJ x [s] != 0) with
 | some s2 =>
  have := List.find?_some hf
  rw [hf] at h
  simp only at h
  rw [h] at this; simp at this
 | none =>
  have := List.find?_eq_none.1 hf s hs
  simpa using this
theorem Zk5 {x : Inst} {l : List Stop} (h : SOk x l) (hf : jB x l = 0) : ∀ t ∈ xI x l, zJ x t = 0 := by
 have key : ∀ (ps : List Pr) (st : zi × Int), (∀ t ∈ st.1, t.length ≤ 1 ∨ zJ x t = 0) → ∀ t ∈ (ps.foldl (qv x) st).1, t.length ≤ 1 ∨ zJ x t = 0 := by
  intro ps
  induction ps with
  | nil => intro st h; exact h
  | cons p ps ih =>
   intro st hst
   rw [List.foldl_cons]
   refine ih _ fun t ht => ?_
   unfold qv YN at ht
   generalize vg st.1 p.a = i at ht
   generalize vg st.1 p.b = k at ht
   generalize st.1.getD i [] = a at ht
   generalize st.1.getD k [] = b at ht
   cases hc : yX x st.2 p i k a b with
   | false => rw [hc] at ht; exact hst t ht
   | true =>
    rw [hc] at ht
    simp only [cond_true] at ht
    unfold yX at hc
    simp only [Bool.and_eq_true, decide_eq_true_eq] at hc
    rcases List.mem_or_eq_of_mem_set ht with ht | ht
    ·rcases List.mem_or_eq_of_mem_set ht with ht | ht
     ·exact hst t ht
     ·rw [ht]; exact .inr hc.2
    ·rw [ht]; exact .inl (by simp)
 intro t ht
 obtain ⟨-, hp, -, hne⟩ := h.join
 have hs := vM ht
 have h1 := key (qx x (l.map fun s : Stop => s.c)) (l.map fun s => [s], (l.length : Int)) (fun t ht => by obtain ⟨s, _, rfl⟩ := List.mem_map.1 ht; simp) t (List.mem_filter.1 ht).1
 rcases h1 with h1 | h1
 ·have := hne t ht
  match t, h1, this with
  | [s], _, _ => exact Zds hf s (hp.subset (hs.subset (by simp)))
 ·exact h1
theorem VF {x : Inst} {l : List Stop} (h : SOk x l) (hf : jB x l = 0) : ∀ d ∈ uX x l, SG x l d := by
 intro d hd
 unfold uX at hd
 simp only [List.cons_append, List.nil_append, List.mem_cons] at hd
 rcases hd with rfl | rfl | hd
 ·exact ⟨Zk5 h hf, h.join.2.1⟩
 ·refine ⟨fun t ht => ?_, by rw [h.apart.2.1]⟩
  obtain ⟨s, hs, rfl⟩ := List.mem_map.1 ht
  exact Zds hf s hs
 ·cases hall : (qD x l).2 with
  | false => rw [hall] at hd; simp at hd
  | true =>
   rw [hall] at hd
   simp at hd; subst hd
   obtain ⟨r, hp⟩ := h.regret
   exact ⟨((xL x _).1 r.may).1, hp hall⟩
def j7 (x : Inst) (b : Int) (d : zi) : zi := xM (wA x) b.toNat d
def qL (x : Inst) (b : Int) (l : List Stop) : zi × Int := j4 x (jB x l) (vR x (j7 x b) l)
theorem Zk6 {x : Inst} {l : List Stop} (h : SOk x l) (h0 : arc x 0 0 = 0) (hf : jB x l = 0) {b : Int} (hb : b ≤ 9223372036854775807) : Zc5 x b (j7 x b) (uX x l) := by
 intro d hd
 have g := VF h hf d hd
 obtain ⟨g2, -, -⟩ := Xs h h0 b.toNat d g
 have o := g.ok h
 refine ⟨⟨_, ZcW x d b (wA x) (SG x l) hb o.n o.t (fun _ => g) (Zdq h h0)⟩, g2.ok h, ?_⟩
 have := (g2.len h).1
 show (xM (wA x) b.toNat d).flatten.length ≤ 1048576
 omega
theorem Zk7 {x : Inst} {l : List Stop} (h : SOk x l) (h0 : arc x 0 0 = 0) {b : Int} (hb : b ≤ 9223372036854775807) : Pure Tryz.prog 126 [.agg (zA x), L l, I b] (.tup [.agg [L (qL x b l).1], I (qL x b l).2]) :=
 ZkE x l b _ h fun hf => Zk6 h h0 hf hb
theorem Zdt {x : Inst} {l : List Stop} (h : SOk x l) (h0 : arc x 0 0 = 0) (hf : jB x l = 0) (b : Int) : ∀ d ∈ vR x (j7 x b) l, SG x l d := by
 have hb := VF h hf
 have hi := fun d g => (Xs h h0 b.toNat d g).1
 intro d hd
 unfold vR at hd
 unfold uX at hb
 simp only [List.cons_append, List.nil_append, List.mem_cons] at hd hb
 rcases hd with rfl | rfl | rfl | hd
 ·exact hb _ (.inr (.inl rfl))
 ·exact hi _ (hb _ (.inl rfl))
 ·exact hi _ (hb _ (.inr (.inl rfl)))
 ·cases hall : (qD x l).2 with
  | false => rw [hall] at hd; simp at hd
  | true =>
   rw [hall] at hd
   simp at hd; subst hd
   exact hi _ (hb _ (.inr (.inr (by rw [hall]; simp))))
theorem Zdu (x : Inst) : ∀ (ds : List zi) (st : zi × Int × Bool), (st.2.2 = true → (ds.foldl (jC x) st).2.2 = true ∧ (ds.foldl (jC x) st).2.1 ≤ st.2.1) ∧ ∀ d ∈ ds, yv x d = 0 → (ds.foldl (jC x) st).2.2 = true ∧ (ds.foldl (jC x) st).2.1 ≤ W (zU x d)
 | [], st => ⟨fun e => ⟨e, Int.le_refl _⟩, by simp⟩
 | d :: ds, st => by
  rw [List.foldl_cons]
  obtain ⟨h1, h2⟩ := Zdu x ds (jC x st d)
  constructor
  ·intro e
   have : (jC x st d).2.2 = true ∧ (jC x st d).2.1 ≤ st.2.1 := by
    unfold jC
    split
    ·split
     ·rename_i hc
      rcases hc with hc | hc
      ·rw [e] at hc; cases hc
      ·exact ⟨rfl, Int.le_of_lt hc⟩
     ·exact ⟨e, Int.le_refl _⟩
    ·exact ⟨e, Int.le_refl _⟩
   obtain ⟨a, b⟩ := h1 this.1
   exact ⟨a, Int.le_trans b this.2⟩
  ·intro d2 hd hz
   rcases List.mem_cons.1 hd with rfl | hd
   ·have : (jC x st d2).2.2 = true ∧ (jC x st d2).2.1 ≤ W (zU x d2) := by
     unfold jC
     rw [if_pos hz]
     split
     ·exact ⟨rfl, Int.le_refl _⟩
     ·rename_i hc
      cases hq : st.2.2 with
      | false => exact absurd (.inl hq) hc
      | true => exact ⟨rfl, Int.not_lt.1 fun q => hc (.inr q)⟩
    obtain ⟨a, b⟩ := h1 this.1
    exact ⟨a, Int.le_trans b this.2⟩
   ·exact h2 d2 hd hz
theorem Zdv {x : Inst} {e : Int} {ds : List zi} (he : e = 0) {d : zi} (hd : d ∈ ds) (hz : yv x d = 0) : (j4 x e ds).2 = 0 ∧ W (zU x (j4 x e ds).1) ≤ W (zU x d) := by
 obtain ⟨h1, h2⟩ := (Zdu x ds ([], 0, false)).2 d hd hz
 change (wO x ds).2.2 = true at h1
 change (wO x ds).2.1 ≤ W (zU x d) at h2
 unfold j4
 rw [if_pos he, h1]
 refine ⟨rfl, ?_⟩
 rcases VC x ds ([], 0, false) h1 with q | ⟨d2, g1, g2, g3⟩
 ·have : (wO x ds).2.2 = false := by unfold wO; rw [q]
  rw [this] at h1; cases h1
 ·have : wO x ds = (d2, W (zU x d2), true) := g3
  rw [this] at h2 ⊢; exact h2
theorem Zdw {x : Inst} {e : Int} {ds : List zi} (h : (j4 x e ds).2 ≠ 0) : (j4 x e ds).1 = [] := by
 unfold j4 at h ⊢
 by_cases he : e = 0
 ·rw [if_pos he] at h ⊢
  cases hz : (wO x ds).2.2 with
  | true => rw [hz] at h; exact absurd rfl h
  | false => rfl
 ·rw [if_neg he]
theorem Zdx (x : Inst) (imp : zi → zi) (l : List Stop) : qg l ∈ vR x imp l := by simp [vR]
section
variable {x : Inst} {l : List Stop} (h : SOk x l) (h0 : arc x 0 0 = 0) (b : Int)
include h h0
theorem Zk8 : DayOk (qL x b l).1 ∧ (qL x b l).1.length ≤ 1000 ∧ (qL x b l).1.flatten.length ≤ 1000 := by
 by_cases he : (qL x b l).2 = 0
 ·obtain ⟨hf, hm, -⟩ := Zdj he
  have g := Zdt h h0 hf b _ hm
  exact ⟨g.ok h, (g.len h).2, (g.len h).1⟩
 ·have : (qL x b l).1 = [] := Zdw he
  rw [this]; exact ⟨⟨by simp, by simp, by simp⟩, by simp, by simp⟩
theorem Xt (he : (qL x b l).2 = 0) : jB x l = 0 ∧ yv x (qL x b l).1 = 0 ∧ (qL x b l).1.flatten.Perm l ∧ (yv x (qg l) = 0 → W (zU x (qL x b l).1) ≤ W (zU x (qg l))) := by
 obtain ⟨hf, hm, hz⟩ := Zdj he
 have g := Zdt h h0 hf b _ hm
 exact ⟨hf, hz, g.perm, fun q => (Zdv hf (Zdx x _ l) q).2⟩
omit h0 in
theorem Zk9 (he : (qL x b l).2 ≠ 0) : (qL x b l).1 = [] ∧ (jB x l ≠ 0 ∨ x.veh < l.length) := by
 refine ⟨Zdw he, ?_⟩
 by_cases hf : jB x l = 0
 ·refine .inr ?_
  by_cases hv : x.veh < l.length
  ·exact hv
  ·refine absurd (Zdv hf (Zdx x (j7 x b) l) ?_).1 he
   have g := VF h hf (qg l) (by simp [uX])
   refine (xL x _).2 ⟨g.may, by rw [h.apart.2.1]; exact h.nd, ?_⟩
   rw [Vr]; omega
 ·exact .inl hf
end
open Go
structure Visit where
 d : Int
 q : Int
 deriving DecidableEq
instance : Inhabited Visit := ⟨⟨0, 0⟩⟩
instance : Enc Visit := ⟨fun s => [I s.d, I s.q], 2, fun _ => rfl, fun _ => rfl⟩
@[simp] theorem Zrq (s : Visit) : Enc.enc s = [I s.d, I s.q] := rfl
@[simp high] theorem Zrr (l : List Visit) : (l.flatMap Enc.enc).length = l.length * 2 := jO l
@[simp high] theorem Zrs (l : List Visit) : (l.flatMap Enc.enc).take (l.length * 2) = l.flatMap Enc.enc := uO l
def told : Nat → List zi → List (Stop × Nat)
 | _, [] => []
 | i, d :: ds => d.flatten.map (·, i) ++ told (i + 1) ds
def QZ (x : Stop × Nat) : List PV := [.agg [I x.1.c, I x.1.q, I x.2]]
theorem Zla (p : zx) : Pure Tryz.prog 240 [.agg [L p]] (.fn (.func 259) [] [.ip [L p]]) := by
 refine zv Tryz.func240 Tryz.ntmps240 Tryz.results240 fun S nx hd => ?_
 refine za (zb ?_)
 intro v0
 refine za (zb ?_)
 refine jZ 0 rfl ?_
 exact zg (zk hd (by simp; rfl) rfl)
theorem Zlb (p : zx) (hp : p.length ≤ 1048576) (hd : ∀ d ∈ p, d.length ≤ 1048576) (ht : ∀ d ∈ p, ∀ t ∈ d, t.length ≤ 1048576) : Ze Tryz.prog 259 [.ip [L p]] ((told 0 p).map QZ) := by
 have yieldX : ∀ (pre rest : List (Stop × Nat)) (x : Stop × Nat), told 0 p = pre ++ x :: rest → ((told 0 p).map QZ)[pre.length]? = some (QZ x) := by
  intro pre rest x e; rw [e]; simp
 refine Qy Tryz.func259 (by rfl) rfl Tryz.ntmps259 (congrArg Array.toList Tryz.results259) (by simp) fun l V keep nx J hJd hY A0 hA0 => ?_
 refine za (zb ?_)
 refine zj (jl (σ := Nat × Store × List (Stop × Nat)) (fun s => s.1 ≤ p.length ∧ J s.2.2.length s.2.1 ∧ told 0 p = s.2.2 ++ told s.1 (p.drop s.1)) (fun s => [(0, jg l), (10, L p), (11, I p.length), (12, I s.1)]) (fun s => s.2.1) (fun s => []) (fun s => p.length - s.1) (zP (0, A0, []) [] (by simp [hA0]) (by simp) rfl (by simp)) ?_)
 rintro ⟨a, A, pre⟩ ⟨ha, hJ, hr⟩
 simp only at ha hJ hr ⊢
 refine za (zb ?_)
 refine za (zr rfl (fun hc => ?_) (fun hc => ?_))
 ·simp at hc
  obtain ⟨d, tl, a1, a2, a3, e0⟩ := zE rfl p a hc
  have hdm := List.mem_of_getElem? a1
  have hdl := hd d hdm
  rw [a2] at hr
  simp only [told] at hr
  refine zh (za (zj (za (ze [] (zm e0 hc) ?_))))
  intro v0
  refine za (zb ?_)
  refine zj (jl (σ := Nat × Store × List (Stop × Nat)) (fun s => s.1 ≤ d.length ∧ J s.2.2.length s.2.1 ∧ told 0 p = s.2.2 ++ ((d.drop s.1).flatten.map (·, a) ++ told (a + 1) (p.drop (a + 1)))) (fun s => [(0, jg l), (3, I a), (10, L p), (11, I p.length), (12, I a), (18, L d), (19, I d.length), (20, I s.1)]) (fun s => s.2.1) (fun s => []) (fun s => d.length - s.1) (zP (0, A, pre) [_] (by simp [hJ, hr]) (by simp) rfl rfl) ?_)
  rintro ⟨b, A, pre⟩ ⟨hb, hJ, hr⟩
  simp only at hb hJ hr ⊢
  refine za (zb ?_)
  refine za (zr rfl (fun hc2 => ?_) (fun hc2 => ?_))
  ·simp at hc2
   obtain ⟨t, tl2, b1, b2, b3, e2⟩ := zE rfl d b hc2
   have htl := ht d hdm t (List.mem_of_getElem? b1)
   rw [b2] at hr
   simp only [List.flatten_cons, List.map_append, List.append_assoc] at hr
   refine zh (za (zj (za (ze [] (zm e2 hc2) ?_))))
   intro v1
   refine za (zb ?_)
   refine zj (jl (σ := Nat × Store × List (Stop × Nat)) (fun s => s.1 ≤ t.length ∧ J s.2.2.length s.2.1 ∧ told 0 p = s.2.2 ++ ((t.drop s.1).map (·, a) ++ ((d.drop (b + 1)).flatten.map (·, a) ++ told (a + 1) (p.drop (a + 1))))) (fun s => [(0, jg l), (3, I a), (10, L p), (11, I p.length), (12, I a), (18, L d), (19, I d.length), (20, I b), (25, L t), (26, I t.length), (27, I s.1)]) (fun s => s.2.1) (fun s => []) (fun s => t.length - s.1) (zP (0, A, pre) [_] (by simp [hJ, hr]) (by simp) rfl rfl) ?_)
   rintro ⟨j, A, pre⟩ ⟨hj, hJ, hr⟩
   simp only at hj hJ hr ⊢
   refine za (zb ?_)
   refine za (zr rfl (fun hc3 => ?_) (fun hc3 => ?_))
   ·simp at hc3
    obtain ⟨s, tl3, c1, c2, c3, _, e3⟩ := el 2 rfl t j hc3
    rw [c2] at hr
    simp only [List.map_cons, List.cons_append] at hr
    refine zh (za (zj (za (ze [] (zm e3 hc3) ?_))))
    intro v2
    refine za (zT [] (by rfl) (by rfl) fun K Gc Gh hK hGc hGh X hX0 hX => ?_)
    simp -implicitDefEqProofs [hX0, hX]
    try clear hX0 hX X
    refine hGh _ _ _ _ _ fun hsuf => YD rfl rfl rfl (hY _ _ _ _ (yieldX pre _ (s, a) hr) hJ) ?_
    rintro _ ⟨A', hJ', rfl⟩
    refine ⟨_, _, rfl, ?_⟩
    clear hGc hGh
    clear Gc Gh
    refine zQ hsuf (D := []) (by rfl) fun Gc Gh hGc hGh X hX0 hX => ?_
    simp -implicitDefEqProofs [hX0, hX]
    try clear hX0 hX X
    refine hK _ _ _ ?_
    clear hK hGc hGh
    clear K Gc Gh
    refine zn rfl (zh (zb ?_))
    exact zp (j + 1, A', pre ++ [(s, a)]) [_] ⟨hc3, by simpa using hJ', by simp [hr]⟩ (by simp; omega) (by simp [zt j (by omega)]) rfl rfl
   ·simp at hc3
    have : j = t.length := by omega
    subst this
    simp only [List.drop_length, List.map_nil, List.nil_append] at hr
    refine zy (zb ?_)
    exact zp (b + 1, A, pre) [] ⟨hc2, hJ, hr⟩ (by simp; omega) (by simp [zt b (by omega)]) rfl (by simp)
  ·simp at hc2
   have : b = d.length := by omega
   subst this
   simp only [List.drop_length, List.flatten_nil, List.map_nil, List.nil_append] at hr
   refine zy (zb ?_)
   exact zp (a + 1, A, pre) [] ⟨hc, hJ, hr⟩ (by simp; omega) (by simp [zt a (by omega)]) rfl (by simp)
 ·simp at hc
  have : a = p.length := by omega
  subst this
  simp only [List.drop_length, told, List.append_nil] at hr
  refine zy (w9 (hJd _ _ hJ) rfl ?_)
  simpa [hr] using hJ
open Go
def yq (c : Int) (l : List (Stop × Nat)) : List Visit := (l.filter fun x => decide (x.1.c = c)).map fun x => ⟨x.2, x.1.q⟩
theorem Z5 (c : Int) (l m : List (Stop × Nat)) : yq c (l ++ m) = yq c l ++ yq c m := by simp [yq]
theorem Y2 (c : Int) (x : Stop × Nat) : yq c [x] = if x.1.c = c then [⟨x.2, x.1.q⟩] else [] := by
 by_cases h : x.1.c = c <;> simp [yq, h]
theorem Zdy (c : Int) (l : List (Stop × Nat)) : (yq c l).length ≤ l.length := by
 simp only [yq, List.length_map]; exact List.length_filter_le _ _
structure PlanOk (p : zx) : Prop where
 n : p.length ≤ 1048576
 d : ∀ d ∈ p, d.length ≤ 1048576
 t : ∀ d ∈ p, ∀ t ∈ d, t.length ≤ 1048576
 told : (told 0 p).length ≤ 1048576
theorem Zlc (p : zx) (c : Int) (hp : PlanOk p) : Pure Tryz.prog 207 [.agg [L p], I c] (L (yq c (told 0 p))) := by
 have hlen := hp.told
 refine zv Tryz.func207 Tryz.ntmps207 Tryz.results207 fun S nx hd => ?_
 refine za (zb ?_)
 intro v0 v1
 refine za (zb ?_)
 intro v2
 repeat apply za
 refine zb ?_
 refine zz (Zla p) ?_
 refine qM 2 0 85 2 rfl rfl fun v3 => ?_
 refine zj (YE (xs := (told 0 p).map QZ) (σ := List Visit × Nat) (fun i s => s.1 = yq c ((told 0 p).take i) ∧ s.1.length ≤ i ∧ i ≤ (told 0 p).length) [(3, .ptr (nx + 1) v1 0), (5, .ptr (nx + 2) v2 0)] (fun _ => S)
  (fun (out, v3) => [.cells v0 38 [L p], .cells v1 3 [I c], .cells v2 26 [.sl (nx + 3) v3 2 0 out.length], .cells v3 85 (out.flatMap Enc.enc)]) ([], v3)
  (Zlb p hp.n hp.d hp.t) rfl (by intro x hx; obtain ⟨y, _, rfl⟩ := List.mem_map.1 hx; rfl) (by decide) (by simp) ⟨by simp [yq], by simp, by simp⟩ rfl (by simp) (by simp) ?_ ?_)
 ·rintro l i ⟨out, v3⟩ more x ⟨ho, hl, hi⟩ hx
  simp only at ho hl hi ⊢
  rw [List.getElem?_map] at hx
  obtain ⟨y, hy, rfl⟩ := Option.map_eq_some_iff.1 hx
  obtain ⟨s, d⟩ := y
  obtain ⟨hil, hyi⟩ := List.getElem?_eq_some_iff.1 hy
  have htk : (told 0 p).take (i + 1) = (told 0 p).take i ++ [(s, d)] := by rw [List.take_succ_eq_append_getElem hil, hyi]
  refine zT [] (by rfl) (by rfl) fun K Gc Gh hK hGc hGh X hX0 hX => ?_
  simp -implicitDefEqProofs [hX0, hX, QZ]
  try clear hX0 hX X
  intro v4
  refine hK _ _ _ ?_
  clear hK hGc hGh
  clear K Gc Gh
  refine zj (za (zb ?_))
  refine zr rfl (fun hc => ?_) (fun hc => ?_)
  ·simp at hc
   refine zb ?_
   refine ⟨by omega, ?_⟩
   simp only [qT]
   exact xE (out ++ [⟨d, s.q⟩], v3 + 1) [_] ⟨by rw [htk, Z5, Y2, if_pos hc, ho], by simp; omega, by omega⟩ rfl (by simp; rfl)
  ·simp at hc
   refine zh ?_
   simp only [qT]
   exact xE (out, v3) [_] ⟨by rw [htk, Z5, Y2, if_neg hc, ho, List.append_nil], Nat.le_succ_of_le hl, by omega⟩ rfl (by simp; rfl)
 ·rintro ⟨out, v3⟩ ⟨ho, hl, -⟩
  simp only [List.length_map, List.take_length] at ho hl ⊢
  refine za (zb ?_)
  refine yc 3 rfl ?_
  exact zg (zk hd (by simp; rfl) (by rw [ho]; rfl))
open Go
def jR (n : Nat) (d : Int) : Nat := if 0 ≤ d ∧ d < 64 then n ||| 2 ^ d.toNat else n
theorem Zdz (n : Nat) (d : Int) (hn : n < 2 ^ 64) : jR n d < 2 ^ 64 := by
 unfold jR; split
 ·exact Nat.or_lt_two_pow hn (Nat.pow_lt_pow_right (by decide) (by omega))
 ·exact hn
def VG (l : List Int) : Nat := l.foldl jR 0
theorem VH (d : Int) : Pure Tryz.prog 235 [I d] (B (decide (0 ≤ d ∧ d < 64))) := by
 refine zv Tryz.func235 Tryz.ntmps235 Tryz.results235 fun S nx hd => ?_
 refine za (zb ?_)
 by_cases h1 : 0 ≤ d
 ·refine za (ze [(2, 5)] h1 ?_)
  exact zg (zk hd (by simp; rfl) (by simp [h1, zq]))
 ·refine za (ze [(2, 5)] (zm h1 zL) ?_)
  exact zg (zk hd (by simp; rfl) (by simp [h1, zq]))
theorem Zld (d : Nat) (h : d < 64) : IntKind.u64.wrap (2 ^ d) = ((2 ^ d : Nat) : Int) := by
 have h2 : (2 : Nat) ^ d < 2 ^ 64 := Nat.pow_lt_pow_right (by decide) h
 have h3 : ((2 ^ d : Nat) : Int) < 2 ^ 64 := by exact_mod_cast h2
 have h4 : (2 : Int) ^ d = ((2 ^ d : Nat) : Int) := by simp
 rw [h4]
 generalize (2 ^ d : Nat) = m at h3 ⊢
 simp only [IntKind.wrap, IntKind.bits, IntKind.signed]
 simp
 omega
theorem Zle (n : Nat) (d : Int) (hn : n < 2 ^ 64) : Pure Tryz.prog 192 [U n, I d] (U (jR n d)) := by
 refine zv Tryz.func192 Tryz.ntmps192 Tryz.results192 fun S nx hd => ?_
 refine za (zb ?_)
 repeat apply za
 refine zb ?_
 refine zz (VH d) ?_
 by_cases h : 0 ≤ d ∧ d < 64
 ·repeat apply za
  refine zn (by simp [h]) ?_
  refine zh ?_
  have h1 : ¬ d < 0 := by omega
  have h2 : min d.toNat 64 = d.toNat := by omega
  have h3 := Zld d.toNat (by omega)
  have h4 : bits BinOp.or IntKind.u64 (n : Int) (2 ^ d.toNat) = ((n ||| 2 ^ d.toNat : Nat) : Int) := by
   have := bits_or_u64_nat n (2 ^ d.toNat) (by omega) (by have : (2 : Nat) ^ d.toNat < 2 ^ 64 := Nat.pow_lt_pow_right (by decide) (by omega); omega)
   simpa using this
  refine za (zT [] (by rfl) (by rfl) fun K Gc Gh hK hGc hGh X hX0 hX => ?_)
  simp -implicitDefEqProofs [hX0, hX, h1, h2, IntKind.bits, h3, h4]
  try clear hX0 hX X
  refine hK _ _ _ ?_
  clear hK hGc hGh
  clear K Gc Gh
  exact zg (zk hd (by simp; rfl) (by simp [jR, h, zq]))
 ·repeat apply za
  refine zo (by simp; omega) ?_
  refine za (zb ?_)
  exact zg (zk hd (by simp; rfl) (by simp [jR, h, zq]))
open Go
structure CustFits (c : Cust) : Prop where
 rate : 0 ≤ c.rate ∧ c.rate ≤ 2147483648
 size : 0 ≤ c.size ∧ c.size ≤ 2147483648
 start : 0 ≤ c.start ∧ c.start ≤ 2147483648
def jG (q : Int) : Bool := decide (q < 0 ∨ 2147483648 < q)
def yt (size rate : Int) : Int → List Int → Option (List Int)
 | _, [] => some []
 | there, q :: l => if size < there + q ∨ there + q < rate then none else (yt size rate (there + q - rate) l).map ((there + q - rate) :: ·)
def yK (c : Cust) (q : List Int) : List Int × Int :=
 if q.any jG then ([], 1) else match yt c.size c.rate c.start q with
 | none => ([], 8)
 | some l => (l, 0)
theorem ZdA (c : Cust) {S : Store} {nx : Nat} (hd : zV nx S) : Spec Tryz.prog 205 [.agg (zY c)] S (fun p S' => ∃ v, p = .fn (.func 239) [] [.ptr (nx + 1) v 0, .ip (zY c)] ∧ S' = S.set (nx + 1) (.cells v 3 [I c.start])) := by
 refine uh hd Tryz.func205 Tryz.ntmps205 Tryz.results205 ?_
 refine za (zb ?_)
 intro v0
 refine za (zb ?_)
 intro v1
 refine za (zb ?_)
 refine jZ 0 rfl ?_
 refine zg ⟨_, _, rfl, ⟨v1, by simp [zq], rfl⟩, YB (j := 1) hd (by simp)⟩
theorem ZdB (c : Cust) (q there : Int) {S : Store} {id v : Nat} (hid : S id = .cells v 3 [I there]) (h1 : -4611686018427387904 ≤ there + q ∧ there + q ≤ 4611686018427387904) (h2 : -4611686018427387904 ≤ there + q - c.rate ∧ there + q - c.rate ≤ 4611686018427387904) :
  Spec Tryz.prog 239 [I q, .ptr id v 0, .ip (zY c)] S (fun p S' => p = .tup [I (there + q), I (there + q - c.rate)] ∧ S' = S.set id (.cells v 3 [I (there + q - c.rate)])) := by
 refine yT Tryz.func239 Tryz.ntmps239 Tryz.results239 fun nx hd => ?_
 have hlt : id < nx := by
  rcases Nat.lt_or_ge id nx with h | h
  ·exact h
  ·rw [hd id h] at hid; cases hid
 have hge : ¬ nx ≤ id := by omega
 have hE : ∀ obs, ext S nx obs id = .cells v 3 [I there] := fun obs => (zH hlt).trans hid
 have hE2 : ∀ obs x, ext (S.set id x) nx obs id = x := fun obs x => (zH hlt).trans (Store.set_same _ _ _)
 have hd2 : ∀ x, zV nx (S.set id x) := fun x i hi => by rw [Store.set_other _ _ _ _ (by omega)]; exact hd i hi
 have w1 : IntKind.i64.wrap (there + q) = there + q := wr _ (by omega) (by omega)
 have w2 : IntKind.i64.wrap (there + q - c.rate) = there + q - c.rate := wr _ (by omega) (by omega)
 refine za (zb ?_)
 refine za (ze [] (zm hE w1) ?_)
 refine za (ze [] (zF hE hge w2) ?_)
 refine za (zB none (Row.pures [0, 1, 2, 3] .done) mixed hE2 ?_)
 refine zg ⟨_, _, rfl, ⟨rfl, rfl⟩, yb (hd2 _)⟩
theorem ZdC {size rate there q : Int} {l : List Int} {out : List Int} {r : Option (List Int)} (h : r = (yt size rate there (q :: l)).map (out ++ ·)) (hs : ¬ size < there + q) (hr : ¬ there + q < rate) :
  r = (yt size rate (there + q - rate) l).map ((out ++ [there + q - rate]) ++ ·) := by
 rw [h]
 simp only [yt, hs, hr, or_self, if_false, Option.map_map]
 congr 1
 funext x
 simp
theorem VI (c : Cust) (q : List Int) (hc : CustFits c) (hq : q.length ≤ 1048576) : Pure Tryz.prog 164 [.agg (zY c), L q] (.tup [L (yK c q).1, I (yK c q).2]) := by
 obtain ⟨hr, hsz, hst⟩ := hc
 refine zv Tryz.func164 Tryz.ntmps164 Tryz.results164 fun S nx hd => ?_
 refine za (zb ?_)
 intro v0
 repeat apply za
 refine zb ?_
 refine qj (nx := nx) (σ := Nat) (fun v0 => q.any jG = false) (fun v0 => [(1, L q), (2, .ptr nx v0 0)]) (fun _ => S) (fun v0 => [.cells v0 65 (zY c)]) ?_ ?_
 ·refine zj (zG (fun s : Nat => s ≤ q.length ∧ (q.take s).any jG = false) (fun k => [(1, L q), (2, .ptr nx v0 0), (14, L q), (15, I q.length), (16, I k)]) (fun _ => [.cells v0 65 (zY c)]) (fun s => q.length - s) 0 [] (by simp) (by simp) (by simp) ?_)
  rintro k ⟨hk, ho⟩
  refine za (zb ?_)
  refine za (zr rfl (fun hc => ?_) (fun hc => ?_))
  ·simp at hc
   obtain ⟨z, tl, a1, a2, a3, e0⟩ := zE rfl q k hc
   have bad : jG z = true → yK c q = ([], 1) := fun h => by
    have : q.any jG = true := by rw [List.any_eq_true]; exact ⟨z, List.mem_of_getElem? a1, h⟩
    simp [yK, this]
   refine zh (za (zj (za (ze [] (zm e0 hc) ?_))))
   by_cases h1 : z < 0
   ·refine za (ze [(2, 22)] (zm h1 zL) ?_)
    refine zo rfl (za (zb ?_))
    refine w8 4 rfl ?_
    exact zg (zk hd (by simp; rfl) (by rw [bad (by simp [jG, h1])]; rfl))
   by_cases h2 : (2147483648 : Int) < z
   ·refine za (ze [(2, 22)] (zm h1 h2) ?_)
    refine zo rfl (za (zb ?_))
    refine w8 4 rfl ?_
    exact zg (zk hd (by simp; rfl) (by rw [bad (by simp [jG, h2])]; rfl))
   refine za (ze [(2, 22)] (zm h1 h2) ?_)
   refine zn rfl (zh (zb ?_))
   exact zp (k + 1) [] ⟨hc, by rw [a3, List.any_append, ho]; simp [jG]; omega⟩ (by omega) (by simp [zt k (by omega)]) rfl (by simp)
  ·simp at hc
   obtain rfl : k = q.length := by omega
   rw [List.take_length] at ho
   exact zy (zP v0 [] ho (by simp) rfl (by simp))
 ·intro v0 hb
  have hq0 : ∀ z ∈ q, 0 ≤ z ∧ z ≤ 2147483648 := by
   intro z hz
   rw [List.any_eq_false] at hb
   have := hb z hz
   simp [jG] at this
   omega
  have hres : yK c q = match yt c.size c.rate c.start q with | none => ([], 8) | some l => (l, 0) := by simp [yK, hb]
  refine za (zT [] (by rfl) (by rfl) fun K Gc Gh hK hGc hGh X hX0 hX => ?_)
  simp -implicitDefEqProofs [hX0, hX]
  try clear hX0 hX X
  refine hGc _ _ _ _ _ _ _ fun hsuf => ((ZdA c jM).mono ?_).v
  rintro p T ⟨v1, rfl, rfl⟩
  refine ⟨_, _, YC _, ?_⟩
  clear hGc hGh
  clear Gc Gh
  refine zQ hsuf (D := []) (by rfl) fun Gc Gh hGc hGh X hX0 hX => ?_
  simp -implicitDefEqProofs [hX0, hX]
  clear hX0 hX X
  refine hK _ _ _ ?_
  clear hK hGc hGh
  clear K Gc Gh
  refine za (zb ?_)
  refine ⟨by omega, fun v2 => ?_⟩
  refine Zgo 3 0 rfl ?_
  simp only [List.take_zero, List.set_cons_succ, List.set_cons_zero, List.append_eq, List.cons_append, List.nil_append, List.length_cons, List.length_nil]
  repeat apply za
  refine zb ?_
  refine zj (zG (fun s : Nat × Int × List Int × Nat => s.1 ≤ q.length ∧ s.2.2.1.length = s.1 ∧ (0 ≤ s.2.1 ∧ s.2.1 ≤ 2147483648) ∧ yt c.size c.rate c.start q = (yt c.size c.rate s.2.1 (q.drop s.1)).map (s.2.2.1 ++ ·))
   (fun (k, there, out, v2) => [(2, .ptr nx v0 0), (8, .fn (.func 239) [] [.ptr (nx + 2) v1 0, .ip (zY c)]), (9, .sl (nx + 3) v2 1 0 out.length), (32, L q), (33, I q.length), (34, I k)])
   (fun (k, there, out, v2) => [.cells v0 65 (zY c), .dead, .cells v1 3 [I there], .cells v2 3 (out.flatMap Enc.enc)]) (fun s => q.length - s.1) (0, c.start, [], v2) [] ?_ (by simp) (by simp) ?_)
  ·refine ⟨by simp, by simp, hst, ?_⟩
   simp
  rintro ⟨k, there, out, v2⟩ ⟨hk, hol, hth, ho⟩
  simp only at hk hol hth ho ⊢
  refine za (zb ?_)
  refine za (zr rfl (fun hc => ?_) (fun hc => ?_))
  ·simp at hc
   obtain ⟨z, tl, a1, a2, a3, e0⟩ := zE rfl q k hc
   have hz := hq0 z (List.mem_of_getElem? a1)
   rw [a2] at ho
   refine zh (za (zj (za (ze [] (zm e0 hc) ?_))))
   refine za (zT [] (by rfl) (by rfl) fun K Gc Gh hK hGc hGh X hX0 hX => ?_)
   simp -implicitDefEqProofs [hX0, hX]
   try clear hX0 hX X
   refine hGc _ _ _ _ _ _ _ fun hsuf => ((ZdB c z there (id := nx + 2) (v := v1) (by simp) (by omega) (by omega)).mono ?_).v
   rintro p T ⟨rfl, rfl⟩
   refine ⟨_, _, yY _ (by omega) (by simp), ?_⟩
   clear hGc hGh
   clear Gc Gh
   refine zQ hsuf (D := []) (by rfl) fun Gc Gh hGc hGh X hX0 hX => ?_
   simp -implicitDefEqProofs [hX0, hX]
   clear hX0 hX X
   refine hK _ _ _ ?_
   clear hK hGc hGh
   clear K Gc Gh
   have bad : (c.size < there + z ∨ there + z < c.rate) → yK c q = ([], 8) := fun h => by
    rw [hres, ho]; simp only [yt, if_pos h, Option.map_none]
   by_cases h1 : c.size < there + z
   ·repeat apply za
    refine ze [(4, 48)] (zm h1 zL) ?_
    refine zo rfl (za (zb ?_))
    refine w8 4 rfl ?_
    exact zg (zk hd (by simp; rfl) (by rw [bad (.inl h1)]; rfl))
   by_cases h2 : there + z < c.rate
   ·repeat apply za
    refine ze [(4, 48)] (zm h1 h2) ?_
    refine zo rfl (za (zb ?_))
    refine w8 4 rfl ?_
    exact zg (zk hd (by simp; rfl) (by rw [bad (.inr h2)]; rfl))
   repeat apply za
   refine ze [(4, 48)] (zm h1 h2) ?_
   refine zn rfl (zh (zb ?_))
   refine ⟨by omega, ?_⟩
   refine zb ?_
   exact zp (k + 1, there + z - c.rate, out ++ [there + z - c.rate], v2 + 1) [] ⟨hc, by simp [hol], by dsimp only; omega, ZdC ho h1 h2⟩ (by simp; omega) (by simp [zt k (by omega)]) rfl (by simp)
  ·simp at hc
   obtain rfl : k = q.length := by omega
   rw [List.drop_length] at ho
   simp only [yt, Option.map_some, List.append_nil] at ho
   refine zy (za (zb ?_))
   refine yc 3 rfl ?_
   exact zg (zk hd (by simp; rfl) (by rw [hres, ho]; simp [zq]))
open Go
def j8 (rate size : Int) : List Int → List Int → Bool
 | z :: q, n :: l => decide (0 < z ∧ n + rate ≠ size) || j8 rate size q l
 | _, _ => false
def x6 (c : Cust) (q : List Int) : Int :=
 if (yK c q).2 ≠ 0 then (yK c q).2 else if c.rule ≠ 1 then 0 else if j8 c.rate c.size q (yK c q).1 then 9 else 0
def uv (c : Cust) (ns : List Int) : Int := W (c.hold * W ns.sum)
theorem Y3 (l : List Int) (x : Int) : (l ++ [x]).sum = l.sum + x := by simp
theorem VJ (c : Cust) (ns : List Int) (hn : ns.length ≤ 1048576) : Pure Tryz.prog 166 [.agg (zY c), L ns] (I (uv c ns)) := by
 refine zv Tryz.func166 Tryz.ntmps166 Tryz.results166 fun S nx hd => ?_
 refine za (zb ?_)
 intro v0
 refine za (zb ?_)
 repeat apply za
 refine zb ?_
 refine zj (zG (fun s : Nat => s ≤ ns.length) (fun k => [(2, .ptr nx v0 0), (5, I (W (ns.take k).sum)), (8, L ns), (9, I ns.length), (10, I k)]) (fun _ => [.cells v0 65 (zY c)]) (fun s => ns.length - s) 0 [] (by simp) (by simp) (by simp) ?_)
 rintro k hk
 refine za (zb ?_)
 refine za (zr rfl (fun hc => ?_) (fun hc => ?_))
 ·simp at hc
  obtain ⟨z, tl, a1, a2, a3, e0⟩ := zE rfl ns k hc
  refine zh (za (zj (za (ze [] (zm e0 hc) ?_))))
  refine zb ?_
  refine zb ?_
  have hw : W (W (ns.take k).sum + z) = W (ns.take (k + 1)).sum := by rw [a3, Y3, xD]
  exact zp (k + 1) [] hc (by omega) (by simp [zt k (by omega)]; exact hw) rfl (by simp)
 ·simp at hc
  obtain rfl : k = ns.length := by omega
  rw [List.take_length]
  refine zy (za (zb ?_))
  exact zg (zk hd (by simp; rfl) rfl)
theorem Zlf (c : Cust) (q : List Int) (hc : CustFits c) (hq : q.length ≤ 1048576) : Pure Tryz.prog 258 [.agg (zY c), L q] (I (x6 c q)) := by
 have hni := VI c q hc hq
 obtain ⟨hr, hsz, hst⟩ := hc
 refine zv Tryz.func258 Tryz.ntmps258 Tryz.results258 fun S nx hd => ?_
 refine za (zb ?_)
 intro v0
 repeat apply za
 refine zb ?_
 refine zz hni ?_
 by_cases he : (yK c q).2 = 0
 case neg =>
  refine za (ze [] he ?_)
  refine zo (by simp [he]) ?_
  refine za (zb ?_)
  exact zg (zk hd (by simp; rfl) (by simp [x6, he, zq]))
 refine za (ze [] he ?_)
 refine zn (by simp [he]) ?_
 refine zh ?_
 by_cases hru : c.rule = 1
 case neg =>
  repeat apply za
  refine ze [] hru ?_
  refine zo (by simp [hru]) ?_
  refine za (zb ?_)
  exact zg (zk hd (by simp; rfl) (by simp [x6, he, hru, zq]))
 repeat apply za
 refine ze [] hru ?_
 refine zn (by simp [hru]) ?_
 refine zh ?_
 have hres : x6 c q = if j8 c.rate c.size q (yK c q).1 then 9 else 0 := by simp [x6, he, hru]
 obtain ⟨l, hl, hq0⟩ : ∃ l, yt c.size c.rate c.start q = some l ∧ (yK c q).1 = l ∧ ∀ z ∈ q, 0 ≤ z ∧ z ≤ 2147483648 := by
  unfold yK at he ⊢
  split at he
  ·simp at he
  ·rename_i hb
   cases hrn : yt c.size c.rate c.start q with
   | none => simp [hrn] at he
   | some l =>
    refine ⟨l, rfl, by simp [hb], fun z hz => ?_⟩
    simp only [Bool.not_eq_true, List.any_eq_false] at hb
    have := hb z hz
    simp [jG] at this
    omega
 obtain ⟨hl1, hq0⟩ := hq0
 rw [hl1] at hres
 refine za (zT [] (by rfl) (by rfl) fun K Gc Gh hK hGc hGh X hX0 hX => ?_)
 simp -implicitDefEqProofs [hX0, hX]
 try clear hX0 hX X
 refine hGc _ _ _ _ _ _ _ fun hsuf => ((ZdA c jM).mono ?_).v
 rintro p T ⟨v1, rfl, rfl⟩
 refine ⟨_, _, YC _, ?_⟩
 clear hGc hGh
 clear Gc Gh
 refine zQ hsuf (D := []) (by rfl) fun Gc Gh hGc hGh X hX0 hX => ?_
 simp -implicitDefEqProofs [hX0, hX]
 clear hX0 hX X
 refine hK _ _ _ ?_
 clear hK hGc hGh
 clear K Gc Gh
 repeat apply za
 refine zb ?_
 refine zj (zG (fun s : Nat × Int => s.1 ≤ q.length ∧ (0 ≤ s.2 ∧ s.2 ≤ 2147483648) ∧ yt c.size c.rate s.2 (q.drop s.1) = some (l.drop s.1) ∧ j8 c.rate c.size q l = j8 c.rate c.size (q.drop s.1) (l.drop s.1))
  (fun (k, there) => [(2, .ptr nx v0 0), (7, .fn (.func 239) [] [.ptr (nx + 2) v1 0, .ip (zY c)]), (26, L q), (27, I q.length), (28, I k)])
  (fun (k, there) => [.cells v0 65 (zY c), .dead, .cells v1 3 [I there]]) (fun s => q.length - s.1) (0, c.start) [] ⟨by simp, hst, by simpa using hl, by simp⟩ (by simp) (by simp) ?_)
 rintro ⟨k, there⟩ ⟨hk, hth, hrn, ho⟩
 simp only at hk hth hrn ho ⊢
 refine za (zb ?_)
 refine za (zr rfl (fun hc => ?_) (fun hc => ?_))
 ·simp at hc
  obtain ⟨z, tl, a1, a2, a3, e0⟩ := zE rfl q k hc
  have hz := hq0 z (List.mem_of_getElem? a1)
  rw [a2] at hrn ho
  simp only [yt] at hrn
  split at hrn
  ·cases hrn
  rename_i hno
  obtain ⟨l2, hl2, hl3⟩ := Option.map_eq_some_iff.1 hrn
  rw [← hl3] at ho
  simp only [j8] at ho
  have hl4 : l.drop (k + 1) = l2 := by rw [← List.drop_drop, ← hl3]; rfl
  have hs1 : there + z - c.rate + c.rate = there + z := by omega
  rw [hs1] at ho
  refine zh (za (zj (za (ze [] (zm e0 hc) ?_))))
  refine za (zT [] (by rfl) (by rfl) fun K Gc Gh hK hGc hGh X hX0 hX => ?_)
  simp -implicitDefEqProofs [hX0, hX]
  try clear hX0 hX X
  refine hGc _ _ _ _ _ _ _ fun hsuf => ((ZdB c z there (id := nx + 2) (v := v1) (by simp) (by omega) (by omega)).mono ?_).v
  rintro p T ⟨rfl, rfl⟩
  refine ⟨_, _, yY _ (by omega) (by simp), ?_⟩
  clear hGc hGh
  clear Gc Gh
  refine zQ hsuf (D := []) (by rfl) fun Gc Gh hGc hGh X hX0 hX => ?_
  simp -implicitDefEqProofs [hX0, hX]
  clear hX0 hX X
  refine hK _ _ _ ?_
  clear hK hGc hGh
  clear K Gc Gh
  by_cases h1 : 0 < z
  ·by_cases h2 : there + z = c.size
   ·refine za (ze [(2, 40)] (zm h1 h2) ?_)
    refine zn (by simp [h2]) ?_
    refine zh (zb ?_)
    exact zp (k + 1, there + z - c.rate) [] ⟨hc, by dsimp only; omega, by rw [hl4]; exact hl2, by rw [ho, hl4, decide_eq_false (by omega), Bool.false_or]⟩ (by simp; omega) (by simp [zt k (by omega)]) rfl (by simp [h2])
   ·refine za (ze [(2, 40)] (zm h1 h2) ?_)
    refine zo (by simp [h2]) ?_
    refine za (zb ?_)
    exact zg (zk hd (by simp; rfl) (by rw [hres, ho]; simp [h1, h2, zq]))
  ·refine za (ze [(2, 40)] (zm h1 zL) ?_)
   refine zn rfl (zh (zb ?_))
   exact zp (k + 1, there + z - c.rate) [] ⟨hc, by dsimp only; omega, by rw [hl4]; exact hl2, by rw [ho, hl4, decide_eq_false (by omega), Bool.false_or]⟩ (by simp; omega) (by simp [zt k (by omega)]) rfl (by simp)
 ·simp at hc
  obtain rfl : k = q.length := by omega
  rw [List.drop_length] at ho
  simp only [j8] at ho
  refine zy (za (zb ?_))
  exact zg (zk hd (by simp; rfl) (by rw [hres, ho]; rfl))
def vT (a b : Int) : Int := if a + b < -9223372036854775808 then -9223372036854775808 else if 9223372036854775807 < a + b then 9223372036854775807 else a + b
theorem Zlg (a b : Int) (ha : z8 a) (hb : z8 b) : Pure Tryz.prog 257 [I a, I b] (if -9223372036854775808 ≤ a + b ∧ a + b ≤ 9223372036854775807 then .tup [I (a + b), B true] else .tup [I 0, B false]) := by
 unfold z8 at ha hb
 refine zv Tryz.func257 Tryz.ntmps257 Tryz.results257 fun S nx hd => ?_
 refine za (zb ?_)
 by_cases h : -9223372036854775808 ≤ a + b ∧ a + b ≤ 9223372036854775807
 ·have w1 : IntKind.i64.wrap (a + b) = a + b := wr _ h.1 h.2
  refine za (ze [] w1 ?_)
  by_cases h1 : b < 0
  ·have h2 : a + b < a := by omega
   repeat apply za
   refine ze [] (zm h1 h2) ?_
   refine zn (by simp) ?_
   refine zh (za (zb ?_))
   exact zg (zk hd (by simp; rfl) (by simp [h, zq]))
  ·have h2 : ¬ a + b < a := by omega
   repeat apply za
   refine ze [] (zm h1 h2) ?_
   refine zn (by simp) ?_
   refine zh (za (zb ?_))
   exact zg (zk hd (by simp; rfl) (by simp [h, zq]))
 ·by_cases h0 : a + b < -9223372036854775808
  ·have w1 : IntKind.i64.wrap (a + b) = a + b + 18446744073709551616 := by rw [IntKind.wrap_i64]; omega
   have h1 : b < 0 := by omega
   have h2 : ¬ a + b + 18446744073709551616 < a := by omega
   refine za (ze [] w1 ?_)
   repeat apply za
   refine ze [] (zm h1 h2) ?_
   refine zo (by simp) ?_
   refine za (zb ?_)
   exact zg (zk hd (by simp; rfl) (by simp only [h, if_false]; rfl))
  ·have w1 : IntKind.i64.wrap (a + b) = a + b - 18446744073709551616 := by rw [IntKind.wrap_i64]; omega
   have h1 : ¬ b < 0 := by omega
   have h2 : a + b - 18446744073709551616 < a := by omega
   refine za (ze [] w1 ?_)
   repeat apply za
   refine ze [] (zm h1 h2) ?_
   refine zo (by simp) ?_
   refine za (zb ?_)
   exact zg (zk hd (by simp; rfl) (by simp only [h, if_false]; rfl))
theorem ZdD (a b : Int) (ha : z8 a) (hb : z8 b) : Pure Tryz.prog 234 [I a, I b] (I (vT a b)) := by
 have hadd := Zlg a b ha hb
 unfold z8 at ha hb
 refine zv Tryz.func234 Tryz.ntmps234 Tryz.results234 fun S nx hd => ?_
 refine za (zb ?_)
 by_cases h : -9223372036854775808 ≤ a + b ∧ a + b ≤ 9223372036854775807
 ·rw [if_pos h] at hadd
  refine za (zb ?_)
  refine zz hadd ?_
  refine za (zj (za (zb ?_)))
  refine zo rfl (za (zb ?_))
  exact zg (zk hd (by simp; rfl) (by simp only [vT, zq]; rw [if_neg (by omega), if_neg (by omega)]))
 ·rw [if_neg h] at hadd
  refine za (zb ?_)
  refine zz hadd ?_
  refine za (zj (za (zb ?_)))
  refine zn rfl (za (zb ?_))
  refine zr rfl (fun h1 => ?_) (fun h1 => ?_)
  ·simp at h1
   refine za (zb ?_)
   exact zg (zk hd (by simp; rfl) (by simp only [vT, zq]; rw [if_pos (by omega)]))
  ·simp at h1
   refine zh (za (zb ?_))
   exact zg (zk hd (by simp; rfl) (by simp only [vT, zq]; rw [if_neg (by omega), if_pos (by omega)]))
theorem Xu (a lo hi : Int) : Pure Tryz.prog 79 [I a, I lo, I hi] (I (min (max a lo) hi)) := by
 have h1 : vw (xz a lo) hi = min (max a lo) hi := by unfold vw xz; split <;> split <;> omega
 refine zv Tryz.func79 Tryz.ntmps79 Tryz.results79 fun S nx hd => ?_
 refine za (zb ?_)
 refine za (ze [] h1 ?_)
 exact zg (zk hd (by simp; rfl) rfl)
def zS (v : List Visit) (n : Int) : List Int := (List.range (min (max n 0) 64).toNat).map fun (d : Nat) => ((v.filter fun s => decide (s.d = (d : Int))).map (·.q)).sum
theorem Xv (v : List Visit) (n : Int) : (zS v n).length = (min (max n 0) 64).toNat := by simp [zS]
theorem ZdE (n : Int) : zS [] n = List.replicate (min (max n 0) 64).toNat 0 := by
 apply List.ext_getElem
 ·simp [zS]
 ·intro i h1 h2; simp [zS]
theorem Zlh (v : List Visit) (n : Int) (s : Visit) (h : ¬ (0 ≤ s.d ∧ s.d < ((min (max n 0) 64).toNat : Int))) : zS (v ++ [s]) n = zS v n := by
 unfold zS
 apply List.map_congr_left
 intro d hd
 have hdl := List.mem_range.1 hd
 have : ¬ s.d = (d : Int) := by omega
 simp [this]
theorem Zli (v : List Visit) (n : Int) (s : Visit) (d : Nat) (hs : s.d = (d : Int)) (b : Int) (hb : (zS v n)[d]? = some b) : zS (v ++ [s]) n = (zS v n).set d (b + s.q) := by
 obtain ⟨hdl, hbe⟩ := List.getElem?_eq_some_iff.1 hb
 apply List.ext_getElem
 ·simp [zS]
 ·intro i h1 h2
  rw [List.getElem_set]
  have hil : i < (zS v n).length := by simpa using h2
  by_cases q : d = i
  ·subst q
   rw [if_pos rfl, ← hbe]
   simp [zS, hs]
  ·rw [if_neg q]
   have : ¬ s.d = (i : Int) := by omega
   simp [zS, this]
structure VisOk (v : List Visit) : Prop where
 n : v.length ≤ 1048576
 q : ∀ s ∈ v, 0 ≤ s.q ∧ s.q ≤ 2147483648
 d : ∀ s ∈ v, z8 s.d
theorem ZdF (v : List Visit) (p : Visit → Bool) (h : ∀ s ∈ v, 0 ≤ s.q ∧ s.q ≤ 2147483648) : 0 ≤ ((v.filter p).map (·.q)).sum ∧ ((v.filter p).map (·.q)).sum ≤ 2147483648 * v.length := by
 induction v with
 | nil => simp
 | cons s v ih =>
  have h1 := ih fun x hx => h x (by simp [hx])
  have h2 := h s (by simp)
  rw [List.filter_cons]
  split
  ·simp only [List.map_cons, List.sum_cons, List.length_cons]; omega
  ·simp only [List.length_cons]; omega
theorem Zlj {v : List Visit} (hv : ∀ s ∈ v, 0 ≤ s.q ∧ s.q ≤ 2147483648) (n : Int) : ∀ b ∈ zS v n, 0 ≤ b ∧ b ≤ 2147483648 * v.length := by
 intro b hb
 simp only [zS, List.mem_map] at hb
 obtain ⟨d, _, rfl⟩ := hb
 exact ZdF v _ hv
theorem ZdG (v : List Visit) (n : Int) (hv : VisOk v) : Pure Tryz.prog 206 [L v, I n] (L (zS v n)) := by
 have hvn := hv.n
 have hm : min (max n 0) 64 = (((min (max n 0) 64).toNat : Nat) : Int) := by omega
 have hm64 : (min (max n 0) 64).toNat ≤ 64 := by omega
 refine zv Tryz.func206 Tryz.ntmps206 Tryz.results206 fun S nx hd => ?_
 refine za (zb ?_)
 refine za (zb ?_)
 refine zz (Xu n 0 64) ?_
 refine ⟨by omega, fun v1 => ?_⟩
 generalize hmm : (min (max n 0) 64).toNat = m at hm hm64
 have hz := ZdE n
 rw [hmm] at hz
 repeat apply za
 refine zb ?_
 refine zj (zG (fun s : Nat => s ≤ v.length) (fun k => [(5, .sl nx v1 1 0 m), (11, L v), (12, I v.length), (13, I k)]) (fun k => [.cells v1 3 ((zS (v.take k) n).flatMap Enc.enc)]) (fun s => v.length - s) 0 [] (by simp) (by simp [hmm]) (by simp [hz, hmm, WC]) ?_)
 rintro k hk
 have hbl := Xv (v.take k) n
 rw [hmm] at hbl
 refine za (zb ?_)
 refine za (zr rfl (fun hc => ?_) (fun hc => ?_))
 ·simp at hc
  obtain ⟨s, tl, a1, a2, a3, _, e0⟩ := el 2 rfl v k hc
  have hsm := List.mem_of_getElem? a1
  have hsq := hv.q s hsm
  have hout := Zlh (v.take k) n s
  rw [hmm] at hout
  refine zh (za (zj (za (ze [] (zm e0 hc) ?_))))
  intro v2
  by_cases h1 : 0 ≤ s.d
  ·by_cases h2 : s.d < (m : Int)
   ·obtain ⟨d, hd⟩ := Int.eq_ofNat_of_zero_le h1
    have hdm : d < m := by omega
    obtain ⟨b, tl2, b1, b2, b3, e2⟩ := zE rfl (zS (v.take k) n) d (by omega)
    have hbm := Zlj (fun x hx => hv.q x (List.mem_of_mem_take hx)) n b (List.mem_of_getElem? b1)
    have htl : (v.take k).length ≤ 1048576 := by simp; omega
    have hin := Zli (v.take k) n s d hd b b1
    have hsp := JY (zS (v.take k) n) d (b + s.q) (by omega)
    have hsat : vT b s.q = b + s.q := by unfold vT; rw [if_neg (by omega), if_neg (by omega)]
    have hflen : ((zS (v.take k) n).flatMap Enc.enc).length = m := by rw [qW, hbl]
    refine za (ze [(3, 20)] (zm h1 h2) ?_)
    refine zo rfl (zB (some [nx + 1]) (Row.pures [0, 1, 2, 3, 4, 5, 6, 8, 9] (.alt 7 (Row.pures [10, 11] (.alt 12 (.done) .stop)) .stop)) mixed (yh hd hdm e2 hbl) ?_)
    refine zI (ZdD b s.q (by unfold z8; omega) (by unfold z8; omega)) (yZ hsat hsp hbl hdm hd) ?_
    refine ⟨by omega, ?_⟩
    refine zb ?_
    exact zp (k + 1) [_] hc (by omega) (by simp [zt k (by omega)]) rfl (by rw [a3, hin]; rfl)
   ·refine za (ze [(3, 20)] (zm h1 h2) ?_)
    refine zn rfl (zh (zb ?_))
    exact zp (k + 1) [_] hc (by omega) (by simp [zt k (by omega)]) rfl (by rw [a3, hout (by omega)]; rfl)
  ·refine za (ze [(3, 20)] (zm h1 zL) ?_)
   refine zn rfl (zh (zb ?_))
   exact zp (k + 1) [_] hc (by omega) (by simp [zt k (by omega)]) rfl (by rw [a3, hout (by omega)]; rfl)
 ·simp at hc
  obtain rfl : k = v.length := by omega
  rw [List.take_length] at hbl ⊢
  refine zy (za (zb ?_))
  refine yc 0 rfl ?_
  exact zg (zk hd (by simp; rfl) (by simp [hbl, zq]))
open Go
def yx (n : Nat) : List Int := if h : n = 0 then [] else ((n % 65536 : Nat) : Int) :: yx (n / 65536)
termination_by n
decreasing_by omega
theorem Zt : yx 0 = [] := by rw [yx]; simp
theorem Zu {n : Nat} (h : n ≠ 0) : yx n = ((n % 65536 : Nat) : Int) :: yx (n / 65536) := by rw [yx]; simp [h]
def yf : List Int → Int
 | [] => 0
 | d :: l => d + 65536 * yf l
def xp (l : List Int) : Prop := ∀ d ∈ l, 0 ≤ d ∧ d < 65536
def Z6 : List Int → Prop
 | [] => True
 | [d] => d ≠ 0
 | _ :: e :: l => Z6 (e :: l)
theorem Zv : ∀ n : Nat, xp (yx n) ∧ yf (yx n) = n ∧ Z6 (yx n) ∧ (n < 65536 ^ 4 → (yx n).length ≤ 4) := by
 intro n
 induction n using Nat.strongRecOn with
 | _ n ih =>
  by_cases h : n = 0
  ·subst h; rw [Zt]; exact ⟨fun d hd => (nomatch hd), rfl, trivial, by simp⟩
  ·obtain ⟨h1, h2, h3, _⟩ := ih (n / 65536) (by omega)
   rw [Zu h]
   refine ⟨?_, ?_, ?_, ?_⟩
   ·intro d hd
    rcases List.mem_cons.1 hd with rfl | hd
    ·omega
    ·exact h1 d hd
   ·simp only [yf, h2]; omega
   ·cases hl : yx (n / 65536) with
    | nil =>
     rw [hl] at h2
     simp only [yf] at h2
     simp only [Z6]; omega
    | cons e l => rw [hl] at h3; exact h3
   ·intro hlt
    have : ∀ m : Nat, ∀ k : Nat, m < 65536 ^ k → (yx m).length ≤ k := by
     intro m k
     induction k generalizing m with
     | zero => intro hm; simp at hm; subst hm; rw [Zt]; simp
     | succ k ihk =>
      intro hm
      by_cases h0 : m = 0
      ·subst h0; rw [Zt]; simp
      ·rw [Zu h0]
       have := ihk (m / 65536) (by rw [Nat.pow_succ] at hm; exact Nat.div_lt_of_lt_mul (by rw [Nat.mul_comm]; exact hm))
       simp; exact this
    have := this n 4 hlt
    rw [Zu h] at this
    exact this
theorem VK {l : List Int} (h : xp l) : 0 ≤ yf l := by
 induction l with
 | nil => simp [yf]
 | cons d l ih =>
  have h1 := h d (by simp)
  have h2 := ih fun x hx => h x (by simp [hx])
  simp only [yf]; omega
theorem Xw (a b : List Int) : yf (a ++ b) = yf a + 65536 ^ a.length * yf b := by
 induction a with
 | nil => simp [yf]
 | cons d a ih => simp only [List.cons_append, yf, ih, List.length_cons, Int.pow_succ]; rw [Int.mul_add, Int.mul_comm (65536 ^ a.length) 65536, Int.mul_assoc]; omega
theorem Zlk : ∀ {l : List Int}, xp l → Z6 l → l = yx (yf l).toNat := by
 intro l
 induction l with
 | nil => intro _ _; simp only [yf]; exact Zt.symm
 | cons d l ih =>
  intro h ht
  have h1 := h d (by simp)
  have hl : xp l := fun x hx => h x (by simp [hx])
  have h2 := VK hl
  cases l with
  | nil =>
   simp only [Z6] at ht
   simp only [yf]
   rw [Zu (by omega)]
   have e1 : (d + 65536 * 0).toNat / 65536 = 0 := by omega
   rw [e1, Zt]
   congr 1; omega
  | cons e l =>
   have := ih hl ht
   have hpos : yf (e :: l) ≠ 0 := by
    intro h0
    rw [h0] at this
    rw [show (0 : Int).toNat = 0 from rfl, Zt] at this
    cases this
   have ev : yf (d :: e :: l) = d + 65536 * yf (e :: l) := rfl
   rw [ev, Zu (by omega)]
   have e1 : (d + 65536 * yf (e :: l)).toNat / 65536 = (yf (e :: l)).toNat := by omega
   rw [e1, ← this]
   congr 1; omega
theorem Xx (n : Int) (hn : z8 n) : Pure Tryz.prog 156 [I n] (.agg [L (yx n.natAbs), B (decide (n < 0))]) := by
 unfold z8 at hn
 have hd4 := (Zv n.natAbs).2.2.2 (by rw [show (65536 : Nat) ^ 4 = 18446744073709551616 from by decide]; omega)
 refine zv Tryz.func156 Tryz.ntmps156 Tryz.results156 fun S nx hd => ?_
 refine za (zb ?_)
 intro v0
 refine za (zb ?_)
 intro v1
 refine za (zb ?_)
 refine za (qM 1 0 3 1 rfl rfl fun v2 => ?_)
 refine zj (zG (fun s : Int × List Int × Nat => yx n.natAbs = s.2.1 ++ yx s.1.natAbs ∧ (-9223372036854775808 ≤ s.1 ∧ s.1 ≤ 9223372036854775807)) (fun (m, out, v2) => [(0, I m), (2, .ptr nx v0 0), (3, .ptr (nx + 1) v1 0)])
  (fun (m, out, v2) => [.cells v0 204 [.sc (.slice none 0 0), B false], .cells v1 204 [.sl (nx + 2) v2 1 0 out.length, B (decide (n < 0))], .cells v2 3 (out.flatMap Enc.enc)]) (fun s => s.1.natAbs) (n, [], v2) [] (by simp; exact hn) (by simp) (by simp) ?_)
 rintro ⟨m, out, v2⟩ ⟨ho, hm⟩
 simp only at ho hm ⊢
 by_cases h0 : m = 0
 ·subst h0
  rw [show (0 : Int).natAbs = 0 from rfl, Zt, List.append_nil] at ho
  repeat apply za
  refine zb ?_
  refine zn rfl (zy (za (zb ?_)))
  refine yc 2 rfl ?_
  exact zg (zk hd (by simp; rfl) (by rw [ho]; simp [zq]))
 ·repeat apply za
  refine ze [] h0 ?_
  refine zo (by simp [h0]) ?_
  refine zh (zj ?_)
  have hdm : yx m.natAbs = ((m.natAbs % 65536 : Nat) : Int) :: yx (m.tdiv 65536).natAbs := by
   rw [Zu (by omega)]
   congr 2
   rw [Int.natAbs_tdiv]; rfl
  rw [hdm] at ho
  have hol : out.length ≤ 4 := by rw [ho] at hd4; simp at hd4; omega
  have hq : (m.tdiv 65536).natAbs = m.natAbs / 65536 := by rw [Int.natAbs_tdiv]; rfl
  have hq2 : -9223372036854775808 ≤ m.tdiv 65536 ∧ m.tdiv 65536 ≤ 9223372036854775807 := by omega
  have w1 : IntKind.i64.wrap (m.tdiv 65536) = m.tdiv 65536 := wr _ hq2.1 hq2.2
  refine za (zb ?_)
  repeat apply za
  refine zb ?_
  by_cases hneg : m.tmod 65536 < 0
  ·have e1 : -(m.tmod 65536) = ((m.natAbs % 65536 : Nat) : Int) := by
    have := Int.natAbs_tmod m 65536
    have e : (65536 : Int).natAbs = 65536 := rfl
    rw [e] at this; omega
   have w2 : IntKind.i64.wrap (-(m.tmod 65536)) = ((m.natAbs % 65536 : Nat) : Int) := by rw [wr _ (by omega) (by omega)]; exact e1
   refine zo (by simp [hneg]) ?_
   refine ze [] w2 ?_
   refine za (zb ?_)
   refine ⟨by omega, ?_⟩
   refine ze [] w1 ?_
   exact zp (m.tdiv 65536, out ++ [((m.natAbs % 65536 : Nat) : Int)], v2 + 1) [] ⟨by rw [ho]; simp, hq2⟩ (by dsimp only; omega) (by simp) rfl (by simp)
  ·have e1 : m.tmod 65536 = ((m.natAbs % 65536 : Nat) : Int) := by
    have := Int.natAbs_tmod m 65536
    have e : (65536 : Int).natAbs = 65536 := rfl
    rw [e] at this; omega
   refine zn (by simp; omega) ?_
   refine zh (za (ze [] e1 ?_))
   refine ⟨by omega, ?_⟩
   refine ze [] w1 ?_
   exact zp (m.tdiv 65536, out ++ [((m.natAbs % 65536 : Nat) : Int)], v2 + 1) [] ⟨by rw [ho]; simp, hq2⟩ (by dsimp only; omega) (by simp) rfl (by simp)
def qy : List Int → List Int → Int → List Int
 | [], [], c => if 0 < c then [c] else []
 | a :: u, [], c => (a + c) % 65536 :: qy u [] ((a + c) / 65536)
 | [], b :: bs, c => (b + c) % 65536 :: qy [] bs ((b + c) / 65536)
 | a :: u, b :: bs, c => (a + b + c) % 65536 :: qy u bs ((a + b + c) / 65536)
theorem Zll : ∀ (a b : List Int) (c : Int), xp a → xp b → 0 ≤ c → c ≤ 1 → xp (qy a b c) ∧ yf (qy a b c) = yf a + yf b + c ∧ (qy a b c).length ≤ max a.length b.length + 1 := by
 intro a
 induction a with
 | nil =>
  intro b
  induction b with
  | nil =>
   intro c _ _ h0 h1
   simp only [qy]
   split
   ·refine ⟨?_, by simp [yf], by simp⟩
    intro d hd; simp at hd; omega
   ·refine ⟨by intro d hd; simp at hd, by simp [yf]; omega, by simp⟩
  | cons b bs ih =>
   intro c ha hb h0 h1
   have hb1 := hb b (by simp)
   obtain ⟨q1, q2, q3⟩ := ih ((b + c) / 65536) ha (fun x hx => hb x (by simp [hx])) (by omega) (by omega)
   simp only [qy]
   refine ⟨?_, by simp only [yf] at q2 ⊢; rw [q2]; omega, by simp at q3 ⊢; omega⟩
   intro d hd
   rcases List.mem_cons.1 hd with rfl | hd
   ·omega
   ·exact q1 d hd
 | cons a u iha =>
  intro b
  cases b with
  | nil =>
   intro c ha hb h0 h1
   have ha1 := ha a (by simp)
   obtain ⟨q1, q2, q3⟩ := iha [] ((a + c) / 65536) (fun x hx => ha x (by simp [hx])) hb (by omega) (by omega)
   simp only [qy]
   refine ⟨?_, by simp only [yf] at q2 ⊢; rw [q2]; omega, by simp at q3 ⊢; omega⟩
   intro d hd
   rcases List.mem_cons.1 hd with rfl | hd
   ·omega
   ·exact q1 d hd
  | cons b bs =>
   intro c ha hb h0 h1
   have ha1 := ha a (by simp)
   have hb1 := hb b (by simp)
   obtain ⟨q1, q2, q3⟩ := iha bs ((a + b + c) / 65536) (fun x hx => ha x (by simp [hx])) (fun x hx => hb x (by simp [hx])) (by omega) (by omega)
   simp only [qy]
   refine ⟨?_, by simp only [yf] at q2 ⊢; rw [q2]; omega, by simp at q3 ⊢; omega⟩
   intro d hd
   rcases List.mem_cons.1 hd with rfl | hd
   ·omega
   ·exact q1 d hd
theorem Zlm (a b : List Int) (c : Int) (h : a ≠ [] ∨ b ≠ [] ∨ 0 < c) : qy a b c = (a.headD 0 + b.headD 0 + c) % 65536 :: qy a.tail b.tail ((a.headD 0 + b.headD 0 + c) / 65536) ∨ (a = [] ∧ b = [] ∧ qy a b c = [c]) := by
 cases a with
 | nil =>
  cases b with
  | nil => right; simp at h; simp [qy, h]
  | cons b bs => left; simp [qy]
 | cons a u =>
  cases b with
  | nil => left; simp [qy]
  | cons b bs => left; simp [qy]
theorem Xy (l : List Int) (k : Nat) : (l.drop k).headD 0 = l.getD k 0 := by simp [List.headD_eq_head?_getD, List.head?_drop, List.getD_eq_getElem?_getD]
theorem Zln (a b : List Int) (ha : xp a) (hb : xp b) (hal : a.length ≤ 1000) (hbl : b.length ≤ 1000) : Pure Tryz.prog 200 [L a, L b] (L (qy a b 0)) := by
 refine zv Tryz.func200 Tryz.ntmps200 Tryz.results200 fun S nx hd => ?_
 refine za (zb ?_)
 refine za (zb ?_)
 refine za (qV 5 3 1 rfl fun v1 => ?_)
 refine zb ?_
 repeat apply za
 refine zb ?_
 refine zj (zG (fun s : Nat × Int × List Int × Nat => s.1 ≤ max a.length b.length + 1 ∧ (0 ≤ s.2.1 ∧ s.2.1 ≤ 1) ∧ s.2.2.1.length = s.1 ∧ qy a b 0 = s.2.2.1 ++ qy (a.drop s.1) (b.drop s.1) s.2.1 ∧ (s.1 = max a.length b.length + 1 → s.2.1 = 0)) (fun (k, c, out, v1) => [(0, L a), (1, L b), (5, .sl nx v1 1 0 out.length), (6, I c), (7, I k)])
  (fun (k, c, out, v1) => [.cells v1 3 (out.flatMap Enc.enc)]) (fun s => max a.length b.length + 1 - s.1) (0, 0, [], v1) [] (by simp) (by simp) (by simp) ?_)
 rintro ⟨k, c, out, v1⟩ ⟨hk, hc, hol, ho, hend⟩
 simp only at hk hc hol ho hend ⊢
 by_cases hlive : k < a.length ∨ k < b.length ∨ 0 < c
 ·have hkl : k < max a.length b.length + 1 := by
   rcases Nat.lt_or_ge k (max a.length b.length + 1) with h | h
   ·exact h
   ·have := hend (by omega); omega
  -- the sum at this place
  have hx : 0 ≤ a.getD k 0 ∧ a.getD k 0 < 65536 := by
   rw [List.getD_eq_getElem?_getD]
   cases h : a[k]? with
   | none => simp
   | some x => exact ha x (List.mem_of_getElem? h)
  have hy : 0 ≤ b.getD k 0 ∧ b.getD k 0 < 65536 := by
   rw [List.getD_eq_getElem?_getD]
   cases h : b[k]? with
   | none => simp
   | some x => exact hb x (List.mem_of_getElem? h)
  generalize hxx : a.getD k 0 = x at hx
  generalize hyy : b.getD k 0 = y at hy
  have hnext : ∀ s, s = c + x + y → qy a b 0 = (out ++ [s % 65536]) ++ qy (a.drop (k + 1)) (b.drop (k + 1)) (s / 65536) ∧ (k + 1 = max a.length b.length + 1 → s / 65536 = 0) := by
   rintro s rfl
   have hne : a.drop k ≠ [] ∨ b.drop k ≠ [] ∨ 0 < c := by
    rcases hlive with h | h | h
    ·left; intro e; have := List.drop_eq_nil_iff.1 e; omega
    ·right; left; intro e; have := List.drop_eq_nil_iff.1 e; omega
    ·exact .inr (.inr h)
   have hsum : (a.drop k).headD 0 + (b.drop k).headD 0 + c = c + x + y := by rw [Xy, Xy, hxx, hyy]; omega
   have h0 : k + 1 = max a.length b.length + 1 → c + x + y = c := by
    intro q
    have e1 : x = 0 := by rw [← hxx, List.getD_eq_getElem?_getD, List.getElem?_eq_none (by omega)]; rfl
    have e2 : y = 0 := by rw [← hyy, List.getD_eq_getElem?_getD, List.getElem?_eq_none (by omega)]; rfl
    omega
   refine ⟨?_, fun q => by have := h0 q; omega⟩
   rcases Zlm (a.drop k) (b.drop k) c hne with e | ⟨e1, e2, e3⟩
   ·rw [ho, e, hsum]
    simp [List.tail_drop]
   ·have hx0 : x = 0 := by rw [← hxx, ← Xy, e1]; rfl
    have hy0 : y = 0 := by rw [← hyy, ← Xy, e2]; rfl
    have d1 : a.drop (k + 1) = [] := by rw [← List.drop_drop, e1]; rfl
    have d2 : b.drop (k + 1) = [] := by rw [← List.drop_drop, e2]; rfl
    have z1 : (c + x + y) % 65536 = c := by omega
    have z2 : (c + x + y) / 65536 = 0 := by omega
    rw [ho, e3, d1, d2, z1, z2]; simp [qy]
  have fin : ∀ s : Int, s = c + x + y → s.tmod 65536 = s % 65536 ∧ IntKind.i64.wrap (s.tdiv 65536) = s / 65536 := by
   intro s hs
   refine ⟨Int.tmod_eq_emod_of_nonneg (by omega), ?_⟩
   rw [Int.tdiv_eq_ediv_of_nonneg (by omega), wr _ (by omega) (by omega)]
  obtain ⟨f1, f2⟩ := fin _ rfl
  obtain ⟨g1, g2⟩ := hnext _ rfl
  have wa : IntKind.i64.wrap (c + x) = c + x := wr _ (by omega) (by omega)
  have wb : IntKind.i64.wrap (c + x + y) = c + x + y := wr _ (by omega) (by omega)
  by_cases h1 : k < a.length
  ·obtain ⟨x', tl, a1, a2, a3, e0⟩ := zE rfl a k h1
   obtain rfl : x' = x := by rw [← hxx, List.getD_eq_getElem?_getD, a1]; rfl
   repeat apply za
   refine ze [(4, 12), (10, 18)] (zm h1 zL) ?_
   refine zo (by simp) ?_
   refine zh (za (zj ?_))
   repeat apply za
   refine zb ?_
   refine zo (by simp [h1]) ?_
   refine ze [] (zF e0 h1 wa) ?_
   by_cases h2 : k < b.length
   ·obtain ⟨y', tl2, b1, b2, b3, e2⟩ := zE rfl b k h2
    obtain rfl : y' = y := by rw [← hyy, List.getD_eq_getElem?_getD, b1]; rfl
    repeat apply za
    refine zb ?_
    refine zo (by simp [h2]) ?_
    refine ze [] (zF e2 h2 wb) ?_
    refine za (ze [] f1 ?_)
    refine ⟨by omega, ?_⟩
    refine ze [] f2 ?_
    refine zb ?_
    exact zp (k + 1, (c + x' + y') / 65536, out ++ [(c + x' + y') % 65536], v1 + 1) [] ⟨by omega, by dsimp only; omega, by simp [hol], g1, g2⟩ (by simp; omega) (by simp [zt k (by omega)]) rfl (by simp)
   ·obtain rfl : y = 0 := by rw [← hyy, List.getD_eq_getElem?_getD, List.getElem?_eq_none (by omega)]; rfl
    rw [Int.add_zero] at f1 f2 g1 g2
    repeat apply za
    refine zb ?_
    refine zn (by simp; omega) ?_
    refine zh (za (ze [] f1 ?_))
    refine ⟨by omega, ?_⟩
    refine ze [] f2 ?_
    refine zb ?_
    exact zp (k + 1, (c + x') / 65536, out ++ [(c + x') % 65536], v1 + 1) [] ⟨by omega, by dsimp only; omega, by simp [hol], g1, g2⟩ (by simp; omega) (by simp [zt k (by omega)]) rfl (by simp)
  ·obtain rfl : x = 0 := by rw [← hxx, List.getD_eq_getElem?_getD, List.getElem?_eq_none (by omega)]; rfl
   by_cases h2 : k < b.length
   ·obtain ⟨y', tl2, b1, b2, b3, e2⟩ := zE rfl b k h2
    obtain rfl : y' = y := by rw [← hyy, List.getD_eq_getElem?_getD, b1]; rfl
    have f1' : (c + y').tmod 65536 = (c + y') % 65536 := by rw [show c + y' = c + 0 + y' by omega]; exact f1
    have f2' : IntKind.i64.wrap ((c + y').tdiv 65536) = (c + y') / 65536 := by rw [show c + y' = c + 0 + y' by omega]; exact f2
    have wb' : IntKind.i64.wrap (c + y') = c + y' := wr _ (by omega) (by omega)
    rw [show c + 0 + y' = c + y' by omega] at g1 g2
    repeat apply za
    refine ze [(4, 12), (10, 18)] (zF h1 h2 zL) ?_
    refine zo (by simp) ?_
    refine zh (za (zj ?_))
    repeat apply za
    refine zb ?_
    refine zn (by simp; omega) ?_
    refine zh ?_
    repeat apply za
    refine zb ?_
    refine zo (by simp [h2]) ?_
    refine ze [] (zF e2 h2 wb') ?_
    refine za (ze [] f1' ?_)
    refine ⟨by omega, ?_⟩
    refine ze [] f2' ?_
    refine zb ?_
    exact zp (k + 1, (c + y') / 65536, out ++ [(c + y') % 65536], v1 + 1) [] ⟨by omega, by dsimp only; omega, by simp [hol], g1, g2⟩ (by simp; omega) (by simp [zt k (by omega)]) rfl (by simp)
   ·obtain rfl : y = 0 := by rw [← hyy, List.getD_eq_getElem?_getD, List.getElem?_eq_none (by omega)]; rfl
    have h3 : 0 < c := by omega
    obtain rfl : c = 1 := by omega
    rw [show (1 : Int) + 0 + 0 = 1 by rfl] at f1 f2 g1 g2
    repeat apply za
    refine ze [(4, 12), (10, 18)] (zm h1 h2) ?_
    refine zo (by simp) ?_
    refine zh (za (zj ?_))
    repeat apply za
    refine zb ?_
    refine zn (by simp; omega) ?_
    refine zh ?_
    repeat apply za
    refine zb ?_
    refine zn (by simp; omega) ?_
    refine zh (za (ze [] f1 ?_))
    refine ⟨by omega, ?_⟩
    refine ze [] f2 ?_
    refine zb ?_
    exact zp (k + 1, (1 : Int) / 65536, out ++ [(1 : Int) % 65536], v1 + 1) [] ⟨by omega, by dsimp only; omega, by simp [hol], g1, g2⟩ (by simp; omega) (by simp [zt k (by omega)]) rfl (by simp)
 ·have h1 : ¬ k < a.length := by omega
  have h2 : ¬ k < b.length := by omega
  have h3 : ¬ 0 < c := by omega
  rw [List.drop_of_length_le (by omega), List.drop_of_length_le (by omega)] at ho
  simp only [qy, h3, if_false, List.append_nil] at ho
  repeat apply za
  refine ze [(4, 12), (10, 18)] (zF h1 h2 h3) ?_
  refine zn (by simp) ?_
  refine zy (za (zb ?_))
  refine yc 0 rfl ?_
  exact zg (zk hd (by simp; rfl) (by rw [ho]; simp [zq]))
open Go
theorem Zlo {l : List Int} (h : l = [] ∨ ∃ m x, l = m ++ [x] ∧ x ≠ 0) : Z6 l := by
 rcases h with rfl | ⟨m, x, rfl, hx⟩
 ·trivial
 ·induction m with
  | nil => exact hx
  | cons a m ih =>
   cases m with
   | nil => exact hx
   | cons b m => exact ih
theorem Zlp (l : List Int) (k : Nat) (h : ∀ d ∈ l.drop k, d = 0) : yf l = yf (l.take k) := by
 have hz : ∀ m : List Int, (∀ d ∈ m, d = 0) → yf m = 0 := by
  intro m; induction m with
  | nil => intro _; rfl
  | cons a m ih => intro h; simp only [yf]; rw [ih fun d hd => h d (by simp [hd]), h a (by simp)]; rfl
 conv => lhs; rw [← List.take_append_drop k l]
 rw [Xw, hz _ h]; simp
theorem Zlq (l : List Int) (neg : Bool) (hl : xp l) (hn : l.length ≤ 1000) : Pure Tryz.prog 199 [.agg [L l, B neg]] (.agg [L (yx (yf l).toNat), B (if yx (yf l).toNat = [] then false else neg)]) := by
 refine zv Tryz.func199 Tryz.ntmps199 Tryz.results199 fun S nx hd => ?_
 refine za (zb ?_)
 intro v0 v1
 have fl : ∀ k, k ≤ l.length → ((l.flatMap Enc.enc).take k) = ((l.take k).flatMap Enc.enc) := fun k _ => by
  have := Zb (α := Int) Enc.enc 1 (fun _ => rfl) l k
  rw [Nat.mul_one] at this; exact this
 refine za (qj (nx := nx) (σ := Unit) (fun _ => True) (fun _ => [(1, .ptr nx v0 0), (2, .ptr (nx + 1) v1 0)]) (fun _ => S) (fun _ => [.cells v0 204 [L (yx (yf l).toNat), B neg], .cells v1 204 [.sc (.slice none 0 0), B false]]) ?_ ?_)
 ·refine zj (zG (fun s : Nat => s ≤ l.length ∧ (∀ d ∈ l.drop s, d = 0)) (fun k => [(1, .ptr nx v0 0), (2, .ptr (nx + 1) v1 0)]) (fun k => [.cells v0 204 [L (l.take k), B neg], .cells v1 204 [.sc (.slice none 0 0), B false]]) (fun s => s) l.length [] (by simp) (by simp) (by simp) ?_)
  rintro k ⟨hk, ho⟩
  have htk : (l.take k).length = k := by simp; omega
  have stop : Z6 (l.take k) → L (l.take k) = L (yx (yf l).toNat) := by
   intro h
   rw [Zlp l k ho, ← Zlk (fun d hd => hl d (List.mem_of_mem_take hd)) h]
  match k, hk with
  | 0, _ =>
   repeat apply za
   refine ze [(4, 7)] zL ?_
   refine zn rfl (zy (zP () [] trivial (by simp) rfl ?_))
   have := stop trivial
   simp only [List.take_zero] at this
   simp [this]
  | j + 1, hk =>
   obtain ⟨d, tl, a1, a2, a3, e0⟩ := zE rfl l j (by omega)
   have hw : IntKind.i64.wrap ((j : Int) + 1 - 1) = (j : Int) := by rw [wr _ (by omega) (by omega)]; omega
   have hw' : IntKind.i64.wrap (j : Int) = (j : Int) := wr _ (by omega) (by omega)
   have hlast : ((l.take (j + 1)).flatMap Enc.enc).drop j = [I d] := by
    rw [a3, List.flatMap_append, List.drop_append_of_le_length (by rw [qW]; simp; omega), List.drop_of_length_le (by rw [qW]; simp; omega)]; rfl
   have hjj : (j : Int) < (j : Int) + 1 := by omega
   by_cases h0 : d = 0
   ·repeat apply za
    refine ze [(4, 7)] (yg htk hw hw' hlast hjj h0) ?_
    refine zo (by simp) ?_
    refine zh (zj ?_)
    have hft : ((l.take (j + 1)).flatMap Enc.enc).take j = (l.take j).flatMap Enc.enc := by rw [← fl (j + 1) hk, List.take_take, fl _ (by omega)]; congr 2; omega
    have hjl : (l.take j).length = j := by simp; omega
    refine ze [] (yh htk hw hw' hft) ?_
    exact zp j [] ⟨by omega, fun e he => by rw [a2] at he; rcases List.mem_cons.1 he with q | q; exact q.trans h0; exact ho e q⟩ (by omega) (by simp) rfl (by simp [hjl, hft])
   ·repeat apply za
    refine ze [(4, 7)] (yg htk hw hw' hlast hjj h0) ?_
    refine zn (by simp) ?_
    have := stop (Zlo (.inr ⟨l.take j, d, a3, h0⟩))
    refine zy (zP () [] trivial (by simp) rfl (by rw [this]; rfl))
 ·intro _ _
  have hdl := Zv (yf l).toNat
  generalize yx (yf l).toNat = m at hdl ⊢
  cases m with
  | nil =>
   repeat apply za
   refine zb ?_
   refine zo (by simp) ?_
   refine zb ?_
   refine za (zb ?_)
   exact zg (zk hd (by simp; rfl) rfl)
  | cons a m =>
   have h1 : ¬ ((m.length : Int) + 1 = 0) := by omega
   repeat apply za
   refine ze [] h1 ?_
   refine zn (by simp) ?_
   refine zh (za (zb ?_))
   exact zg (zk hd (by simp; rfl) rfl)
def ux : List Int → List Int → Int
 | x :: a, y :: b => if x < y then -1 else if y < x then 1 else ux a b
 | _, _ => 0
def Zw (a b : List Int) : Int := if a.length < b.length then -1 else if b.length < a.length then 1 else ux a.reverse b.reverse
theorem Zlr (a b : List Int) (ha : a.length ≤ 1000) (hb : b.length ≤ 1000) : Pure Tryz.prog 198 [L a, L b] (I (Zw a b)) := by
 refine zv Tryz.func198 Tryz.ntmps198 Tryz.results198 fun S nx hd => ?_
 refine za (zb ?_)
 by_cases h1 : a.length = b.length
 case neg =>
  have h1' : ¬ ((a.length : Int) = b.length) := by omega
  repeat apply za
  refine ze [] h1' ?_
  refine zo (by simp [h1']) ?_
  by_cases h2 : a.length < b.length
  ·repeat apply za
   refine zb ?_
   refine zo (by simp [h2]) ?_
   refine za (zb ?_)
   exact zg (zk hd (by simp; rfl) (by simp [Zw, h2, zq]))
  ·repeat apply za
   refine zb ?_
   refine zn (by simp; omega) ?_
   refine zh (za (zb ?_))
   exact zg (zk hd (by simp; rfl) (by simp [Zw, h2, show b.length < a.length by omega, zq]))
 have hres : Zw a b = ux a.reverse b.reverse := by simp [Zw, h1]
 rw [hres]
 have h1' : ((a.length : Int) = b.length) := by omega
 repeat apply za
 refine ze [] h1' ?_
 refine zn (by simp [h1']) ?_
 refine zh ?_
 repeat apply za
 refine zb ?_
 have w0 : IntKind.i64.wrap ((a.length : Int) - 1) = (a.length : Int) - 1 := wr _ (by omega) (by omega)
 refine zj (zG (fun m : Nat => m ≤ a.length ∧ ux a.reverse b.reverse = ux (a.take m).reverse (b.take m).reverse) (fun m => [(0, L a), (1, L b), (5, I ((m : Int) - 1))]) (fun _ => []) (fun m => m) a.length [] ⟨Nat.le_refl _, by rw [List.take_length, List.take_of_length_le (by omega)]⟩ (by simp [w0]) (by simp) ?_)
 rintro m ⟨hm, ho⟩
 match m, hm with
 | 0, _ =>
  repeat apply za
  refine zb ?_
  refine zn (by simp) ?_
  refine zy (za (zb ?_))
  exact zg (zk hd (by simp; rfl) (by rw [ho]; simp [ux, zq]))
 | j + 1, hm =>
  have s1 : ((j + 1 : Nat) : Int) - 1 = (j : Int) := by omega
  obtain ⟨x, tl, a1, a2, a3, e0⟩ := zE rfl a j (by omega)
  obtain ⟨y, tl2, b1, b2, b3, e2⟩ := zE rfl b j (by omega)
  rw [a3, b3] at ho
  simp only [List.reverse_append, List.reverse_cons, List.reverse_nil, List.nil_append, List.cons_append, ux] at ho
  have g1 : j < a.length := by omega
  have g2 : j < b.length := by omega
  have s2 : (j : Int) + 1 - 1 = (j : Int) := by omega
  repeat apply za
  refine ze [] (zm s1 s2) ?_
  refine zo (by simp) ?_
  refine zh (za (zj ?_))
  repeat apply za
  refine zB none (Row.pures [0, 1, 2, 3, 4, 5, 6, 7, 8] .done) mixed (yg s1 s2 g1 g2 e0 e2) ?_
  by_cases h3 : x < y
  ·repeat apply za
   refine zo (by simp [h3]) ?_
   refine za (zb ?_)
   exact zg (zk hd (by simp; rfl) (by rw [ho, if_pos h3]; rfl))
  ·repeat apply za
   refine zn (by simp; omega) ?_
   refine zh (za (zB none (Row.pures [0, 1, 2, 3, 4, 5, 6, 7, 8] .done) mixed (yg s1 s2 g1 g2 e0 e2) ?_))
   by_cases h4 : y < x
   ·repeat apply za
    refine zo (by simp [h4]) ?_
    refine za (zb ?_)
    exact zg (zk hd (by simp; rfl) (by rw [ho, if_neg h3, if_pos h4]; rfl))
   ·repeat apply za
    refine zn (by simp; omega) ?_
    refine zh ?_
    have w1 : IntKind.i64.wrap ((j : Int) - 1) = (j : Int) - 1 := wr _ (by omega) (by omega)
    refine ze [] (zF s1 s2 w1) ?_
    exact zp j [] ⟨by omega, by rw [ho, if_neg h3, if_neg h4]⟩ (by omega) (by simp) rfl (by simp)
theorem VL (l : List Int) (h : xp l) (k : Nat) : 0 ≤ yf (l.take k) ∧ yf (l.take k) < 65536 ^ k := by
 have hd : xp (l.take k) := fun d hd => h d (List.mem_of_mem_take hd)
 refine ⟨VK hd, ?_⟩
 have main : ∀ (k : Nat) (m : List Int), xp m → m.length ≤ k → yf m < 65536 ^ k := by
  intro k
  induction k with
  | zero => intro m _ hm; simp at hm; subst hm; simp [yf]
  | succ k ih =>
   intro m hm hl
   cases m with
   | nil => simp only [yf]; exact Int.pow_pos (by decide)
   | cons d m =>
    have h1 := hm d (by simp)
    have h2 := ih m (fun x hx => hm x (by simp [hx])) (by simpa using hl)
    simp only [yf, Int.pow_succ]; omega
 exact main k _ hd (by simp; omega)
theorem Zls : ∀ (m : Nat) (a b : List Int), xp a → xp b → a.length = m → b.length = m → yf a ≤ yf b → ux a.reverse b.reverse ≤ 0 := by
 intro m
 induction m with
 | zero => intro a b _ _ ha hb _; rw [List.eq_nil_of_length_eq_zero ha]; simp [ux]
 | succ m ih =>
  intro a b ha hb hal hbl hv
  have hane : a ≠ [] := by intro e; subst e; cases hal
  have hbne : b ≠ [] := by intro e; subst e; cases hbl
  obtain ⟨a', x, rfl⟩ : ∃ a' x, a = a' ++ [x] := ⟨a.dropLast, a.getLast hane, (List.dropLast_concat_getLast hane).symm⟩
  obtain ⟨b', y, rfl⟩ : ∃ b' y, b = b' ++ [y] := ⟨b.dropLast, b.getLast hbne, (List.dropLast_concat_getLast hbne).symm⟩
  have hal' : a'.length = m := by simpa using hal
  have hbl' : b'.length = m := by simpa using hbl
  have ha' : xp a' := fun d hd => ha d (by simp [hd])
  have hb' : xp b' := fun d hd => hb d (by simp [hd])
  have p1 := VL (b' ++ [y]) hb m
  have p2 := VL (a' ++ [x]) ha m
  rw [List.take_append_of_le_length (by omega), List.take_of_length_le (by omega)] at p1 p2
  rw [Xw, Xw, hal', hbl'] at hv
  simp only [yf, Int.mul_zero, Int.add_zero] at hv
  simp only [List.reverse_append, List.reverse_cons, List.reverse_nil, List.nil_append, List.cons_append, ux]
  by_cases h1 : x < y
  ·rw [if_pos h1]; omega
  ·rw [if_neg h1]
   by_cases h2 : y < x
   ·exfalso
    have : (65536 : Int) ^ m * x ≥ 65536 ^ m * (y + 1) := Int.mul_le_mul_of_nonneg_left (by omega) (by omega)
    rw [Int.mul_add] at this
    omega
   ·rw [if_neg h2]
    have hxy : x = y := by omega
    subst hxy
    exact ih a' b' ha' hb' hal' hbl' (by omega)
theorem Zlt {a b : Nat} (h : a ≤ b) : (yx a).length ≤ (yx b).length := by
 induction b using Nat.strongRecOn generalizing a with
 | _ b ih =>
  by_cases h0 : a = 0
  ·subst h0; rw [Zt]; simp
  ·rw [Zu h0, Zu (show b ≠ 0 by omega)]
   have := ih (b / 65536) (by omega) (a := a / 65536) (Nat.div_le_div_right h)
   simpa using this
theorem Zlu {a b : Nat} (h : a ≤ b) : Zw (yx a) (yx b) ≤ 0 := by
 have hl := Zlt h
 unfold Zw
 split
 ·omega
 ·rw [if_neg (by omega)]
  have h1 := Zv a
  have h2 := Zv b
  exact Zls _ _ _ h1.1 h2.1 rfl (by omega) (by rw [h1.2.1, h2.2.1]; omega)
theorem Xz {n : Nat} (h : n ≤ 18446744073709551615) : (yx n).length ≤ 4 := (Zv n).2.2.2 (by rw [show (65536 : Nat) ^ 4 = 18446744073709551616 from by decide]; omega)
theorem Zlv (a b : Nat) (ha : a ≤ 9223372036854775807) (hb : b ≤ 9223372036854775807) : Pure Tryz.prog 155 [.agg [L (yx a), B false], .agg [L (yx b), B false]] (.agg [L (yx (a + b)), B false]) := by
 have h1 := Zv a
 have h2 := Zv b
 have l1 := Xz (n := a) (by omega)
 have l2 := Xz (n := b) (by omega)
 obtain ⟨p1, p2, p3⟩ := Zll (yx a) (yx b) 0 h1.1 h2.1 (by omega) (by omega)
 have hv : (yf (qy (yx a) (yx b) 0)).toNat = a + b := by rw [p2, h1.2.1, h2.2.1]; omega
 have hpl := Zln (yx a) (yx b) h1.1 h2.1 (by omega) (by omega)
 have htr := Zlq (qy (yx a) (yx b) 0) false p1 (by omega)
 rw [hv, ite_self] at htr
 generalize yx a = x at *
 generalize yx b = y at *
 generalize qy x y 0 = z at *
 refine zv Tryz.func155 Tryz.ntmps155 Tryz.results155 fun S nx hd => ?_
 refine za (zb ?_)
 intro v0 v1 v2
 repeat apply za
 refine zb ?_
 refine zo (by simp) ?_
 refine za (zB (some [nx, nx + 1]) (Row.pures [0, 1, 2, 3, 4, 5, 6, 7, 8] (.alt 9 (.done) .stop)) mixed trivial ?_)
 refine zI (hpl) trivial ?_
 refine zI (htr) trivial ?_
 exact zg (zk hd (by simp; rfl) rfl)
theorem Zlw (n : Nat) (hn : n ≤ 9223372036854775807) : Pure Tryz.prog 154 [.agg [L (yx n), B false]] (.tup [I n, B true]) := by
 have h1 := Zv n
 have l1 := Xz (n := n) (by omega)
 have hsz := Zlu (a := n) (b := 9223372036854775807) hn
 have hs := Zlr (yx n) (yx 9223372036854775807) (by omega) (by have := Xz (n := 9223372036854775807) (by omega); omega)
 have o1 := Xx 9223372036854775807 (by unfold z8; omega)
 have o2 := Xx (-9223372036854775808) (by unfold z8; omega)
 rw [show ((9223372036854775807 : Int)).natAbs = 9223372036854775807 from rfl, show decide ((9223372036854775807 : Int) < 0) = false from rfl] at o1
 rw [show decide ((-9223372036854775808 : Int) < 0) = true from rfl] at o2
 generalize yx (-9223372036854775808 : Int).natAbs = lo at *
 generalize yx 9223372036854775807 = hi at *
 generalize hdn : yx n = l at *
 have hg : ¬ 0 < Zw l hi := by omega
 refine zv Tryz.func154 Tryz.ntmps154 Tryz.results154 fun S nx hd => ?_
 refine za (zb ?_)
 intro v0
 refine za (zb ?_)
 refine zz o1 ?_
 intro v1
 refine za (zb ?_)
 refine zz o2 ?_
 intro v2
 repeat apply za
 refine ze [(3, 13)] trivial ?_
 refine jP [(3, 13)] hs hg ?_
 refine zn (by simp) ?_
 refine zh ?_
 repeat apply za
 refine ze [(2, 23)] zL ?_
 refine zn (by simp) ?_
 refine zh (za (zb ?_))
 have w0 : IntKind.i64.wrap ((l.length : Int) - 1) = (l.length : Int) - 1 := wr _ (by omega) (by omega)
 repeat apply za
 refine ze [] w0 ?_
 refine zj (zG (fun m : Nat => m ≤ l.length) (fun m => [(1, .ptr nx v0 0), (6, I (yf (l.drop m))), (7, I ((m : Int) - 1))]) (fun _ => [.cells v0 204 [L l, B false]]) (fun m => m) l.length [_, _] (Nat.le_refl _) (by simp [yf]) rfl ?_)
 rintro m hm
 match m, hm with
 | 0, _ =>
  repeat apply za
  refine zb ?_
  refine zn (by simp) ?_
  refine zy (za (zb ?_))
  exact zg (zk hd (by simp; rfl) (by simp [h1.2.1, zq]))
 | j + 1, hm =>
  have s1 : ((j + 1 : Nat) : Int) - 1 = (j : Int) := by omega
  have s2 : (j : Int) + 1 - 1 = (j : Int) := by omega
  obtain ⟨x, tl, a1, a2, a3, e0⟩ := zE rfl l j (by omega)
  have g1 : j < l.length := by omega
  have hx := h1.1 x (List.mem_of_getElem? a1)
  have hv0 : 0 ≤ yf (l.drop (j + 1)) := VK fun d hd => h1.1 d (List.mem_of_mem_drop hd)
  have hvj : yf (l.drop j) = x + 65536 * yf (l.drop (j + 1)) := by rw [a2]; rfl
  have hvle : yf (l.drop j) ≤ n := by
   have e := Xw (l.take j) (l.drop j)
   rw [List.take_append_drop, h1.2.1] at e
   have t0 := (VL l h1.1 j).1
   have hp : (1 : Int) ≤ 65536 ^ (l.take j).length := by have := Int.pow_pos (n := 65536) (m := (l.take j).length) (by decide); omega
   have hd0 : 0 ≤ yf (l.drop j) := by omega
   have := Int.mul_le_mul_of_nonneg_right hp hd0
   rw [Int.one_mul] at this
   omega
  have w1 : IntKind.i64.wrap (yf (l.drop (j + 1)) * 65536) = yf (l.drop (j + 1)) * 65536 := wr _ (by omega) (by omega)
  have w2 : IntKind.i64.wrap (yf (l.drop (j + 1)) * 65536 + x) = yf (l.drop j) := by rw [wr _ (by omega) (by omega)]; omega
  have w3 : IntKind.i64.wrap ((j : Int) - 1) = (j : Int) - 1 := wr _ (by omega) (by omega)
  repeat apply za
  refine ze [] (zm s1 s2) ?_
  refine zo (by simp) ?_
  refine zh (za (zj (za (ze [] w1 ?_))))
  refine za (zb ?_)
  refine zn (by simp) ?_
  refine ze [] (yZ s1 s2 g1 e0 w2) ?_
  refine ze [] (zF s1 s2 w3) ?_
  exact zp j [] (by omega) (by omega) (by simp) rfl (by simp)
theorem Zlx (a b : Int) (ha : 0 ≤ a) (hb : 0 ≤ b) (hab : a + b ≤ 9223372036854775807) : Pure Tryz.prog 114 [I a, I b] (I (a + b)) := by
 obtain ⟨x, rfl⟩ := Int.eq_ofNat_of_zero_le ha
 obtain ⟨y, rfl⟩ := Int.eq_ofNat_of_zero_le hb
 have o1 := Xx (x : Int) (by unfold z8; omega)
 have o2 := Xx (y : Int) (by unfold z8; omega)
 rw [Int.natAbs_natCast, decide_eq_false (by omega)] at o1 o2
 have h3 := Zlv x y (by omega) (by omega)
 have h4 := Zlw (x + y) (by omega)
 rw [show ((x + y : Nat) : Int) = (x : Int) + (y : Int) by omega] at h4
 refine zv Tryz.func114 Tryz.ntmps114 Tryz.results114 fun S nx hd => ?_
 refine za (zb ?_)
 refine za (zb ?_)
 refine zz o1 ?_
 refine zz o2 ?_
 refine zz h3 ?_
 refine zz h4 ?_
 repeat apply za
 refine zb ?_
 refine zo (by simp) ?_
 refine za (zb ?_)
 exact zg (zk hd (by simp; rfl) rfl)
open Go
theorem Zly (c : Cust) (ns : List Int) (hn : ns.length ≤ 1048576) : Pure Tryz.prog 109 [.agg (zY c), L ns] (I (uv c ns)) := by
 refine zv Tryz.func109 Tryz.ntmps109 Tryz.results109 fun S nx hd => ?_
 refine za (zb ?_)
 intro v0
 refine za (zb ?_)
 repeat apply za
 refine zb ?_
 refine zj (zG (fun s : Nat => s ≤ ns.length) (fun k => [(1, L ns), (2, .ptr nx v0 0), (5, I (W (ns.take k).sum)), (6, I k)]) (fun _ => [.cells v0 65 (zY c)]) (fun s => ns.length - s) 0 [] (by simp) (by simp) (by simp) ?_)
 rintro k hk
 repeat apply za
 refine zb ?_
 refine zr rfl (fun hc => ?_) (fun hc => ?_)
 ·simp at hc
  obtain ⟨z, tl, a1, a2, a3, e0⟩ := zE rfl ns k hc
  refine zh (za (zj ?_))
  have hw : W (W (ns.take k).sum + z) = W (ns.take (k + 1)).sum := by rw [a3, Y3, xD]
  refine ze [] (zm e0 hc) ?_
  refine zb ?_
  exact zp (k + 1) [] hc (by omega) (by simp [zt k (by omega)]; exact hw) rfl (by simp)
 ·simp at hc
  obtain rfl : k = ns.length := by omega
  rw [List.take_length]
  refine zy (za (zb ?_))
  exact zg (zk hd (by simp; rfl) rfl)
theorem VM {q : List Int} (h : ∀ z ∈ q, 0 ≤ z ∧ z ≤ 2147483648) : ∀ k : Nat, k ≤ q.length → 0 ≤ (q.take k).sum ∧ (q.take k).sum ≤ 2147483648 * k := by
 intro k
 induction k with
 | zero => intro _; simp
 | succ k ih =>
  intro hk
  have := ih (by omega)
  have hz := h q[k] (List.getElem_mem (by omega))
  rw [List.take_succ_eq_append_getElem (by omega), Y3]
  omega
theorem Zlz (c : Cust) (q : List Int) (hc : CustFits c) (hq : q.length ≤ 1048576) : Pure Tryz.prog 108 [.agg (zY c), L q] (.tup [L (yK c q).1, I (yK c q).2]) := by
 obtain ⟨hr, hsz, hst⟩ := hc
 refine zv Tryz.func108 Tryz.ntmps108 Tryz.results108 fun S nx hd => ?_
 refine za (zb ?_)
 intro v0
 repeat apply za
 refine zb ?_
 refine qj (nx := nx) (σ := Nat) (fun v0 => q.any jG = false) (fun v0 => [(1, L q), (2, .ptr nx v0 0)]) (fun _ => S) (fun v0 => [.cells v0 65 (zY c)]) ?_ ?_
 ·refine zj (zG (fun s : Nat => s ≤ q.length ∧ (q.take s).any jG = false) (fun k => [(1, L q), (2, .ptr nx v0 0), (6, I k)]) (fun _ => [.cells v0 65 (zY c)]) (fun s => q.length - s) 0 [] (by simp) (by simp) (by simp) ?_)
  rintro k ⟨hk, ho⟩
  repeat apply za
  refine zb ?_
  refine zr rfl (fun hc => ?_) (fun hc => ?_)
  ·simp at hc
   obtain ⟨z, tl, a1, a2, a3, e0⟩ := zE rfl q k hc
   have bad : jG z = true → yK c q = ([], 1) := fun h => by
    have : q.any jG = true := by rw [List.any_eq_true]; exact ⟨z, List.mem_of_getElem? a1, h⟩
    simp [yK, this]
   refine zh (za (zj ?_))
   by_cases h1 : z < 0
   ·refine za (ze [(5, 23)] (yh e0 hc h1 zL) ?_)
    refine zo rfl (za (zb ?_))
    refine w8 4 rfl ?_
    exact zg (zk hd (by simp; rfl) (by rw [bad (by simp [jG, h1])]; rfl))
   by_cases h2 : (2147483648 : Int) < z
   ·refine za (ze [(5, 23)] (yh e0 hc h1 h2) ?_)
    refine zo rfl (za (zb ?_))
    refine w8 4 rfl ?_
    exact zg (zk hd (by simp; rfl) (by rw [bad (by simp [jG, h2])]; rfl))
   refine za (ze [(5, 23)] (yh e0 hc h1 h2) ?_)
   refine zn rfl (zh (zb ?_))
   exact zp (k + 1) [] ⟨hc, by rw [a3, List.any_append, ho]; simp [jG]; omega⟩ (by omega) (by simp [zt k (by omega)]) rfl (by simp)
  ·simp at hc
   obtain rfl : k = q.length := by omega
   rw [List.take_length] at ho
   exact zy (zP v0 [] ho (by simp) rfl (by simp))
 ·intro v0 hb
  have hq0 : ∀ z ∈ q, 0 ≤ z ∧ z ≤ 2147483648 := by
   intro z hz
   rw [List.any_eq_false] at hb
   have := hb z hz
   simp [jG] at this
   omega
  have hres : yK c q = match yt c.size c.rate c.start q with | none => ([], 8) | some l => (l, 0) := by unfold yK; rw [hb]; rfl
  refine za (zb ?_)
  refine qV 7 3 1 rfl fun v1 => ?_
  repeat apply za
  refine zb ?_
  refine zj (zG (fun s : Nat × List Int × Nat => s.1 ≤ q.length ∧ s.2.1.length = s.1 ∧ (0 ≤ c.start + (q.take s.1).sum - c.rate * s.1 ∧ c.start + (q.take s.1).sum - c.rate * s.1 ≤ 2147483648) ∧ yt c.size c.rate c.start q = (yt c.size c.rate (c.start + (q.take s.1).sum - c.rate * s.1) (q.drop s.1)).map (s.2.1 ++ ·))
   (fun (k, out, v1) => [(1, L q), (2, .ptr nx v0 0), (7, .sl (nx + 1) v1 1 0 out.length), (8, I k)])
   (fun (k, out, v1) => [.cells v0 65 (zY c), .cells v1 3 (out.flatMap Enc.enc)]) (fun s => q.length - s.1) (0, [], v1) [] ?_ (by simp) (by simp) ?_)
  ·refine ⟨by simp, by simp, by simpa using hst, ?_⟩
   simp
  rintro ⟨k, out, v1⟩ ⟨hk, hol, hth, ho⟩
  simp only at hk hol hth ho ⊢
  repeat apply za
  refine zb ?_
  refine zr rfl (fun hc => ?_) (fun hc => ?_)
  ·simp at hc
   obtain ⟨z, tl, a1, a2, a3, e0⟩ := zE rfl q k hc
   have hz := hq0 z (List.mem_of_getElem? a1)
   have hst1 := VM hq0 k hk
   have hst2 := VM hq0 (k + 1) hc
   have hsum : (q.take (k + 1)).sum = (q.take k).sum + z := by rw [a3, Y3]
   have hrk : 0 ≤ c.rate * k ∧ c.rate * k ≤ 2147483648 * 1048576 := ⟨Int.mul_nonneg hr.1 (by omega), Int.mul_le_mul hr.2 (by omega) (by omega) (by omega)⟩
   rw [a2] at ho
   refine zh (za (zj (za (zb ?_))))
   repeat apply za
   refine zb ?_
   refine qj (nx := nx) (σ := Nat) (fun _ => True) (fun v1 => [(1, L q), (2, .ptr nx v0 0), (7, .sl (nx + 1) v1 1 0 out.length), (8, I k), (9, I (c.start + (q.take (k + 1)).sum))]) (fun _ => S) (fun v1 => [.cells v0 65 (zY c), .cells v1 3 (out.flatMap Enc.enc)]) ?_ ?_
   ·refine zj (zG (fun s : Nat => s ≤ k + 1) (fun j => [(1, L q), (2, .ptr nx v0 0), (7, .sl (nx + 1) v1 1 0 out.length), (8, I k), (9, I (c.start + (q.take j).sum)), (10, I j)]) (fun _ => [.cells v0 65 (zY c), .cells v1 3 (out.flatMap Enc.enc)]) (fun s => k + 1 - s) 0 [] (by simp) (by simp) (by simp) ?_)
    rintro j hj
    repeat apply za
    refine zb ?_
    refine zr rfl (fun hc2 => ?_) (fun hc2 => ?_)
    ·simp at hc2
     obtain ⟨y, tl2, b1, b2, b3, e2⟩ := zE rfl q j (by omega)
     have hsj := VM hq0 (j + 1) (by omega)
     have hjq : j < q.length := by omega
     have hsum2 : c.start + (q.take j).sum + y = c.start + (q.take (j + 1)).sum := by rw [b3, Y3]; omega
     have w1 : IntKind.i64.wrap (c.start + (q.take (j + 1)).sum) = c.start + (q.take (j + 1)).sum := wr _ (by omega) (by omega)
     refine zh (za (zj (ze [] (yh e2 hjq hsum2 w1) ?_)))
     refine zb ?_
     exact zp (j + 1) [] (by omega) (by omega) (by simp [zt j (by omega)]) rfl (by simp)
    ·simp at hc2
     obtain rfl : j = k + 1 := by omega
     exact zy (zP v1 [] trivial (by simp) rfl (by simp))
   ·intro v1 _
    have w1 : IntKind.i64.wrap (c.rate * (k : Int)) = c.rate * (k : Int) := wr _ (by omega) (by omega)
    have hbe : c.start + (q.take (k + 1)).sum - c.rate * (k : Int) = (c.start + (q.take k).sum - c.rate * (k : Int)) + z := by omega
    generalize hth' : c.start + (q.take k).sum - c.rate * (k : Int) = there at hth ho hbe
    have w2 : IntKind.i64.wrap (there + z) = there + z := wr _ (by omega) (by omega)
    have w3 : IntKind.i64.wrap (there + z - c.rate) = there + z - c.rate := wr _ (by omega) (by omega)
    have bad : (c.size < there + z ∨ there + z < c.rate) → yK c q = ([], 8) := fun h => by
     rw [hres, ho]; simp only [yt, if_pos h, Option.map_none]
    refine za (ze [] (zF w1 hbe w2) ?_)
    by_cases h1 : c.size < there + z
    ·repeat apply za
     refine ze [(4, 59)] (zm h1 zL) ?_
     refine zo rfl (za (zb ?_))
     refine w8 4 rfl ?_
     exact zg (zk hd (by simp; rfl) (by rw [bad (.inl h1)]; rfl))
    by_cases h2 : there + z - c.rate < 0
    ·repeat apply za
     refine ze [(4, 59)] (zF h1 h2 w3) ?_
     refine zo rfl (za (zb ?_))
     refine w8 4 rfl ?_
     exact zg (zk hd (by simp; rfl) (by rw [bad (.inr (by omega))]; rfl))
    repeat apply za
    refine ze [(4, 59)] (zF h1 h2 w3) ?_
    refine zn rfl (zh (ze [] w3 ?_))
    refine ⟨by omega, ?_⟩
    refine zb ?_
    have hnext : c.start + (q.take (k + 1)).sum - c.rate * ((k + 1 : Nat) : Int) = there + z - c.rate := by
     have : c.rate * ((k + 1 : Nat) : Int) = c.rate * (k : Int) + c.rate := by rw [show ((k + 1 : Nat) : Int) = (k : Int) + 1 by omega, Int.mul_add, Int.mul_one]
     omega
    exact zp (k + 1, out ++ [there + z - c.rate], v1 + 1) [] ⟨hc, by simp [hol], by dsimp only; rw [hnext]; omega, by dsimp only; rw [hnext]; exact ZdC ho h1 (by omega)⟩ (by simp; omega) (by simp [zt k (by omega)]) rfl (by simp)
  ·simp at hc
   obtain rfl : k = q.length := by omega
   rw [List.drop_length] at ho
   simp only [yt, Option.map_some, List.append_nil] at ho
   refine zy (za (zb ?_))
   refine yc 1 rfl ?_
   exact zg (zk hd (by simp; rfl) (by rw [hres, ho]; simp [zq]))
theorem ZlA {size rate : Int} : ∀ {q : List Int} {there : Int} {l : List Int}, yt size rate there q = some l → l.length = q.length := by
 intro q
 induction q with
 | nil => intro there l h; simp only [yt, Option.some.injEq] at h; subst h; rfl
 | cons z q ih =>
  intro there l h
  simp only [yt] at h
  split at h
  ·cases h
  ·obtain ⟨l2, h2, rfl⟩ := Option.map_eq_some_iff.1 h
   simp [ih h2]
open Go
def Q0 (v : List Visit) (k : Nat) : List Int := (List.range k).map fun (d : Nat) => ((v.filter fun s => decide (s.d = (d : Int))).map (·.q)).sum
theorem ZlB (v : List Visit) (n : Int) (hv : VisOk v) : Pure Tryz.prog 72 [L v, I n] (L (zS v n)) := by
 have hvn := hv.n
 have hres : zS v n = Q0 v (min (max n 0) 64).toNat := rfl
 rw [hres]
 refine zv Tryz.func72 Tryz.ntmps72 Tryz.results72 fun S nx hd => ?_
 refine za (zb ?_)
 repeat apply za
 refine zb ?_
 refine qj (nx := nx) (σ := Unit) (fun _ => True) (fun _ => [(0, L v), (1, I (min n 64))]) (fun _ => S) (fun _ => []) ?_ ?_
 ·by_cases h : (64 : Int) < n
  ·refine zo (by simp [h]) ?_
   refine zb ?_
   exact zP () [] trivial (by simp; omega) rfl (by simp)
  ·refine zn (by simp; omega) ?_
   exact zh (zP () [] trivial (by simp; omega) rfl (by simp))
 intro _ _
 generalize hm : (min (max n 0) 64).toNat = m
 have hm64 : m ≤ 64 := by omega
 have hcmp : ∀ k : Nat, ((k : Int) < min n 64) = (k < m) := fun k => propext ⟨fun h => by omega, fun h => by omega⟩
 refine za (zb ?_)
 refine qV 5 3 1 rfl fun v1 => ?_
 repeat apply za
 refine zb ?_
 refine zj (zG (fun s : Nat × List Int × Nat => s.1 ≤ m ∧ s.2.1 = Q0 v s.1) (fun (k, out, v1) => [(0, L v), (1, I (min n 64)), (5, .sl nx v1 1 0 out.length), (6, I k)]) (fun (k, out, v1) => [.cells v1 3 (out.flatMap Enc.enc)]) (fun s => m - s.1) (0, [], v1) [] (by simp [Q0]) (by simp) (by simp) ?_)
 rintro ⟨k, out, v1⟩ ⟨hk, ho⟩
 simp only at hk ho ⊢
 have hol : out.length = k := by rw [ho]; simp [Q0]
 by_cases hc : k < m
 ·repeat apply za
  refine ze [] (zm hcmp hc) ?_
  refine zo (by simp) ?_
  refine zh (za (zj (za (zb ?_))))
  repeat apply za
  refine zb ?_
  refine qj (nx := nx) (σ := Nat) (fun _ => True) (fun v1 => [(0, L v), (1, I (min n 64)), (5, .sl nx v1 1 0 out.length), (6, I k), (7, I ((v.filter fun s => decide (s.d = (k : Int))).map (·.q)).sum)]) (fun _ => S) (fun v1 => [.cells v1 3 (out.flatMap Enc.enc)]) ?_ ?_
  ·refine zj (zG (fun s : Nat => s ≤ v.length) (fun j => [(0, L v), (1, I (min n 64)), (5, .sl nx v1 1 0 out.length), (6, I k), (7, I (((v.take j).filter fun s => decide (s.d = (k : Int))).map (·.q)).sum), (8, I j)]) (fun _ => [.cells v1 3 (out.flatMap Enc.enc)]) (fun s => v.length - s) 0 [] (by simp) (by simp) (by simp) ?_)
   rintro j hj
   repeat apply za
   refine zb ?_
   refine zr rfl (fun hc2 => ?_) (fun hc2 => ?_)
   ·simp at hc2
    obtain ⟨s, tl, a1, a2, a3, e1, e0⟩ := el 2 rfl v j hc2
    have hsq := hv.q s (List.mem_of_getElem? a1)
    have hlj : (v.take j).length ≤ 1048576 := by simp; omega
    have hle := ZdF (v.take j) (fun s => decide (s.d = (k : Int))) (fun x hx => hv.q x (List.mem_of_mem_take hx))
    have e11 := e1 1 (by omega)
    refine zh (za (zj ?_))
    by_cases h : s.d = (k : Int)
    ·have hsum : (((v.take j).filter fun s => decide (s.d = (k : Int))).map (·.q)).sum + s.q = (((v.take (j + 1)).filter fun s => decide (s.d = (k : Int))).map (·.q)).sum := by rw [a3]; simp [h]
     refine za (ze [] (zF e0 hc2 h) ?_)
     refine zo (by simp) ?_
     refine ze [] (zm e11 hc2) ?_
     refine zz (Zlx _ _ hle.1 hsq.1 (by omega)) ?_
     refine zb ?_
     exact zp (j + 1) [] hc2 (by omega) (by simp [zt j (by omega)]; exact hsum) rfl (by simp)
    ·have hsum : (((v.take j).filter fun s => decide (s.d = (k : Int))).map (·.q)).sum = (((v.take (j + 1)).filter fun s => decide (s.d = (k : Int))).map (·.q)).sum := by rw [a3]; simp [h]
     refine za (ze [] (zF e0 hc2 h) ?_)
     refine zn (by simp) ?_
     refine zh (zb ?_)
     exact zp (j + 1) [] hc2 (by omega) (by simp [zt j (by omega)]; exact hsum) rfl (by simp)
   ·simp at hc2
    obtain rfl : j = v.length := by omega
    rw [List.take_length]
    exact zy (zP v1 [] trivial (by simp) rfl (by simp))
  ·intro v1 _
   refine zb ?_
   refine ⟨by omega, ?_⟩
   refine zb ?_
   exact zp (k + 1, out ++ [((v.filter fun s => decide (s.d = (k : Int))).map (·.q)).sum], v1 + 1) [] ⟨hc, by rw [ho]; simp [Q0, List.range_succ]⟩ (by simp; omega) (by simp [zt k (by omega)]) rfl (by simp)
 ·obtain rfl : k = m := by omega
  repeat apply za
  refine ze [] hcmp ?_
  refine zn (by simp) ?_
  refine zy (za (zb ?_))
  refine yc 0 rfl ?_
  exact zg (zk hd (by simp; rfl) (by rw [ho]; simp [zq]))
theorem ZlC (p : zx) (c : Int) (hp : PlanOk p) : Pure Tryz.prog 33 [.agg [L p], I c] (L (yq c (told 0 p))) := by
 have hlen := hp.told
 have ol : ∀ pre rest, told 0 p = pre ++ rest → (yq c pre).length ≤ 1048576 := fun pre rest e => by
  have := Zdy c pre
  have := congrArg List.length e
  simp at this; omega
 refine zv Tryz.func33 Tryz.ntmps33 Tryz.results33 fun S nx hd => ?_
 refine za (zb ?_)
 intro v0
 refine za (zb ?_)
 refine za (qV 5 85 2 rfl fun v1 => ?_)
 refine za (zb ?_)
 refine zj (zG (fun s : Nat × List (Stop × Nat) × Nat => s.1 ≤ p.length ∧ told 0 p = s.2.1 ++ told s.1 (p.drop s.1)) (fun (a, pre, v1) => [(1, I c), (2, .ptr nx v0 0), (5, .sl (nx + 1) v1 2 0 (yq c pre).length), (6, I a)]) (fun (a, pre, v1) => [.cells v0 38 [L p], .cells v1 85 ((yq c pre).flatMap Enc.enc)]) (fun s => p.length - s.1) (0, [], v1) [] (by simp) (by simp [yq]) (by simp [yq]) ?_)
 rintro ⟨a, pre, v1⟩ ⟨ha, hr⟩
 simp only at ha hr ⊢
 have hpn := hp.n
 repeat apply za
 refine zb ?_
 refine zr rfl (fun hc => ?_) (fun hc => ?_)
 ·simp at hc
  obtain ⟨d, tl, a1, a2, a3, e0⟩ := zE rfl p a hc
  have hdm := List.mem_of_getElem? a1
  have hdl := hp.d d hdm
  rw [a2] at hr
  simp only [told] at hr
  refine zh (za (zj (za (zb ?_))))
  refine zj (zG (fun s : Nat × List (Stop × Nat) × Nat => s.1 ≤ d.length ∧ told 0 p = s.2.1 ++ ((d.drop s.1).flatten.map (·, a) ++ told (a + 1) (p.drop (a + 1)))) (fun (b, pre, v1) => [(1, I c), (2, .ptr nx v0 0), (5, .sl (nx + 1) v1 2 0 (yq c pre).length), (6, I a), (7, I b)]) (fun (b, pre, v1) => [.cells v0 38 [L p], .cells v1 85 ((yq c pre).flatMap Enc.enc)]) (fun s => d.length - s.1) (0, pre, v1) [] (by simp [hr]) (by simp) (by simp) ?_)
  rintro ⟨b, pre, v1⟩ ⟨hb, hr⟩
  simp only at hb hr ⊢
  repeat apply za
  refine ze [] (zm e0 hc) ?_
  refine zr rfl (fun hc2 => ?_) (fun hc2 => ?_)
  ·simp at hc2
   obtain ⟨t, tl2, b1, b2, b3, e2⟩ := zE rfl d b hc2
   have htl := hp.t d hdm t (List.mem_of_getElem? b1)
   rw [b2] at hr
   simp only [List.flatten_cons, List.map_append, List.append_assoc] at hr
   refine zh (za (zj (za (ze [] (yh e0 hc e2 hc2) ?_))))
   refine za (zb ?_)
   refine zj (zG (fun s : Nat × List (Stop × Nat) × Nat => s.1 ≤ t.length ∧ told 0 p = s.2.1 ++ ((t.drop s.1).map (·, a) ++ ((d.drop (b + 1)).flatten.map (·, a) ++ told (a + 1) (p.drop (a + 1))))) (fun (j, pre, v1) => [(1, I c), (2, .ptr nx v0 0), (5, .sl (nx + 1) v1 2 0 (yq c pre).length), (6, I a), (7, I b), (8, L t), (9, I j)]) (fun (j, pre, v1) => [.cells v0 38 [L p], .cells v1 85 ((yq c pre).flatMap Enc.enc)]) (fun s => t.length - s.1) (0, pre, v1) [] (by simp [hr]) (by simp) (by simp) ?_)
   rintro ⟨j, pre, v1⟩ ⟨hj, hr⟩
   simp only at hj hr ⊢
   repeat apply za
   refine zb ?_
   refine zr rfl (fun hc3 => ?_) (fun hc3 => ?_)
   ·simp at hc3
    obtain ⟨s, tl3, c1, c2, c3, e4, e3⟩ := el 2 rfl t j hc3
    have e31 := e4 1 (by omega)
    rw [c2] at hr
    simp only [List.map_cons, List.cons_append] at hr
    have hl := ol pre _ hr
    refine zh (za (zj ?_))
    by_cases h : s.c = c
    ·refine za (ze [] (zF e3 hc3 h) ?_)
     refine zo (by simp) ?_
     refine ze [] (zm e31 hc3) ?_
     refine ⟨by omega, ?_⟩
     refine zb ?_
     exact zp (j + 1, pre ++ [(s, a)], v1 + 1) [] ⟨hc3, by simp [hr]⟩ (by simp; omega) (by simp [zt j (by omega), Z5, Y2, h]) rfl (by simp [Z5, Y2, h])
    ·refine za (ze [] (zF e3 hc3 h) ?_)
     refine zn (by simp) ?_
     refine zh (zb ?_)
     exact zp (j + 1, pre ++ [(s, a)], v1) [] ⟨hc3, by simp [hr]⟩ (by simp; omega) (by simp [zt j (by omega), Z5, Y2, h]) rfl (by simp [Z5, Y2, h])
   ·simp at hc3
    obtain rfl : j = t.length := by omega
    simp only [List.drop_length, List.map_nil, List.nil_append] at hr
    refine zy (zb ?_)
    exact zp (b + 1, pre, v1) [] ⟨hc2, hr⟩ (by simp; omega) (by simp [zt b (by omega)]) rfl (by simp)
  ·simp at hc2
   obtain rfl : b = d.length := by omega
   simp only [List.drop_length, List.flatten_nil, List.map_nil, List.nil_append] at hr
   refine zy (zb ?_)
   exact zp (a + 1, pre, v1) [] ⟨hc, hr⟩ (by simp; omega) (by simp [zt a (by omega)]) rfl (by simp)
 ·simp at hc
  obtain rfl : a = p.length := by omega
  simp only [List.drop_length, told, List.append_nil] at hr
  refine zy (za (zb ?_))
  refine yc 1 rfl ?_
  exact zg (zk hd (by simp; rfl) (by rw [hr]; simp [zq]))
open Go
theorem ZlD (n d : Nat) : ((n : Int).fdiv (2 ^ d)) = ((n / 2 ^ d : Nat) : Int) := by
 have h : (2 : Int) ^ d = ((2 ^ d : Nat) : Int) := by simp
 rw [h, Int.fdiv_eq_ediv_of_nonneg _ (Int.natCast_nonneg _)]
 rfl
theorem ZlE (n : Nat) (d : Int) (hn : n < 2 ^ 64) : Pure Tryz.prog 256 [U n, I d] (B (decide (0 ≤ d ∧ d < 64 ∧ yQ n d.toNat = 1))) := by
 by_cases h : 0 ≤ d ∧ d < 64
 ·have h1 : ¬ d < 0 := by omega
  have h2 : min d.toNat 64 = d.toNat := by omega
  have hlt : n / 2 ^ d.toNat ≤ n := Nat.div_le_self _ _
  have h3 := ZlD n d.toNat
  have hb : yQ n d.toNat = n / 2 ^ d.toNat % 2 := rfl
  generalize n / 2 ^ d.toNat = m at hlt h3 hb
  have h4 := and_one_u64 (m : Int) (by omega) (by omega)
  have h5 : IntKind.u64.wrap (m : Int) = (m : Int) := by
   simp only [IntKind.wrap, IntKind.bits, IntKind.signed]
   simp
   omega
  have h6 : ((m : Int) % 2 = 1) = (yQ n d.toNat = 1) := by rw [hb]; exact propext ⟨fun q => by omega, fun q => by omega⟩
  refine zv Tryz.func256 Tryz.ntmps256 Tryz.results256 fun S nx hd => ?_
  refine za (zb ?_)
  refine za (zT [(2, 7)] (by rfl) (by rfl) fun K Gc Gh hK hGc hGh X hX0 hX => ?_)
  simp -implicitDefEqProofs [hX0, hX]
  try clear hX0 hX X
  refine hGc _ _ _ _ _ _ _ fun hsuf => ((VH d _).mono ?_).v
  rintro _ _ ⟨rfl, rfl⟩
  refine ⟨_, _, rfl, ?_⟩
  clear hGc hGh
  clear Gc Gh
  refine zQ hsuf (D := [(2, 7)]) (by rfl) fun Gc Gh hGc hGh X hX0 hX => ?_
  simp -implicitDefEqProofs [hX0, hX, h, h1, h2, h3, h5, h4, IntKind.bits]
  try clear hX0 hX X
  refine hK _ _ _ ?_
  clear hK hGc hGh
  clear K Gc Gh
  exact zg (zk hd (by simp; rfl) (by simp [h, zq, h6]))
 ·refine zv Tryz.func256 Tryz.ntmps256 Tryz.results256 fun S nx hd => ?_
  refine za (zb ?_)
  refine za (ze [(2, 7)] trivial ?_)
  refine jP [(2, 7)] (VH d) (zm h zL) ?_
  have h7 : ¬ (0 ≤ d ∧ d < 64 ∧ yQ n d.toNat = 1) := fun q => h ⟨q.1, q.2.1⟩
  exact zg (zk hd (by simp; rfl) (by simp only [h7, zq, decide_false]))
def yy (n a k : Nat) : List Int := ((List.range k).filter fun i => decide (a ≤ i) && decide (yQ n i = 1)).map fun (i : Nat) => (i : Int)
theorem Q1 (n a k : Nat) : (yy n a k).length ≤ k := by
 simp only [yy, List.length_map]
 exact Nat.le_trans (List.length_filter_le _ _) (by simp)
theorem ZlF (n a k : Nat) (h : a ≤ k) : yy n a (k + 1) = yy n a k ++ (if yQ n k = 1 then [(k : Int)] else []) := by
 simp only [yy, List.range_succ, List.filter_append, List.map_append]
 by_cases q : yQ n k = 1 <;> simp [q, h]
theorem VN (n a k : Nat) (h : k ≤ a) : yy n a k = [] := by
 simp only [yy, List.map_eq_nil_iff, List.filter_eq_nil_iff, List.mem_range]
 intro i hi; simp; omega
theorem ZlG (n : Nat) (d : Int) (hn : n < 2 ^ 64) (hdl : d ≤ 1000) : Pure Tryz.prog 255 [.fn (.func 256) [U n] [], I d] (L (yy n d.toNat 64)) := by
 have hmax : xz d 0 = ((d.toNat : Nat) : Int) := by unfold xz; split <;> omega
 have h64 : yy n d.toNat (max d.toNat 64) = yy n d.toNat 64 := by
  by_cases q : d.toNat ≤ 64
  ·rw [Nat.max_eq_right q]
  ·rw [Nat.max_eq_left (by omega), VN _ _ _ (Nat.le_refl _), VN _ _ _ (by omega)]
 have ha : d.toNat ≤ 1000 := by omega
 have main : ∀ a : Nat, a ≤ 1000 → yy n a (max a 64) = yy n d.toNat 64 → xz d 0 = (a : Int) → Pure Tryz.prog 255 [.fn (.func 256) [U n] [], I d] (L (yy n d.toNat 64)) := by
  intro a ha h64 hmax
  refine zv Tryz.func255 Tryz.ntmps255 Tryz.results255 fun S nx hd => ?_
  refine za (zb ?_)
  refine za (zb ?_)
  refine za (qV 5 3 1 rfl fun v1 => ?_)
  refine za (ze [] hmax ?_)
  refine zj (zG (fun s : Nat × List Int × Nat => a ≤ s.1 ∧ s.1 ≤ max a 64 ∧ s.2.1 = yy n a s.1) (fun (k, out, v1) => [(0, .fn (.func 256) [U n] []), (5, .sl nx v1 1 0 out.length), (6, I k)]) (fun (k, out, v1) => [.cells v1 3 (out.flatMap Enc.enc)]) (fun s => max a 64 - s.1) (a, [], v1) [] (by simp [VN]; omega) (by simp) (by simp) ?_)
  rintro ⟨k, out, v1⟩ ⟨hk0, hk, ho⟩
  simp only at hk0 hk ho ⊢
  have hol : out.length ≤ k := by rw [ho]; exact Q1 _ _ _
  repeat apply za
  refine zb ?_
  refine zr rfl (fun hc => ?_) (fun hc => ?_)
  ·simp at hc
   have hc' : k < 64 := by omega
   refine zh (za (zj (za (zb ?_))))
   refine zz (ZlE n k hn) ?_
   have hs := ZlF n a k hk0
   refine zr rfl (fun hb => ?_) (fun hb => ?_)
   ·simp at hb
    refine zb ?_
    refine ⟨by omega, ?_⟩
    refine zb ?_
    exact zp (k + 1, out ++ [(k : Int)], v1 + 1) [] ⟨by omega, by omega, by rw [hs, if_pos hb.2, ho]⟩ (by simp; omega) (by simp [zt k (by omega)]) rfl (by simp)
   ·have hb' : ¬ yQ n k = 1 := by simp at hb; exact hb (by omega)
    refine zh (zb ?_)
    exact zp (k + 1, out, v1) [] ⟨by omega, by omega, by rw [hs, if_neg hb', ho]; simp⟩ (by simp; omega) (by simp [zt k (by omega)]) rfl (by simp)
  ·simp at hc
   obtain rfl : k = max a 64 := by omega
   refine zy (za (zb ?_))
   refine yc 0 rfl ?_
   exact zg (zk hd (by simp; rfl) (by simp [ho, h64, zq]))
 exact main d.toNat ha h64 hmax
def ZdH (n : Nat) (d : Int) : Int := (yy n d.toNat 64).headD (-1)
open Go
def x7 (n lo hi : Int) : Bool := decide (lo ≤ n ∧ n ≤ hi)
def ZdI (c : Cust) (days : Int) : Bool := (c.pats.all fun p => decide (ZdH p days < 0)) && x7 c.pats.length 1 64
def ZdJ (c : Cust) : Bool := decide (c.rate = 0 ∧ c.size = 0 ∧ c.start = 0 ∧ c.rule = 0 ∧ c.hold = 0)
def ZdK (c : Cust) : Bool := decide (c.rule = 1 ∨ c.rule = 2)
def ZdL (c : Cust) : Bool := decide (c.pats.length = 0 ∧ c.demand = 0)
structure Must where
 f : FuncId
 b : Bool
instance : Enc Must := ⟨fun m => [.fn (.func m.f) [] []], 1, fun _ => rfl, fun _ => rfl⟩
@[simp] theorem Zrt (m : Must) : Enc.enc m = [.fn (.func m.f) [] []] := rfl
@[simp high] theorem Zru (l : List Must) : (l.flatMap Enc.enc).length = l.length := (jO l).trans (Nat.mul_one _)
def XA (c : Cust) (d : Int) : Bool :=
 if c.kind = 1 then (x7 c.demand 1 2147483648 && ZdI c d && ZdJ c)
 else if c.kind = 2 then (x7 c.rate 0 2147483648 && x7 c.size 1 2147483648 && x7 c.start 0 c.size && ZdK c && x7 c.hold 0 1024 && ZdL c) else false
open Go
def XB (n : Nat) : Nat → List (List Int) → Bool
 | _, [] => true
 | a, row :: l => (decide (row.length = n) && decide (row.getD a 0 = 0) && row.all (x7 · 0 2147483648)) && XB n (a + 1) l
def ZdM (l : List (List Int)) (n : Nat) : Bool := decide (l.length = n) && XB n 0 l
def Q3 (x : Inst) : Bool :=
 x7 x.days 1 64 && decide (x.cust.length ≤ 2000) && x7 x.veh 0 2147483648 && x7 x.cap 0 2147483648 && x7 x.len 0 2147483648 && x.cust.all (XA · x.days) && ZdM x.dist (x.cust.length + 1)
open Go
theorem ZlH (n : Nat) (d : Int) : yy n d.toNat 64 = (yy n 0 64).filter fun x => decide (d ≤ x) := by
 simp only [yy, List.filter_map, List.filter_filter, Nat.zero_le, decide_true, Bool.true_and]
 congr 1
 apply List.filter_congr
 intro i _
 have : (d.toNat ≤ i) = (d ≤ (i : Int)) := propext ⟨fun h => by omega, fun h => by omega⟩
 simp only [Function.comp, this]
open Go
abbrev ZlI (x : Inst) (p : zx) (i : Int) : List PV := [I x.days, I x.veh, I x.cap, I x.len, L x.cust, L x.dist, L p, I i]
def VO (c : Cust) (v : List Visit) : Int := if (v.any fun s => decide (s.q ≠ c.demand)) = true then 9 else if VG (v.map (·.d)) ∈ c.pats then 0 else 10
def XC (x : Inst) (p : zx) (i : Nat) : Int :=
 match x.cust[i]? with
 | none => 5
 | some c => if c.kind = 2 then x6 c (zS (yq i (told 0 p)) x.days) else VO c (yq i (told 0 p))
structure Serves (x : Inst) (p : zx) : Prop where
 sz : PlanOk p
 q : ∀ s ∈ told 0 p, 0 ≤ s.1.q ∧ s.1.q ≤ 2147483648
 days : p.length ≤ 64
theorem ZdN : ∀ (p : zx) (i : Nat) (x : Stop × Nat), x ∈ told i p → i ≤ x.2 ∧ x.2 < i + p.length
 | [], _, _, h => by cases h
 | d :: p, i, x, h => by
  simp only [told, List.mem_append, List.mem_map] at h
  simp only [List.length_cons]
  rcases h with ⟨s, _, rfl⟩ | h
  ·simp only; omega
  ·have := ZdN p (i + 1) x h; omega
theorem ZdO {x : Inst} {p : zx} (h : Serves x p) (c : Int) : VisOk (yq c (told 0 p)) ∧ ∀ s ∈ yq c (told 0 p), 0 ≤ s.d ∧ s.d ≤ 63 := by
 have hd : ∀ s ∈ yq c (told 0 p), (0 ≤ s.q ∧ s.q ≤ 2147483648) ∧ 0 ≤ s.d ∧ s.d ≤ 63 := by
  intro s hs
  simp only [yq, List.mem_map, List.mem_filter] at hs
  obtain ⟨y, ⟨hy, _⟩, rfl⟩ := hs
  have h1 := h.q y hy
  have h2 := ZdN p 0 y hy
  have h3 := h.days
  simp only; omega
 exact ⟨⟨Nat.le_trans (Zdy _ _) h.sz.told, fun s hs => (hd s hs).1, fun s hs => by have := (hd s hs).2; unfold z8; omega⟩, fun s hs => (hd s hs).2⟩
theorem ZlJ (x : Inst) (p : zx) (i : Nat) (h : Serves x p) : Pure Tryz.prog 165 [.agg (ZlI x p i)] (L (zS (yq i (told 0 p)) x.days)) := by
 have h1 := Zlc p i h.sz
 have h2 := ZdG _ x.days (ZdO h i).1
 generalize zS (yq i (told 0 p)) x.days = q at h2 ⊢
 generalize yq i (told 0 p) = v at h1 h2
 refine zv Tryz.func165 Tryz.ntmps165 Tryz.results165 fun S nx hd => ?_
 refine za (zb ?_)
 intro v0
 refine za (zB (some [nx]) (Row.pures [0, 1, 2, 3, 4, 5, 6, 7, 8, 9] .done) mixed trivial ?_)
 refine zI (h1) trivial ?_
 refine zI (h2) trivial ?_
 exact zg (zk hd (by simp; rfl) rfl)
open Go
theorem ZdP : ∀ (l : List Int), (∀ b ∈ l, b = 0 ∨ b = 1) → ∀ i : Nat, (jA l).toNat.testBit i = decide (l[i]? = some 1)
 | [], _, i => by simp [jA]
 | b :: l, h, i => by
  have hl : ∀ b ∈ l, b = 0 ∨ b = 1 := fun x hx => h x (by simp [hx])
  have h0 := (WB l hl).1
  have hb := h b (by simp)
  have hn : jA (b :: l) = 2 * jA l + b := rfl
  cases i with
  | zero =>
   rw [Nat.testBit_zero, hn]
   simp only [List.getElem?_cons_zero, Option.some.injEq]
   apply decide_eq_decide.2
   omega
  | succ i =>
   rw [Nat.testBit_succ, hn]
   have : (2 * jA l + b).toNat / 2 = (jA l).toNat := by omega
   rw [this, ZdP l hl i]
   simp
theorem Y4 (n i : Nat) : n.testBit i = decide (yQ n i = 1) := by rw [Nat.testBit_eq_decide_div_mod_eq]; rfl
theorem ZlK (n d : Nat) (hn : n < 2 ^ 64) (hd : d < 64) : YH n d = jR n d := by
 have h01 : ∀ b ∈ (jn n).set d 1, b = 0 ∨ b = 1 := fun b hb => by
  rcases WD hb with h | h
  ·exact WA n b h
  ·exact .inr h
 apply Nat.eq_of_testBit_eq
 intro i
 unfold YH QC jR
 rw [ZdP _ h01, if_pos (by omega), Nat.testBit_or, Int.toNat_natCast, Nat.testBit_two_pow, List.getElem?_set]
 have hl := YG n
 by_cases h : d = i
 ·subst h; simp [hl, hd]
 ·rw [if_neg h]
  by_cases hi : i < 64
  ·rw [Zbo n i hi, Y4]
   simp [h]; omega
  ·rw [List.getElem?_eq_none (by omega)]
   have : n.testBit i = false := Nat.testBit_lt_two_pow (Nat.lt_of_lt_of_le hn (Nat.pow_le_pow_right (by decide) (by omega)))
   simp [this, h]
open Go
def jS : List Int → Int
 | [] => 0
 | e :: l => if e ≠ 0 then e else jS l
theorem XE {l : List Int} (h : ∀ e ∈ l, e = 0) : jS l = 0 := by
 induction l with
 | nil => rfl
 | cons e l ih => simp only [jS, h e (by simp), ne_eq, not_true, if_false]; exact ih fun x hx => h x (by simp [hx])
theorem ZlL {l : List Int} {k : Nat} {e : Int} (h : ∀ e ∈ l.take k, e = 0) (hk : l[k]? = some e) (he : e ≠ 0) : jS l = e := by
 induction l generalizing k with
 | nil => cases hk
 | cons a l ih =>
  cases k with
  | zero => simp at hk; subst hk; simp [jS, he]
  | succ k =>
   simp only [jS, h a (by simp), ne_eq, not_true, if_false]
   exact ih (k := k) (fun x hx => h x (by rw [List.take_succ_cons]; simp [hx])) (by simpa using hk)
theorem VP (l : List Int) : jS l = 0 ↔ ∀ e ∈ l, e = 0 := by
 refine ⟨fun h => ?_, XE⟩
 induction l with
 | nil => intro e he; cases he
 | cons a l ih =>
  simp only [jS] at h
  split at h
  ·rename_i hne; exact absurd h hne
  ·rename_i hne
   intro e he
   rcases List.mem_cons.1 he with rfl | he
   ·simpa using hne
   ·exact ih h e he
def Q4 (x : Inst) (p : zx) : Int :=
 if Q3 x = false then 3 else if (p.length : Int) ≠ x.days then 1 else if jS (p.map (yv x)) ≠ 0 then jS (p.map (yv x)) else jS ((List.range x.cust.length).map (XC x p))
structure PlanSz (p : zx) : Prop where
 ok : PlanOk p
 f : ∀ d ∈ p, d.flatten.length ≤ 1048576
theorem ZdQ : ∀ (p : zx) (i : Nat) (x : Stop × Nat), x ∈ told i p → ∃ d ∈ p, x.1 ∈ d.flatten
 | [], _, _, h => by cases h
 | d :: p, i, x, h => by
  simp only [told, List.mem_append, List.mem_map] at h
  rcases h with ⟨s, hs, rfl⟩ | h
  ·exact ⟨d, by simp, hs⟩
  ·obtain ⟨d', h1, h2⟩ := ZdQ p (i + 1) x h; exact ⟨d', by simp [h1], h2⟩
theorem ZdR {x : Inst} {d : zi} (h : yv x d = 0) : ∀ s ∈ d.flatten, qY x s = true := by
 intro s hs
 obtain ⟨t, ht, hst⟩ := List.mem_flatten.1 hs
 have hm : zJ x t = 0 := by
  unfold yv at h
  split at h
  ·rename_i u hu
   have := List.find?_some hu
   simp [h] at this
  ·rename_i hn
   rw [List.find?_eq_none] at hn
   simpa using hn t ht
 have : qk x t = true := by
  by_cases q : qk x t = true
  ·exact q
  ·simp [zJ, q] at hm
 unfold qk at this
 simp only [Bool.and_eq_true, List.all_eq_true] at this
 exact this.1 s hst
open Go Go.Proofs Hp
def Z7 (l : List Visit) (day : Int) (i k : Nat) : List Stop := ((l.take k).filter (fun w => w.d = day)).map fun w => ⟨i, w.q⟩
def wB (v : List (List Visit)) (day : Int) (i : Nat) : List Stop := ((v.getD i []).filter (fun w => w.d = day)).map fun w => ⟨i, w.q⟩
def qp (v : List (List Visit)) (day : Int) (n : Nat) : List Stop := (List.range n).flatMap (wB v day)
theorem VQ (v : List (List Visit)) (day : Int) (n : Nat) : qp v day (n + 1) = qp v day n ++ wB v day n := by simp [qp, List.range_succ]
theorem ZlM (l : List Visit) (day : Int) (i : Nat) : Z7 l day i 0 = [] := rfl
theorem ZlN (v : List (List Visit)) (day : Int) (i : Nat) (l : List Visit) (h : v[i]? = some l) : Z7 l day i l.length = wB v day i := by
 unfold Z7 wB; rw [List.take_length, List.getD_eq_getElem?_getD, h]; rfl
theorem ZdS {l : List Visit} {k : Nat} {w : Visit} (h : l[k]? = some w) (day : Int) (i : Nat) : Z7 l day i (k + 1) = Z7 l day i k ++ (if w.d = day then [⟨i, w.q⟩] else []) := by
 unfold Z7
 rw [List.take_add_one, h]
 simp only [Option.toList_some, List.filter_append, List.map_append]
 split
 ·rename_i e; simp [e]
 ·rename_i e; simp [e]
structure VsOk (m n : Nat) (v : List (List Visit)) : Prop where
 len : v.length = m
 ok : ∀ l ∈ v, ∀ w ∈ l, (0 ≤ w.d ∧ w.d < n) ∧ 1 ≤ w.q ∧ w.q ≤ 2147483648
 nd : ∀ l ∈ v, (l.map (·.d)).Nodup
 few : ∀ l ∈ v, l.length ≤ 1000
theorem VsOk.at {m n : Nat} {v : List (List Visit)} (h : VsOk m n v) (i : Nat) : (∀ w ∈ v.getD i [], (0 ≤ w.d ∧ w.d < n) ∧ 1 ≤ w.q ∧ w.q ≤ 2147483648) ∧ ((v.getD i []).map (·.d)).Nodup := by
 rw [List.getD_eq_getElem?_getD]
 cases e : v[i]? with
 | none => exact ⟨by simp, by simp⟩
 | some l => exact ⟨h.ok l (List.mem_of_getElem? e), h.nd l (List.mem_of_getElem? e)⟩
theorem ZdT {l : List Visit} (h : (l.map (·.d)).Nodup) (day : Int) : (l.filter (fun w => w.d = day)).length ≤ 1 := by
 have h1 := (List.filter_sublist (p := fun w : Visit => decide (w.d = day)) (l := l)).map (·.d)
 have h2 := h.sublist h1
 have h3 : ∀ w ∈ l.filter (fun w => w.d = day), w.d = day := fun w hw => by simpa using (List.mem_filter.1 hw).2
 generalize l.filter (fun w => decide (w.d = day)) = m at h2 h3
 match m, h2, h3 with
 | [], _, _ => simp
 | [_], _, _ => simp
 | a :: b :: m, h2, h3 =>
  exfalso
  have ea := h3 a (by simp)
  have eb := h3 b (by simp)
  simp only [List.map_cons, List.nodup_cons, List.mem_cons] at h2
  exact h2.1 (.inl (by rw [ea, eb]))
theorem ZdU {m n : Nat} {v : List (List Visit)} (h : VsOk m n v) (day : Int) (i : Nat) : (wB v day i).length ≤ 1 := by
 unfold wB; rw [List.length_map]; exact ZdT (h.at i).2 day
theorem ZdV {m n : Nat} {v : List (List Visit)} (h : VsOk m n v) {day : Int} {i : Nat} {s : Stop} (hs : s ∈ wB v day i) : s.c = i ∧ 1 ≤ s.q ∧ s.q ≤ 2147483648 := by
 obtain ⟨w, hw, rfl⟩ := List.mem_map.1 hs
 exact ⟨rfl, ((h.at i).1 w (List.mem_filter.1 hw).1).2⟩
theorem VR {m n : Nat} {v : List (List Visit)} (h : VsOk m n v) (day : Int) : ∀ k : Nat, (qp v day k).length ≤ k ∧ (∀ s ∈ qp v day k, (0 ≤ s.c ∧ s.c < k) ∧ 1 ≤ s.q ∧ s.q ≤ 2147483648) ∧ ((qp v day k).map (·.c)).Nodup
 | 0 => ⟨by simp [qp], by simp [qp], by simp [qp]⟩
 | k + 1 => by
  obtain ⟨h1, h2, h3⟩ := VR h day k
  have h4 := ZdU h day k
  have h5 : ∀ s ∈ wB v day k, s.c = k ∧ 1 ≤ s.q ∧ s.q ≤ 2147483648 := fun s hs => ZdV h hs
  rw [VQ]
  refine ⟨by rw [List.length_append]; omega, fun s hs => ?_, ?_⟩
  ·rcases List.mem_append.1 hs with hs | hs
   ·have := h2 s hs; omega
   ·have := h5 s hs; omega
  ·rw [List.map_append]
   generalize wB v day k = e at h4 h5
   match e, h4, h5 with
   | [], _, _ => simpa using h3
   | [s], _, h5 =>
    refine J7 _ _ h3 fun hm => ?_
    obtain ⟨u, hu, e⟩ := List.mem_map.1 hm
    have q1 := h2 u hu
    have q2 := h5 s (by simp)
    have q3 : u.c = s.c := e
    omega
   | _ :: _ :: _, h4, _ => simp at h4
structure InstH (x : Inst) : Prop where
 cust : x.cust.length ≤ 1000
 diag : arc x 0 0 = 0
 arc : jh x
 veh : 0 ≤ x.veh
theorem Y5 {x : Inst} (hx : InstH x) {n : Nat} {v : List (List Visit)} (h : VsOk x.cust.length n v) (day : Int) : SOk x (qp v day x.cust.length) := by
 obtain ⟨h1, h2, h3⟩ := VR h day x.cust.length
 have := hx.cust
 exact ⟨by omega, hx.arc, hx.veh, by omega, fun s hs => by have := h2 s hs; unfold small; omega, h3⟩
def Z8 (x : Inst) (v : List (List Visit)) (b : Int) (n : Nat) : List (zi × Int) := (List.range n).map fun d : Nat => qL x b (qp v d x.cust.length)
def q9 (x : Inst) (v : List (List Visit)) (b : Int) (n : Nat) : zx := (Z8 x v b n).map (·.1)
def qz (x : Inst) (v : List (List Visit)) (b : Int) (n : Nat) : List Int := (Z8 x v b n).map (·.2)
theorem Q5 (x : Inst) (v : List (List Visit)) (b : Int) (n : Nat) : (q9 x v b n).length = n := by simp [q9, Z8]
theorem ZdW (x : Inst) (v : List (List Visit)) (b : Int) (n : Nat) : (qz x v b n).length = n := by simp [qz, Z8]
theorem ZdX (x : Inst) (v : List (List Visit)) (b : Int) (n : Nat) : q9 x v b (n + 1) = q9 x v b n ++ [(qL x b (qp v n x.cust.length)).1] := by simp [q9, Z8, List.range_succ]
theorem ZlO (x : Inst) (v : List (List Visit)) (b : Int) (n : Nat) : qz x v b (n + 1) = qz x v b n ++ [(qL x b (qp v n x.cust.length)).2] := by simp [qz, Z8, List.range_succ]
open Go Go.Proofs Hp
theorem ZlP (x : Inst) (v : List (List Visit)) (day : Int) (n : Nat) (hx : x.cust.length ≤ 1000) (hv : VsOk x.cust.length n v) : Pure Tryz.prog 15 [.agg (zA x), L v, I day] (L (qp v day x.cust.length)) := by
 have hvl := hv.len
 have hso := fun k => (VR hv day k).1
 have hmi : vw (x.cust.length : Int) (x.cust.length : Int) = x.cust.length := by unfold vw; simp
 refine zv Tryz.func15 Tryz.ntmps15 Tryz.results15 fun S nx hd => ?_
 refine za (zb ?_)
 intro v0
 refine za (zb ?_)
 refine za (qV 7 35 2 rfl fun v1 => ?_)
 refine za (zb ?_)
 refine zj (zG (fun s : Nat × List Stop × Nat => s.1 ≤ x.cust.length ∧ s.2.1 = qp v day s.1) (fun (i, out, w) => [(1, L v), (2, I day), (7, .sl (nx + 1) w 2 0 out.length), (16, I x.cust.length), (17, I i)]) (fun (i, out, w) => [.cells v0 25 (zA x), .cells w 35 (out.flatMap Enc.enc)]) (fun s => x.cust.length - s.1) (0, [], v1) [] (by simp [qp]) (by simp [hvl, hmi]) (by simp) ?_)
 rintro ⟨i, out, w⟩ ⟨hi, ho⟩
 simp only at hi ho ⊢
 refine za (zb ?_)
 refine za (zr rfl (fun hc => ?_) (fun hc => ?_))
 ·simp at hc
  have hiv : i < v.length := by omega
  obtain ⟨l, tl, a1, a2, a3, e0⟩ := zE rfl v i hiv
  have hll := hv.few l (List.mem_of_getElem? a1)
  have hoi := hso i
  refine zh (za (zj (za (zb ?_))))
  refine za (ze [] (zm e0 hiv) ?_)
  refine zj (zG (fun s : Nat × List Stop × Nat => s.1 ≤ l.length ∧ s.2.1 = qp v day i ++ Z7 l day i s.1 ∧ s.2.1.length ≤ i + s.1) (fun (k, out, w) => [(1, L v), (2, I day), (7, .sl (nx + 1) w 2 0 out.length), (8, I i), (16, I x.cust.length), (17, I i), (23, L l), (24, I l.length), (25, I k)]) (fun (k, out, w) => [.cells v0 25 (zA x), .cells w 35 (out.flatMap Enc.enc)]) (fun s => l.length - s.1) (0, out, w) [] ⟨by simp, by simp [ZlM, ho], by simp [ho]; omega⟩ (by simp) (by simp) ?_)
  clear ho
  rintro ⟨k, out, w⟩ ⟨hk, ho, hol⟩
  simp only at hk ho hol ⊢
  refine za (zb ?_)
  refine za (zr rfl (fun hc2 => ?_) (fun hc2 => ?_))
  ·simp at hc2
   obtain ⟨s, tl2, b1, b2, b3, e1, e2⟩ := el 2 rfl l k hc2
   refine zh (za (zj (za (ze [] (zF e1 e2 hc2) ?_))))
   intro v2
   refine za (zb ?_)
   by_cases hd : s.d = day
   ·repeat apply za
    refine zo (by simp [hd]) ?_
    refine zb ?_
    refine ⟨by omega, ?_⟩
    refine zb ?_
    exact zp (k + 1, out ++ [⟨i, s.q⟩], w + 1) [_] ⟨hc2, by rw [ZdS b1, if_pos hd, ho]; simp, by simp; omega⟩ (by simp; omega) (by simp [zt k (by omega)]) rfl (by simp; rfl)
   ·repeat apply za
    refine zn (by simp [hd]) ?_
    refine zh (zb ?_)
    exact zp (k + 1, out, w) [_] ⟨hc2, by rw [ZdS b1, if_neg hd, ho]; simp, by dsimp only; omega⟩ (by simp; omega) (by simp [zt k (by omega)]) rfl (by simp; rfl)
  ·simp at hc2
   obtain rfl : k = l.length := by omega
   rw [ZlN v day i l a1, ← VQ] at ho
   refine zy (zb ?_)
   exact zp (i + 1, out, w) [] ⟨hc, ho⟩ (by simp; omega) (by simp [zt i (by omega)]) rfl (by simp)
 ·simp at hc
  obtain rfl : i = x.cust.length := by omega
  refine zy (yc 1 rfl ?_)
  refine za (zb ?_)
  exact zg (zk hd (by simp; rfl) (by simp [zq, ho]))
theorem ZdY (a b : zx) (ha : a.length ≤ 1048576) (hat : ∀ t ∈ a, t.length ≤ 1048576) (hau : ∀ t ∈ a, ∀ u ∈ t, u.length ≤ 1048576) : Pure Tryz.prog 19 [.agg [L a], .agg [L b]] (B (decide (a = b))) := by
 refine zv Tryz.func19 Tryz.ntmps19 Tryz.results19 fun S nx hd => ?_
 refine za (zb ?_)
 intro v0 v1
 by_cases hab : a.length = b.length
 case neg =>
  have : a ≠ b := fun e => hab (by rw [e])
  repeat apply za
  refine zb ?_
  refine zo (by simp; omega) ?_
  refine za (zb ?_)
  exact zg (zk hd rfl (by simp [this]))
 repeat apply za
 refine zb ?_
 refine zn (by simp; omega) ?_
 refine zh ?_
 repeat apply za
 refine zb ?_
 refine zj (zG (fun k : Nat => k ≤ a.length ∧ a.take k = b.take k) (fun k => [(2, .ptr nx v0 0), (3, .ptr (nx + 1) v1 0), (5, I k)]) (fun _ => [.cells v0 38 [L a], .cells v1 38 [L b]]) (fun k => a.length - k) 0 [] (by simp) (by simp) (by simp) ?_)
 rintro k ⟨hk, hkt⟩
 repeat apply za
 refine zb ?_
 refine zr rfl (fun hc => ?_) (fun hc => ?_)
 ·simp at hc
  obtain ⟨s, ts, a1, -, a3, e1⟩ := zE rfl a k hc
  obtain ⟨t, tt, b1, -, b3, e2⟩ := zE rfl b k (by omega)
  have hcb : k < b.length := by omega
  have h1 : 1 ≤ a.length - k := by omega
  have h2 : 1 ≤ b.length - k := by omega
  have hsl := hat s (List.mem_of_getElem? a1)
  have hsu := hau s (List.mem_of_getElem? a1)
  refine zh (za (zj ?_))
  repeat apply za
  refine zB (some [nx, nx + 1]) (Row.pures [0, 1, 2, 3, 4, 5, 6, 7, 8, 9, 10, 11, 12, 13, 14] .done) mixed (yg e1 e2 hc hcb h1 h2) ?_
  by_cases hst : s.length = t.length
  case neg =>
   have : a ≠ b := YT a1 b1 fun e => hst (by rw [e])
   refine zo (by simp; omega) ?_
   refine za (zb ?_)
   exact zg (zk hd rfl (by simp [this]))
  refine zn (by simp; omega) ?_
  refine zh (za (zb ?_))
  refine zj (zG (fun j : Nat => j ≤ s.length ∧ s.take j = t.take j) (fun j => [(2, .ptr nx v0 0), (3, .ptr (nx + 1) v1 0), (5, I k), (6, I j)]) (fun _ => [.cells v0 38 [L a], .cells v1 38 [L b]]) (fun j => s.length - j) 0 [] (by simp) (by simp) (by simp) ?_)
  rintro j ⟨hj, hjt⟩
  repeat apply za
  refine ze [] (zF e1 hc h1) ?_
  refine zr rfl (fun hcj => ?_) (fun hcj => ?_)
  ·simp at hcj
   obtain ⟨p, tp, p1, -, p3, q1⟩ := zE rfl s j hcj
   obtain ⟨q, tq, c1, -, c3, q2⟩ := zE rfl t j (by omega)
   have hjb : j < t.length := by omega
   have g1 : 1 ≤ s.length - j := by omega
   have g2 : 1 ≤ t.length - j := by omega
   have hpl := hsu p (List.mem_of_getElem? p1)
   refine zh (za (zj (za (ze [] (yg e1 hc h1 q1 hcj g1) ?_))))
   refine za (ze [] (yg e2 hcb h2 q2 hjb g2) ?_)
   repeat apply za
   refine zb ?_
   by_cases hpq : p.length = q.length
   case neg =>
    have : a ≠ b := YT a1 b1 (YT p1 c1 fun e => hpq (by rw [e]))
    refine zo (by simp; omega) ?_
    refine za (zb ?_)
    exact zg (zk hd rfl (by simp [this]))
   refine zn (by simp; omega) ?_
   refine zh (za (zb ?_))
   refine zj (zG (fun i : Nat => i ≤ p.length ∧ p.take i = q.take i) (fun i => [(2, .ptr nx v0 0), (3, .ptr (nx + 1) v1 0), (5, I k), (6, I j), (7, L p), (8, L q), (9, I i)]) (fun _ => [.cells v0 38 [L a], .cells v1 38 [L b]]) (fun i => p.length - i) 0 [] (by simp) (by simp) (by simp) ?_)
   rintro i ⟨hi, hit⟩
   repeat apply za
   refine zb ?_
   refine zr rfl (fun hci => ?_) (fun hci => ?_)
   ·simp at hci
    obtain ⟨y, ty, y1, -, y3, -, r1⟩ := el 2 rfl p i hci
    obtain ⟨z, tz, z1, -, z3, -, r2⟩ := el 2 rfl q i (by omega)
    have hib : i < q.length := by omega
    refine zh (za (zj (za (zB none (Row.pures [0, 1, 2, 3, 4, 5, 6, 7, 8] .done) mixed (yh r1 r2 hci hib) ?_))))
    by_cases hyz : y = z
    ·subst hyz
     refine zn (by simp) ?_
     refine zh (zb ?_)
     exact zp (i + 1) [] ⟨by omega, by rw [y3, z3, hit]⟩ (by omega) (by simp [zt i (by omega)]) rfl (by simp)
    ·have hne : ¬ y.c = z.c ∨ ¬ y.q = z.q := by
      by_cases h1 : y.c = z.c
      ·right
       intro h2
       apply hyz
       cases y; cases z
       cases h1; cases h2; rfl
      ·exact .inl h1
     have : a ≠ b := YT a1 b1 (YT p1 c1 (YT y1 z1 hyz))
     refine zo (by simp; exact hne) ?_
     refine za (zb ?_)
     exact zg (zk hd rfl (by simp [this]))
   ·simp at hci
    obtain rfl : i = p.length := by omega
    rw [List.take_length, hpq, List.take_length] at hit
    refine zy (zb ?_)
    exact zp (j + 1) [] ⟨by omega, by rw [p3, c3, hjt, hit]⟩ (by omega) (by simp [zt j (by omega)]) rfl (by simp)
  ·simp at hcj
   obtain rfl : j = s.length := by omega
   rw [List.take_length, hst, List.take_length] at hjt
   refine zy (zb ?_)
   exact zp (k + 1) [] ⟨by omega, by rw [a3, b3, hkt, hjt]⟩ (by omega) (by simp [zt k (by omega)]) rfl (by simp)
 ·simp at hc
  obtain rfl : k = a.length := by omega
  rw [List.take_length, hab, List.take_length] at hkt
  refine zy (za (zb ?_))
  exact zg (zk hd rfl (by simp [hkt]))
open Go
section
variable {P : Program} {r : Rd} {n N : Nat} {Q : Exit → (Nat → PV) → Store → Prop} {F : Nat → PV} {c : Code}
theorem ZlQ {S1 T : Store} {G : Nat → PV} {id ver e : Nat} {cs : List PV} (hid : S1 id = .cells ver e cs) (hT : T id = .dead) (hat : ∀ o, T o = .dead ∨ T o = S1 o ∨ T o = jN id ver cs (S1 o))
  (hG : ∀ i, G i = F i ∨ G i = yW id ver cs (F i)) (h : PW P r n N c Q G T) : PW P r n N c Q F S1 := by
 refine uL (F' := G) (S' := T) (fun C w a st => ?_) h
 have hver : ∀ o v, (T o).ver = some v → (S1 o).ver = some v := by
  intro o v hv
  rcases hat o with q | q | q
  ·rw [q] at hv; cases hv
  ·rw [q] at hv; exact hv
  ·rw [q, Za8] at hv; exact hv
 have hne : ∀ o, T o ≠ .dead → S1 o ≠ .dead := by
  intro o ho hd
  rcases hat o with q | q | q
  ·exact ho q
  ·exact ho (q.trans hd)
  ·rw [hd] at q; exact ho q
 have hM : ∀ b, C.M T b → C.M S1 b := fun b ⟨o, k, ho, hl⟩ => ⟨o, k, hne o ho, hl⟩
 have hstep : Step C S1 w C T w := ⟨rfl, ⟨rfl, Nat.le_refl _⟩, rfl, Nat.le_refl _, Nat.le_refl _, Nat.le_refl _, fun b _ hb => ⟨rfl, fun h => hb (hM b h)⟩, fun o v1 hv => .inr ⟨v1, hver o v1 hv, Nat.le_refl _, fun _ => rfl⟩⟩
 have hrel : ∀ {p u}, Rel C S1 w p u → Rel C T w (yW id ver cs p) u := fun h => JR st.sim hid hT hne hstep h
 refine ⟨C, ⟨⟨fun o ho => st.sim.lt o (hne o ho), fun o v hv => st.sim.clk o v (hver o v hv), fun o o' b k k' ho ho' => st.sim.dist o o' b k k' (hne o ho) (hne o' ho'), ?_, ?_⟩, st.size, fun i => ?_, r.keep hstep st.v⟩, hstep⟩
 ·intro o v e' ds ho
  rcases hat o with q | q | q
  ·rw [q] at ho; cases ho
  ·rw [q] at ho
   rcases st.sim.cells o v e' ds ho with hn | ⟨b, k, c, h1, h2, h3, h4, h5, h6⟩
   ·exact .inl hn
   ·exact .inr ⟨b, k, c, h1, h2, h3, h4, h5, fun i p u hp hu => (h6 i p u hp hu).mono hstep⟩
  ·rw [q] at ho
   cases hs : S1 o with
   | dead => rw [hs] at ho; cases ho
   | map v es => rw [hs] at ho; cases ho
   | cells v2 e2 ds2 =>
    rw [hs] at ho
    cases ho
    rcases st.sim.cells o _ _ ds2 hs with ⟨h1, h2⟩ | ⟨b, k, c, h1, h2, h3, h4, h5, h6⟩
    ·exact .inl ⟨h1, by rw [h2]; rfl⟩
    ·refine .inr ⟨b, k, c, h1, h2, h3, by simpa using h4, fun i v hi hv => h5 i v (by simpa using hi) hv, fun i p u hp hu => ?_⟩
     rw [List.getElem?_map] at hp
     obtain ⟨p0, hp0, rfl⟩ := Option.map_eq_some_iff.1 hp
     exact hrel (h6 i p0 u hp0 hu)
 ·intro o v es ho
  have hs : S1 o = .map v es := by
   rcases hat o with q | q | q
   ·rw [q] at ho; cases ho
   ·rw [q] at ho; exact ho
   ·rw [q] at ho
    cases hs : S1 o with
    | dead => rw [hs] at ho; cases ho
    | map v es => rw [hs] at ho; exact ho
    | cells v2 e2 ds2 => rw [hs] at ho; cases ho
  obtain ⟨b, k, ms, cl, h1, h2, h3, h4⟩ := st.sim.maps o v es hs
  exact ⟨b, k, ms, cl, h1, h2, h3, fun i x m hx hm => ⟨(h4 i x m hx hm).1, (h4 i x m hx hm).2.mono hstep⟩⟩
 ·rcases hG i with q | q
  ·rw [q]; exact (st.fr i).mono hstep
  ·rw [q]; exact hrel (st.fr i)
def x8 {α : Type} (base sz : Nat) (ws : Nat → Nat) (rows : List (List α)) : List PV := (List.range rows.length).map fun i => .sl (base + i) (ws i) sz 0 (rows.getD i []).length
theorem Y6 {α : Type} (base sz : Nat) (ws : Nat → Nat) (rows : List (List α)) : (x8 base sz ws rows).length = rows.length := by simp [x8]
theorem Q6 {α : Type} (base sz : Nat) (ws : Nat → Nat) (rows : List (List α)) (i : Nat) (h : i < rows.length) : (x8 base sz ws rows)[i]? = some (.sl (base + i) (ws i) sz 0 (rows.getD i []).length) := by
 simp [x8, h]
theorem VS {α : Type} (base sz : Nat) (ws : Nat → Nat) (rows : List (List α)) (i : Nat) (h : i < rows.length) : ∃ tl, (x8 base sz ws rows).drop i = .sl (base + i) (ws i) sz 0 (rows.getD i []).length :: tl := by
 refine ⟨(x8 base sz ws rows).drop (i + 1), ?_⟩
 have hl : i < (x8 base sz ws rows).length := by rw [Y6]; exact h
 rw [List.drop_eq_getElem_cons hl]
 have := Q6 base sz ws rows i h
 rw [List.getElem?_eq_getElem hl] at this
 rw [Option.some.inj this]
structure RowsAt {α : Type} [Enc α] (T : Store) (A va tA base e sz : Nat) (ws : Nat → Nat) (rows : List (List α)) : Prop where
 arr : T A = .cells va tA (x8 base sz ws rows)
 row : ∀ i, i < rows.length → T (base + i) = .cells (ws i) e ((rows.getD i []).flatMap Enc.enc)
 out : A < base
theorem RowsAt.other {α : Type} [Enc α] {T T' : Store} {A va tA base e sz : Nat} {ws : Nat → Nat} {rows : List (List α)} (h : RowsAt T A va tA base e sz ws rows) (hT : ∀ o, o = A ∨ (base ≤ o ∧ o < base + rows.length) → T' o = T o) : RowsAt T' A va tA base e sz ws rows :=
 ⟨(hT A (.inl rfl)).trans h.arr, fun i hi => (hT _ (.inr ⟨by omega, by omega⟩)).trans (h.row i hi), h.out⟩
theorem RowsAt.turn {α : Type} [Enc α] {T T' : Store} {A va tA base e sz : Nat} {ws : Nat → Nat} {rows : List (List α)} (h : RowsAt T A va tA base e sz ws rows) {i : Nat} (hi : i < rows.length) (w : Nat) (l : List α)
  (hA : T' A = .cells va tA ((x8 base sz ws rows).set i (.sl (base + i) w sz 0 l.length))) (hB : T' (base + i) = .cells w e (l.flatMap Enc.enc)) (hT : ∀ o, o ≠ A → o ≠ base + i → T' o = T o) : RowsAt T' A va tA base e sz (fun k => if k = i then w else ws k) (rows.set i l) := by
 have hout := h.out
 refine ⟨?_, fun k hk => ?_, h.out⟩
 ·rw [hA]
  congr 1
  apply List.ext_getElem?
  intro k
  rw [List.getElem?_set, Y6]
  by_cases hki : i = k
  ·subst hki
   rw [if_pos rfl, if_pos hi, Q6 _ _ _ _ _ (by simpa using hi)]
   simp [hi]
  ·rw [if_neg hki]
   by_cases hk : k < rows.length
   ·rw [Q6 _ _ _ _ _ hk, Q6 _ _ _ _ _ (by simpa using hk)]
    simp only [List.getD_eq_getElem?_getD, List.getElem?_set_ne hki, if_neg (fun e : k = i => hki e.symm)]
   ·rw [List.getElem?_eq_none (by rw [Y6]; omega), List.getElem?_eq_none (by rw [Y6]; simp; omega)]
 ·rw [List.length_set] at hk
  by_cases hki : k = i
  ·subst hki
   rw [hB, if_pos rfl]
   simp [hi]
  ·rw [hT _ (by omega) (by omega), h.row k hk, if_neg hki]
   simp only [List.getD_eq_getElem?_getD, List.getElem?_set_ne (fun e : i = k => hki e.symm)]
theorem ZlR {α : Type} (base sz : Nat) (ws : Nat → Nat) (m : Nat) : x8 (α := α) base sz ws (List.replicate m []) = (List.range m).map fun i => .sl (base + i) (ws i) sz 0 0 := by
 unfold x8
 rw [List.length_replicate]
 refine List.map_congr_left fun i hi => ?_
 have := List.mem_range.1 hi
 simp [this]
theorem ZdZ {α : Type} [Enc α] (A va tA base e sz m : Nat) (hAb : A < base) : ∀ (j k : Nat) (T : Store) (ws : Nat → Nat), k + j = m → T A = .cells va tA ((List.range k).map (fun i => .sl (base + i) (ws i) sz 0 0) ++ List.replicate j (.sc (.slice none 0 0))) →
  (∀ i, i < k → T (base + i) = .cells (ws i) e []) → zV (base + k) T →
  (∀ (T' : Store) (ws' : Nat → Nat), RowsAt T' A va tA base e sz ws' (List.replicate m ([] : List α)) → (∀ o, o ≠ A → o < base → T' o = T o) → zV (base + m) T' → PW P r n N c Q F T') → PW P r n N c Q F T
 | 0, k, T, ws, hk, hA, hrow, hd, h => by
  obtain rfl : k = m := by omega
  refine h T ws ⟨by rw [hA, ZlR]; simp, fun i hi => ?_, hAb⟩ (fun _ _ _ => rfl) hd
  rw [List.length_replicate] at hi
  rw [hrow i hi]; simp [hi]
 | j + 1, k, T, ws, hk, hA, hrow, hd, h => by
  have hget : ((List.range k).map (fun i => PV.sl (base + i) (ws i) sz 0 0) ++ List.replicate (j + 1) (.sc (.slice none 0 0)))[k]? = some (.sc (.slice none 0 0)) := by
   rw [List.getElem?_append_right (by simp)]; simp
  refine Wl (o := A) k e sz hA hget (vZ (X := fun id v => PW P r n N c Q F ((T.set id (.cells v e [])).set A (.cells va tA (((List.range k).map (fun i => PV.sl (base + i) (ws i) sz 0 0) ++ List.replicate (j + 1) (PV.sc (.slice none 0 0))).set k (.sl id v sz 0 0))))) (base + k) (hd _ (Nat.le_refl _)) fun v => ?_)
  refine ZdZ A va tA base e sz m hAb j (k + 1) _ (fun i => if i = k then v else ws i) (by omega) ?_ ?_ ?_ fun T' ws' hR hT' hd' => h T' ws' hR (fun o ho hob => ?_) hd'
  ·rw [Store.set_same]
   congr 1
   rw [List.set_append_right _ _ (by simp), List.range_succ, List.map_append]
   simp only [List.length_map, List.length_range, Nat.sub_self, List.replicate_succ, List.set_cons_zero, List.map_cons, List.map_nil, if_true]
   rw [List.append_assoc]
   congr 1
   refine List.map_congr_left fun i hi => ?_
   have := List.mem_range.1 hi
   rw [if_neg (by omega)]
  ·intro i hi
   rw [Store.set_other _ _ _ _ (by omega)]
   by_cases hik : i = k
   ·subst hik; rw [Store.set_same, if_pos rfl]
   ·rw [Store.set_other _ _ _ _ (by omega), if_neg hik]
    exact hrow i (by omega)
  ·intro i hi
   rw [Store.set_other _ _ _ _ (by omega), Store.set_other _ _ _ _ (by omega)]
   exact hd i (by omega)
  ·rw [hT' o ho hob, Store.set_other _ _ _ _ ho, Store.set_other _ _ _ _ (by omega)]
theorem ZlS {α : Type} [Enc α] (A va tA base e sz m : Nat) {T : Store} (hA : T A = .cells va tA (List.replicate m (.sc (.slice none 0 0)))) (hd : zV base T)
  (h : ∀ (T' : Store) (ws : Nat → Nat), RowsAt T' A va tA base e sz ws (List.replicate m ([] : List α)) → (∀ o, o ≠ A → o < base → T' o = T o) → zV (base + m) T' → PW P r n N c Q F T') : PW P r n N c Q F T := by
 have hAb : A < base := by
  rcases Nat.lt_or_ge A base with q | q
  ·exact q
  ·rw [hd A q] at hA; cases hA
 exact ZdZ A va tA base e sz m hAb m 0 T (fun _ => 0) (by omega) (by simpa using hA) (fun i hi => by omega) (by simpa using hd) h
theorem Zd0 {nx : Nat} {S : Store} {obs : List Ob} {id ver e0 : Nat} {cs : List PV} (i e sz : Nat) (hlt : id < nx) (hs : S id = .cells ver e0 cs) (hi : cs[i]? = some (.sc (.slice none 0 0)))
  (h : ∀ v, PW P r n N c Q F (ext (S.set id (.cells ver e0 (cs.set i (.sl (nx + obs.length) v sz 0 0)))) nx (obs ++ [.cells v e []]))) : PW P r n N c Q F (ext S nx obs) :=
 Wl (o := id) i e sz (by rw [zH hlt]; exact hs) hi (vZ (X := fun id' v => PW P r n N c Q F (((ext S nx obs).set id' (.cells v e [])).set id (.cells ver e0 (cs.set i (.sl id' v sz 0 0))))) _ ue fun v => by
  rw [jf, jX _ hlt]; exact h v)
end
open Go Go.Proofs
instance : Enc Mv := ⟨fun m => vj m, 5, fun _ => rfl, fun _ => rfl⟩
@[simp] theorem Zrv (m : Mv) : Enc.enc m = vj m := rfl
@[simp high] theorem Zrw (l : List Mv) : (l.flatMap Enc.enc).length = l.length * 5 := jO l
@[simp high] theorem Zrx (l : List Mv) : (l.flatMap Enc.enc).take (l.length * 5) = l.flatMap Enc.enc := uO l
open Go Go.Proofs Hp
abbrev jH (x : Inst) (v : PV) (b : Int) (p f pr : PV) : List PV := [I x.days, I x.veh, I x.cap, I x.len, L x.cust, L x.dist, v, I b, p, f, pr]
theorem ZlT {S : Store} {id ver idF vF : Nat} (x : Inst) (v p pr : PV) (b : Int) (fs : List Int) (hS : S id = .cells ver 89 (jH x v b p (.sl idF vF 1 0 fs.length) pr)) (hF : S idF = .cells vF 39 (fs.flatMap Enc.enc)) (hl : fs.length ≤ 1000) :
  Spec Tryz.prog 88 [.ptr id ver 0] S (fun q S' => q = I (jS fs) ∧ S' = S) := by
 refine yT Tryz.func88 Tryz.ntmps88 Tryz.results88 fun nx hd => ?_
 have hlt : id < nx := yA hd hS (by simp)
 have hltF : idF < nx := yA hd hF (by simp)
 have xw := fun obs => zH (S := S) (obs := obs) hlt
 have xf := fun obs => zH (S := S) (obs := obs) hltF
 refine za (zb ?_)
 repeat apply za
 refine ze [] (zm xw hS) ?_
 refine zj (zG (fun k : Nat => k ≤ fs.length ∧ ∀ e ∈ fs.take k, e = 0) (fun k => [(8, .sl idF vF 1 0 fs.length), (9, I fs.length), (10, I k)]) (fun _ => []) (fun k => fs.length - k) 0 [] (by simp) (by simp) (by simp) ?_)
 rintro k ⟨hk, h0⟩
 refine za (zb ?_)
 refine za (zr rfl (fun hc => ?_) (fun hc => ?_))
 ·simp at hc
  obtain ⟨e, tl, a1, a2, a3, e0⟩ := zE rfl fs k hc
  refine zh (za (zj (za (ze [] (yh xf hF e0 hc) ?_))))
  refine za (zb ?_)
  by_cases he : e = 0
  ·repeat apply za
   refine zn (by simp [he]) ?_
   refine zh (zb ?_)
   exact zp (k + 1) [] ⟨hc, fun y hy => by rw [a3] at hy; rcases List.mem_append.1 hy with h | h; exact h0 y h; rw [List.mem_singleton.1 h]; exact he⟩ (by omega) (by simp [zt k (by omega)]) rfl (by simp)
  ·repeat apply za
   refine zo (by simp [he]) ?_
   refine za (zb ?_)
   exact zg ⟨_, S, rfl, ⟨by simp [zq, ZlL h0 a1 he], rfl⟩, yb hd⟩
 ·simp at hc
  obtain rfl : k = fs.length := by omega
  rw [List.take_length] at h0
  refine zy (za (zb ?_))
  exact zg ⟨_, S, rfl, ⟨by simp [zq, XE h0], rfl⟩, yb hd⟩
theorem ZlU {S : Store} {id ver idD vD idF vF : Nat} {x : Inst} {v : List (List Visit)} {b : Int} {pr : PV} {ds : zx} {fs : List Int} {n : Nat} (k : Nat) (hS : S id = .cells ver 89 (jH x (L v) b (.sl idD vD 1 0 ds.length) (.sl idF vF 1 0 fs.length) pr))
  (hD : S idD = .cells vD 58 (ds.flatMap Enc.enc)) (hF : S idF = .cells vF 39 (fs.flatMap Enc.enc)) (d1 : id ≠ idD) (d2 : id ≠ idF) (d3 : idD ≠ idF) (hx : InstH x) (hv : VsOk x.cust.length n v) (hb : b ≤ 9223372036854775807) (hdl : ds.length ≤ 1000) (hfl : fs.length ≤ 1000) :
  Spec Tryz.prog 87 [.ptr id ver 0, I k] S (fun _ S' => S' = ((S.set id (.cells ver 89 (jH x (L v) b (.sl idD (vD + 1) 1 0 (ds.length + 1)) (.sl idF (vF + 1) 1 0 (fs.length + 1)) pr))).set idD (.cells (vD + 1) 58 ((ds ++ [(qL x b (qp v k x.cust.length)).1]).flatMap Enc.enc))).set idF
   (.cells (vF + 1) 39 ((fs ++ [(qL x b (qp v k x.cust.length)).2]).flatMap Enc.enc))) := by
 have hst := ZlP x v k n hx.cust hv
 have hso := Zk7 (Y5 hx hv k) hx.diag hb
 generalize qp v k x.cust.length = st at hst hso ⊢
 generalize qL x b st = r at hso ⊢
 obtain ⟨d, e⟩ := r
 simp only at hso ⊢
 refine yT Tryz.func87 Tryz.ntmps87 Tryz.results87 fun nx hd => ?_
 have hlt : id < nx := yA hd hS (by simp)
 have hltD : idD < nx := yA hd hD (by simp)
 have hltF : idF < nx := yA hd hF (by simp)
 have xw := fun obs => (zH (S := S) (obs := obs) hlt).trans hS
 have xd := fun obs => (zH (S := S) (obs := obs) hltD).trans hD
 have xf := fun obs => (zH (S := S) (obs := obs) hltF).trans hF
 have g1 : ¬ nx ≤ id := by omega
 have g2 : ¬ nx ≤ idD := by omega
 have g3 : ¬ nx ≤ idF := by omega
 have yw := fun (o : Ob) obs => (zH (S := S.set idD o) (obs := obs) hlt).trans ((Store.set_other _ _ _ _ d1).trans hS)
 have zw := fun (o o' : Ob) obs => (zH (S := (S.set idD o).set id o') (obs := obs) hlt).trans (Store.set_same _ _ _)
 have zf := fun (o o' : Ob) obs => (zH (S := (S.set idD o).set id o') (obs := obs) hltF).trans ((Store.set_other _ _ _ _ d2.symm).trans ((Store.set_other _ _ _ _ d3.symm).trans hF))
 have uw := fun (o o' o'' : Ob) obs => (zH (S := ((S.set idD o).set id o').set idF o'') (obs := obs) hlt).trans ((Store.set_other _ _ _ _ d2).trans (Store.set_same _ _ _))
 refine za (zB (some [id]) (Row.pures [0, 1, 2, 3, 4, 5, 6, 7, 8, 9, 10, 11, 12, 13, 14, 15, 16, 17, 18, 19, 20, 21] (.alt 22 (.alt 23 (Row.pures [24] .done) .stop) .stop)) mixed xw ?_)
 refine zI (hst) xw ?_
 refine zI (hso) xw ?_
 intro v2
 refine za (zB (some [nx]) (Row.pures [0, 1, 2, 3, 4, 6, 7] (.alt 5 (.alt 8 (Row.pures [9, 10, 11] (.alt 12 (.done) .stop)) .stop) .stop)) mixed (yZ xw xd yw g1 g2) ?_)
 refine ⟨by omega, ?_⟩
 refine ze [] (yZ zw zf uw g1 g3) ?_
 refine ⟨by omega, ?_⟩
 have e1 : ∀ (a b c d : Ob), (((S.set idD a).set id b).set idF c).set id d = ((S.set id d).set idD a).set idF c := by
  intro a b c d
  funext i
  simp only [Store.set]
  by_cases h1 : i = id
  ·subst h1; simp [d1, d2]
  ·simp only [h1, if_false]
 have hdd : ∀ (a b c : Ob), zV nx (((S.set id a).set idD b).set idF c) := by
  intro a b c i hi
  rw [Store.set_other _ _ _ _ (by omega), Store.set_other _ _ _ _ (by omega), Store.set_other _ _ _ _ (by omega)]
  exact hd i hi
 rw [e1]
 exact ⟨_, _, rfl, by simp, yb (hdd _ _ _)⟩
theorem ZlV {S : Store} {id ver : Nat} (x : Inst) (v p f pr : PV) (b : Int) (fn : FuncId) (fs : List PV) (n : Nat) (hn : x.days = n) (hn2 : n ≤ 1000) (hS : S id = .cells ver 89 (jH x v b p f pr)) (St : Nat → Store) (h0 : St 0 = S)
  (hSt : ∀ nx, zV nx S → ∀ k, k ≤ n → zV nx (St k)) (hstep : ∀ k, k < n → Spec Tryz.prog fn (fs ++ [I k]) (St k) (fun _ S' => S' = St (k + 1))) :
  Spec Tryz.prog 64 [.ptr id ver 0, .fn (.func fn) fs []] S (fun _ S' => S' = St n) := by
 refine yT Tryz.func64 Tryz.ntmps64 Tryz.results64 fun nx hd => ?_
 have hlt : id < nx := yA hd hS (by simp)
 have xw := fun obs => (zH (S := S) (obs := obs) hlt).trans hS
 have hSt := hSt nx hd
 refine za (ze [] (zm xw hn) ?_)
 refine zj (jl (σ := Nat) (fun k => k ≤ n) (fun k => [(1, .fn (.func fn) fs []), (9, I n), (10, I k)]) (fun k => St k) (fun _ => []) (fun k => n - k) (zP 0 [] (by simp) (by simp) h0 (by simp)) ?_)
 rintro k hk
 refine za (zb ?_)
 refine za (zr rfl (fun hc => ?_) (fun hc => ?_))
 ·simp at hc
  refine zh (za (zj (za (zb ?_))))
  refine zT [] (by rfl) (by rfl) fun K Gc Gh hK hGc hGh X hX0 hX => ?_
  simp -implicitDefEqProofs [hX0, hX]
  try clear hX0 hX X
  refine hGc _ _ _ _ _ _ _ fun hsuf => (Spec.mono (by rw [qi (hSt k hk)]; simpa using hstep k hc) ?_).v
  rintro _ _ rfl
  refine ⟨St (k + 1), [], (qi (hSt (k + 1) hc)).symm, ?_⟩
  clear hGc hGh
  clear Gc Gh
  refine zQ hsuf (D := []) (by rfl) fun Gc Gh hGc hGh X hX0 hX => ?_
  simp -implicitDefEqProofs [hX0, hX]
  clear hX0 hX X
  refine hK _ _ _ ?_
  clear hK hGc hGh
  clear K Gc Gh
  refine zb ?_
  exact zp (k + 1) [] hc (by omega) (by simp [zt k (by omega)]) rfl (by simp)
 ·simp at hc
  obtain rfl : k = n := by omega
  refine zy ?_
  exact ⟨_, _, rfl, rfl, yb (hSt k (Nat.le_refl _))⟩
theorem ZlW {S : Store} {nx id ver : Nat} (hd : zV nx S) {x : Inst} {v : List (List Visit)} {v0 p0 f0 pr : PV} {b : Int} {n : Nat} (hS : S id = .cells ver 89 (jH x v0 b p0 f0 pr)) (hx : InstH x) (hn : x.days = n) (hn2 : n ≤ 1000) (hv : VsOk x.cust.length n v) (hb : b ≤ 9223372036854775807) :
  Spec Tryz.prog 47 [.ptr id ver 0, L v] S (fun q S' => q = I (jS (qz x v b n)) ∧ ∃ vD vF, S' = ext (S.set id (.cells ver 89 (jH x (L v) b (.sl nx vD 1 0 (q9 x v b n).length) (.sl (nx + 1) vF 1 0 (qz x v b n).length) pr))) nx
   [.cells vD 58 ((q9 x v b n).flatMap Enc.enc), .cells vF 39 ((qz x v b n).flatMap Enc.enc)]) := by
 have hpl := Q5 x v b
 have hfl := ZdW x v b
 refine uh hd Tryz.func47 Tryz.ntmps47 Tryz.results47 ?_
 have hlt : id < nx := yA hd hS (by simp)
 have g1 : ¬ nx ≤ id := by omega
 have xw := fun obs => (zH (S := S) (obs := obs) hlt).trans hS
 have yw := fun (o : Ob) obs => (zH (S := S.set id o) (obs := obs) hlt).trans (Store.set_same _ _ _)
 refine za (zb ?_)
 refine za (ze [] (yh xw yw g1 Store.set_set) ?_)
 refine Zd0 (id := id) 8 58 1 hlt (Store.set_same _ _ _) rfl fun vD => ?_
 rw [Store.set_set]
 refine Zd0 (id := id) 9 39 1 hlt (Store.set_same _ _ _) rfl fun vF => ?_
 rw [Store.set_set]
 simp only [List.set_cons_succ, List.set_cons_zero, List.length_cons, List.length_nil, List.cons_append, List.nil_append, Nat.add_zero, Nat.zero_add]
 generalize hSt : (fun k : Nat => ext (S.set id (.cells ver 89 (jH x (L v) b (.sl nx (vD + k) 1 0 (q9 x v b k).length) (.sl (nx + 1) (vF + k) 1 0 (qz x v b k).length) pr))) nx
   [.cells (vD + k) 58 ((q9 x v b k).flatMap Enc.enc), .cells (vF + k) 39 ((qz x v b k).flatMap Enc.enc)]) = St
 have hSk : ∀ k, St k = ext (S.set id (.cells ver 89 (jH x (L v) b (.sl nx (vD + k) 1 0 (q9 x v b k).length) (.sl (nx + 1) (vF + k) 1 0 (qz x v b k).length) pr))) nx
   [.cells (vD + k) 58 ((q9 x v b k).flatMap Enc.enc), .cells (vF + k) 39 ((qz x v b k).flatMap Enc.enc)] := fun k => by rw [← hSt]
 have h0 : St 0 = ext (S.set id (.cells ver 89 (jH x (L v) b (.sl nx vD 1 0 0) (.sl (nx + 1) vF 1 0 0) pr))) nx [.cells vD 58 [], .cells vF 39 []] := hSk 0
 have hid : ∀ k, St k id = .cells ver 89 (jH x (L v) b (.sl nx (vD + k) 1 0 (q9 x v b k).length) (.sl (nx + 1) (vF + k) 1 0 (qz x v b k).length) pr) := fun k => by rw [hSk k, zH hlt, Store.set_same]
 have hstep : ∀ k, k < n → Spec Tryz.prog 87 ([.ptr id ver 0] ++ [I k]) (St k) (fun _ S' => S' = St (k + 1)) := by
  intro k hk
  have h1 := hpl k
  have h2 := hfl k
  refine (ZlU (idD := nx) (idF := nx + 1) (n := n) k (hid k) (by rw [hSk k]; simp) (by rw [hSk k]; simp) (by omega) (by omega) (by omega) hx hv hb (by omega) (by omega)).mono ?_
  rintro _ _ rfl
  rw [hSk k, hSk (k + 1), jX _ hlt, Store.set_set, yY _ (by omega) (by simp), yY _ (by omega) (by simp), ZdX, ZlO]
  simp [Nat.add_assoc]
 have hdead : ∀ m, zV m (St 0) → ∀ k, k ≤ n → zV m (St k) := by
  intro m hm k _ i hi
  have hge : nx + 1 < m := by
   rcases Nat.lt_or_ge (nx + 1) m with q | q
   ·exact q
   ·have := hm (nx + 1) q; rw [hSk 0] at this; simp at this
  rw [hSk k]
  simp only [ext]
  rw [if_neg (by omega), List.getD_eq_getElem?_getD, List.getElem?_eq_none (by simp; omega)]; rfl
 rw [← h0]
 have hn0 := hid 0
 have hnx2 : nx + 2 = nx + [Ob.cells (vD + 0) 58 ((q9 x v b 0).flatMap Enc.enc), .cells (vF + 0) 39 ((qz x v b 0).flatMap Enc.enc)].length := rfl
 have hb0 : ∀ k, St k = ext (St k) (nx + 2) [] := fun k => by
  refine (qi ?_).symm
  rw [hSk k]; exact jM (obs := [_, _])
 rw [hb0 0]
 refine za (zT [] (by rfl) (by rfl) fun K Gc Gh hK hGc hGh X hX0 hX => ?_)
 simp -implicitDefEqProofs [hX0, hX]
 try clear hX0 hX X
 refine hGc _ _ _ _ _ _ _ fun hsuf => ((ZlV x (L v) _ _ pr b _ _ n hn hn2 (by rw [← hb0 0]; exact hn0) St (hb0 0) (fun m hm k hk => hdead m (by rw [hb0 0]; exact hm) k hk) hstep).mono ?_).v
 rintro _ _ rfl
 refine ⟨_, _, hb0 n, ?_⟩
 clear hGc hGh
 clear Gc Gh
 refine zQ hsuf (D := []) (by rfl) fun Gc Gh hGc hGh X hX0 hX => ?_
 simp -implicitDefEqProofs [hX0, hX]
 clear hX0 hX X
 refine hK _ _ _ ?_
 clear hK hGc hGh
 clear K Gc Gh
 refine za (zT [] (by rfl) (by rfl) fun K Gc Gh hK hGc hGh X hX0 hX => ?_)
 simp -implicitDefEqProofs [hX0, hX]
 try clear hX0 hX X
 refine hGc _ _ _ _ _ _ _ fun hsuf => ((ZlT (idF := nx + 1) x _ _ _ _ (qz x v b n) (by rw [← hb0 n]; exact hid n) (by rw [← hb0 n, hSk n]; simp) (by rw [hfl]; exact hn2)).mono ?_).v
 rintro _ _ ⟨rfl, rfl⟩
 refine ⟨_, _, rfl, ?_⟩
 clear hGc hGh
 clear Gc Gh
 refine zQ hsuf (D := []) (by rfl) fun Gc Gh hGc hGh X hX0 hX => ?_
 simp -implicitDefEqProofs [hX0, hX]
 clear hX0 hX X
 refine hK _ _ _ ?_
 clear hK hGc hGh
 clear K Gc Gh
 refine zg ⟨_, St n, rfl, ⟨by simp [zq], vD + n, vF + n, hSk n⟩, fun o => .inl ?_⟩
 rw [← hb0 n]
open Go Go.Proofs Hp
theorem ZlX (n : Nat) : je n (.slice none 0 0) = List.replicate n (.sc (.slice none 0 0)) := by
 induction n with
 | zero => simp
 | succ n ih => rw [Za, ih]; rfl
structure RowsV (m n i : Nat) (v : List (List Visit)) : Prop where
 len : v.length = m
 ok : ∀ l ∈ v, ∀ w ∈ l, (0 ≤ w.d ∧ w.d < n) ∧ 1 ≤ w.q ∧ w.q ≤ 12
 nd : ∀ l ∈ v, (l.map (·.d)).Nodup
 few : ∀ l ∈ v, l.length ≤ i
theorem RowsV.vs {m n i : Nat} {v : List (List Visit)} (h : RowsV m n i v) (hi : i ≤ 12) : VsOk m n v :=
 ⟨h.len, fun l hl w hw => by have := h.ok l hl w hw; omega, h.nd, fun l hl => by have := h.few l hl; omega⟩
theorem RowsV.more {m n i : Nat} {v : List (List Visit)} (h : RowsV m n i v) : RowsV m n (i + 1) v := ⟨h.len, h.ok, h.nd, fun l hl => Nat.le_succ_of_le (h.few l hl)⟩
theorem RowsV.put {m n i : Nat} {v : List (List Visit)} (h : RowsV m n i v) {c : Nat} {l : List Visit} (hc : v[c]? = some l) (w : Visit) (hw : (0 ≤ w.d ∧ w.d < n) ∧ 1 ≤ w.q ∧ w.q ≤ 12) (hno : w.d ∉ l.map (·.d)) : RowsV m n (i + 1) (v.set c (l ++ [w])) := by
 have hlm := List.mem_of_getElem? hc
 refine ⟨by simp [h.len], fun k hk u hu => ?_, fun k hk => ?_, fun k hk => ?_⟩
 ·rcases List.mem_or_eq_of_mem_set hk with hk | rfl
  ·exact h.ok k hk u hu
  ·rcases List.mem_append.1 hu with hu | hu
   ·exact h.ok l hlm u hu
   ·rw [List.mem_singleton.1 hu]; exact hw
 ·rcases List.mem_or_eq_of_mem_set hk with hk | rfl
  ·exact h.nd k hk
  ·rw [List.map_append]; exact J7 _ _ (h.nd l hlm) hno
 ·rcases List.mem_or_eq_of_mem_set hk with hk | rfl
  ·exact Nat.le_succ_of_le (h.few k hk)
  ·have := h.few l hlm; simp; omega
open Go
def Qs (q : List Int) : Prop := ∀ z ∈ q, 0 ≤ z ∧ z ≤ 2147483648
structure GoodV (n : Nat) (v : List Visit) : Prop where
 len : v.length ≤ 64
 ok : ∀ s ∈ v, (0 ≤ s.d ∧ s.d < n) ∧ 1 ≤ s.q ∧ s.q ≤ 2147483648
 nd : (v.map (·.d)).Nodup
def yk : Nat → List Int → List Visit
 | _, [] => []
 | i, z :: l => if 0 < z then ⟨i, z⟩ :: yk (i + 1) l else yk (i + 1) l
theorem XF : ∀ (l : List Int) (i : Nat), (yk i l).length ≤ l.length
 | [], _ => by simp [yk]
 | z :: l, i => by
  have := XF l (i + 1)
  simp only [yk]; split <;> simp <;> omega
theorem XG : ∀ (l : List Int) (i : Nat), Qs l → ∀ s ∈ yk i l, ((i : Int) ≤ s.d ∧ s.d < (i + l.length : Nat)) ∧ 1 ≤ s.q ∧ s.q ≤ 2147483648
 | [], _, _ => by intro s hs; cases hs
 | z :: l, i, h => by
  have ih := XG l (i + 1) fun x hx => h x (by simp [hx])
  have hz := h z (by simp)
  intro s hs
  simp only [yk] at hs
  split at hs
  ·rcases List.mem_cons.1 hs with rfl | hs
   ·simp only [List.length_cons]; omega
   ·have := ih s hs; simp only [List.length_cons]; omega
  ·have := ih s hs; simp only [List.length_cons]; omega
theorem XH : ∀ (l : List Int) (i : Nat), ∀ s ∈ yk i l, (i : Int) ≤ s.d
 | [], _ => by intro s hs; cases hs
 | z :: l, i => by
  have ih := XH l (i + 1)
  intro s hs
  simp only [yk] at hs
  split at hs
  ·rcases List.mem_cons.1 hs with rfl | hs
   ·exact Int.le_refl _
   ·have := ih s hs; omega
  ·have := ih s hs; omega
theorem Zd1 : ∀ (l : List Int) (i : Nat), ((yk i l).map (·.d)).Nodup
 | [], _ => by simp [yk]
 | z :: l, i => by
  have ih := Zd1 l (i + 1)
  simp only [yk]
  split
  ·rw [List.map_cons, List.nodup_cons]
   refine ⟨fun h => ?_, ih⟩
   obtain ⟨s, hs, e⟩ := List.mem_map.1 h
   have := XH l (i + 1) s hs
   simp only at e; omega
  ·exact ih
theorem ZlY (n a k : Nat) : (yy n a k).Nodup := by
 unfold yy
 refine List.Pairwise.map _ (fun x y (h : x ≠ y) => ?_) (List.Pairwise.filter _ List.nodup_range)
 intro e; apply h; omega
theorem Zd2 {q : List Int} {n : Nat} (hq : Qs q) (hl : q.length ≤ n) (hn : n ≤ 64) : GoodV n (yk 0 q) := by
 refine ⟨Nat.le_trans (XF q 0) (by omega), fun s hs => ?_, Zd1 q 0⟩
 have := XG q 0 hq s hs
 omega
def jI (c : Cust) (p : Nat) : List Visit := (yy p 0 64).map fun d => ⟨d, c.demand⟩
open Go
structure CustMade (c : Cust) (n : Nat) : Prop where
 fits : CustFits c
 pats : ∀ p ∈ c.pats, p < 2 ^ 64
 npats : c.pats.length ≤ 1048576
 per : c.kind = 1 → (∀ p ∈ c.pats, ∀ d ∈ yy p 0 64, d < n) ∧ 1 ≤ c.demand ∧ c.demand ≤ 2147483648
end Go.Proofs.YtcnbiofjmioaiaaGreat.Pv
