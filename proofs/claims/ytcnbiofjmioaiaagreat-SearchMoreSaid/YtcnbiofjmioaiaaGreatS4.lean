/- Part of a proof, packed. -/
import Derived.Test.YtcnbiofjmioaiaaGreatS3
set_option maxRecDepth 100000
set_option maxHeartbeats 3200000
namespace Go.Proofs.YtcnbiofjmioaiaaGreat.Pv
open Go Hp
theorem ZiW (x : Inst) (c : List Int) (a b : Int) : jd x (c ++ [b]) a = jd x c a ++ (if b ≠ a then [⟨a, b, j5 x a b⟩] else []) := by
 unfold jd
 by_cases h : b = a <;> simp [h]
theorem ZiX (x : Inst) (c : List Int) (a : Int) : (jd x c a).length ≤ c.length := by
 unfold jd
 rw [List.length_map]; exact List.length_filter_le _ _
theorem ZiY (l : List Pr) (p : Pr) : qq (l ++ [p]) = qq l ++ [-p.s] := by simp [qq]
theorem ZiZ (l : List Pr) : (qq l).length = l.length := by simp [qq]
theorem Zi0 (x : Inst) (c : List Int) (a : Int) (hx : qH x) (hc : c.length ≤ 1048576) (hs : ∀ b ∈ c, small b) (ha : small a) : Pure Tryz.prog 262 [.agg (zA x), L c, I a] (L (xl x c a)) := by
 refine zx Tryz.func262 Tryz.ntmps262 Tryz.results262 fun S nx hd => ?_
 refine za (zb ?_)
 intro v0
 refine za (zb ?_)
 refine za (qZ 7 175 3 rfl fun v1 => ?_)
 refine zb ?_
 refine za (qZ 8 3 1 rfl fun v2 => ?_)
 refine za (zb ?_)
 refine zj (zG (fun s : Nat × List Pr × Nat × Nat => s.1 ≤ c.length ∧ s.2.1 = jd x (c.take s.1) a) (fun (k, ps, v1, v2) => [(1, L c), (2, I a), (3, .ptr nx v0 0), (7, .sl (nx + 1) v1 3 0 ps.length), (8, .sl (nx + 2) v2 1 0 ps.length), (15, L c), (16, I c.length), (17, I k)]) (fun (k, ps, v1, v2) => [.cells v0 25 (zA x), .cells v1 175 (ps.flatMap Enc.enc), .cells v2 3 ((qq ps).flatMap Enc.enc)]) (fun s => c.length - s.1) (0, [], v1, v2) [] (by simp [jd]) (by simp) (by simp [qq]) ?_)
 rintro ⟨k, ps, v1, v2⟩ ⟨hk, ho⟩
 simp only at hk ho ⊢
 have hpl : ps.length ≤ k := by rw [ho]; refine Nat.le_trans (ZiX _ _ _) ?_; simp; omega
 have hnl := ZiZ ps
 refine za (zb ?_)
 refine za (zr rfl (fun hq => ?_) (fun hq => ?_))
 ·simp at hq
  obtain ⟨b, tl, a1, a2, a3, e0⟩ := zE rfl c k hq
  have hb := hs b (List.mem_of_getElem? a1)
  have hsv := WZ hx a b
  have w5 : IntKind.i64.wrap (-j5 x a b) = -j5 x a b := wr _ (by omega) (by omega)
  have hsn := ZiW x (c.take k) a b
  rw [← a3, ← ho] at hsn
  refine zh (za (zj (za (ze [] (zm e0 hq) ?_))))
  refine za (zb ?_)
  refine zr rfl (fun hne => ?_) (fun hne => ?_)
  ·simp at hne
   rw [if_pos hne] at hsn
   refine za (zb ?_)
   refine zz (Ziw x a b hx ha hb) ?_
   intro v3
   refine za (zb ?_)
   refine ⟨by omega, ?_⟩
   have htk : List.take ps.length ((qq ps).flatMap Enc.enc) = (qq ps).flatMap Enc.enc := by rw [← hnl]; exact Zgu _
   have hnf : ((qq ps).flatMap Enc.enc).length = ps.length := by rw [q8, hnl]
   refine ze [] (zF w5 htk hnf) ?_
   refine ⟨by omega, ?_⟩
   refine zb ?_
   exact zp (k + 1, ps ++ [⟨a, b, j5 x a b⟩], v1 + 1, v2 + 1) [_] ⟨hq, hsn.symm⟩ (by simp; omega) (by simp [zt k (by omega)]) rfl (by simp [ZiY]; rfl)
  ·simp at hne
   rw [if_neg (by simp [hne]), List.append_nil] at hsn
   refine zh (zb ?_)
   exact zp (k + 1, ps, v1, v2) [] ⟨hq, hsn.symm⟩ (by simp; omega) (by simp [zt k (by omega)]) rfl (by simp)
 ·simp at hq
  obtain rfl : k = c.length := by omega
  rw [List.take_length] at ho
  refine zy (yc 1 rfl ?_)
  refine yc 2 rfl ?_
  refine za (zb ?_)
  refine za (qZ 12 175 3 rfl fun v3 => ?_)
  have hrw : xl x c a = (wy (qq ps)).map (wz ps) := by rw [ho]; rfl
  rw [hrw]
  have hsl := WT (qq ps)
  have hmem : ∀ z ∈ wy (qq ps), 0 ≤ z ∧ z < ps.length := fun z h => by have := Zid h; omega
  have hcall := ZiV (qq ps) (by omega)
  rw [show L (qq ps) = PV.lst ps.length ((qq ps).flatMap Enc.enc) from by rw [← hnl]] at hcall
  generalize qq ps = ns at *
  refine za (ze [] hnl ?_)
  refine zz hcall ?_
  generalize wy ns = is at *
  refine zj (zG (fun s : Nat × List Pr × Nat => s.1 ≤ is.length ∧ s.2.1 = (is.take s.1).map (wz ps)) (fun (k, os, v) => [(7, L ps), (12, .sl (nx + 3) v 3 0 os.length), (43, L is), (44, I is.length), (45, I k)]) (fun (k, os, v) => [.cells v0 25 (zA x), .dead, .dead, .cells v 175 (os.flatMap Enc.enc)]) (fun s => is.length - s.1) (0, [], v3) [] (by simp) (by simp [hnl]) (by simp) ?_)
  rintro ⟨k, os, v⟩ ⟨hk, ho2⟩
  simp only at hk ho2 ⊢
  refine za (zb ?_)
  refine za (zr rfl (fun hq => ?_) (fun hq => ?_))
  ·simp at hq
   obtain ⟨i, tl, a1, a2, a3, e0⟩ := zE rfl is k hq
   obtain ⟨q1, q2⟩ := hmem i (List.mem_of_getElem? a1)
   obtain ⟨j, rfl⟩ : ∃ j : Nat, i = j := ⟨i.toNat, by omega⟩
   have hj : j < ps.length := by omega
   obtain ⟨p, tp, b1, b2, b3, e1, e2⟩ := el 3 rfl ps j hj
   have hg : wz ps (j : Int) = p := by simp [wz, List.getD_eq_getElem?_getD, b1]
   have hgs : (is.take (k + 1)).map (wz ps) = os ++ [p] := by rw [a3, ho2]; simp [hg]
   have hgl : os.length = k := by rw [ho2]; simp; omega
   refine zh (za (zj (za (ze [] (zm e0 hq) ?_))))
   refine ze [] (zF e1 e2 hj) ?_
   refine ⟨by omega, ?_⟩
   refine zb ?_
   exact zp (k + 1, os ++ [p], v + 1) [] ⟨hq, hgs.symm⟩ (by simp; omega) (by simp [zt k (by omega)]) rfl (by simp)
  ·simp at hq
   obtain rfl : k = is.length := by omega
   rw [List.take_length] at ho2
   refine zy (yc 3 rfl ?_)
   refine za (zb ?_)
   exact zg (zk hd (by simp; rfl) (by simp [zq, ho2]))
open Go Hp
@[simp] theorem ZrD (d1 d2 a b c : Ob) (l : List Ob) (o : Ob × Ob × Ob) : uo (d1 :: d2 :: a :: b :: c :: l) 2 o = d1 :: d2 :: o.1 :: o.2.1 :: o.2.2 :: l := rfl
theorem HX.srt {o : Ob × Ob × Ob} {a hv mv : Nat} {r : zB Int} (h : HX o a hv mv r) : wx r := by
 obtain ⟨_, _, _, h⟩ := h (fun i => if i = a then o.1 else if i = a + 1 then o.2.1 else o.2.2) (by simp) (by simp) (by simp)
 exact h
theorem Zi1 {id : Int} {r : zB Int} (h : ∀ x ∈ r, x.1 ≠ id) : js id r = false := by
 simp only [js, List.any_eq_false]; intro x hx; simpa using h x hx
def QQ (p : Pr) : List PV := [.agg [I p.a, I p.b, I p.s]]
def jt (x : Inst) (c : List Int) (k : Nat) : List (List Pr) := (c.take k).map (xl x c)
theorem Zcf (x : Inst) (c : List Int) : jt x c 0 = [] := by simp [jt]
theorem Zi2 {x : Inst} {c : List Int} {k : Nat} {a : Int} (h : c.take (k + 1) = c.take k ++ [a]) : jt x c (k + 1) = jt x c k ++ [xl x c a] := by simp [jt, h]
theorem Zi3 (x : Inst) (c : List Int) : jt x c c.length = c.map (xl x c) := by simp [jt]
theorem Zcg (x : Inst) (c : List Int) (k : Nat) (h : k ≤ c.length) : (jt x c k).length = k := by simp [jt]; omega
def wQ (rows : List (List Pr)) (n : Nat) : List PV := rows.flatMap Enc.enc ++ List.replicate (n - rows.length) (.sc (.slice none 0 0))
theorem Zch (rows : List (List Pr)) (n : Nat) (h : rows.length ≤ n) : (wQ rows n).length = n := by simp [wQ]; omega
theorem Zi4 (n : Nat) : wQ [] n = ji n (.slice none 0 0) := by
 unfold wQ
 simp only [List.flatMap_nil, List.nil_append, List.length_nil, Nat.sub_zero]
 induction n with
 | zero => simp
 | succ n ih => rw [Za, List.replicate_succ, ih]; simp [qD, Value.cells]
theorem Zi5 (rows : List (List Pr)) : wQ rows rows.length = rows.flatMap Enc.enc := by simp [wQ]
theorem Zi6 (rows : List (List Pr)) (n : Nat) (r : List Pr) (h : rows.length < n) : ye (wQ rows n) rows.length [L r] = wQ (rows ++ [r]) n := by
 unfold wQ ye
 have h1 : (rows.flatMap Enc.enc).length = rows.length := jp rows
 obtain ⟨m, hm⟩ : ∃ m, n - rows.length = m + 1 := ⟨n - rows.length - 1, by omega⟩
 rw [hm, List.replicate_succ]
 rw [List.take_append_of_le_length (by omega), List.take_of_length_le (by omega)]
 rw [List.drop_append, List.drop_of_length_le (by simp)]
 simp [h1, show n - (rows.length + 1) = m by omega]
theorem Zi7 (rows : List (List Pr)) (n : Nat) (r : List Pr) : (wQ (rows ++ [r]) n)[rows.length]? = some (L r) := by
 unfold wQ
 rw [List.flatMap_append, List.append_assoc, List.getElem?_append_right (by rw [jp]; exact Nat.le_refl _), jp]
 simp
theorem Zi8 (rows : List (List Pr)) (k : Nat) (r : List Pr) (h : k < rows.length) : ye (rows.flatMap Enc.enc) k [L r] = (rows.set k r).flatMap Enc.enc := by
 have e : ∀ l : List (List Pr), l.flatMap Enc.enc = l.map fun r => L r := fun l => by induction l <;> simp_all
 rw [e, e, ye, List.map_set, List.set_eq_take_append_cons_drop, if_pos (by simpa using h)]
 simp
theorem Xf : ∀ (rows : List (List Pr)) (i : Nat) (r : List Pr), yL i (rows ++ [r]) = yL i rows ++ yL (i + rows.length) [r]
 | [], i, r => by simp [yL]
 | [] :: rows, i, r => by
  simp only [List.cons_append, yL, List.length_cons]
  rw [Xf rows (i + 1) r, show i + 1 + rows.length = i + (rows.length + 1) by omega]
 | (p :: l) :: rows, i, r => by
  simp only [List.cons_append, yL, List.length_cons]
  rw [Xf rows (i + 1) r, show i + 1 + rows.length = i + (rows.length + 1) by omega]
theorem Zi9 (rows : List (List Pr)) : yL 0 (rows ++ [[]]) = yL 0 rows := by rw [Xf]; simp [yL]
theorem Zja (rows : List (List Pr)) (p : Pr) (tl : List Pr) : (yL 0 (rows ++ [p :: tl])).Perm (((rows.length : Int), -p.s) :: yL 0 rows) := by
 rw [Xf]
 simp only [yL, Nat.zero_add]
 exact List.perm_append_comm
theorem Zci {rows : List (List Pr)} {k : Nat} (h : rows.getD k [] = []) {r : zB Int} (hp : r.Perm (yL 0 rows)) : js (k : Int) r = false := by
 refine Zi1 fun x hx e => ?_
 obtain ⟨j, p, tl, hj, rfl⟩ := (YN rows 0 x).1 (hp.subset hx)
 simp only [Nat.zero_add] at e
 have : j = k := by omega
 subst this
 rw [List.getD_eq_getElem?_getD, hj] at h
 cases h
theorem Zjb (x : Inst) (ss : List Stop) : Pure Tryz.prog 241 [.agg (zA x), L ss] (.fn (.func 260) [] [.ip [L ss], .ip (zA x)]) := by
 refine zx Tryz.func241 Tryz.ntmps241 Tryz.results241 fun S nx hd => ?_
 refine za (zb ?_)
 intro v0 v1
 refine za (zb ?_)
 refine j4 0 rfl ?_
 refine j4 1 rfl ?_
 exact zg (zk hd (by simp; rfl) rfl)
theorem Zjc (x : Inst) (ss : List Stop) (hx : qH x) (hss : ss.length ≤ 1048576) (hs : ∀ s ∈ ss, small s.c) (hnd : (ss.map (·.c)).Nodup) : Ze Tryz.prog 260 [.ip [L ss], .ip (zA x)] ((qA x (ss.map (·.c))).map QQ) := by
 have hcust := fun S nx hd => QG ss hss S nx hd
 obtain ⟨zs, hzs⟩ : ∃ zs, zs = ss.map (·.c) := ⟨_, rfl⟩
 have hzl : ss.length = zs.length := by rw [hzs]; simp
 rw [← hzs, hzl] at hcust
 rw [← hzs] at hnd ⊢
 have hzsm : ∀ b ∈ zs, small b := by
  intro b hb; rw [hzs] at hb; obtain ⟨s, h1, rfl⟩ := List.mem_map.1 hb; exact hs s h1
 have hz1 := QI zs
 have hz2 := ZbM zs
 have hz3 := (WI zs).2 hnd
 have hz4 := Zg zs
 have hz5 : qA x zs = qA x (yM zs) := Zim hnd hz3 hz2.symm
 have hz6 : (yM zs).Pairwise (· < ·) := (List.Pairwise.and hz1 hz3).imp fun ⟨h1, h2⟩ => by omega
 have hzn : zs.length ≤ 1048576 := by omega
 have hcsm : ∀ b ∈ yM zs, small b := fun b hb => hzsm b (hz2.subset hb)
 have hsort := fun (S : Store) (id ver : Nat) (hid : S id = .cells ver 3 (zs.flatMap Enc.enc)) => J6 zs hid hzn
 rw [hz5]
 generalize yM zs = c at *
 clear hzs hz1 hz5
 refine QB Tryz.func260 (by rfl) rfl Tryz.ntmps260 (congrArg Array.toList Tryz.results260) (by simp) fun l V keep nx J hJd hY A0 hA0 => ?_
 refine za (zV [] (by rfl) (by rfl) fun K Gc Gh hK hGc hGh X hX0 hX => ?_)
 simp -implicitDefEqProofs [hX0, hX]
 try clear hX0 hX X
 refine hGc _ _ _ _ _ _ _ fun hsuf => ((hcust _ _ jO).mono ?_).v
 rintro _ _ ⟨v1, rfl, rfl⟩
 refine ⟨_, _, YD _, ?_⟩
 clear hGc hGh
 clear Gc Gh
 refine zR hsuf (D := []) (by rfl) fun Gc Gh hGc hGh X hX0 hX => ?_
 simp -implicitDefEqProofs [hX0, hX, Nat.add_assoc]
 clear hX0 hX X
 refine hK _ _ _ ?_
 clear hK hGc hGh
 clear K Gc Gh
 refine za (zV [] (by rfl) (by rfl) fun K Gc Gh hK hGc hGh X hX0 hX => ?_)
 simp -implicitDefEqProofs [hX0, hX]
 try clear hX0 hX X
 refine hGc _ _ _ _ _ _ _ fun hsuf => ((hsort _ _ _ (by simp)).mono ?_).v
 rintro _ _ rfl
 refine ⟨_, _, y9 _ (by simp) (by simp), ?_⟩
 clear hGc hGh
 clear Gc Gh
 refine zR hsuf (D := []) (by rfl) fun Gc Gh hGc hGh X hX0 hX => ?_
 simp -implicitDefEqProofs [hX0, hX]
 clear hX0 hX X
 refine hK _ _ _ ?_
 clear hK hGc hGh
 clear K Gc Gh
 rw [← hz4]
 refine yc 1 rfl ?_
 refine za (zV [] (by rfl) (by rfl) fun K Gc Gh hK hGc hGh X hX0 hX => ?_)
 simp -implicitDefEqProofs [hX0, hX]
 try clear hX0 hX X
 refine hGc _ _ _ _ _ _ _ fun hsuf => (Zh9.mono ?_).v
 rintro p _ ⟨hv, mv, o1, rfl, m1, rfl⟩
 refine ⟨_, _, rfl, ?_⟩
 clear hGc hGh
 clear Gc Gh
 refine zR hsuf (D := []) (by rfl) fun Gc Gh hGc hGh X hX0 hX => ?_
 simp -implicitDefEqProofs [hX0, hX]
 clear hX0 hX X
 refine hK _ _ _ ?_
 clear hK hGc hGh
 clear K Gc Gh
 simp at m1
 refine za (zb ?_)
 refine ⟨by omega, fun v0 => ?_⟩
 repeat apply za
 refine zb ?_
 have hpw : ∀ (row : List Pr) (a : Int), row = xl x c a → ∀ p ∈ row, IntKind.i64.wrap (-p.s) = -p.s := by
  intro row a e p hp
  rw [e] at hp
  have h1 := (WY x c a).subset hp
  unfold jd at h1
  obtain ⟨b, _, rfl⟩ := List.mem_map.1 h1
  have := WZ hx a b
  show IntKind.i64.wrap (-j5 x a b) = -j5 x a b
  exact wr _ (by omega) (by omega)
 refine zj (zG (fun s : Nat × zB Int × (Ob × Ob × Ob) × Nat => s.1 ≤ c.length ∧ s.2.1.Perm (yL 0 (jt x c s.1)) ∧ HX s.2.2.1 (nx + 2) hv mv s.2.1) (fun (k, its, o, v) => [(0, jl l), (2, .ip (zA x)), (4, L c), (5, .ptr (nx + 3) hv 0), (6, .sl (nx + 5) v 1 0 c.length), (21, L c), (22, I c.length), (23, I k)]) (fun (k, its, o, v) => [.dead, .dead, o.1, o.2.1, o.2.2, .cells v 312 (wQ (jt x c k) c.length)]) (fun s => c.length - s.1) (0, [], o1, v0) [] ⟨by simp, by simp [Zcf, yL], m1⟩ (by simp) (by simp [Zcf, Zi4]) ?_)
 rintro ⟨k, its, o, v⟩ ⟨hk, hp, hm⟩
 simp only at hk hp hm ⊢
 refine za (zb ?_)
 refine za (zr rfl (fun hq => ?_) (fun hq => ?_))
 ·simp at hq
  obtain ⟨a, tl, a1, a2, a3, e0⟩ := zE rfl c k hq
  have hkl := Zcg x c k (by omega)
  have hks := Zi2 (x := x) a3
  have hput := Zi6 (jt x c k) c.length (xl x c a) (by omega)
  have hat := Zi7 (jt x c k) c.length (xl x c a)
  have hrl := Zch (jt x c k) c.length (by omega)
  have hrl2 := Zch (jt x c k ++ [xl x c a]) c.length (by simp; omega)
  rw [hkl] at hput hat
  have hno : js (k : Int) its = false := Zci (k := k) (rows := jt x c k) (by rw [List.getD_eq_getElem?_getD, List.getElem?_eq_none (by omega)]; rfl) hp
  have hil : its.length ≤ k := by rw [hp.length_eq]; exact Nat.le_trans (Xd _ _) (by omega)
  refine zh (za (zj (za (ze [] (zm e0 hq) ?_))))
  refine za (zb ?_)
  refine jB [] (Zi0 x c a hx (by omega) hcsm (hcsm a (List.mem_of_getElem? a1))) (zF hput hrl hq) ?_
  refine ⟨by omega, ?_⟩
  have hw := hpw (xl x c a) a rfl
  have hsn := Zja (jt x c k)
  have hsn0 := Zi9 (jt x c k)
  generalize hrow : xl x c a = row at *
  have hat2 : ∀ h, (wQ (jt x c k ++ [row]) c.length)[k]'h = L row := fun h => (List.getElem?_eq_some_iff.1 hat).2
  refine za (ze [] (zF hat2 hq hrl2) ?_)
  cases row with
  | nil =>
   refine zn rfl (zh (zb ?_))
   refine zp (k + 1, its, o, v) [] ⟨hq, ?_, hm⟩ (by simp; omega) (by simp [zt k (by omega)]) rfl (by simp [hks])
   simp only [hks, hsn0]
   exact hp
  | cons p rl =>
   have hwp := hw p (by simp)
   refine zo (by simp) ?_
   refine zV [] (by rfl) (by rfl) fun K Gc Gh hK hGc hGh X hX0 hX => ?_
   simp -implicitDefEqProofs [hX0, hX, hat2, hq, hrl2, hwp]
   try clear hX0 hX X
   refine hGc _ _ _ _ _ _ _ fun hsuf => ((Zb5 (j := 2) hm rfl rfl rfl (k : Int) (-p.s) (by omega)).mono ?_).v
   rintro _ T ⟨rfl, o2, m2, rfl⟩
   refine ⟨_, _, rfl, ?_⟩
   rw [hno] at m2
   simp only [cond_false] at m2
   clear hGc hGh
   clear Gc Gh
   refine zR hsuf (D := []) (by rfl) fun Gc Gh hGc hGh X hX0 hX => ?_
   simp -implicitDefEqProofs [hX0, hX]
   clear hX0 hX X
   refine hK _ _ _ ?_
   clear hK hGc hGh
   clear K Gc Gh
   refine zb ?_
   refine zp (k + 1, un ((k : Int), -p.s) its, o2, v) [] ⟨hq, ?_, m2⟩ (by simp; omega) (by simp [zt k (by omega)]) rfl (by simp [hks])
   simp only [hks]
   have := hsn p rl
   rw [hkl] at this
   exact (QM _ _).trans ((hp.cons _).trans this.symm)
 ·simp at hq
  obtain rfl : k = c.length := by omega
  obtain ⟨hb1, hb2, hb3⟩ := Ziu (x := x) hz6
  rw [← Zi3] at hb1 hb2 hb3
  have hrl := Zcg x c c.length (Nat.le_refl _)
  have hrc := Zi5 (jt x c c.length)
  rw [hrl] at hrc
  rw [hrc]
  generalize jt x c c.length = rows at *
  refine zy (zj (jo (σ := Nat × Store × List (List Pr) × zB Int × (Ob × Ob × Ob) × Nat) (fun s => s.1 ≤ (qA x c).length ∧ J s.1 s.2.1 ∧ Rows' c s.2.2.1 ∧ (∀ r ∈ s.2.2.1, Sd xI r) ∧ s.2.2.1.flatten.Perm ((qA x c).drop s.1) ∧ s.2.2.2.1.Perm (yL 0 s.2.2.1) ∧ HX s.2.2.2.2.1 (nx + 2) hv mv s.2.2.2.1) (fun s => [(0, jl l), (5, .ptr (nx + 3) hv 0), (6, .sl (nx + 5) s.2.2.2.2.2 1 0 c.length)]) (fun s => s.2.1) (fun s => [.dead, .dead, s.2.2.2.2.1.1, s.2.2.2.2.1.2.1, s.2.2.2.2.1.2.2, .cells s.2.2.2.2.2 312 (s.2.2.1.flatMap Enc.enc)]) (fun s => (qA x c).length - s.1) (zP (0, A0, rows, its, o, v) [] ⟨by simp, hA0, hb1, hb2, by simpa using hb3, hp, hm⟩ (by simp) rfl (by simp)) ?_))
  rintro ⟨i, A, rows, its, o, v⟩ ⟨hi, hJ, hr1, hr2, hr3, hp, hm⟩
  simp only at hi hJ hr1 hr2 hr3 hp hm ⊢
  have hrl : rows.length = c.length := hr1.len
  have hs := hm.srt
  refine zj (za (zV [] (by rfl) (by rfl) fun K Gc Gh hK hGc hGh X hX0 hX => ?_))
  simp -implicitDefEqProofs [hX0, hX]
  try clear hX0 hX X
  refine hGc _ _ _ _ _ _ _ fun hsuf => ((Zh8 (j := 2) hm rfl rfl rfl).mono ?_).v
  rintro _ T ⟨rfl, o2, m2, rfl⟩
  refine ⟨_, _, rfl, ?_⟩
  cases its with
  | nil =>
   clear hGc hGh
   clear Gc Gh
   refine zR hsuf (D := []) (by rfl) fun Gc Gh hGc hGh X hX0 hX => ?_
   simp -implicitDefEqProofs [hX0, hX, ZQ, zN, xD]
   clear hX0 hX X
   refine hK _ _ _ ?_
   clear hK hGc hGh
   clear K Gc Gh
   have h0 : ∀ r ∈ rows, r = [] := by
    intro r hr
    cases r with
    | nil => rfl
    | cons p tl =>
     obtain ⟨j, hj⟩ := List.mem_iff_getElem?.1 hr
     have := (YN rows 0 ((j : Int), -p.s)).2 ⟨j, p, tl, hj, by rw [Nat.zero_add]⟩
     rw [List.nil_perm.1 hp] at this
     cases this
   have hfin := Zig hr3 hi h0
   repeat apply za
   refine ze [(2, 61)] zL ?_
   exact zo rfl (zg (vf (hJd _ _ hJ) rfl (by simpa [hfin] using hJ)))
  | cons it r =>
   obtain ⟨q, y, tl, e1, e2, e3, e4, e5, e6, e7⟩ := Ziv hz6 hr1 hr2 hr3 hs hp.symm
   subst e1
   have hql := (List.getElem?_eq_some_iff.1 e2).1
   have hql2 : q < c.length := by omega
   obtain ⟨y', tr, a1, a2, a3, e0⟩ := zE rfl rows q hql
   rw [e2] at a1; cases a1
   have hil := (List.getElem?_eq_some_iff.1 e4).1
   have hyx : ((qA x c).map QQ)[i]? = some (QQ y) := by rw [List.getElem?_map, e4]; rfl
   clear hGc hGh
   clear Gc Gh
   refine zR hsuf (D := []) (by rfl) fun Gc Gh hGc hGh X hX0 hX => ?_
   simp -implicitDefEqProofs [hX0, hX, ZQ, zN, xD]
   clear hX0 hX X
   refine hK _ _ _ ?_
   clear hK hGc hGh
   clear K Gc Gh
   repeat apply za
   refine zV [(2, 61)] (by rfl) (by rfl) fun K Gc Gh hK hGc hGh X hX0 hX => ?_
   simp -implicitDefEqProofs [hX0, hX, e0, hql2, hrl, undef]
   try clear hX0 hX X
   refine hGh _ _ _ _ _ fun hsuf => YE rfl rfl rfl (hY _ _ _ _ hyx hJ) ?_
   rintro _ ⟨A', hJ', rfl⟩
   refine ⟨_, _, rfl, ?_⟩
   clear hGc hGh
   clear Gc Gh
   refine zR hsuf (D := [(2, 61)]) (by rfl) fun Gc Gh hGc hGh X hX0 hX => ?_
   simp -implicitDefEqProofs [hX0, hX]
   try clear hX0 hX X
   refine hK _ _ _ ?_
   clear hK hGc hGh
   clear K Gc Gh
   refine zn rfl (zh ?_)
   have hsp := Zi8 rows q tl hql
   have hrl2 : (rows.set q tl).length = c.length := by simp [hrl]
   have hql3 : q < (rows.set q tl).length := by omega
   obtain ⟨y', tr', a1, a2, a3, e0'⟩ := zE rfl (rows.set q tl) q hql3
   rw [List.getElem?_set_self hql] at a1; cases a1
   have hno : js (q : Int) r = false := Zci (rows := rows.set q []) (by rw [List.getD_eq_getElem?_getD, List.getElem?_set_self hql]; rfl) e3
   have hlen : r.length ≤ 1048576 := by rw [e3.length_eq]; exact Nat.le_trans (Xd _ _) (by simp; omega)
   have hperm := fun p tz => Xc rows 0 q p tz hql
   refine za (ze [] (yi e0 hql2 hrl hsp) ?_)
   refine ⟨by omega, ?_⟩
   refine za (ze [] (zF e0' hql2 hrl2) ?_)
   cases tl with
   | nil =>
    exact zn rfl (zh (zp (i + 1, A', rows.set q [], r, o2, v) [] ⟨hil, hJ', e5, e6, e7, e3, m2⟩ (by simp; omega) (by simp) rfl (by simp)))
   | cons z tz =>
    have hzm : z ∈ (rows.set q (z :: tz)).flatten := List.mem_flatten.2 ⟨z :: tz, List.mem_of_getElem? (List.getElem?_set_self hql), by simp⟩
    have hzp : z ∈ vi x c := (ZS x c).subset (List.mem_of_mem_drop (e7.subset hzm))
    have hzs := (QO.1 hzp).2.2.2
    have hwz : IntKind.i64.wrap (-z.s) = -z.s := by
     rw [hzs]
     have := WZ hx z.a z.b
     exact wr _ (by omega) (by omega)
    refine zo (by simp) ?_
    refine zV [] (by rfl) (by rfl) fun K Gc Gh hK hGc hGh X hX0 hX => ?_
    simp -implicitDefEqProofs [hX0, hX, e0', hql2, hrl2, hwz]
    try clear hX0 hX X
    refine hGc _ _ _ _ _ _ _ fun hsuf => ((Zb5 (j := 2) m2 rfl rfl rfl (q : Int) (-z.s) (by simp; omega)).mono ?_).v
    rintro _ T ⟨rfl, o3, m3, rfl⟩
    refine ⟨_, _, rfl, ?_⟩
    simp only [List.tail_cons] at m3
    rw [hno] at m3
    simp only [cond_false] at m3
    clear hGc hGh
    clear Gc Gh
    refine zR hsuf (D := []) (by rfl) fun Gc Gh hGc hGh X hX0 hX => ?_
    simp -implicitDefEqProofs [hX0, hX]
    clear hX0 hX X
    refine hK _ _ _ ?_
    clear hK hGc hGh
    clear K Gc Gh
    refine zp (i + 1, A', rows.set q (z :: tz), un ((q : Int), -z.s) r, o3, v) [] ⟨hil, hJ', e5, e6, e7, ?_, m3⟩ (by simp; omega) (by simp) rfl (by simp)
    have := hperm z tz
    rw [Nat.zero_add] at this
    exact (QM _ _).trans ((e3.cons _).trans this.symm)
open Go Hp
theorem Zjd {x : Inst} {c : List Int} (h : c.Nodup) (hc : c.length ≤ 1000) : (qA x c).length ≤ 1000000 := by
 rw [Zij h]
 exact Nat.le_trans (Nat.mul_le_mul hc (Nat.sub_le _ _)) (Nat.mul_le_mul_left 1000 hc)
open Go Hp
open Go Hp
def Zk (x : Inst) (ss : List Stop) (i : Nat) : zi × Int := ((qA x (ss.map (·.c))).take i).foldl (qw x) (ss.map fun s => [s], (ss.length : Int))
theorem Zje (x : Inst) (ss : List Stop) : Zk x ss 0 = (ss.map fun s => [s], (ss.length : Int)) := by simp [Zk]
theorem Zjf {x : Inst} {ss : List Stop} {i : Nat} {p : Pr} (h : (qA x (ss.map (·.c)))[i]? = some p) : Zk x ss (i + 1) = qw x (Zk x ss i) p := by
 unfold Zk
 obtain ⟨h1, e⟩ := List.getElem?_eq_some_iff.1 h
 rw [List.take_succ_eq_append_getElem h1, e, List.foldl_append]; rfl
theorem Zjg (x : Inst) (ss : List Stop) : Zk x ss (qA x (ss.map (·.c))).length = W0 x ss := by simp [Zk, W0]
theorem Zjh (x : Inst) (T : zi) (num : Int) (p : Pr) : num - 1 ≤ (qw x (T, num) p).2 ∧ (qw x (T, num) p).2 ≤ num := by
 unfold qw YO
 cases y8 x (T, num).2 p (vj (T, num).1 p.a) (vj (T, num).1 p.b) ((T, num).1.getD (vj (T, num).1 p.a) []) ((T, num).1.getD (vj (T, num).1 p.b) []) <;> simp <;> omega
theorem Zji (x : Inst) (ss : List Stop) (hx : qH x) (hxc : x.cust.length ≤ 1048576) (hss : ss.length ≤ 1000) (hs : ∀ s ∈ ss, small s.c) (hnd : (ss.map (·.c)).Nodup) : Pure Tryz.prog 212 [.agg (zA x), L ss] (.agg [L (xJ x ss)]) := by
 have hpl := Zjd (x := x) hnd (by simpa using hss)
 have hkey : KeyOk (.int .i64) qp := ZP .i64
 have hdist : ∀ k s, ss[k]? = some s → s.c ∉ (ss.take k).map (·.c) := by
  intro k s h hm
  obtain ⟨s', h1, h2⟩ := List.mem_map.1 hm
  obtain ⟨j, hj⟩ := List.mem_iff_getElem?.1 h1
  rw [List.getElem?_take] at hj
  split at hj
  ·rename_i hjk
   have e1 : (ss.map (·.c))[j]? = some s.c := by rw [List.getElem?_map, hj, ← h2]; rfl
   have e2 : (ss.map (·.c))[k]? = some s.c := by rw [List.getElem?_map, h]; rfl
   obtain ⟨g1, g2⟩ := List.getElem?_eq_some_iff.1 e1
   obtain ⟨g3, g4⟩ := List.getElem?_eq_some_iff.1 e2
   exact List.pairwise_iff_getElem.1 hnd j k g1 g3 hjk (g2.trans g4.symm)
  ·cases hj
 refine zx Tryz.func212 Tryz.ntmps212 Tryz.results212 fun S nx hd => ?_
 refine za (zb ?_)
 intro v0 v1
 refine za (zb ?_)
 intro v2 v3 v4
 refine qQ 3 6 31 1 rfl rfl fun v5 => ?_
 repeat apply za
 refine zb ?_
 refine zj (zG (fun s : Nat × zi × List (Value × PV) × (Int → Option Int) × Nat => s.1 ≤ ss.length ∧ s.2.1 = (ss.take s.1).map (fun s => [s]) ∧ MapIs qp I s.2.2.1 s.2.2.2.1 ∧ JI (ss.take s.1) s.2.1 s.2.2.2.1) (fun (k, T, es, g, v5) => [(1, L ss), (2, .ptr nx v0 0), (4, .ptr (nx + 1) v1 0), (5, .ptr (nx + 4) v4 0), (18, L ss), (19, I ss.length), (20, I k)])
  (fun (k, T, es, g, v5) => [.cells v0 25 (zA x), .cells v1 58 [.sc (.slice none 0 0)], .map v2 es, .cells v3 288 (YP x (nx + 5) v5 k ss.length (nx + 2) v2), .cells v4 285 [.ptr (nx + 3) v3 0], .cells v5 31 (T.flatMap Enc.enc)]) (fun s => ss.length - s.1) (0, [], [], fun _ => none, v5) [] ⟨by simp, by simp, ZbV _ _, by simpa using JI.nil⟩ (by simp) (by simp) ?_)
 rintro ⟨k, T, es, g, v5⟩ ⟨hk, hT, hm, hI⟩
 simp only at hk hT hm hI ⊢
 have hTl : T.length = k := by rw [hT]; simp; omega
 refine za (zb ?_)
 refine za (zr rfl (fun hq => ?_) (fun hq => ?_))
 ·simp at hq
  obtain ⟨s, tl, a1, a2, a3, e1, e0⟩ := el 2 rfl ss k hq
  obtain ⟨rs, f1, _, _, f4, _⟩ := hm.find hkey s.c
  have hnew := f4 (k : Int)
  have hIn := hI.snoc s (hdist k s a1)
  have hkl : (ss.take k).length = k := by simp; omega
  rw [hkl, ← a3] at hIn
  have hTs : T ++ [[s]] = (ss.take (k + 1)).map fun s => [s] := by rw [a3, hT]; simp
  have htf : (T.flatMap Enc.enc).take k = T.flatMap Enc.enc := List.take_of_length_le (by rw [jp]; omega)
  have htl : (T.flatMap Enc.enc).length = k := by rw [jp, hTl]
  refine zh (za (zj (za (ze [] (zF e1 e0 hq) ?_))))
  intro v6
  refine za (zC (some [nx + 4, nx + 6]) (Row.pures [0, 1, 2, 3, 5, 6, 7] (.alt 4 (.alt 8 (Row.pures [9, 10] (.alt 11 (.done) .stop)) .stop) .stop)) mixed (zm htf htl) ?_)
  refine ⟨⟨by omega, by omega⟩, ?_⟩
  refine vE (some [nx + 3, nx + 4, nx + 6]) (Row.pures [0, 1, 2, 3, 4, 5, 6] (.alt 7 (.done) .stop)) mixed (by rfl) (by rfl) (by rfl) fun K Gp Gc Gh hK hGp hGc hGh X hX0 hX1 hX2 hX => ?_
  simp -implicitDefEqProofs [hX0, hX1, hX2, hX]
  try clear hX0 hX1 hX2 hX X
  refine hGh _ _ _ _ _ (by rfl) (Qw (.inl rfl) Tryz.underlying286 Tryz.underlying3 rfl rfl rfl (by simp) f1 ?_)
  rw [y9 _ (by omega) (by simp), show nx + 2 - nx = 2 from by omega]
  refine ⟨by simp [yF], ?_⟩
  clear hGp hGc hGh
  clear Gp Gc Gh
  refine j3 fun Gp Gc Gh hGp hGc hGh X hX0 hX1 hX2 hX => ?_
  simp -implicitDefEqProofs [hX0, hX1, hX2, hX]
  try clear hX0 hX1 hX2 hX X
  refine hK _ _ _ ?_
  clear hK hGp hGc hGh
  clear K Gp Gc Gh
  refine zb ?_
  exact zp (k + 1, T ++ [[s]], qY (qp s.c) (I k) es rs, qv g s.c (some (k : Int)), v5 + 1) [_] ⟨hq, hTs, hnew, hIn⟩ (by simp; omega) (by simp [zt k (by omega)]) rfl (by simp; rfl)
 ·simp at hq
  obtain rfl : k = ss.length := by omega
  rw [List.take_length] at hT hI
  refine zy ?_
  repeat apply za
  refine zb ?_
  refine zz (Zjb x ss) ?_
  refine zj (YF (xs := (qA x (ss.map (·.c))).map QQ) (σ := zi × Int × List (Value × PV) × (Int → Option Int)) (fun i s => (s.1, s.2.1) = Zk x ss i ∧ i ≤ (qA x (ss.map (·.c))).length ∧ MapIs qp I s.2.2.1 s.2.2.2 ∧ JI ss s.1 s.2.2.2 ∧ (ss.length : Int) - i ≤ s.2.1 ∧ s.2.1 ≤ ss.length) [(4, .ptr (nx + 1) v1 0), (5, .ptr (nx + 4) v4 0)] (fun _ => S)
   (fun (T, num, es, g) => [.cells v0 25 (zA x), .cells v1 58 [.sc (.slice none 0 0)], .map v2 es, .cells v3 288 (YP x (nx + 5) v5 ss.length num (nx + 2) v2), .cells v4 285 [.ptr (nx + 3) v3 0], .cells v5 31 (T.flatMap Enc.enc)]) (T, (ss.length : Int), es, g)
   (Zjc x ss hx (by omega) hs hnd) rfl (by intro x hx; obtain ⟨y, _, rfl⟩ := List.mem_map.1 hx; rfl) (by decide) (by simp) ⟨by rw [Zje, hT], by simp, hm, hI, by simp, by simp⟩ rfl (by simp) (by simp) ?_ ?_)
  ·clear hm hI hT hTl
   rintro l i ⟨T, num, es, g⟩ more y ⟨hst, hi, hm, hI, hn1, hn2⟩ hy
   simp only at hst hi hm hI hn1 hn2 ⊢
   rw [List.getElem?_map] at hy
   obtain ⟨p, hp, rfl⟩ := Option.map_eq_some_iff.1 hy
   obtain ⟨hil, hpi⟩ := List.getElem?_eq_some_iff.1 hp
   have hmem := QO.1 ((ZS x _).subset (List.mem_of_getElem? hp))
   have hsucc := Zjf hp
   rw [← hst] at hsucc
   obtain ⟨nb1, nb2⟩ := Zjh x T num p
   refine zV [] (by rfl) (by rfl) fun K Gc Gh hK hGc hGh X hX0 hX => ?_
   simp -implicitDefEqProofs [hX0, hX, QQ]
   try clear hX0 hX X
   intro v6
   refine hK _ _ _ ?_
   clear hK hGc hGh
   clear K Gc Gh
   refine zj (zV [] (by rfl) (by rfl) fun K Gc Gh hK hGc hGh X hX0 hX => ?_)
   simp -implicitDefEqProofs [hX0, hX]
   try clear hX0 hX X
   refine hGc _ _ _ _ _ _ _ fun hsuf => ((ZiE x ss T g num es hxc hss (by omega) hI hm (jid := nx + 3) (tid := nx + 5) (mid := nx + 2) (by rw [yQ]; rfl) (by rw [yQ]; rfl) (by rw [yQ]; rfl) (by omega) (by omega) (by omega) p hmem.1 hmem.2.1).mono ?_).v
   rintro _ _ ⟨es2, g2, m2, i2, rfl⟩
   refine ⟨_, _, (by rw [y9 _ (by omega) (by simp), y9 _ (by omega) (by simp), y9 _ (by omega) (by simp)]), ?_⟩
   clear hGc hGh
   clear Gc Gh
   refine zR hsuf (D := []) (by rfl) fun Gc Gh hGc hGh X hX0 hX => ?_
   simp -implicitDefEqProofs [hX0, hX, (show nx + 3 - nx = 3 from by omega), (show nx + 5 - nx = 5 from by omega), (show nx + 2 - nx = 2 from by omega)]
   clear hX0 hX X
   refine hK _ _ _ ?_
   clear hK hGc hGh
   clear K Gc Gh
   simp only [qX]
   exact xF ((qw x (T, num) p).1, (qw x (T, num) p).2, es2, g2) [_] ⟨hsucc.symm, by omega, m2, i2, by simp only; omega, by simp only; omega⟩ rfl (by simp; rfl)
  ·clear hm hI hT hTl
   rintro ⟨T, num, es, g⟩ ⟨hst, -, hm, hI, -, -⟩
   simp only [List.length_map] at hst hI ⊢
   rw [Zjg] at hst
   have hTl := hI.len
   have hjp : xJ x ss = T.filter fun t => !t.isEmpty := by unfold xJ; rw [← hst]
   rw [hjp]
   refine za (zb ?_)
   intro v6
   refine qQ 6 0 72 1 rfl rfl fun v7 => ?_
   repeat apply za
   refine zb ?_
   refine zj (zG (fun s : Nat × zi × Nat => s.1 ≤ T.length ∧ s.2.1 = (T.take s.1).filter fun t => !t.isEmpty) (fun (k, out, v7) => [(4, .ptr (nx + 1) v1 0), (9, .ptr (nx + 6) v6 0), (54, .sl (nx + 5) v5 1 0 ss.length), (55, I ss.length), (56, I k)]) (fun (k, out, v7) => [.cells v0 25 (zA x), .cells v1 58 [.sc (.slice none 0 0)], .map v2 es, .cells v3 288 (YP x (nx + 5) v5 ss.length num (nx + 2) v2), .cells v4 285 [.ptr (nx + 3) v3 0], .cells v5 31 (T.flatMap Enc.enc), .cells v6 58 [.sl (nx + 7) v7 1 0 out.length], .cells v7 72 (out.flatMap Enc.enc)]) (fun s => T.length - s.1) (0, [], v7) [] ⟨by simp, by simp⟩ (by simp) (by simp) ?_)
   rintro ⟨k, out, v7⟩ ⟨hk, ho⟩
   simp only at hk ho ⊢
   have hol : out.length ≤ k := by rw [ho]; exact Nat.le_trans (List.length_filter_le _ _) (by simp; omega)
   refine za (zb ?_)
   refine za (zr rfl (fun hq => ?_) (fun hq => ?_))
   ·simp at hq
    obtain ⟨t, tl, a1, a2, a3, e0⟩ := zE rfl T k (by omega)
    have hfs : (T.take (k + 1)).filter (fun t => !t.isEmpty) = out ++ (if t = [] then [] else [t]) := by
     rw [a3, List.filter_append, ← ho]
     cases t <;> simp
    refine zh (za (zj (za (ze [] (zF e0 hq hTl) ?_))))
    refine za (zb ?_)
    cases t with
    | nil =>
     rw [if_pos rfl, List.append_nil] at hfs
     refine zn (by simp) ?_
     refine zh (zb ?_)
     exact zp (k + 1, out, v7) [] ⟨by omega, hfs.symm⟩ (by simp; omega) (by simp [zt k (by omega)]) rfl (by simp)
    | cons s t =>
     rw [if_neg (by simp)] at hfs
     refine zo (by simp) ?_
     refine zb ?_
     refine ⟨by omega, ?_⟩
     refine zb ?_
     exact zp (k + 1, out ++ [s :: t], v7 + 1) [] ⟨by omega, hfs.symm⟩ (by simp; omega) (by simp [zt k (by omega)]) rfl (by simp)
   ·simp at hq
    obtain rfl : k = T.length := by omega
    rw [List.take_length] at ho
    refine zy (yc 7 rfl ?_)
    refine za (zb ?_)
    exact zg (zk hd (by simp; rfl) (by simp [zq, ho]))
open Go Hp
abbrev yG : PV := .sc (.slice none 0 0)
open Go Hp
def ZT (pl : PV) : Prop := pl = yG ∨ ∃ n cs, pl = .lst n cs
theorem ZU (l : List Stop) : ZT (L l) := .inr ⟨_, _, rfl⟩
abbrev YR (x : Inst) (b : Int) : PV := .fn (.func 208) [] [.ip (zA x), .ip [I b]]
abbrev W6 (x : Inst) (pl : PV) (b : Int) : List PV := [.fn (.func 209) [] [.ip [pl]], .fn (.func 211) [] [.ip [YR x b], .ip (zA x), .ip [pl]], .fn (.func 213) [] [.ip [YR x b], .ip [pl]], .fn (.func 214) [] [.ip (zA x), .ip [pl], .ip [YR x b]]]
theorem Zjj (x : Inst) (pl : PV) (b : Int) (hp : ZT pl) : Pure Tryz.prog 168 [.agg (zA x), pl, I b] (.fn (.func 216) [] [.ip [.lst 4 (W6 x pl b)]]) := by
 rcases hp with rfl | ⟨n, cs, rfl⟩
 all_goals
  refine zx Tryz.func168 Tryz.ntmps168 Tryz.results168 fun S nx hd => ?_
  refine za (zb ?_)
  intro v0 v1 v2
  refine j4 0 rfl ?_
  refine j4 1 rfl ?_
  refine j4 2 rfl ?_
  refine za (zb ?_)
  intro v3
  refine j4 3 rfl ?_
  refine za (zb ?_)
  intro v4
  refine j4 4 rfl ?_
  refine za (zb ?_)
  exact zg (zk hd (by simp; rfl) rfl)
theorem Zjk (pl : PV) (d : zi) (hp : ZT pl) (hA : Pure Tryz.prog 210 [pl] (.agg [L d])) : Pure Tryz.prog 209 [.ip [pl]] (.tup [.agg [L d], B true]) := by
 rcases hp with rfl | ⟨n, cs, rfl⟩
 all_goals
  refine zx Tryz.func209 Tryz.ntmps209 Tryz.results209 fun S nx hd => ?_
  refine za (zb ?_)
  intro v0
  refine za (zb ?_)
  refine zz hA ?_
  exact zg (zk hd (by simp; rfl) rfl)
theorem W7 (x : Inst) (b : Int) (d e : zi) (n : Int) (hI : Pure Tryz.prog 62 [.agg (zA x), .agg [L d], I b] (.tup [.agg [L e], I n])) : Pure Tryz.prog 208 [.agg [L d], .ip (zA x), .ip [I b]] (.agg [L e]) := by
 refine zx Tryz.func208 Tryz.ntmps208 Tryz.results208 fun S nx hd => ?_
 refine za (zb ?_)
 intro v0 v1
 refine za (zb ?_)
 refine zz hI ?_
 refine za (zb ?_)
 exact zg (zk hd (by simp; rfl) rfl)
theorem Zjl (x : Inst) (pl : PV) (b : Int) (d e : zi) (n : Int) (hp : ZT pl) (hJ : Pure Tryz.prog 212 [.agg (zA x), pl] (.agg [L d])) (hI : Pure Tryz.prog 62 [.agg (zA x), .agg [L d], I b] (.tup [.agg [L e], I n])) : Pure Tryz.prog 211 [.ip [YR x b], .ip (zA x), .ip [pl]] (.tup [.agg [L e], B true]) := by
 have hF := W7 x b d e n hI
 rcases hp with rfl | ⟨n, cs, rfl⟩
 all_goals
  refine zx Tryz.func211 Tryz.ntmps211 Tryz.results211 fun S nx hd => ?_
  refine za (zb ?_)
  intro v0
  refine za (zC (some []) (Row.pures [0, 1, 2, 3, 4] (.alt 5 (Row.pures [6] .done) .stop)) mixed trivial ?_)
  refine zI (hJ) trivial ?_
  refine zI (hF) trivial ?_
  exact zg (zk hd (by simp; rfl) rfl)
theorem Zjm (x : Inst) (pl : PV) (b : Int) (d e : zi) (n : Int) (hp : ZT pl) (hA : Pure Tryz.prog 210 [pl] (.agg [L d])) (hI : Pure Tryz.prog 62 [.agg (zA x), .agg [L d], I b] (.tup [.agg [L e], I n])) : Pure Tryz.prog 213 [.ip [YR x b], .ip [pl]] (.tup [.agg [L e], B true]) := by
 have hF := W7 x b d e n hI
 rcases hp with rfl | ⟨n, cs, rfl⟩
 all_goals
  refine zx Tryz.func213 Tryz.ntmps213 Tryz.results213 fun S nx hd => ?_
  refine za (zb ?_)
  intro v0
  refine za (zC (some []) (Row.pures [0, 1, 2, 3] (.alt 4 (Row.pures [5] .done) .stop)) mixed trivial ?_)
  refine zI (hA) trivial ?_
  refine zI (hF) trivial ?_
  exact zg (zk hd (by simp; rfl) rfl)
theorem Zcj (x : Inst) (pl : PV) (b : Int) (d e : zi) (ok : Bool) (n : Int) (hp : ZT pl) (hR : Pure Tryz.prog 215 [.agg (zA x), pl] (.tup [.agg [L d], B ok])) (hI : ok = true → Pure Tryz.prog 62 [.agg (zA x), .agg [L d], I b] (.tup [.agg [L e], I n])) :
  Pure Tryz.prog 214 [.ip (zA x), .ip [pl], .ip [YR x b]] (.tup [.agg [bif ok then L e else yG], B ok]) := by
 rcases hp with rfl | ⟨n, cs, rfl⟩
 all_goals
  cases ok with
  | false =>
   refine zx Tryz.func214 Tryz.ntmps214 Tryz.results214 fun S nx hd => ?_
   refine za (zb ?_)
   intro v0
   refine za (zb ?_)
   refine zz hR ?_
   intro v1
   repeat apply za
   refine zb ?_
   refine zo rfl (za (zb ?_))
   exact zg (zk hd (by simp; rfl) rfl)
  | true =>
   have hF := W7 x b d e _ (hI rfl)
   refine zx Tryz.func214 Tryz.ntmps214 Tryz.results214 fun S nx hd => ?_
   refine za (zb ?_)
   intro v0
   refine za (zb ?_)
   refine zz hR ?_
   intro v1
   repeat apply za
   refine zb ?_
   refine zn rfl (zh (za (zb ?_)))
   refine zz hF ?_
   exact zg (zk hd (by simp; rfl) rfl)
theorem Zjn (fs : List PV) (rs : List (Option zi)) (hl : rs.length = fs.length) (hn : fs.length ≤ 1000)
  (h : ∀ (k : Nat) f, fs[k]? = some f → ∃ fk caps p, f = .fn (.func fk) [] caps ∧ Pure Tryz.prog fk caps (.tup [.agg [p], B (rs.getD k none).isSome]) ∧ ∀ d, rs.getD k none = some d → p = L d) :
  Ze Tryz.prog 216 [.ip [.lst fs.length fs]] ((rs.filterMap id).map fun d => [.agg [L d]]) := by
 refine QB Tryz.func216 (by rfl) rfl Tryz.ntmps216 (congrArg Array.toList Tryz.results216) (by simp) fun l V keep nx J hJd hY A0 hA0 => ?_
 refine za (zb ?_)
 refine zj (jo (σ := Nat × Store) (fun s => s.1 ≤ fs.length ∧ J ((rs.take s.1).filterMap id).length s.2) (fun s => [(0, jl l), (7, .lst fs.length fs), (8, I fs.length), (9, I s.1)]) (fun s => s.2) (fun s => []) (fun s => fs.length - s.1) (zP (0, A0) [] (by simp [hA0]) (by simp) rfl (by simp)) ?_)
 rintro ⟨k, A⟩ ⟨hk, hJ⟩
 simp only at hk hJ ⊢
 refine za (zb ?_)
 refine za (zr rfl (fun hc => ?_) (fun hc => ?_))
 ·simp at hc
  have e0 : fs.drop k = fs[k] :: fs.drop (k + 1) := List.drop_eq_getElem_cons hc
  obtain ⟨fk, caps, p, hf, hP, hd⟩ := h k fs[k] (List.getElem?_eq_getElem hc)
  rw [hf] at e0
  have hkr : k < rs.length := by omega
  have htk : rs.take (k + 1) = rs.take k ++ [rs[k]] := List.take_succ_eq_append_getElem hkr
  have hg : rs.getD k none = rs[k] := by rw [List.getD_eq_getElem?_getD, List.getElem?_eq_getElem hkr]; rfl
  rw [hg] at hP hd
  refine zh (za (zj (za (ze [] (zm e0 hc) ?_))))
  cases hr : rs[k] with
  | none =>
   rw [hr] at hP htk
   simp only [Option.isSome_none] at hP
   have hlen : ((rs.take (k + 1)).filterMap id).length = ((rs.take k).filterMap id).length := by rw [htk]; simp
   refine za (zb ?_)
   refine zz hP ?_
   intro v0
   refine za (ze [(1, 19)] zL ?_)
   refine zn rfl (zh (zb ?_))
   exact zp (k + 1, A) [_] ⟨hc, by rw [hlen]; exact hJ⟩ (by simp; omega) (by simp [zt k (by omega)]) rfl (by simp; rfl)
  | some d =>
   obtain rfl := hd d hr
   rw [hr] at hP htk
   simp only [Option.isSome_some] at hP
   have hlen : ((rs.take (k + 1)).filterMap id).length = ((rs.take k).filterMap id).length + 1 := by rw [htk]; simp
   have hx : ((rs.filterMap id).map fun d => [PV.agg [L d]])[((rs.take k).filterMap id).length]? = some [PV.agg [L d]] := by
    have e1 : rs.filterMap id = (rs.take k).filterMap id ++ (d :: (rs.drop (k + 1)).filterMap id) := by
     conv => lhs; rw [← List.take_append_drop k rs, List.drop_eq_getElem_cons hkr, hr]
     simp
    rw [List.getElem?_map, e1, List.getElem?_append_right (Nat.le_refl _), Nat.sub_self]
    rfl
   refine za (zb ?_)
   refine zz hP ?_
   intro v0
   refine za (zV [(1, 19)] (by rfl) (by rfl) fun K Gc Gh hK hGc hGh X hX0 hX => ?_)
   simp -implicitDefEqProofs [hX0, hX]
   try clear hX0 hX X
   refine hGh _ _ _ _ _ fun hsuf => YE rfl rfl rfl (hY _ _ _ _ hx hJ) ?_
   rintro _ ⟨A', hJ', rfl⟩
   refine ⟨_, _, rfl, ?_⟩
   clear hGc hGh
   clear Gc Gh
   refine zR hsuf (D := [(1, 19)]) (by rfl) fun Gc Gh hGc hGh X hX0 hX => ?_
   simp -implicitDefEqProofs [hX0, hX]
   try clear hX0 hX X
   refine hK _ _ _ ?_
   clear hK hGc hGh
   clear K Gc Gh
   refine zn rfl (zh (zb ?_))
   exact zp (k + 1, A') [_] ⟨hc, by rw [hlen]; exact hJ'⟩ (by simp; omega) (by simp [zt k (by omega)]) rfl (by simp; rfl)
 ·simp at hc
  obtain rfl : k = fs.length := by omega
  rw [← hl, List.take_length] at hJ
  refine zy (vf (hJd _ _ hJ) rfl ?_)
  simpa using hJ
def jE (x : Inst) (st : zi × Int × Bool) (d : zi) : zi × Int × Bool := if yq x d = 0 then (if st.2.2 = false ∨ W (zM x d) < st.2.1 then (d, W (zM x d), true) else st) else st
def wR (x : Inst) (ds : List zi) : zi × Int × Bool := ds.foldl (jE x) ([], 0, false)
open Go Hp
theorem Zjo {K : (Nat → PV) → Store → Prop} {Q : Exit → (Nat → PV) → Store → Prop} {i : Nat} {F : Nat → PV} {S : Store} (h : Q (.exit i) F S) : uJ K Q (.exit i) F S := h
theorem Zjp {Q : Exit → (Nat → PV) → Store → Prop} {i : Nat} {F : Nat → PV} {S : Store} (h : Q .normal F S) : qX i Q (.exit i) F S := by simp [qX, h]
def j6 (x : Inst) (e : Int) (ds : List zi) : zi × Int := if e = 0 then (bif (wR x ds).2.2 then ((wR x ds).1, 0) else ([], 14)) else ([], e)
theorem Zck (x : Inst) (pl : PV) (b e : Int) (ds : List zi) (hp : ZT pl) (hx : x.cust.length ≤ 1048576) (hF : Pure Tryz.prog 167 [.agg (zA x), pl] (I e))
  (hit : e = 0 → Ze Tryz.prog 216 [.ip [.lst 4 (W6 x pl b)]] (ds.map fun d => [.agg [L d]])) (hds : e = 0 → ∀ d ∈ ds, DayOk d ∧ d.flatten.length ≤ 1048576) :
  Pure Tryz.prog 126 [.agg (zA x), pl, I b] (.tup [.agg [L (j6 x e ds).1], I (j6 x e ds).2]) := by
 have hT := Zjj x pl b hp
 refine zx Tryz.func126 Tryz.ntmps126 Tryz.results126 fun S nx hd => ?_
 refine za (zb ?_)
 intro v0 v1
 repeat apply za
 refine zb ?_
 refine zz hF ?_
 by_cases he : e = 0
 case neg =>
  refine za (zb ?_)
  refine zo (by simp [he]) ?_
  refine za (zb ?_)
  refine uP 1 0 rfl rfl ?_
  exact zg (zk hd (by simp; rfl) (by simp [j6, he, zq]))
 subst he
 have hit := hit rfl
 have hds := hds rfl
 refine za (zb ?_)
 refine zn (by simp) ?_
 refine zh (za (zb ?_))
 intro v2 v3 v4
 refine uP 2 0 rfl rfl ?_
 repeat apply za
 refine zb ?_
 refine zz hT ?_
 refine zj (YF (xs := ds.map fun d => [PV.agg [L d]]) (σ := zi × Int × Bool) (fun i s => s = (ds.take i).foldl (jE x) ([], 0, false) ∧ i ≤ ds.length) [(3, .ptr nx v0 0), (6, .ptr (nx + 1) v1 0), (7, I 0), (9, .ptr (nx + 2) v2 0), (10, .ptr (nx + 3) v3 0), (11, .ptr (nx + 4) v4 0)] (fun _ => S)
  (fun (best, least, found) => [.cells v0 25 (zA x), .cells v1 58 [yG], .cells v2 58 [L best], .cells v3 3 [I least], .cells v4 4 [B found]]) ([], 0, false)
  hit rfl (by intro x hx; obtain ⟨y, _, rfl⟩ := List.mem_map.1 hx; rfl) (by decide) (by simp) ⟨by simp, by simp⟩ rfl (by simp) (by simp) ?_ ?_)
 ·rintro l i ⟨best, least, found⟩ more y ⟨hst, hi⟩ hy
  simp only at hst hi ⊢
  rw [List.getElem?_map] at hy
  obtain ⟨d, hd', rfl⟩ := Option.map_eq_some_iff.1 hy
  obtain ⟨hil, hdi⟩ := List.getElem?_eq_some_iff.1 hd'
  obtain ⟨hdo, hdf⟩ := hds d (List.mem_of_getElem? hd')
  have hday := ZbS x d hx hdo.1 hdo.2 hdf
  have hcost := YM x d hdo
  have hsucc : (ds.take (i + 1)).foldl (jE x) ([], 0, false) = jE x (best, least, found) d := by
   rw [List.take_succ_eq_append_getElem hil, hdi, List.foldl_append, ← hst]; rfl
  unfold jE at hsucc
  simp only at hsucc
  refine zb ?_
  intro v5
  refine zj ?_
  repeat apply za
  refine zb ?_
  refine zz hday ?_
  by_cases h1 : yq x d = 0
  ·rw [if_pos h1] at hsucc
   refine zn (by simp [h1]) ?_
   refine zh (za (zb ?_))
   refine zz hcost ?_
   generalize W (zM x d) = c at *
   cases found with
   | false =>
    rw [if_pos (.inl rfl)] at hsucc
    refine za (ze [(2, 36)] zL ?_)
    refine zo rfl (zb ?_)
    simp only [qX]
    exact xF (d, c, true) [_] ⟨hsucc.symm, by omega⟩ rfl (by simp; rfl)
   | true =>
    by_cases h2 : c < least
    ·rw [if_pos (.inr h2)] at hsucc
     refine za (ze [(2, 36)] (zm h2 zL) ?_)
     refine zo rfl (zb ?_)
     simp only [qX]
     exact xF (d, c, true) [_] ⟨hsucc.symm, by omega⟩ rfl (by simp; rfl)
    ·rw [if_neg (by simp [h2])] at hsucc
     refine za (ze [(2, 36)] (zm h2 zL) ?_)
     refine zn rfl (zh ?_)
     simp only [qX]
     exact xF (best, least, true) [_] ⟨hsucc.symm, by omega⟩ rfl (by simp; rfl)
  ·rw [if_neg h1] at hsucc
   refine zo (by simp [h1]) ?_
   refine zy (Zjo (Zjp ?_))
   exact xF (best, least, found) [_] ⟨hsucc.symm, by omega⟩ rfl (by simp; rfl)
 ·rintro ⟨best, least, found⟩ ⟨hst, -⟩
  simp only [List.length_map, List.take_length] at hst ⊢
  have hz : wR x ds = (best, least, found) := hst.symm
  cases found with
  | false =>
   repeat apply za
   refine zb ?_
   refine zo rfl (za (zb ?_))
   refine uP 1 0 rfl rfl ?_
   exact zg (zk hd (by simp; rfl) (by simp [j6, hz, zq]))
  | true =>
   repeat apply za
   refine zb ?_
   refine zn rfl (zh (za (zb ?_)))
   exact zg (zk hd (by simp; rfl) (by simp [j6, hz, zq]))
open Go Hp
theorem Zcl (lk : List PV) (s : Stop) (hl : lk.length = 13) : Pure Tryz.prog 99 [.agg lk, .agg [I s.c, I s.q]] (.fn (.func 138) [] [.ip [I s.c, I s.q], .ip lk]) := by
 refine zx Tryz.func99 Tryz.ntmps99 Tryz.results99 fun S nx hd => ?_
 refine za (ze [] hl ?_)
 intro v0 v1
 refine za (zb ?_)
 refine j4 0 rfl ?_
 refine j4 1 rfl ?_
 exact zg (zk hd (by simp; rfl) rfl)
open Go Go.Lib Go.Proofs
theorem ZV : ElemOk Tryz.prog 31 35 (.agg #[.int .i64 0, .int .i64 0]) 16 :=
 ⟨Tryz.underlying31, by simp, by simp, by simp, by simp, by omega⟩
theorem Zcm (a : Addr) (n c : Nat) (w W2 : World) (u : Value) (hrz : ∀ ty, (Builtin.append_ #[31, 31] ty #[.slice (some ⟨w.heap.size, 0, none⟩) 0 0, .slice (some a) n c]).run Tryz.prog (w.alloc (.cells #[] 35)) = .ok u W2) :
  Calls Tryz.prog 105 #[.slice (some a) n c] w fun e w' => e = .returned u ∧ w' = W2 := by
 have mixed : Tryz.prog.follows .mixedOrders = true := by kernel_rfl
 have q22 : ∀ (w : World) (a : Option Addr) (n c n' c' : Nat), (binOp .eql 31 (.slice a n c) (.slice none n' c')).run Tryz.prog w = .ok (.bool a.isNone) w := fun w a n c n' c' => Lib.run_eql_slice_nil w _ _ a n c n' c' Tryz.underlying31
 go_enter Tryz.func105, Tryz.ntmps105
 go_wp2_with (at_builtin; refine Lib.wpList_append_run _ rfl _ _ _ _ rfl _ _ rfl rfl _ _ (hrz _) ?_)
 go_wp2
 go_ret
 exact ⟨rfl, rfl⟩
theorem Zjq (n c : Nat) (w : World) :
  Calls Tryz.prog 105 #[.slice none n c] w fun e w' => e = .returned (.slice none 0 0) ∧ w' = w := by
 have mixed : Tryz.prog.follows .mixedOrders = true := by kernel_rfl
 have q22 : ∀ (w : World) (a : Option Addr) (n c n' c' : Nat), (binOp .eql 31 (.slice a n c) (.slice none n' c')).run Tryz.prog w = .ok (.bool a.isNone) w := fun w a n c n' c' => Lib.run_eql_slice_nil w _ _ a n c n' c' Tryz.underlying31
 go_enter Tryz.func105, Tryz.ntmps105
 go_wp2
 go_ret
 exact ⟨rfl, rfl⟩
theorem W8 (l : List Stop) (h0 : 0 < l.length) (hn : l.length ≤ 1048576) (S : Store) (nx : Nat) (hd : S nx = .dead) :
  Spec Tryz.prog 105 [L l] S (fun p S' => ∃ v, p = .sl nx v 2 0 l.length ∧ S' = S.set nx (.cells v 35 (l.flatMap Enc.enc))) := by
 refine ⟨qE Tryz.func105 (by rfl) rfl, ?_⟩
 intro C w vs hS hl hr
 obtain ⟨u, rfl⟩ := WG hl
 have hu : Rel C S w (.lst l.length (l.flatMap Enc.enc)) u := hr 0 _ u rfl rfl
 obtain ⟨a, cap, rfl⟩ : ∃ a cap, u = .slice (some a) l.length cap := by
  generalize hq : l.flatMap Enc.enc = cs at hu
  generalize l.length = n at *
  cases hu with
  | lst0 => omega
  | lst1 => exact ⟨_, _, rfl⟩
 obtain ⟨k1, j1, m1⟩ := hS.alloc (.cells #[] 35)
 have hc : Tryz.prog.cellsOf 35 = 2 := by simp
 obtain ⟨news, hsrc, hrel, _⟩ := JM (P := Tryz.prog) (sz := 2) (m := l.length) (ds := l.flatMap Enc.enc) k1 (by simp [uM]) (hu.mono j1)
 rw [← hc] at hsrc
 have hrun := fun ty => JL (P := Tryz.prog) (ty := ty) (b := some ⟨w.heap.size, 0, none⟩) (k := 0) (cap := 0) (olds := []) ZV.ty ZV.pos ZV.zero ZV.bytes hsrc (run_firstCells_some _ _ 0 ⟨w.heap.size, 0, none⟩ 0 0 [] (by simp) (by simp)) (by omega) (by omega) ZV.bpos
 simp only [Nat.zero_add] at hrun
 refine (Zcm a l.length cap w _ _ hrun).mono ?_
 rintro e w' ⟨rfl, rfl⟩
 have hge := grownCap_ge (w.alloc (.cells #[] 35)) l.length 0 35
 obtain ⟨d1, d2⟩ := k1.drew
 have hfr : Fresh C S nx C.clock := .clock C hd
 have hra := Yr (cs := []) (vs := []) (by simp [RelL]) hrel (Builtin.zeroCells (Value.agg #[.int .i64 0, .int .i64 0]).cells (grownCap (w.alloc (.cells #[] 35)) l.length 0 35 - l.length)).toList
 simp only [List.nil_append] at hra
 have hget : ∀ i : Nat, (([] : List Value).toArray ++ news.toArray ++ Builtin.zeroCells (Value.agg #[.int .i64 0, .int .i64 0]).cells (grownCap (w.alloc (.cells #[] 35)) l.length 0 35 - l.length) : Array Value)[i]? = (news ++ (Builtin.zeroCells (Value.agg #[.int .i64 0, .int .i64 0]).cells (grownCap (w.alloc (.cells #[] 35)) l.length 0 35 - l.length)).toList)[i]? := by
  intro i; rw [← Array.getElem?_toList]; simp
 obtain ⟨t1, t2⟩ := d1.object' hfr 35 (([] : List Value).toArray ++ news.toArray ++ Builtin.zeroCells (Value.agg #[.int .i64 0, .int .i64 0]).cells (grownCap (w.alloc (.cells #[] 35)) l.length 0 35 - l.length)) (l.flatMap Enc.enc) (by have := hra.1; simp at this ⊢; omega) (fun i v hi hv => hra.2.1 i v hi (by rw [← hget]; exact hv)) (fun i p v hp hv => (hra.2.2 i p v hp (by rw [← hget]; exact hv)).mono d2)
 refine ⟨_, _, _, _, rfl, ⟨C.clock, rfl, rfl⟩, Qt C S _ _ _ _ _ _ _ _ _ rfl hge (Nat.le_trans hn (by unfold jn; omega)) (grownCap_le_maxLen _ _ _ _ (by unfold maxLen; omega)) ?_, t1, j1.trans (d2.trans t2)⟩
 have := hsrc.size
 simp only [Array.size_append, size_zeroCells, List.size_toArray, this, hc]
 simp [Value.cells]
 omega
theorem Xg (l : List Stop) (hn : l.length ≤ 1048576) : Pure Tryz.prog 105 [L l] (L l) := by
 by_cases h0 : 0 < l.length
 ·exact JU 0 (fun S nx hd => W8 l h0 hn S nx (hd nx (Nat.le_refl _))) (by simp)
 ·obtain rfl : l = [] := List.eq_nil_of_length_eq_zero (by omega)
  intro S
  refine ⟨qE Tryz.func105 (by rfl) rfl, ?_⟩
  intro C w vs hS hl hr
  obtain ⟨u, rfl⟩ := WG hl
  have hu : Rel C S w (.lst 0 []) u := hr 0 _ u rfl rfl
  obtain ⟨a, cap, rfl⟩ : ∃ a cap, u = .slice a 0 cap := by
   cases hu with
   | lst0 => exact ⟨_, _, rfl⟩
   | lst1 => exact ⟨_, _, rfl⟩
  cases a with
  | none =>
   refine (Zjq 0 cap w).mono ?_
   rintro e w' ⟨rfl, rfl⟩
   exact ⟨_, _, _, _, rfl, ⟨rfl, rfl⟩, .lst0, hS, .refl _ _ _⟩
  | some a =>
   obtain ⟨k1, j1, m1⟩ := hS.alloc (.cells #[] 35)
   have hc : Tryz.prog.cellsOf 35 = 2 := by simp
   obtain ⟨news, hsrc, hrel, _⟩ := JM (P := Tryz.prog) (sz := 2) (m := 0) (ds := []) k1 (by simp [uM]) (hu.mono j1)
   have hne : news = [] := List.eq_nil_of_length_eq_zero (by rw [hsrc.size, Nat.zero_mul])
   subst hne
   rw [← hc] at hsrc
   have hrun := fun ty => Wh (P := Tryz.prog) (ty := ty) (b := some ⟨w.heap.size, 0, none⟩) (k := 0) (cap := 0) ZV.ty ZV.pos hsrc (Nat.le_refl 0)
   refine (Zcm a 0 cap w _ _ hrun).mono ?_
   rintro e w' ⟨rfl, rfl⟩
   exact ⟨_, _, _, _, rfl, ⟨rfl, rfl⟩, .lst0, k1, j1⟩
theorem Zjr {S : Store} {id ver : Nat} (cs : List Stop) (s : Stop) (hn : cs.length ≤ 1000000) (hid : S id = .cells ver 35 (cs.flatMap Enc.enc)) :
  Spec Tryz.prog 102 [.sl id ver 2 0 cs.length, I cs.length, L [s]] S (fun p S' => p = .sl id (ver + 1) 2 0 (cs.length + 1) ∧ S' = S.set id (.cells (ver + 1) 35 ((cs ++ [s]).flatMap Enc.enc))) := by
 refine yU Tryz.func102 Tryz.ntmps102 Tryz.results102 fun nx hd => ?_
 have hlt : id < nx := by
  rcases Nat.lt_or_ge id nx with h | h
  ·exact h
  ·have := hd id h; rw [hid] at this; cases this
 have hx := fun obs => (zH (S := S) (obs := obs) hlt).trans hid
 have hlt1 : ¬ nx ≤ id := by omega
 refine za (ze [] hx ?_)
 refine za (ze [] hx ?_)
 refine za (ze [] hx ?_)
 repeat apply za
 refine ze [] hx ?_
 refine zn rfl (zh (za (ze [] hx ?_)))
 repeat apply za
 refine ze [] hx ?_
 refine zo rfl (za (ze [] (zm hx hlt1) ?_))
 refine ⟨by omega, ?_⟩
 have hdd : ∀ (o : Ob), zW nx (S.set id o) := by
  intro o q hq
  rw [Store.set_other _ _ _ _ (by omega)]
  exact hd q hq
 exact zg ⟨_, _, by simp; rfl, ⟨by simp [zq], by simp⟩, yb (hdd _)⟩
theorem Zjs {S : Store} {id ver : Nat} (cs : List Stop) (i : Nat) (s : Stop) (hi : i ≤ cs.length) (hn : cs.length ≤ 1000000) (hid : S id = .cells ver 35 (cs.flatMap Enc.enc)) :
  Spec Tryz.prog 102 [.sl id ver 2 0 cs.length, I i, L [s]] S (fun p S' => p = .sl id (ver + 1) 2 0 (cs.length + 1) ∧ S' = S.set id (.cells (ver + 1) 35 ((cs.take i ++ s :: cs.drop i).flatMap Enc.enc))) := by
 by_cases h : i = cs.length
 ·subst h
  rw [List.take_length, List.drop_length]
  exact Zjr cs s hn hid
 ·exact Zhq cs i s (by omega) hn hid
open Go Go.Proofs
def ZW (d : zi) (t nx : Nat) (k : Nat) (ts : List PV) (ob : Ob) : Prop :=
 ts.length = k ∧ (k ≤ t → ts = (d.take k).flatMap Enc.enc ∧ ob = .dead) ∧
 (t < k → ∃ v l, d[t]? = some l ∧ ts = ((d.take k).flatMap Enc.enc).set t (.sl (nx + 4) v 2 0 l.length) ∧ ob = .cells v 35 (l.flatMap Enc.enc))
theorem Zjt {d : zi} {t nx k : Nat} {ts : List PV} {ob : Ob} (h : ZW d t nx k ts ob) (hk : k < d.length) (ht : k ≠ t) : ZW d t nx (k + 1) (ts ++ [L d[k]]) ob := by
 obtain ⟨h1, h2, h3⟩ := h
 have e : d.take (k + 1) = d.take k ++ [d[k]] := List.take_succ_eq_append_getElem hk
 refine ⟨by simp [h1], fun hkt => ?_, fun hkt => ?_⟩
 ·obtain ⟨a, b⟩ := h2 (by omega)
  exact ⟨by rw [e, a, List.flatMap_append]; rfl, b⟩
 ·obtain ⟨v, l, a, b, c⟩ := h3 (by omega)
  refine ⟨v, l, a, ?_, c⟩
  rw [b, e, List.flatMap_append, List.set_append_left _ _ (by rw [jp]; simp; omega)]
  rfl
theorem Zju {d : zi} {t nx : Nat} {ts : List PV} {ob : Ob} (h : ZW d t nx t ts ob) (hk : t < d.length) (v : Nat) : ZW d t nx (t + 1) (ts ++ [.sl (nx + 4) v 2 0 d[t].length]) (.cells v 35 (d[t].flatMap Enc.enc)) := by
 obtain ⟨h1, h2, h3⟩ := h
 have e : d.take (t + 1) = d.take t ++ [d[t]] := List.take_succ_eq_append_getElem hk
 refine ⟨by simp [h1], fun hkt => by omega, fun _ => ⟨v, d[t], List.getElem?_eq_getElem hk, ?_, rfl⟩⟩
 obtain ⟨a, -⟩ := h2 (Nat.le_refl _)
 have hl : ((d.take t).flatMap Enc.enc).length = t := by rw [jp]; simp; omega
 rw [a, e, List.flatMap_append, List.set_append_right _ _ (by omega), hl, Nat.sub_self]
 rfl
theorem W9 (d : zi) (t : Nat) (hd0 : d.length ≤ 1048576) (hd1 : ∀ l ∈ d, l.length ≤ 1048576) (ht : ∀ l, d[t]? = some l → 0 < l.length) (S : Store) (nx : Nat) (hd : zW nx S) :
  Spec Tryz.prog 100 [.agg [L d]] S (fun p S' => ∃ v ts ob, ZW d t nx d.length ts ob ∧ p = .agg [.sl (nx + 3) v 1 0 d.length] ∧ S' = (S.set (nx + 3) (.cells v 72 ts)).set (nx + 4) ob) := by
 refine ui hd Tryz.func100 Tryz.ntmps100 Tryz.results100 ?_
 refine za (zb ?_)
 intro v0 v1
 refine za (zb ?_)
 intro v2
 refine qQ 2 0 72 1 rfl rfl fun v3 => ?_
 repeat apply za
 refine zb ?_
 show PW _ _ _ _ _ _ _ (ext _ _ _)
 rw [Zbi 1]
 refine zj (zG (fun (s : Nat × List PV × Ob × Nat × Nat) => s.1 ≤ d.length ∧ ZW d t nx s.1 s.2.1 s.2.2.1) (fun (k, ts, ob, v2, v3) => [(2, .ptr (nx + 1) v1 0), (3, .ptr (nx + 2) v2 0), (7, L d), (8, I d.length), (9, I k)]) (fun (k, ts, ob, v2, v3) => [.cells v0 58 [L d], .cells v1 58 [yG], .cells v2 58 [.sl (nx + 3) v3 1 0 k], .cells v3 72 ts, ob]) (fun s => d.length - s.1) (0, [], .dead, v2, v3) [] ⟨by simp, by simp [ZW]⟩ (by simp) (by simp) ?_)
 rintro ⟨k, ts, ob, v2, v3⟩ ⟨hk, hI⟩
 simp only at hk hI ⊢
 have htl := hI.1
 have htk : ts.take k = ts := List.take_of_length_le (by omega)
 refine za (zb ?_)
 refine za (zr rfl (fun hc => ?_) (fun hc => ?_))
 ·simp at hc
  obtain ⟨l, tl, a1, a2, a3, e0⟩ := zE rfl d k hc
  obtain ⟨hkl, rfl⟩ := List.getElem?_eq_some_iff.1 a1
  have hk1 : 1 ≤ d.length - k := by omega
  refine zh (za (zj (za (ze [] (zF hc e0 hk1) ?_))))
  intro v5
  by_cases hkt : k = t
  ·subst hkt
   have hcl := W8 d[k] (ht _ a1) (hd1 _ (List.getElem_mem hkl))
   obtain rfl := (hI.2.1 (Nat.le_refl _)).2
   refine vE (some [nx + 5]) (Row.pures [0, 2, 3] (.alt 1 (.alt 4 (Row.pures [5, 6] (.alt 7 (Row.pures [8] (.alt 9 (.done) .stop)) .stop)) .stop) (.alt 4 (Row.pures [5, 6] (.alt 1 (.alt 7 (Row.pures [8] (.alt 9 (.done) .stop)) .stop) .stop)) .stop))) mixed (by rfl) (by rfl) (by rfl) fun K Gp Gc Gh hK hGp hGc hGh X hX0 hX1 hX2 hX => ?_
   simp -implicitDefEqProofs [hX0, hX1, hX2, hX, htl, htk]
   try clear hX0 hX1 hX2 hX X
   refine ⟨?_, ?_⟩
   all_goals
    refine hGc _ _ _ _ _ _ _ ?_
    refine ((hcl _ (nx + 4) (by simp)).mono ?_).v
    rintro _ _ ⟨v4, rfl, rfl⟩
    rw [y9 _ (by omega) (by simp), Nat.add_sub_cancel_left]
    refine ⟨by simp [yF], ?_⟩
    clear hGp hGc hGh
    clear Gp Gc Gh
    refine j3 fun Gp Gc Gh hGp hGc hGh X hX0 hX1 hX2 hX => ?_
    simp -implicitDefEqProofs [hX0, hX1, hX2, hX, htl, htk]
    try clear hX0 hX1 hX2 hX X
    refine ⟨by omega, ?_⟩
    refine hK _ _ _ ?_
    clear hK hGp hGc hGh
    clear K Gp Gc Gh
    refine zb ?_
    exact zp (k + 1, _, _, v2, v3 + 1) [_] ⟨hc, Zju hI hkl v4⟩ (by simp; omega) (by simp [zt k (by omega)]) rfl (by simp; rfl)
  ·have hcl := Xg d[k] (hd1 _ (List.getElem_mem hkl))
   refine zC (some [nx + 5]) (Row.pures [0, 2, 3, 4, 5, 6] (.alt 1 (.alt 7 (Row.pures [8] (.alt 9 (.done) .stop)) .stop) .stop)) mixed (zm htl htk) ?_
   refine zI (hcl) (zm htl htk) ?_
   refine ⟨by omega, ?_⟩
   refine zb ?_
   exact zp (k + 1, _, _, v2, v3 + 1) [_] ⟨hc, Zjt hI hkl hkt⟩ (by simp; omega) (by simp [zt k (by omega)]) rfl (by simp; rfl)
 ·simp at hc
  obtain rfl : k = d.length := by omega
  refine zy (za (zb ?_))
  refine zg ⟨_, (S.set (nx + 3) (.cells v3 72 ts)).set (nx + 4) ob, by simp; rfl, ⟨v3, ts, ob, hI, rfl, rfl⟩, ?_⟩
  intro o
  by_cases h4 : o = nx + 4
  ·subst h4
   exact .inl (by rw [Store.set_same]; simp)
  by_cases h3 : o = nx + 3
  ·subst h3
   exact .inl (by rw [Store.set_other _ _ _ _ h4, Store.set_same]; simp)
  rw [Store.set_other _ _ _ _ h4, Store.set_other _ _ _ _ h3]
  exact yb hd o
theorem Zjv (d : zi) (hd0 : d.length ≤ 1048576) (hd1 : ∀ l ∈ d, l.length ≤ 1048576) : Pure Tryz.prog 100 [.agg [L d]] (.agg [L d]) := by
 refine Zbh (k := d.length) (sz := 1) (e := 72) (cs := d.flatMap Enc.enc) 3 (fun S nx hd => (W9 d d.length hd0 hd1 (by simp) S nx hd).mono ?_) (by simp)
 rintro _ _ ⟨v, ts, ob, ⟨h1, h2, -⟩, rfl, rfl⟩
 obtain ⟨rfl, rfl⟩ := h2 (Nat.le_refl _)
 rw [List.take_length]
 refine ⟨v, rfl, ?_⟩
 funext o
 by_cases h4 : o = nx + 4
 ·subst h4
  rw [Store.set_same, Store.set_other _ _ _ _ (by omega), hd _ (by omega)]
 ·rw [Store.set_other _ _ _ _ h4]
theorem Zjw (d : zi) (t : Nat) (l : zD) (hd0 : d.length ≤ 1048576) (hd1 : ∀ l ∈ d, l.length ≤ 1048576) (ht : d[t]? = some l) (hl : 0 < l.length) (S : Store) (nx : Nat) (hd : zW nx S) :
  Spec Tryz.prog 100 [.agg [L d]] S (fun p S' => ∃ v w, p = .agg [.sl (nx + 3) v 1 0 d.length] ∧
   S' = (S.set (nx + 3) (.cells v 72 ((d.flatMap Enc.enc).set t (.sl (nx + 4) w 2 0 l.length)))).set (nx + 4) (.cells w 35 (l.flatMap Enc.enc))) := by
 refine (W9 d t hd0 hd1 (fun m hm => by rw [ht] at hm; cases hm; exact hl) S nx hd).mono ?_
 rintro _ _ ⟨v, ts, ob, ⟨h1, -, h3⟩, rfl, rfl⟩
 obtain ⟨w, m, hm, rfl, rfl⟩ := h3 (List.getElem?_eq_some_iff.1 ht).1
 rw [ht] at hm; cases hm
 rw [List.take_length]
 exact ⟨v, w, rfl, rfl⟩
open Go Go.Proofs
def qL (x : Inst) (t : zD) : Int := W (zX x (t.map (·.c)))
def qM (t : zD) : Int := W (zK t)
def yS (x : Inst) (d : zi) : Nat := (d.filter fun t => decide (zJ x t ≠ 0)).length
theorem Zjx (x : Inst) (d e : zi) : yS x (d ++ e) = yS x d + yS x e := by simp [yS]
theorem Zjy (x : Inst) (t : zD) : yS x [t] = if zJ x t = 0 then 0 else 1 := by
 by_cases h : zJ x t = 0 <;> simp [yS, h]
theorem Zcn (x : Inst) (d : zi) : yS x d ≤ d.length := List.length_filter_le _ _
abbrev vK (x : Inst) (d : zi) : List PV := [I x.days, I x.veh, I x.cap, I x.len, L x.cust, L x.dist, L d, L (yM (d.flatten.map (·.c))), B (decide (¬ (yM (d.flatten.map (·.c))).Nodup)), L (d.map (zJ x)), I (yS x d), L (d.map qM), L (d.map (qL x))]
theorem Zco (x : Inst) (d : zi) (hx : x.cust.length ≤ 1048576) (hdo : DayOk d) (hf : d.flatten.length ≤ 1048576) : Pure Tryz.prog 98 [.agg (zA x), .agg [L d]] (.agg (vK x d)) := by
 have h1 := ZbL d hdo.1 hf
 have h2 := ZbU d.flatten hf
 have h3 := ZbT (yM (d.flatten.map (·.c))) (by rw [Zg, List.length_map]; exact hf) (QI _)
 generalize hon : yM (d.flatten.map (·.c)) = on at *
 generalize htw : decide (¬ on.Nodup) = tw at *
 refine zx Tryz.func98 Tryz.ntmps98 Tryz.results98 fun S nx hd => ?_
 refine za (zb ?_)
 intro v0 v1 v2
 refine za (zC (some [nx, nx + 1]) (Row.pures [0, 1, 2, 3, 4, 5] (.alt 6 (.alt 7 (.done) .stop) .stop)) mixed trivial ?_)
 refine zI (h1) trivial ?_
 refine zI (h2) trivial ?_
 intro v3
 refine za (zb ?_)
 refine zz h3 ?_
 repeat apply za
 refine zb ?_
 refine qQ 3 9 39 1 rfl rfl fun v4 => ?_
 refine qQ 3 11 3 1 rfl rfl fun v5 => ?_
 refine qQ 3 12 3 1 rfl rfl fun v6 => ?_
 refine zj (zG (fun (k, v4, v5, v6) => k ≤ d.length) (fun (k, v4, v5, v6) => [(2, .ptr nx v0 0), (4, .ptr (nx + 2) v2 0), (5, .ptr (nx + 3) v3 0), (20, L d), (21, I d.length), (22, I k)])
  (fun (k, v4, v5, v6) => [.cells v0 25 (zA x), .cells v1 58 [L d], .cells v2 140 [I 0, I 0, I 0, I 0, yG, yG, yG, yG, B false, yG, I 0, yG, yG],
   .cells v3 140 [I x.days, I x.veh, I x.cap, I x.len, L x.cust, L x.dist, L d, L on, B tw, .sl (nx + 4) v4 1 0 k, I (yS x (d.take k)), .sl (nx + 5) v5 1 0 k, .sl (nx + 6) v6 1 0 k],
   .cells v4 39 (((d.map (zJ x)).take k).flatMap Enc.enc), .cells v5 3 (((d.map qM).take k).flatMap Enc.enc), .cells v6 3 (((d.map (qL x)).take k).flatMap Enc.enc)]) (fun s => d.length - s.1) (0, v4, v5, v6) [] (by simp) (by simp) (by simp [yS]) ?_)
 rintro ⟨k, v4, v5, v6⟩ hk
 simp only at hk ⊢
 refine za (zb ?_)
 refine za (zr rfl (fun hc => ?_) (fun hc => ?_))
 ·simp at hc
  obtain ⟨t, tl, a1, a2, a3, e0⟩ := zE rfl d k hc
  have hk1 : 1 ≤ d.length - k := by omega
  have htm := List.mem_of_getElem? a1
  have hm := QK x t hx (hdo.t t htm)
  have hl := ZbJ t (hdo.t t htm)
  have hw := QH x t (hdo.t t htm) (hdo.s t htm)
  have b1 : yS x (d.take (k + 1)) = yS x (d.take k) + if zJ x t = 0 then 0 else 1 := by rw [a3, Zjx, Zjy]
  have b2 := Zcn x (d.take k)
  rw [List.length_take] at b2
  have b3 := hdo.n
  have b4 := Nat.min_le_left k d.length
  have f1 : (((d.map (zJ x)).take (k + 1)).flatMap Enc.enc : List PV) = ((d.map (zJ x)).take k).flatMap Enc.enc ++ [I (zJ x t)] := by rw [← List.map_take, ← List.map_take, a3]; simp
  have f2 : (((d.map qM).take (k + 1)).flatMap Enc.enc : List PV) = ((d.map qM).take k).flatMap Enc.enc ++ [I (W (zK t))] := by rw [← List.map_take, ← List.map_take, a3]; simp [qM]
  have f3 : (((d.map (qL x)).take (k + 1)).flatMap Enc.enc : List PV) = ((d.map (qL x)).take k).flatMap Enc.enc ++ [I (W (zX x (t.map (·.c))))] := by rw [← List.map_take, ← List.map_take, a3]; simp [qL]
  have l1 : (((d.map (zJ x)).take k).flatMap Enc.enc : List PV).length = k := by rw [q8, List.length_take, List.length_map]; omega
  have l2 : (((d.map qM).take k).flatMap Enc.enc : List PV).length = k := by rw [q8, List.length_take, List.length_map]; omega
  have l3 : (((d.map (qL x)).take k).flatMap Enc.enc : List PV).length = k := by rw [q8, List.length_take, List.length_map]; omega
  generalize ((d.map (zJ x)).take k).flatMap Enc.enc = c1 at *
  generalize ((d.map qM).take k).flatMap Enc.enc = c2 at *
  generalize ((d.map (qL x)).take k).flatMap Enc.enc = c3 at *
  have t1 : c1.take k = c1 := List.take_of_length_le (by omega)
  have t2 : c2.take k = c2 := List.take_of_length_le (by omega)
  have t3 : c3.take k = c3 := List.take_of_length_le (by omega)
  generalize yS x (d.take k) = bn at *
  have wb : IntKind.i64.wrap ((bn : Int) + 1) = ((bn + 1 : Nat) : Int) := zt bn (by omega)
  generalize zJ x t = mt at *
  generalize W (zK t) = lt at *
  generalize W (zX x (t.map (·.c))) = wt at *
  refine zh (za (zj (za (ze [] (zF hc e0 hk1) ?_))))
  intro v7
  refine za (zb ?_)
  refine zz hm ?_
  repeat apply za
  refine zb ?_
  refine qh (nx := nx) (fun _ : Unit => True) (fun _ => [(2, .ptr nx v0 0), (4, .ptr (nx + 2) v2 0), (5, .ptr (nx + 3) v3 0), (7, .ptr (nx + 7) v7 0), (8, I mt), (20, L d), (21, I d.length), (22, I k)]) (fun _ => S) (fun _ => [.cells v0 25 (zA x), .cells v1 58 [L d], .cells v2 140 [I 0, I 0, I 0, I 0, yG, yG, yG, yG, B false, yG, I 0, yG, yG],
   .cells v3 140 [I x.days, I x.veh, I x.cap, I x.len, L x.cust, L x.dist, L d, L on, B tw, .sl (nx + 4) v4 1 0 k, I (bn + (if mt = 0 then 0 else 1) : Nat), .sl (nx + 5) v5 1 0 k, .sl (nx + 6) v6 1 0 k],
   .cells v4 39 c1, .cells v5 3 c2, .cells v6 3 c3, .cells v7 72 [L t]]) ?_ ?_
  ·repeat apply za
   refine zr rfl (fun hq => ?_) (fun hq => ?_)
   ·simp at hq
    rw [if_neg hq]
    refine ze [] wb ?_
    exact zP () [] trivial (by simp) rfl (by simp)
   ·simp at hq
    rw [if_pos hq]
    exact zh (zP () [] trivial (by simp) rfl (by simp))
  ·rintro ⟨⟩ -
   refine za (ze [] (zm t1 l1) ?_)
   refine ⟨by omega, ?_⟩
   refine za (zC (some [nx + 7]) (Row.pures [0, 2, 3, 4] (.alt 1 (.alt 5 (Row.pures [6] (.alt 7 (.done) .stop)) .stop) .stop)) mixed (zm t2 l2) ?_)
   refine zI (hl) (zm t2 l2) ?_
   refine ⟨by omega, ?_⟩
   refine zC (some [nx, nx + 7]) (Row.pures [0, 2, 3, 4, 5] (.alt 1 (.alt 6 (Row.pures [7] (.alt 8 (.done) .stop)) .stop) .stop)) mixed (zm t3 l3) ?_
   refine zI (hw) (zm t3 l3) ?_
   refine ⟨by omega, ?_⟩
   refine zb ?_
   exact zp (k + 1, v4 + 1, v5 + 1, v6 + 1) [_] (by simp; omega) (by simp; omega) (by simp [zt k (by omega)]) rfl (by simp only [f1, f2, f3, b1]; simp; rfl)
 ·simp at hc
  obtain rfl : k = d.length := by omega
  refine zy (za (zb ?_))
  refine yc 6 rfl ?_
  refine yc 5 rfl ?_
  refine yc 4 rfl ?_
  have g1 : (d.map (zJ x)).take d.length = d.map (zJ x) := List.take_of_length_le (by simp)
  have g2 : (d.map qM).take d.length = d.map qM := List.take_of_length_le (by simp)
  have g3 : (d.map (qL x)).take d.length = d.map (qL x) := List.take_of_length_le (by simp)
  exact zg (zk hd (by simp; rfl) (by simp [zq, g1, g2, g3]; simp [← hon, ← htw]))
open Go Go.Proofs
def Xh (P : Program) (k : FuncId) (args : Nat → List PV) (xs : List (List PV)) (ret : PV) : Prop :=
 qy P k ∧ ∀ (l : Nat) (V : Ctx → Store → World → Prop) (_ : ∀ {C C' : Ctx} {S S' : Store} {w w' : World}, Step C S w C' S' w' → V C S w → V C' S' w') (m : Nat) (J : Nat → Store → Prop), (∀ i A, J i A → zW m A) →
  (∀ i A obs x, xs[i]? = some x → J i A → PYield P V l x (ext A m obs) (fun T => ∃ A', J (i + 1) A' ∧ T = ext A' m obs)) →
  ∀ A, J 0 A → PCallsV P V k (args l) A (fun p T => p = ret ∧ J xs.length T)
theorem Zcp {P : Program} {N : Nat} {f : FuncId} {fn : Func} {c : Code} {rs : List ResultVar} {args : Nat → List PV} {xs : List (List PV)} {ret : PV} (hf : P.funcs[f]? = some fn) (hname : (fn.name == "runtime.NumGoroutine") = false) (hb : fn.body = some c) (hN : fn.ntmps = N) (hrs : fn.results.toList = rs) (hargs : ∀ l, (args l).length ≤ N)
  (h : ∀ (l : Nat) (V : Ctx → Store → World → Prop) (keep : ∀ {C C' : Ctx} {S S' : Store} {w w' : World}, Step C S w C' S' w' → V C S w → V C' S' w') (nx : Nat) (J : Nat → Store → Prop), (∀ i A, J i A → zW nx A) →
   (∀ i A obs x, xs[i]? = some x → J i A → PYield P V l x (ext A nx obs) (fun T => ∃ A', J (i + 1) A' ∧ T = ext A' nx obs)) →
   ∀ A, J 0 A → PW P ⟨none, V, keep⟩ 0 N c (vB P rs (fun p T => p = ret ∧ J xs.length T)) (wN (args l)) (ext A nx [])) : Xh P f args xs ret := by
 refine ⟨qE hf hname hb, fun l V keep m J hJ hY A hA => ?_⟩
 have := h l V keep m J hJ hY A hA
 rw [qk (hJ 0 A hA)] at this
 exact Wd hf hb hN hrs (hargs l) this
theorem PYield.mono {P : Program} {V : Ctx → Store → World → Prop} {l : Nat} {args : List PV} {S : Store} {Q Q' : Store → Prop} (h : PYield P V l args S Q) (hq : ∀ T, Q T → Q' T) : PYield P V l args S Q' := by
 intro C w vs h1 h2 h3 h4
 obtain ⟨fn, tmps, assign, body, hy, hR⟩ := h C w vs h1 h2 h3 h4
 refine ⟨fn, tmps, assign, body, hy, hR.mono ?_⟩
 rintro e w' ⟨S', C', a, b, c⟩
 exact ⟨S', C', a, hq _ b, c⟩
theorem Zcq {P : Program} {k : FuncId} {args : Nat → List PV} {xs : List (List PV)} {ret : PV} (h : Xh P k args xs ret) {V : Ctx → Store → World → Prop} (keep : ∀ {C C' : Ctx} {S S' : Store} {w w' : World}, Step C S w C' S' w' → V C S w → V C' S' w')
  {l nx : Nat} {J : Nat → Store → Prop} {ys : List (List PV)} (hY : ∀ i A obs x, ys[i]? = some x → J i A → PYield P V l x (ext A nx obs) (fun T => ∃ A', J (i + 1) A' ∧ T = ext A' nx obs))
  (off : Nat) (hxs : ∀ i x, xs[i]? = some x → ys[off + i]? = some x) {A : Store} (hJ : J off A) (obs : List Ob) :
  SpecV P V k (args l) (ext A nx obs) (fun p T => ∃ A', p = ret ∧ J (off + xs.length) A' ∧ T = ext A' nx obs) := by
 refine ⟨h.1, (h.2 l V keep (nx + obs.length) (fun i T => ∃ A', J (off + i) A' ∧ T = ext A' nx obs) ?_ ?_ (ext A nx obs) ⟨A, hJ, rfl⟩).mono ?_⟩
 ·rintro i T ⟨A', _, rfl⟩; exact jO
 ·rintro i T more x hx ⟨A1, hJ1, rfl⟩
  rw [JW _ _ rfl]
  refine (hY (off + i) A1 (obs ++ more) x (hxs i x hx) hJ1).mono ?_
  rintro T ⟨A', hA', rfl⟩
  exact ⟨ext A' nx obs, ⟨A', hA', rfl⟩, (JW _ _ rfl).symm⟩
 ·rintro p T ⟨rfl, A', hA', rfl⟩
  exact ⟨A', rfl, hA', rfl⟩
theorem Xi {P : Program} {nx : Nat} {F : Nat → PV} {obs : List Ob} {rs : List ResultVar} {ps : List PV} {J : Store → Prop} {A : Store} {ret : PV} (hd : zW nx A) (h1 : xg P F (ext A nx obs) rs = some ps) (h2 : zq ps = ret) (hJ : J A) :
  ∃ ps S', xg P F (ext A nx obs) rs = some ps ∧ (zq ps = ret ∧ J S') ∧ ∀ o, S' o = ext A nx obs o ∨ S' o = .dead := ⟨ps, A, h1, ⟨h2, hJ⟩, yb hd⟩
theorem Zcr {α : Type} {f : Nat → Option α} {n k : Nat} {v : α} (hk : k < n) (hf : f k = some v) : ((List.range n).filterMap f)[((List.range k).filterMap f).length]? = some v := by
 obtain ⟨m, rfl⟩ : ∃ m, n = k + (m + 1) := ⟨n - k - 1, by omega⟩
 rw [List.range_add, List.filterMap_append, List.getElem?_append_right (Nat.le_refl _), Nat.sub_self, List.range_succ_eq_map]
 simp [hf]
theorem Zcs {α : Type} {f : Nat → Option α} {k : Nat} (hf : f k = none) : ((List.range (k + 1)).filterMap f).length = ((List.range k).filterMap f).length := by
 rw [List.range_succ, List.filterMap_append]; simp [hf]
theorem Zct {α : Type} {f : Nat → Option α} {k : Nat} {v : α} (hf : f k = some v) : ((List.range (k + 1)).filterMap f).length = ((List.range k).filterMap f).length + 1 := by
 rw [List.range_succ, List.filterMap_append]; simp [hf]
structure Spot where
 t : Nat
 p : Nat
 m : Int
abbrev vM (s : Spot) : List PV := [.agg [I s.t, I s.p, I s.m]]
def xn (l : zD) (i : Nat) : Int := if i = 0 then 0 else (l.getD (i - 1) default).c + 1
def xL (l : zD) (i : Nat) : Int := if i < l.length then (l.getD i default).c + 1 else 0
def wA (x : Inst) (l : zD) (s : Stop) (i : Nat) : Int := W (W (arc x (xn l i) (s.c + 1) + arc x (s.c + 1) (xL l i)) - arc x (xn l i) (xL l i))
def wS (x : Inst) (t : Nat) (l : zD) (w : Int) (s : Stop) (i : Nat) : Option Spot := if W (w + wA x l s i) ≤ x.len then some ⟨t, i, wA x l s i⟩ else none
def vk (x : Inst) (t : Nat) (l : zD) (fl bad ll w : Int) (s : Stop) : List Spot :=
 if 0 < bad - (if fl = 13 then 1 else 0) ∨ x.cap < W (ll + s.q) then [] else (List.range (l.length + 1)).filterMap (wS x t l w s)
abbrev wT (x : Inst) (d : zi) (on : List Int) (tw : Bool) (fs : List Int) (bad : Int) (ls ws : List Int) : List PV := [I x.days, I x.veh, I x.cap, I x.len, L x.cust, L x.dist, L d, L on, B tw, L fs, I bad, L ls, L ws]
theorem Zjz (x : Inst) (d : zi) (on : List Int) (tw : Bool) (fs : List Int) (bad : Nat) (ls ws : List Int) (t : Nat) (l : zD) (s : Stop) (fl ll w : Int) (hbad : bad ≤ 1048576) (hdn : d.length ≤ 1048576) (hd : d[t]? = some l) (hfs : fs[t]? = some fl) (hls : ls[t]? = some ll) (hws : ws[t]? = some w)
  (hfn : fs.length = d.length) (hln : ls.length = d.length) (hwn : ws.length = d.length) (hb : fl = 13 → 0 < bad) (hll : l.length ≤ 1048576) (hsl : ∀ s ∈ l, small s.c) (hss : small s.c) :
  Xh Tryz.prog 140 (fun y => [.agg (wT x d on tw fs bad ls ws), I t, .agg [I s.c, I s.q], jl y]) ((vk x t l fl bad ll w s).map vM) (B true) := by
 refine Zcp Tryz.func140 (by rfl) rfl Tryz.ntmps140 (congrArg Array.toList Tryz.results140) (by simp) fun y V keep nx J hJd hY A0 hA0 => ?_
 have ht : t < d.length := (List.getElem?_eq_some_iff.1 hd).1
 obtain ⟨fl', tf, a1, -, -, ef⟩ := zE rfl fs t (by omega)
 obtain ⟨ll', tl, a2, -, -, elo⟩ := zE rfl ls t (by omega)
 obtain ⟨w', tw', a3, -, -, ew⟩ := zE rfl ws t (by omega)
 obtain ⟨l', td, a4, -, -, ed⟩ := zE rfl d t ht
 obtain rfl : fl = fl' := by rw [hfs] at a1; exact Option.some.inj a1
 obtain rfl : ll = ll' := by rw [hls] at a2; exact Option.some.inj a2
 obtain rfl : w = w' := by rw [hws] at a3; exact Option.some.inj a3
 obtain rfl : l = l' := by rw [hd] at a4; exact Option.some.inj a4
 have h1 : 1 ≤ fs.length - t := by omega
 have h2 : 1 ≤ ls.length - t := by omega
 have h3 : 1 ≤ ws.length - t := by omega
 have h4 : 1 ≤ d.length - t := by omega
 have g1 : t < fs.length := by omega
 have g2 : t < ls.length := by omega
 have g3 : t < ws.length := by omega
 refine za (zb ?_)
 intro v0 v1
 refine za (zb ?_)
 repeat apply za
 refine ze [] (zF ef h1 g1) ?_
 obtain ⟨oth, hoth⟩ : ∃ oth : Int, oth = bad - (if fl = 13 then 1 else 0) := ⟨_, rfl⟩
 refine qh (nx := nx) (fun _ : Unit => True) (fun _ => [(1, I t), (3, jl y), (4, .ptr nx v0 0), (6, .ptr (nx + 1) v1 0), (9, I oth)]) (fun _ => A0) (fun _ => [.cells v0 140 (wT x d on tw fs bad ls ws), .cells v1 35 [I s.c, I s.q]]) ?_ ?_
 ·repeat apply za
  refine zr rfl (fun hq => ?_) (fun hq => ?_)
  ·simp at hq
   have hb' := hb hq
   rw [if_pos hq] at hoth
   have wb : IntKind.i64.wrap ((bad : Int) - 1) = oth := by rw [hoth, wr _ (by omega) (by omega)]
   refine ze [] wb ?_
   exact zP () [] trivial (by simp) rfl (by simp)
  ·simp at hq
   rw [if_neg hq] at hoth
   obtain rfl : oth = bad := by omega
   exact zh (zP () [] trivial (by simp) rfl (by simp))
 ·rintro ⟨⟩ -
  have hout : ∀ (h : 0 < oth ∨ x.cap < W (ll + s.q)), vk x t l fl bad ll w s = [] := fun h => by unfold vk; rw [if_pos (by rw [hoth] at h; exact h)]
  by_cases ho : 0 < oth
  ·rw [hout (.inl ho)] at hY ⊢
   repeat apply za
   refine zC (some [nx, nx + 1]) (Row.pures [0, 1, 2, 3, 4, 5, 6, 7, 8, 9, 10, 11, 12, 13, 14, 15] .done) mixed (zm ho zL) ?_
   refine zo rfl (za (zb ?_))
   exact zg (Xi (hJd _ _ hA0) (by simp; rfl) (by simp [zq]) hA0)
  by_cases hcap : x.cap < W (ll + s.q)
  ·rw [hout (.inr hcap)] at hY ⊢
   repeat apply za
   refine zC (some [nx, nx + 1]) (Row.pures [0, 1, 2, 3, 4, 5, 6, 7, 8, 9, 10, 11, 12, 13, 14, 15] .done) mixed (yh ho hcap elo h2 g2 zL) ?_
   refine zo rfl (za (zb ?_))
   exact zg (Xi (hJd _ _ hA0) (by simp; rfl) (by simp [zq]) hA0)
  have hz : vk x t l fl bad ll w s = (List.range (l.length + 1)).filterMap (wS x t l w s) := by unfold vk; rw [if_neg (by rw [← hoth]; simp [ho, hcap])]
  clear hout
  rw [hz] at hY ⊢
  repeat apply za
  refine zC (some [nx, nx + 1]) (Row.pures [0, 1, 2, 3, 4, 5, 6, 7, 8, 9, 10, 11, 12, 13, 14, 15] .done) mixed (qm ho hcap elo h2 g2) ?_
  refine zn rfl (zh ?_)
  have wc : IntKind.i64.wrap (s.c + 1) = s.c + 1 := wr _ (by unfold small at hss; omega) (by unfold small at hss; omega)
  refine za (zC (some [nx, nx + 1]) (Row.pures [0, 1, 2, 3, 4, 5, 6, 7, 8, 9, 10, 11] .done) mixed (yi ed h4 ht wc) ?_)
  have wl : IntKind.i64.wrap ((l.length : Int) + 1) = ((l.length + 1 : Nat) : Int) := zt _ (by omega)
  repeat apply za
  refine ze [] wl ?_
  refine zj (jo (σ := Nat × Store) (fun s' => s'.1 ≤ l.length + 1 ∧ J ((List.range s'.1).filterMap (wS x t l w s)).length s'.2) (fun s' => [(1, I t), (3, jl y), (4, .ptr nx v0 0), (6, .ptr (nx + 1) v1 0), (10, L l), (11, I (s.c + 1)), (54, I ((l.length + 1 : Nat) : Int)), (55, I s'.1)]) (fun s' => s'.2)
   (fun _ => [.cells v0 140 (wT x d on tw fs bad ls ws), .cells v1 35 [I s.c, I s.q]]) (fun s' => l.length + 1 - s'.1) (zP (0, A0) [] (by simpa using hA0) (by simp) rfl (by simp)) ?_)
  rintro ⟨k, A⟩ ⟨hk, hJ⟩
  simp only at hk hJ ⊢
  refine za (zb ?_)
  refine za (zr rfl (fun hc => ?_) (fun hc => ?_))
  ·simp at hc
   refine zh (za (zj (za (zb ?_))))
   refine za (zb ?_)
   repeat apply za
   refine zb ?_
   refine qh (nx := nx) (fun _ : Unit => True) (fun _ => [(1, I t), (3, jl y), (4, .ptr nx v0 0), (6, .ptr (nx + 1) v1 0), (10, L l), (11, I (s.c + 1)), (12, I k), (13, I (xn l k)), (14, I 0), (54, I ((l.length + 1 : Nat) : Int)), (55, I k)]) (fun _ => A) (fun _ => [.cells v0 140 (wT x d on tw fs bad ls ws), .cells v1 35 [I s.c, I s.q]]) ?_ ?_
   ·repeat apply za
    refine zr rfl (fun hk0 => ?_) (fun hk0 => ?_)
    ·simp at hk0
     obtain ⟨j, rfl⟩ : ∃ j, k = j + 1 := ⟨k - 1, by omega⟩
     obtain ⟨p, tp, p1, -, -, -, ep⟩ := el 2 rfl l j (by omega)
     have wj : IntKind.i64.wrap (j : Int) = (j : Int) := wr _ (by omega) (by omega)
     have hjl : j < l.length := by omega
     have hj2 : 2 ≤ l.length * 2 - j * 2 := by omega
     have hsm := hsl p (List.mem_of_getElem? p1)
     have wp : IntKind.i64.wrap (p.c + 1) = p.c + 1 := wr _ (by unfold small at hsm; omega) (by unfold small at hsm; omega)
     have hah : xn l (j + 1) = p.c + 1 := by unfold xn; rw [if_neg (by omega), Nat.add_sub_cancel, List.getD_eq_getElem?_getD, p1]; rfl
     refine ze [] (qm wj ep wp hjl hj2) ?_
     exact zP () [] trivial (by simp [hah]) rfl (by simp)
    ·simp at hk0
     subst hk0
     exact zh (zP () [] trivial (by simp [xn]) rfl (by simp))
   ·rintro ⟨⟩ -
    repeat apply za
    refine zb ?_
    refine qh (nx := nx) (fun _ : Unit => True) (fun _ => [(1, I t), (3, jl y), (4, .ptr nx v0 0), (6, .ptr (nx + 1) v1 0), (10, L l), (11, I (s.c + 1)), (12, I k), (13, I (xn l k)), (14, I (xL l k)), (54, I ((l.length + 1 : Nat) : Int)), (55, I k)]) (fun _ => A) (fun _ => [.cells v0 140 (wT x d on tw fs bad ls ws), .cells v1 35 [I s.c, I s.q]]) ?_ ?_
    ·repeat apply za
     refine zr rfl (fun hk0 => ?_) (fun hk0 => ?_)
     ·simp at hk0
      obtain ⟨p, tp, p1, -, -, -, ep⟩ := el 2 rfl l k hk0
      have hj2 : 2 ≤ l.length * 2 - k * 2 := by omega
      have hsm := hsl p (List.mem_of_getElem? p1)
      have wp : IntKind.i64.wrap (p.c + 1) = p.c + 1 := wr _ (by unfold small at hsm; omega) (by unfold small at hsm; omega)
      have hah : xL l k = p.c + 1 := by unfold xL; rw [if_pos hk0, List.getD_eq_getElem?_getD, p1]; rfl
      refine ze [] (yi ep wp hk0 hj2) ?_
      exact zP () [] trivial (by simp [hah]) rfl (by simp)
     ·simp at hk0
      exact zh (zP () [] trivial (by simp [xL]; omega) rfl (by simp))
    ·rintro ⟨⟩ -
     have q1 := wO x (xn l k) (s.c + 1)
     have q2 := wO x (s.c + 1) (xL l k)
     have q3 := wO x (xn l k) (xL l k)
     have hmo : W (W (arc x (xn l k) (s.c + 1) + arc x (s.c + 1) (xL l k)) - arc x (xn l k) (xL l k)) = wA x l s k := rfl
     refine za (zC (some [nx, nx + 1]) (Row.pures [0, 1, 2, 3, 4, 5, 6, 7, 8, 9, 10, 11, 12, 13, 14, 15, 16, 17] .done) mixed trivial ?_)
     refine zI (q1) trivial ?_
     refine zI (q2) trivial ?_
     refine zI (q3) hmo ?_
     by_cases hf : W (w + wA x l s k) ≤ x.len
     ·have hsp : wS x t l w s k = some ⟨t, k, wA x l s k⟩ := by unfold wS; rw [if_pos hf]
      have hat := Zcr (n := l.length + 1) (by omega) hsp
      have hnx := Zct hsp
      have hy : (((List.range (l.length + 1)).filterMap (wS x t l w s)).map vM)[((List.range k).filterMap (wS x t l w s)).length]? = some (vM ⟨t, k, wA x l s k⟩) := by rw [List.getElem?_map, hat]; rfl
      refine za (vE (some [nx, nx + 1]) (Row.pures [0, 1, 2, 3, 4, 5, 6, 7, 8, 9, 10, 11, 12, 13, 14, 15, 16] (.alt 17 (Row.pures [18, 19] .done) .stop)) mixed (by rfl) (by rfl) (by rfl) fun K Gp Gc Gh hK hGp hGc hGh X hX0 hX1 hX2 hX => ?_)
      simp -implicitDefEqProofs [hX0, hX1, hX2, hX, hmo, ew, h3, g3, hf]
      try clear hX0 hX1 hX2 hX X
      refine hGh _ _ _ _ _ (by rfl) (YE rfl rfl rfl (hY _ _ _ _ hy hJ) ?_)
      rintro _ ⟨A', hJ', rfl⟩
      refine ⟨by simp [yF], ?_⟩
      clear hGp hGc hGh
      clear Gp Gc Gh
      refine j3 fun Gp Gc Gh hGp hGc hGh X hX0 hX1 hX2 hX => ?_
      simp -implicitDefEqProofs [hX0, hX1, hX2, hX]
      try clear hX0 hX1 hX2 hX X
      refine hK _ _ _ ?_
      clear hK hGp hGc hGh
      clear K Gp Gc Gh
      refine zn rfl (zh (zb ?_))
      exact zp (k + 1, A') [] ⟨by show k + 1 ≤ _; omega, by rw [hnx]; exact hJ'⟩ (by simp; omega) (by simp [zt k (by omega)]) rfl (by simp)
     ·have hsp : wS x t l w s k = none := by unfold wS; rw [if_neg hf]
      have hnx := Zcs hsp
      refine za (zC (some [nx, nx + 1]) (Row.pures [0, 1, 2, 3, 4, 5, 6, 7, 8, 9, 10, 11, 12, 13, 14, 15, 16, 17, 18, 19] .done) mixed (yh hmo ew h3 g3 hf zL) ?_)
      refine zn rfl (zh (zb ?_))
      exact zp (k + 1, A) [] ⟨by show k + 1 ≤ _; omega, by rw [hnx]; exact hJ⟩ (by simp; omega) (by simp [zt k (by omega)]) rfl (by simp)
  ·simp at hc
   obtain rfl : k = l.length + 1 := by omega
   refine zy (za (zb ?_))
   exact zg (Xi (hJd _ _ hJ) (by simp; rfl) (by simp [zq]) (by simpa using hJ))
open Go
theorem Va (x : Inst) : (zO x).cust.length ≤ 6 := by simp [zO]; omega
structure Goods (n : Int) (l : List Stop) : Prop where
 each : ∀ s ∈ l, 0 ≤ s.c ∧ s.c < n ∧ 1 ≤ s.q ∧ s.q ≤ 12
 nd : (l.map (·.c)).Nodup
 len : l.length ≤ 6
structure Made (n : Int) (d : zi) : Prop where
 goods : Goods n d.flatten
 ne : ∀ t ∈ d, t ≠ []
theorem QR : ∀ (d : zi), (∀ t ∈ d, t ≠ []) → d.length ≤ d.flatten.length
 | [], _ => by simp
 | t :: d, h => by
  have := QR d fun t ht => h t (by simp [ht])
  have h1 : t.length ≠ 0 := by simpa using h t (by simp)
  rw [List.flatten_cons, List.length_append, List.length_cons]; omega
theorem vN {d : zi} {t : zD} (h : t ∈ d) : t.Sublist d.flatten := by
 obtain ⟨a, b, rfl⟩ := List.append_of_mem h
 rw [List.flatten_append, List.flatten_cons]
 exact (List.sublist_append_left t b.flatten).trans (List.sublist_append_right a.flatten _)
section
variable {n : Int} {d : zi} (h : Made n d)
include h
theorem Made.len : d.length ≤ 6 := Nat.le_trans (QR d h.ne) h.goods.len
theorem Made.tlen {t : zD} (ht : t ∈ d) : t.length ≤ 6 := Nat.le_trans (vN ht).length_le h.goods.len
theorem Made.stop {t : zD} (ht : t ∈ d) {s : Stop} (hs : s ∈ t) : 0 ≤ s.c ∧ s.c < n ∧ 1 ≤ s.q ∧ s.q ≤ 12 := h.goods.each s ((vN ht).subset hs)
theorem Made.small (hn : n ≤ 6) {t : zD} (ht : t ∈ d) : ∀ s ∈ t, small s.c := fun s hs => by have := h.stop ht hs; unfold Pv.small; omega
end
theorem ZjA {α : Type} {a b : List (List α)} (h : a.Sublist b) : a.flatten.Sublist b.flatten := by
 induction h with
 | slnil => exact List.Sublist.refl _
 | cons x _ ih => rw [List.flatten_cons]; exact ih.trans (List.sublist_append_right _ _)
 | cons_cons x _ ih => rw [List.flatten_cons, List.flatten_cons]; exact List.Sublist.append_left ih x
theorem ZjB {a b : List Int} (h : a.Perm b) : a.sum = b.sum := by
 induction h with
 | nil => rfl
 | cons x _ ih => simp [ih]
 | swap x y l => simp; omega
 | trans _ _ ih1 ih2 => exact ih1.trans ih2
theorem Made.sub {n : Int} {d e : zi} (h : Made n d) (hs : e.Sublist d) : Made n e := by
 have hf : e.flatten.Sublist d.flatten := ZjA hs
 exact ⟨⟨fun s q => h.goods.each s (hf.subset q), h.goods.nd.sublist (hf.map _), Nat.le_trans hf.length_le h.goods.len⟩, fun t ht => h.ne t (hs.subset ht)⟩
theorem Made.perm {n : Int} {d e : zi} (h : Made n d) (hp : e.Perm d) : Made n e := by
 have hf : e.flatten.Perm d.flatten := hp.flatten
 exact ⟨⟨fun s q => h.goods.each s (hf.subset q), (hf.map _).nodup_iff.2 h.goods.nd, by rw [hf.length_eq]; exact h.goods.len⟩, fun t ht => h.ne t (hp.subset ht)⟩
theorem xo (x : Inst) (d : zi) : yq x d = 0 ↔ (∀ t ∈ d, zJ x t = 0) ∧ (d.flatten.map (·.c)).Nodup ∧ (d.length : Int) ≤ x.veh := by
 unfold yq
 cases hf : d.find? (fun t => zJ x t != 0) with
 | some t =>
  have h1 := List.find?_some hf
  have h2 := List.mem_of_find?_eq_some hf
  simp only
  constructor
  ·intro e; simp [e] at h1
  ·rintro ⟨h, _⟩; exact h t h2
 | none =>
  rw [List.find?_eq_none] at hf
  simp only
  constructor
  ·intro e
   refine ⟨fun t ht => by simpa using hf t ht, ?_⟩
   split at e
   ·cases e
   ·split at e
    ·cases e
    ·rename_i h1 h2; exact ⟨by simpa using h1, by omega⟩
  ·rintro ⟨_, h1, h2⟩
   rw [if_neg (by simpa using h1), if_neg (by omega)]
theorem ZX (x : Inst) (t : zD) : zJ x t = 0 ↔ qn x t = true ∧ (t.map (·.c)).Nodup ∧ W (zK t) ≤ x.cap ∧ W (zX x (t.map (·.c))) ≤ x.len := by
 unfold zJ
 constructor
 ·intro e
  split at e
  ·cases e
  ·split at e
   ·cases e
   ·split at e
    ·cases e
    ·split at e
     ·cases e
     ·rename_i h1 h2 h3 h4
      exact ⟨by simpa using h1, by simpa using h2, by omega, by omega⟩
 ·rintro ⟨h1, h2, h3, h4⟩
  rw [if_neg (by simp [h1]), if_neg (by simpa using h2), if_neg (by omega), if_neg (by omega)]
theorem Vb {t : zD} (h : ∀ s ∈ t, 0 ≤ s.q ∧ s.q ≤ 2147483648) : 0 ≤ zK t ∧ zK t ≤ 2147483648 * t.length := by
 induction t with
 | nil => simp [zK]
 | cons s t ih =>
  have := ih fun a ha => h a (by simp [ha])
  have := h s (by simp)
  simp only [zK, List.map_cons, List.sum_cons, List.length_cons] at *
  omega
theorem ZjC (a b : zD) : zK (a ++ b) = zK a + zK b := by simp [zK]
open Go Go.Proofs
def yO (x : Inst) (d : zi) (s : Stop) : List Spot :=
 if zJ x [s] = 1 ∨ s.c ∈ d.flatten.map (·.c) ∨ ¬ (d.flatten.map (·.c)).Nodup ∨ x.veh < d.length then []
 else ((List.range d.length).flatMap fun t => vk x t (d.getD t []) (zJ x (d.getD t [])) (yS x d) (qM (d.getD t [])) (qL x (d.getD t [])) s) ++
  (if yS x d = 0 ∧ zJ x [s] = 0 ∧ (d.length : Int) < x.veh then [⟨d.length, 0, W (zX x [s.c])⟩] else [])
def up (st : Spot × Bool) (b : Spot) : Spot × Bool := if st.2 = false ∨ b.m < st.1.m then (b, true) else st
def xY (l : List Spot) : Spot × Bool := l.foldl up (⟨0, 0, 0⟩, false)
def jm (l : zD) (i : Nat) (s : Stop) : zD := l.take i ++ s :: l.drop i
def qS (d : zi) (b : Spot) (s : Stop) : zi := if b.t = d.length then d ++ [[s]] else d.set b.t (jm (d.getD b.t []) b.p s)
def yC (x : Inst) (d : zi) (s : Stop) : zi × Bool := bif (xY (yO x d s)).2 then (qS d (xY (yO x d s)).1 s, true) else (d, false)
theorem Zcu : ∀ (l : List Spot) (st : Spot × Bool), (l.foldl up st).2 = true → (l.foldl up st) = st ∨ (l.foldl up st).1 ∈ l
 | [], st, _ => .inl rfl
 | b :: l, st, h => by
  rw [List.foldl_cons] at h ⊢
  rcases Zcu l _ h with e | e
  ·by_cases hq : st.2 = false ∨ b.m < st.1.m
   ·right; rw [e]; unfold up; rw [if_pos hq]; simp
   ·left; rw [e]; unfold up; rw [if_neg hq]
  ·exact .inr (by simp [e])
theorem Xj {l : List Spot} (h : (xY l).2 = true) : (xY l).1 ∈ l := by
 rcases Zcu l _ h with e | e
 ·rw [show l.foldl up (⟨0, 0, 0⟩, false) = xY l from rfl] at e
  rw [e] at h; cases h
 ·exact e
theorem ZjD {x : Inst} {t : Nat} {l : zD} {fl bad ll w : Int} {s : Stop} {b : Spot} (h : b ∈ vk x t l fl bad ll w s) : ¬ (0 < bad - (if fl = 13 then 1 else 0)) ∧ W (ll + s.q) ≤ x.cap ∧ b ∈ (List.range (l.length + 1)).filterMap (wS x t l w s) := by
 unfold vk at h
 by_cases hw : 0 < bad - (if fl = 13 then 1 else 0) ∨ x.cap < W (ll + s.q)
 ·rw [if_pos hw] at h; cases h
 ·rw [if_neg hw] at h
  refine ⟨fun e => hw (.inl e), ?_, h⟩
  rcases Int.lt_or_le x.cap (W (ll + s.q)) with e | e
  ·exact absurd (.inr e) hw
  ·exact e
theorem QS {x : Inst} {d : zi} {s : Stop} {b : Spot} (h : b ∈ yO x d s) :
  zJ x [s] ≠ 1 ∧ s.c ∉ d.flatten.map (·.c) ∧ (d.flatten.map (·.c)).Nodup ∧ (d.length : Int) ≤ x.veh ∧
  ((∃ l, d[b.t]? = some l ∧ b.p ≤ l.length ∧ ¬ (0 < (yS x d : Int) - (if zJ x l = 13 then 1 else 0)) ∧ W (qM l + s.q) ≤ x.cap ∧ b.m = wA x l s b.p ∧ W (qL x l + b.m) ≤ x.len) ∨
   (b = ⟨d.length, 0, W (zX x [s.c])⟩ ∧ yS x d = 0 ∧ zJ x [s] = 0 ∧ (d.length : Int) < x.veh)) := by
 unfold yO at h
 split at h
 ·cases h
 ·rename_i hq
  have q1 : zJ x [s] ≠ 1 := fun e => hq (.inl e)
  have q2 : s.c ∉ d.flatten.map (·.c) := fun e => hq (.inr (.inl e))
  have q3 : (d.flatten.map (·.c)).Nodup := Classical.byContradiction fun e => hq (.inr (.inr (.inl e)))
  have q4 : (d.length : Int) ≤ x.veh := by
   rcases Int.lt_or_le x.veh d.length with e | e
   ·exact absurd (.inr (.inr (.inr e))) hq
   ·exact e
  refine ⟨q1, q2, q3, q4, ?_⟩
  rw [List.mem_append] at h
  rcases h with h | h
  ·left
   obtain ⟨t, ht, hb⟩ := List.mem_flatMap.1 h
   rw [List.mem_range] at ht
   have hd : d[t]? = some (d.getD t []) := by rw [List.getD_eq_getElem?_getD, List.getElem?_eq_getElem ht]; rfl
   obtain ⟨w1, w2, hb⟩ := ZjD hb
   obtain ⟨i, hi, he⟩ := List.mem_filterMap.1 hb
   rw [List.mem_range] at hi
   unfold wS at he
   by_cases hlen : W (qL x (d.getD t []) + wA x (d.getD t []) s i) ≤ x.len
   ·rw [if_pos hlen] at he
    cases he
    exact ⟨_, hd, by simp only; omega, w1, w2, rfl, hlen⟩
   ·rw [if_neg hlen] at he; cases he
  ·right
   split at h
   ·rename_i hc; simp at h; exact ⟨h, hc⟩
   ·cases h
def yP (a : Int) : List Int → Int
 | [] => a
 | c :: l => yP (c + 1) l
def QT : List Int → Int
 | [] => 0
 | c :: _ => c + 1
theorem Zcv (x : Inst) (c : Int) (r : List Int) : ∀ (p : List Int) (a : Int), yV x a (p ++ c :: r) = yV x a (p ++ r) + (arc x (yP a p) (c + 1) + arc x (c + 1) (QT r) - arc x (yP a p) (QT r))
 | [], a => by
  cases r with
  | nil => simp only [List.nil_append, yV, yP, QT]; omega
  | cons e r => simp only [List.nil_append, yV, yP, QT]; omega
 | e :: p, a => by
  simp only [List.cons_append, yV, yP]
  rw [Zcv x c r p (e + 1)]; omega
theorem Zcw : ∀ (p : List Int) (a : Int), yP a p = if p.length = 0 then a else (p.getD (p.length - 1) 0) + 1
 | [], a => by simp [yP]
 | [c], a => by simp [yP]
 | c :: e :: p, a => by
  simp only [yP]
  rw [show yP (e + 1) p = yP (c + 1) (e :: p) from rfl, Zcw (e :: p) (c + 1)]
  simp [List.getD_eq_getElem?_getD]
theorem ZjE (l : zD) (i : Nat) (h : i < l.length) : (l.map (·.c)).getD i 0 = (l.getD i default).c := by
 rw [List.getD_eq_getElem?_getD, List.getD_eq_getElem?_getD, List.getElem?_map, List.getElem?_eq_getElem h]; rfl
theorem ZjF (x : Inst) (l : zD) (s : Stop) (i : Nat) (h0 : l ≠ []) (hi : i ≤ l.length) :
  zX x ((jm l i s).map (·.c)) = zX x (l.map (·.c)) + (arc x (xn l i) (s.c + 1) + arc x (s.c + 1) (xL l i) - arc x (xn l i) (xL l i)) := by
 unfold zX jm
 rw [if_neg (by simp), if_neg (by simpa using h0)]
 rw [List.map_append, List.map_cons, Zcv, ← List.map_append, List.take_append_drop]
 have e1 : yP 0 ((l.take i).map (·.c)) = xn l i := by
  rw [Zcw]
  unfold xn
  rw [List.length_map, List.length_take]
  by_cases hz : i = 0
  ·rw [if_pos (by omega), if_pos hz]
  ·rw [if_neg (by omega), if_neg hz, ZjE _ _ (by rw [List.length_take]; omega)]
   rw [List.getD_eq_getElem?_getD, List.getD_eq_getElem?_getD, List.getElem?_take_of_lt (by omega), show min i l.length - 1 = i - 1 from by omega]
 have e2 : QT ((l.drop i).map (·.c)) = xL l i := by
  unfold xL
  by_cases hz : i < l.length
  ·rw [if_pos hz, List.drop_eq_getElem_cons hz, List.getD_eq_getElem?_getD, List.getElem?_eq_getElem hz]; rfl
  ·rw [if_neg hz, List.drop_eq_nil_of_le (by omega)]; rfl
 rw [e1, e2]
theorem Zcx (x : Inst) (l : zD) (s : Stop) (i : Nat) (h0 : l ≠ []) (hi : i ≤ l.length) : qL x (jm l i s) = W (qL x l + wA x l s i) := by
 unfold qL wA
 rw [ZjF x l s i h0 hi, xE, QA]
 generalize arc x (xn l i) (s.c + 1) + arc x (s.c + 1) (xL l i) = p
 generalize arc x (xn l i) (xL l i) = q
 generalize zX x (l.map (·.c)) = r
 simp only [W, IntKind.wrap_i64]; omega
theorem Zcy (l : zD) (s : Stop) (i : Nat) : qM (jm l i s) = W (qM l + s.q) := by
 unfold qM
 rw [xE]
 have : zK (jm l i s) = zK l + s.q := by
  unfold zK jm
  conv => rhs; rw [← List.take_append_drop i l]
  simp only [List.map_append, List.map_cons, List.sum_append, List.sum_cons]; omega
 rw [this]
theorem QU (l : zD) (s : Stop) (i : Nat) : (jm l i s).Perm (s :: l) := by
 unfold jm
 have := List.perm_middle (a := s) (l₁ := l.take i) (l₂ := l.drop i)
 rwa [List.take_append_drop] at this
theorem Vc {α : Type} : ∀ (d : List (List α)) (t : Nat) (l m : List α) (s : α), d[t]? = some l → m.Perm (s :: l) → (d.set t m).flatten.Perm (s :: d.flatten)
 | [], t, l, m, s, h, _ => by simp at h
 | a :: d, 0, l, m, s, h, hm => by
  simp at h; subst h
  simp only [List.set_cons_zero, List.flatten_cons]
  exact (hm.append_right _)
 | a :: d, t + 1, l, m, s, h, hm => by
  simp only [List.getElem?_cons_succ] at h
  simp only [List.set_cons_succ, List.flatten_cons]
  exact ((Vc d t l m s h hm).append_left a).trans List.perm_middle
theorem Vd {x : Inst} {d : zi} {s : Stop} {b : Spot} (h : b ∈ yO x d s) : (qS d b s).flatten.Perm (s :: d.flatten) := by
 obtain ⟨-, -, -, -, h⟩ := QS h
 unfold qS
 rcases h with ⟨l, hl, -⟩ | ⟨rfl, -⟩
 ·have hlt := (List.getElem?_eq_some_iff.1 hl).1
  rw [if_neg (by omega), List.getD_eq_getElem?_getD, hl]
  exact Vc d b.t l _ s hl (QU l s b.p)
 ·rw [if_pos rfl]
  simp only [List.flatten_append, List.flatten_cons, List.flatten_nil, List.append_nil]
  exact List.perm_append_comm
theorem Xk {x : Inst} {d : zi} {s : Stop} (h : (yC x d s).2 = true) : (yC x d s).1.flatten.Perm (s :: d.flatten) := by
 unfold yC at h ⊢
 cases hb : (xY (yO x d s)).2 with
 | false => rw [hb] at h; cases h
 | true => exact Vd (Xj hb)
theorem Zcz {x : Inst} {d : zi} {s : Stop} (h : (yC x d s).2 = false) : (yC x d s).1 = d := by
 unfold yC at h ⊢
 cases hb : (xY (yO x d s)).2 with
 | false => rfl
 | true => rw [hb] at h; cases h
theorem ZjG {x : Inst} {a b : zD} (h : a.Perm b) : qn x a = qn x b := by
 unfold qn
 have h1 : a.all (q9 x) = b.all (q9 x) := by
  rw [Bool.eq_iff_iff, List.all_eq_true, List.all_eq_true]
  exact ⟨fun q s hs => q s (h.symm.subset hs), fun q s hs => q s (h.subset hs)⟩
 have h2 : a.isEmpty = b.isEmpty := by
  cases a with
  | nil => rw [List.nil_perm.1 h]
  | cons a l =>
   cases b with
   | nil => exact absurd h.symm (by simp)
   | cons => rfl
 rw [h1, h2]
theorem Xl {x : Inst} {t : zD} (h : qn x t = true) : t ≠ [] := by
 rintro rfl; simp [qn] at h
theorem Ve {x : Inst} {t : zD} (h : qn x t = false) : zJ x t = 1 := by unfold zJ; rw [if_pos h]
theorem ZcA {x : Inst} {s : Stop} (h : zJ x [s] ≠ 1) : q9 x s = true := by
 cases hs : qn x [s] with
 | false => exact absurd (Ve hs) h
 | true => simpa [qn] using hs
theorem Zl {x : Inst} {d : zi} : yS x d = 0 ↔ ∀ t ∈ d, zJ x t = 0 := by
 unfold yS
 rw [List.length_eq_zero_iff, List.filter_eq_nil_iff]
 simp
theorem Vf {x : Inst} {d : zi} {s : Stop} {b : Spot} (h : b ∈ yO x d s) : yq x (qS d b s) = 0 := by
 have hp := Vd h
 obtain ⟨q1, q2, q3, q4, h⟩ := QS h
 rw [xo]
 have hg := ZcA q1
 have hn : ((qS d b s).flatten.map (·.c)).Nodup := by
  rw [(hp.map _).nodup_iff, List.map_cons, List.nodup_cons]
  exact ⟨q2, q3⟩
 refine ⟨?_, hn, ?_⟩
 ·rcases h with ⟨l, hl, hi, ho, hcap, hm, hlen⟩ | ⟨rfl, hb, hs, hv⟩
  ·obtain ⟨hlt, hle⟩ := List.getElem?_eq_some_iff.1 hl
   have hpd : qS d b s = d.set b.t (jm l b.p s) := by unfold qS; rw [if_neg (by omega), List.getD_eq_getElem?_getD, hl]; rfl
   -- the other tours
   have hoth : ∀ j m, j ≠ b.t → d[j]? = some m → zJ x m = 0 := by
    intro j m hj hm'
    refine Classical.byContradiction fun hbad => ?_
    have h13 : 0 < yS x d := by
     rcases Nat.eq_zero_or_pos (yS x d) with e | e
     ·exact absurd (Zl.1 e m (List.mem_of_getElem? hm')) hbad
     ·exact e
    by_cases hf : zJ x l = 13
    ·rw [if_pos hf] at ho
     have h2 : 2 ≤ yS x d := by
      unfold yS
      obtain ⟨hjl, hje⟩ := List.getElem?_eq_some_iff.1 hm'
      have key : ∀ (i j : Nat), i < j → ∀ (a c : zD), d[i]? = some a → d[j]? = some c → zJ x a ≠ 0 → zJ x c ≠ 0 → 2 ≤ (d.filter fun t => decide (zJ x t ≠ 0)).length := by
       intro i j hij a c ha hc na nc
       obtain ⟨hil, rfl⟩ := List.getElem?_eq_some_iff.1 ha
       obtain ⟨hjl, rfl⟩ := List.getElem?_eq_some_iff.1 hc
       have e : d = d.take (i + 1) ++ d.drop (i + 1) := (List.take_append_drop _ _).symm
       rw [e, List.filter_append, List.length_append]
       have m1 : d[i] ∈ (d.take (i + 1)).filter fun t => decide (zJ x t ≠ 0) := List.mem_filter.2 ⟨List.mem_of_getElem? (i := i) (by rw [List.getElem?_take_of_lt (by omega)]; exact ha), by simp [na]⟩
       have m2 : d[j] ∈ (d.drop (i + 1)).filter fun t => decide (zJ x t ≠ 0) := List.mem_filter.2 ⟨List.mem_of_getElem? (i := j - (i + 1)) (by rw [List.getElem?_drop, show i + 1 + (j - (i + 1)) = j from by omega]; exact hc), by simp [nc]⟩
       have := List.length_pos_of_mem m1
       have := List.length_pos_of_mem m2
       omega
      have nl : zJ x l ≠ 0 := by rw [hf]; decide
      rcases Nat.lt_or_ge j b.t with h3 | h3
      ·exact key j b.t h3 m l hm' hl hbad nl
      ·exact key b.t j (by omega) l m hl hm' nl hbad
     omega
    ·rw [if_neg hf] at ho; omega
   -- the tour itself
   have hself : zJ x l = 0 ∨ zJ x l = 13 := by
    by_cases hf : zJ x l = 13
    ·exact .inr hf
    ·rw [if_neg hf] at ho
     exact .inl (Zl.1 (by omega) l (List.mem_of_getElem? hl))
   have hst : qn x l = true := by
    cases e : qn x l with
    | true => rfl
    | false => rw [Ve e] at hself; rcases hself with h | h <;> cases h
   have hne := Xl hst
   intro t ht
   rw [hpd] at ht
   obtain ⟨j, hj⟩ := List.mem_iff_getElem?.1 ht
   rw [List.getElem?_set] at hj
   by_cases hjb : b.t = j
   ·rw [if_pos hjb, if_pos hlt] at hj
    cases hj
    rw [ZX]
    refine ⟨?_, ?_, ?_, ?_⟩
    ·rw [ZjG (QU l s b.p)]
     unfold qn at hst ⊢
     simp only [List.all_cons, List.isEmpty_cons, Bool.and_eq_true] at hst ⊢
     exact ⟨⟨hg, hst.1⟩, rfl⟩
    ·have hsub : (jm l b.p s).Sublist (qS d b s).flatten := by rw [hpd]; exact vN ht
     exact hn.sublist (hsub.map _)
    ·have := Zcy l s b.p
     unfold qM at this
     rw [this]; exact hcap
    ·have := Zcx x l s b.p hne hi
     unfold qL at this
     rw [this, ← hm]; exact hlen
   ·rw [if_neg hjb] at hj
    exact hoth j t (fun e => hjb e.symm) hj
  ·unfold qS
   rw [if_pos rfl]
   intro t ht
   rw [List.mem_append] at ht
   rcases ht with ht | ht
   ·exact Zl.1 hb t ht
   ·simp at ht; subst ht; exact hs
 ·rcases h with ⟨l, hl, -⟩ | ⟨rfl, -, -, hv⟩
  ·have hlt := (List.getElem?_eq_some_iff.1 hl).1
   unfold qS; rw [if_neg (by omega), List.length_set]; exact q4
  ·unfold qS; rw [if_pos rfl, List.length_append]; simp; omega
def j7 (c : Int) (t : zD) : zD := t.filter fun s => decide (s.c ≠ c)
def ju (c : Int) (d : zi) : zi := (d.map (j7 c)).filter fun t => !t.isEmpty
def ZcB (c : Int) (d : zi) : Int := W ((d.flatten.filter fun s => decide (s.c = c)).map (·.q)).sum
theorem ZjH (c : Int) (a b : zi) : ju c (a ++ b) = ju c a ++ ju c b := by simp [ju]
open Go Hp
theorem JI.begin : ∀ (l pre : List Stop) (T : zi) (g : Int → Option Int), JI pre T g → ((pre ++ l).map (·.c)).Nodup → ∃ g', JI (pre ++ l) (T ++ l.map fun s => [s]) g'
 | [], pre, T, g, h, _ => ⟨g, by simpa using h⟩
 | s :: l, pre, T, g, h, hn => by
  have hs : s.c ∉ pre.map (·.c) := by
   rw [List.map_append, List.nodup_append] at hn
   exact fun hm => hn.2.2 _ hm s.c (by simp) rfl
  obtain ⟨g', h'⟩ := JI.begin l (pre ++ [s]) (T ++ [[s]]) _ (h.snoc s hs) (by simpa using hn)
  exact ⟨g', by simpa using h'⟩
theorem QV {α : Type} (f : α → Int) : ∀ (T : List α) (i : Nat) (a b : α), T[i]? = some a → ((T.set i b).map f).sum = (T.map f).sum - f a + f b
 | [], i, a, b, h => by simp at h
 | t :: T, 0, a, b, h => by simp at h; subst h; simp; omega
 | t :: T, i + 1, a, b, h => by
  simp only [List.getElem?_cons_succ] at h
  simp only [List.set_cons_succ, List.map_cons, List.sum_cons]
  rw [QV f T i a b h]; omega
theorem ZjI (x : Inst) : zX x [] = 0 := by simp [zX]
theorem ZjJ {x : Inst} {a b : List Int} {u v : Int} (hu : a[a.length - 1]? = some u) (hv : b[0]? = some v) : zX x (a ++ b) = zX x a + zX x b - j5 x u v := by
 have ha : 0 < a.length := by
  have := (List.getElem?_eq_some_iff.1 hu).1; omega
 have h1 := Zii x (a ++ b) (a.length - 1) u v (by rw [List.getElem?_append_left (by omega)]; exact hu) (by rw [Nat.sub_add_cancel ha, List.getElem?_append_right (Nat.le_refl _), Nat.sub_self]; exact hv)
 rw [Nat.sub_add_cancel ha, List.take_left', List.drop_left'] at h1
 ·exact h1
 ·rfl
 ·rfl
structure KI (x : Inst) (ss : List Stop) (C : Int) (st : zi × Int) : Prop where
 j : ∃ g, JI ss st.1 g
 may : ∀ t ∈ st.1, 1 < t.length → zJ x t = 0
 num : st.2 ≤ x.veh
 cost : zM x st.1 ≤ C
theorem KI.step {x : Inst} {ss : List Stop} {C : Int} {st : zi × Int} (h : KI x ss C st) {p : Pr} (ha : p.a ∈ ss.map (·.c)) (hb : p.b ∈ ss.map (·.c)) (hs : p.s = j5 x p.a p.b) : KI x ss C (qw x st p) := by
 obtain ⟨g, hI⟩ := h.j
 obtain ⟨i, a, sa, hia, hsa, hsac, hga, hpi⟩ := hI.there ha
 obtain ⟨k, b, sb, hkb, hsb, hsbc, hgb, hpk⟩ := hI.there hb
 have hgi : st.1.getD i [] = a := by rw [List.getD_eq_getElem?_getD, hia]; rfl
 have hgk : st.1.getD k [] = b := by rw [List.getD_eq_getElem?_getD, hkb]; rfl
 unfold qw YO
 rw [hpi, hpk, hgi, hgk]
 cases hc : y8 x st.2 p i k a b with
 | false => exact h
 | true =>
  simp only [cond_true]
  unfold y8 at hc
  simp only [Bool.and_eq_true, decide_eq_true_eq, Bool.not_eq_true', Bool.and_eq_false_iff, decide_eq_false_iff_not] at hc
  obtain ⟨⟨⟨⟨h1, h2⟩, h3⟩, h4⟩, h5⟩ := hc
  have hn := h.num
  have hpos : 0 < p.s := by rcases h4 with h4 | h4 <;> omega
  refine ⟨⟨_, hI.join hia hkb h1⟩, fun t ht hl => ?_, by simp only; omega, ?_⟩
  ·rcases List.mem_or_eq_of_mem_set ht with ht | ht
   ·rcases List.mem_or_eq_of_mem_set ht with ht | ht
    ·exact h.may t ht hl
    ·rw [ht]; exact h5
   ·rw [ht] at hl; simp at hl
  ·have hk2 : (st.1.set i (a ++ b))[k]? = some b := by rw [List.getElem?_set_ne h1]; exact hkb
   have e1 := QV (fun t : zD => zX x (t.map (·.c))) (st.1.set i (a ++ b)) k b [] hk2
   have e2 := QV (fun t : zD => zX x (t.map (·.c))) st.1 i a (a ++ b) hia
   have e3 := ZjJ (x := x) (a := a.map (·.c)) (b := b.map (·.c)) (u := p.a) (v := p.b) (by
    unfold uR at h2; rw [List.getElem?_map, List.length_map]; exact h2) (by unfold Zi at h3; rw [List.getElem?_map]; exact h3)
   have hcst := h.cost
   unfold zM at hcst ⊢
   simp only [List.map_append, List.map_nil, ZjI] at e1 e2
   rw [e3] at e2
   simp only
   omega
open Go Go.Proofs
theorem ZcC {x : Inst} (h : qH x) : ∀ (l : List Int) (a : Int), 0 ≤ yV x a l ∧ yV x a l ≤ 2147483648 * ((l.length : Int) + 1)
 | [], a => by
  have := h a 0
  simp only [yV, List.length_nil]; omega
 | c :: l, a => by
  have h1 := h a (c + 1)
  have h2 := ZcC h l (c + 1)
  simp only [yV, List.length_cons]; omega
theorem YS {x : Inst} (h : qH x) (l : List Int) : 0 ≤ zX x l ∧ zX x l ≤ 2147483648 * ((l.length : Int) + 1) := by
 unfold zX; split
 ·omega
 ·exact ZcC h l 0
theorem Vg {x : Inst} (h : qH x) : ∀ d : zi, 0 ≤ zM x d ∧ zM x d ≤ 2147483648 * ((d.flatten.length : Int) + d.length)
 | [] => by simp [zM]
 | t :: d => by
  have h1 := YS h (t.map (·.c))
  have h2 := Vg h d
  unfold zM at h2 ⊢
  rw [List.length_map] at h1
  simp only [List.map_cons, List.sum_cons, List.flatten_cons, List.length_append, List.length_cons]; omega
theorem ZcD {x : Inst} (h : qH x) {d : zi} (h1 : d.flatten.length ≤ 1048576) (h2 : d.length ≤ 1048576) : W (zM x d) = zM x d := by
 have := Vg h d
 exact wr _ (by omega) (by omega)
def Zm (d : zi) : List (Nat × Nat) := (List.range (d.length + 1)).flatMap fun t => (List.range ((d.getD t []).length + 1)).map fun p => (t, p)
def uq (d : zi) (s : Stop) (c : Nat × Nat) : zi := qS d ⟨c.1, c.2, 0⟩ s
def Vh (x : Inst) (d : zi) (s : Stop) (c : Nat × Nat) : Int := if c.1 = d.length then W (zX x [s.c]) else wA x (d.getD c.1 []) s c.2
def ZY (x : Inst) (d : zi) (s : Stop) (c : Nat × Nat) : Option Spot := if yq x (uq d s c) = 0 then some ⟨c.1, c.2, Vh x d s c⟩ else none
theorem ZcE (d : zi) (s : Stop) (b : Spot) : qS d b s = uq d s (b.t, b.p) := rfl
theorem ZcF {d : zi} {c : Nat × Nat} : c ∈ Zm d ↔ c.1 ≤ d.length ∧ c.2 ≤ (d.getD c.1 []).length := by
 unfold Zm
 rw [List.mem_flatMap]
 constructor
 ·rintro ⟨t, ht, hc⟩
  obtain ⟨p, hp, rfl⟩ := List.mem_map.1 hc
  rw [List.mem_range] at ht hp
  simp only; omega
 ·rintro ⟨h1, h2⟩
  exact ⟨c.1, List.mem_range.2 (by omega), List.mem_map.2 ⟨c.2, List.mem_range.2 (by omega), rfl⟩⟩
abbrev Xm (x : Inst) (d : zi) (s : Stop) : Prop := zJ x [s] = 1 ∨ s.c ∈ d.flatten.map (·.c) ∨ ¬ (d.flatten.map (·.c)).Nodup ∨ x.veh < d.length
theorem ZcG {d : zi} {s : Stop} {t p : Nat} {l : zD} (hl : d[t]? = some l) : uq d s (t, p) = d.set t (jm l p s) := by
 have hlt := (List.getElem?_eq_some_iff.1 hl).1
 unfold uq qS; rw [if_neg (by simp only; omega), List.getD_eq_getElem?_getD, hl]; rfl
theorem ZcH (d : zi) (s : Stop) (p : Nat) : uq d s (d.length, p) = d ++ [[s]] := by
 unfold uq qS; rw [if_pos rfl]
theorem ZjK {d : zi} {s : Stop} {c : Nat × Nat} (hc : c ∈ Zm d) : (uq d s c).flatten.Perm (s :: d.flatten) := by
 obtain ⟨t, p⟩ := c
 obtain ⟨h1, h2⟩ := ZcF.1 hc
 simp only at h1 h2
 by_cases ht : t = d.length
 ·subst ht
  rw [ZcH]
  simp only [List.flatten_append, List.flatten_cons, List.flatten_nil, List.append_nil]
  exact List.perm_append_comm
 ·have hl : d[t]? = some (d.getD t []) := by rw [List.getD_eq_getElem?_getD, List.getElem?_eq_getElem (by omega)]; rfl
  rw [ZcG hl]
  exact Vc d t _ _ s hl (QU _ s p)
theorem ZjL {x : Inst} {d : zi} {s : Stop} (hd : yq x d = 0) {c : Nat × Nat} (hc : c ∈ Zm d) (h : yq x (uq d s c) = 0) : ¬ Xm x d s := by
 have hp := ZjK (s := s) hc
 obtain ⟨g1, g2, g3⟩ := (xo x _).1 h
 obtain ⟨e1, e2, e3⟩ := (xo x _).1 hd
 rw [(hp.map _).nodup_iff, List.map_cons, List.nodup_cons] at g2
 rintro (q | q | q | q)
 ·obtain ⟨u, hu, hsu⟩ := List.mem_flatten.1 (hp.symm.subset (List.mem_cons_self (a := s)))
  have hm := ((ZX x u).1 (g1 u hu)).1
  unfold qn at hm
  simp only [Bool.and_eq_true, List.all_eq_true] at hm
  have hgs := hm.1 s hsu
  have : zJ x [s] ≠ 1 := by
   unfold zJ qn
   rw [if_neg (by simp [hgs])]
   split
   ·decide
   ·split
    ·decide
    ·split <;> decide
  exact this q
 ·exact g2.1 q
 ·exact q e2
 ·omega
theorem ZcI {x : Inst} {d : zi} {s : Stop} (hd : yq x d = 0) (ho : ¬ Xm x d s) {t p : Nat} {l : zD} (hl : d[t]? = some l) (hp : p ≤ l.length) :
  yq x (uq d s (t, p)) = 0 ↔ W (qM l + s.q) ≤ x.cap ∧ W (qL x l + wA x l s p) ≤ x.len := by
 obtain ⟨e1, e2, e3⟩ := (xo x _).1 hd
 have hlm := List.mem_of_getElem? hl
 have hlt := (List.getElem?_eq_some_iff.1 hl).1
 have hm0 := e1 l hlm
 have hne : l ≠ [] := Xl ((ZX x l).1 hm0).1
 have hb : yS x d = 0 := Zl.2 e1
 have hg : d.getD t [] = l := by rw [List.getD_eq_getElem?_getD, hl]; rfl
 constructor
 ·intro h
  obtain ⟨g1, -, -⟩ := (xo x _).1 h
  rw [ZcG hl] at g1
  have := g1 (jm l p s) (List.mem_of_getElem? (i := t) (by simp [hlt]))
  obtain ⟨-, -, a, b⟩ := (ZX x _).1 this
  have ha := Zcy l s p
  have hw := Zcx x l s p hne hp
  unfold qM at ha
  unfold qL at hw
  rw [ha] at a; rw [hw] at b
  exact ⟨a, b⟩
 ·rintro ⟨a, b⟩
  have hmem : (⟨t, p, wA x l s p⟩ : Spot) ∈ yO x d s := by
   unfold yO
   rw [if_neg ho]
   refine List.mem_append_left _ (List.mem_flatMap.2 ⟨t, List.mem_range.2 hlt, ?_⟩)
   rw [hg, hb, hm0]
   unfold vk
   rw [if_neg (by simp; omega)]
   refine List.mem_filterMap.2 ⟨p, List.mem_range.2 (by omega), ?_⟩
   unfold wS; rw [if_pos b]
  have := Vf hmem
  rwa [ZcE] at this
theorem ZjM {x : Inst} {d : zi} {s : Stop} (hd : yq x d = 0) (ho : ¬ Xm x d s) : yq x (uq d s (d.length, 0)) = 0 ↔ zJ x [s] = 0 ∧ (d.length : Int) < x.veh := by
 obtain ⟨e1, e2, e3⟩ := (xo x _).1 hd
 have hb : yS x d = 0 := Zl.2 e1
 constructor
 ·intro h
  obtain ⟨g1, -, g3⟩ := (xo x _).1 h
  rw [ZcH] at g1 g3
  rw [List.length_append] at g3
  simp at g3
  exact ⟨g1 [s] (by simp), by omega⟩
 ·rintro ⟨a, b⟩
  have hmem : (⟨d.length, 0, W (zX x [s.c])⟩ : Spot) ∈ yO x d s := by
   unfold yO
   rw [if_neg ho, if_pos ⟨hb, a, b⟩]
   exact List.mem_append_right _ (by simp)
  have := Vf hmem
  rwa [ZcE] at this
theorem ZcJ {α β : Type} {f : α → Option β} {l : List α} (h : ∀ a ∈ l, f a = none) : l.filterMap f = [] := by
 rw [List.filterMap_eq_nil_iff]; exact h
theorem ZcK {α β : Type} {f g : α → List β} : ∀ {l : List α}, (∀ a ∈ l, f a = g a) → l.flatMap f = l.flatMap g
 | [], _ => rfl
 | a :: l, h => by rw [List.flatMap_cons, List.flatMap_cons, h a (by simp), ZcK fun b hb => h b (by simp [hb])]
theorem ZcL {α β : Type} {f g : α → Option β} : ∀ {l : List α}, (∀ a ∈ l, f a = g a) → l.filterMap f = l.filterMap g
 | [], _ => rfl
 | a :: l, h => by
  have ih := ZcL (f := f) (g := g) (l := l) fun b hb => h b (by simp [hb])
  rw [List.filterMap_cons, List.filterMap_cons, h a (by simp), ih]
def uS (x : Inst) (d : zi) (s : Stop) (t : Nat) : List Spot := ((List.range ((d.getD t []).length + 1)).map fun p => (t, p)).filterMap (ZY x d s)
theorem ZcM {x : Inst} {d : zi} {s : Stop} (hd : yq x d = 0) : yO x d s = (List.range (d.length + 1)).flatMap (uS x d s) := by
 by_cases ho : Xm x d s
 ·unfold yO
  rw [if_pos ho]
  symm
  rw [List.flatMap_eq_nil_iff]
  intro t ht
  rw [List.mem_range] at ht
  refine ZcJ fun c hc => ?_
  obtain ⟨p, hp, rfl⟩ := List.mem_map.1 hc
  rw [List.mem_range] at hp
  unfold ZY
  rw [if_neg]
  intro h
  exact ZjL hd (ZcF.2 ⟨by simp only; omega, by simp only; omega⟩) h ho
 ·unfold yO
  obtain ⟨e1, e2, e3⟩ := (xo x _).1 hd
  have hb : yS x d = 0 := Zl.2 e1
  rw [if_neg ho, List.range_succ, List.flatMap_append]
  congr 1
  ·refine ZcK fun t ht => ?_
   rw [List.mem_range] at ht
   have hl : d[t]? = some (d.getD t []) := by rw [List.getD_eq_getElem?_getD, List.getElem?_eq_getElem ht]; rfl
   have hm0 := e1 _ (List.mem_of_getElem? hl)
   unfold uS vk
   rw [hm0, hb, List.filterMap_map]
   by_cases hcap : x.cap < W (qM (d.getD t []) + s.q)
   ·rw [if_pos (.inr hcap)]
    symm
    refine ZcJ fun p hp => ?_
    rw [List.mem_range] at hp
    simp only [Function.comp_apply]
    unfold ZY
    rw [if_neg]
    rw [ZcI hd ho hl (by omega)]
    omega
   ·rw [if_neg (show ¬ (0 < ((0 : Nat) : Int) - (if (0 : Int) = 13 then 1 else 0) ∨ x.cap < W (qM (d.getD t []) + s.q)) from by rintro (q | q); exact absurd q (by decide); exact hcap q)]
    refine ZcL fun p hp => ?_
    rw [List.mem_range] at hp
    simp only [Function.comp_apply]
    have hi := ZcI (p := p) hd ho hl (by omega)
    unfold ZY wS Vh
    simp only
    rw [if_neg (show ¬ t = d.length by omega)]
    by_cases hw : W (qL x (d.getD t []) + wA x (d.getD t []) s p) ≤ x.len
    ·rw [if_pos hw, if_pos (hi.2 ⟨by omega, hw⟩)]
    ·rw [if_neg hw, if_neg fun e => hw (hi.1 e).2]
  ·have hi := ZjM hd ho
   simp only [List.flatMap_cons, List.flatMap_nil, List.append_nil]
   unfold uS
   rw [show d.getD d.length [] = ([] : zD) from by rw [List.getD_eq_getElem?_getD, List.getElem?_eq_none (Nat.le_refl _)]; rfl]
   simp only [List.length_nil, Nat.zero_add, List.range_one, List.map_cons, List.map_nil, List.filterMap_cons, List.filterMap_nil]
   unfold ZY Vh
   simp only [if_true]
   by_cases hc : zJ x [s] = 0 ∧ (d.length : Int) < x.veh
   ·rw [if_pos ⟨hb, hc⟩, if_pos (hi.2 hc)]
   ·rw [if_neg fun e => hc e.2, if_neg fun e => hc (hi.1 e)]
theorem ZcN {α β γ : Type} (f : α → List β) (g : β → Option γ) : ∀ l : List α, (l.flatMap f).filterMap g = l.flatMap fun a => (f a).filterMap g
 | [] => rfl
 | a :: l => by rw [List.flatMap_cons, List.filterMap_append, ZcN f g l, List.flatMap_cons]
theorem ZjN {x : Inst} {d : zi} {s : Stop} (hd : yq x d = 0) : yO x d s = (Zm d).filterMap (ZY x d s) := by
 rw [ZcM hd]; unfold Zm; rw [ZcN]; rfl
theorem Xn {x : Inst} {d : zi} (h : yq x d = 0) : ∀ t ∈ d, t ≠ [] := fun t ht => Xl ((ZX x t).1 (((xo x d).1 h).1 t ht)).1
def Zn (st : Int × Bool) (m : Int) : Int × Bool := if st.2 = false ∨ m < st.1 then (m, true) else st
def Zo (l : List Int) : Int × Bool := l.foldl Zn (0, false)
def YT (x : Inst) (d : zi) (s : Stop) (n : Nat) : List Int := (List.range n).filterMap fun t => bif (Zo ((uS x d s t).map (·.m))).2 then some (Zo ((uS x d s t).map (·.m))).1 else none
def YU (x : Inst) (d : zi) (s : Stop) : List Int := yM (YT x d s (d.length + 1))
theorem Vi : ∀ (l : List Int) (m : Int), (l.foldl Zn (m, true)).2 = true
 | [], _ => rfl
 | a :: l, m => by
  rw [List.foldl_cons]
  unfold Zn
  split
  ·exact Vi l a
  ·exact Vi l m
theorem ZjO : Zo [] = (0, false) := rfl
theorem ZjP (a : Int) (l : List Int) : Zo (a :: l) = l.foldl Zn (a, true) := by
 unfold Zo; rw [List.foldl_cons]; unfold Zn; simp
def xp (st : List Int × Int) (p : Spot) : List Int × Int :=
 if (p.t : Int) ≠ st.2 then (st.1 ++ [p.m], (p.t : Int)) else (st.1.set (st.1.length - 1) (if p.m < st.1.getD (st.1.length - 1) 0 then p.m else st.1.getD (st.1.length - 1) 0), st.2)
theorem ZcO (t : Nat) : ∀ (g : List Spot) (l : List Int) (m : Int), (∀ p ∈ g, p.t = t) → g.foldl xp (l ++ [m], (t : Int)) = (l ++ [((g.map (·.m)).foldl Zn (m, true)).1], (t : Int))
 | [], l, m, _ => rfl
 | p :: g, l, m, h => by
  have hp := h p (by simp)
  have hs : xp (l ++ [m], (t : Int)) p = (l ++ [if p.m < m then p.m else m], (t : Int)) := by
   unfold xp
   rw [hp, if_neg (by simp)]
   simp
  have hm : Zn (m, true) p.m = (if p.m < m then p.m else m, true) := by
   unfold Zn
   by_cases q : p.m < m <;> simp [q]
  rw [List.foldl_cons, hs, List.map_cons, List.foldl_cons, hm]
  exact ZcO t g l _ fun q hq => h q (by simp [hq])
theorem ZjQ {t : Nat} {g : List Spot} (hg : ∀ p ∈ g, p.t = t) (l : List Int) (last : Int) (hl : last < t) :
  g.foldl xp (l, last) = (l ++ (bif (Zo (g.map (·.m))).2 then [(Zo (g.map (·.m))).1] else []), if g = [] then last else (t : Int)) := by
 cases g with
 | nil => simp [ZjO]
 | cons p g =>
  have hp := hg p (by simp)
  have hs : xp (l, last) p = (l ++ [p.m], (t : Int)) := by
   unfold xp; rw [hp, if_pos (by simp only [ne_eq]; omega)]
  rw [List.foldl_cons, hs, ZcO t g l p.m fun q hq => hg q (by simp [hq]), List.map_cons, ZjP, Vi]
  simp
theorem ZjR {x : Inst} {d : zi} {s : Stop} {t : Nat} : ∀ p ∈ uS x d s t, p.t = t := by
 intro b hb
 unfold uS at hb
 obtain ⟨c, hc, he⟩ := List.mem_filterMap.1 hb
 obtain ⟨p, -, rfl⟩ := List.mem_map.1 hc
 unfold ZY at he
 split at he
 ·cases he; rfl
 ·cases he
theorem ZcP (x : Inst) (d : zi) (s : Stop) : ∀ n : Nat, ∃ last : Int, last < n ∧ ((List.range n).flatMap (uS x d s)).foldl xp ([], -1) = (YT x d s n, last)
 | 0 => ⟨-1, by omega, rfl⟩
 | n + 1 => by
  obtain ⟨last, h1, h2⟩ := ZcP x d s n
  rw [List.range_succ, List.flatMap_append, List.foldl_append, h2]
  simp only [List.flatMap_cons, List.flatMap_nil, List.append_nil]
  rw [ZjQ ZjR _ _ h1]
  refine ⟨_, ?_, by
   congr 1
   unfold YT
   rw [List.range_succ, List.filterMap_append]
   congr 1
   cases hm : (Zo ((uS x d s n).map (·.m))).2 <;> simp [hm]⟩
  split <;> omega
theorem ZjS {x : Inst} {d : zi} {s : Stop} (hd : yq x d = 0) : ((yO x d s).foldl xp ([], -1)).1 = YT x d s (d.length + 1) := by
 rw [ZcM hd]
 obtain ⟨last, -, h⟩ := ZcP x d s (d.length + 1)
 rw [h]
theorem ZcQ : ∀ {a b : List Int}, a.Perm b → a.Pairwise (· ≤ ·) → b.Pairwise (· ≤ ·) → a = b
 | [], b, h, _, _ => (List.nil_perm.1 h).symm
 | x :: a, [], h, _, _ => absurd h.symm (by simp)
 | x :: a, y :: b, h, ha, hb => by
  rw [List.pairwise_cons] at ha hb
  have hxy : x = y := by
   have h1 : x ∈ y :: b := h.subset (by simp)
   have h2 : y ∈ x :: a := h.symm.subset (by simp)
   have q1 : y ≤ x := by
    rcases List.mem_cons.1 h1 with e | e
    ·omega
    ·exact hb.1 x e
   have q2 : x ≤ y := by
    rcases List.mem_cons.1 h2 with e | e
    ·omega
    ·exact ha.1 y e
   omega
  subst hxy
  rw [ZcQ ((List.perm_cons x).1 h) ha.2 hb.2]
open Go Go.Proofs
theorem ZjT (x : Inst) (d : zi) (s : Stop) (t : Nat) : (YT x d s t).length ≤ t := by
 unfold YT; exact Nat.le_trans (List.length_filterMap_le _ _) (by simp)
open Go Go.Proofs
theorem Sim.drewN {C : Ctx} {S : Store} {w : World} (h : Sim C S w) : ∀ q : Nat, Sim C S (w.drewN q) ∧ Step C S w C S (w.drewN q)
 | 0 => by
  have e : w.drewN 0 = w := rfl
  rw [e]; exact ⟨h, .refl _ _ _⟩
 | q + 1 => by
  obtain ⟨a, b⟩ := Sim.drewN h q
  obtain ⟨c, d⟩ := a.drew
  have e : w.drewN (q + 1) = (w.drewN q).drew := by unfold World.drewN World.drew; simp [Nat.add_assoc]
  rw [e]
  exact ⟨c, b.trans d⟩
theorem ZjU (zs : List Int) (c : Int) (hn : zs.length ≤ 1048576) (hs : zs.Pairwise (· ≤ ·)) : Pure Tryz.prog 139 [L zs, I c] (.tup [I (zs.countP (· < c) : Nat), B (zs.contains c)]) := by
 intro S
 refine ⟨qE Tryz.func139 (by rfl) rfl, ?_⟩
 intro C w vs hS hl hr
 obtain ⟨u, v, rfl⟩ : ∃ u v, vs = #[u, v] := Zb9 hl
 obtain rfl := ZO (hr 1 _ v rfl rfl)
 have h0 : Rel C S w (.lst zs.length (zs.flatMap Enc.enc)) u := hr 0 _ u rfl rfl
 have hret : ∀ (k : Int) (b : Bool), Rel C S w (.tup [I k, B b]) (.tuple #[.int .i64 k, .bool b]) := by
  intro k b
  refine .tup rfl ?_
  intro i p v hc hv
  match i with
  | 0 => have hc : some (I k) = some p := hc; have hv : some (Value.int .i64 k) = some v := hv; cases hc; cases hv; exact .sc _
  | 1 => have hc : some (B b) = some p := hc; have hv : some (Value.bool b) = some v := hv; cases hc; cases hv; exact .sc _
  | i + 2 => simp at hc
 rw [J5] at h0
 generalize hcs : zs.map I = cs at h0
 generalize hzl : zs.length = n at h0 hn
 cases h0 with
 | lst0 =>
  obtain rfl : zs = [] := List.eq_nil_of_length_eq_zero hzl
  refine (Tryz.slices_BinarySearch_int_empty _ _ c w).mono ?_
  rintro e w' ⟨rfl, rfl⟩
  exact ⟨_, _, _, _, rfl, ⟨rfl, rfl⟩, hret 0 false, hS, .refl _ _ _⟩
 | lst1 g1 g2 g3 g4 g5 g6 g7 =>
  rename_i cap b o ca e fz
  by_cases hz : zs = []
  ·subst hz
   simp at hzl
   subst hzl
   refine (Tryz.slices_BinarySearch_int_empty _ _ c w).mono ?_
   rintro e w' ⟨rfl, rfl⟩
   exact ⟨_, _, _, _, rfl, ⟨rfl, rfl⟩, hret 0 false, hS, .refl _ _ _⟩
  ·subst hcs
   have g5' := g5 (by simpa using hz)
   rw [List.length_map] at g5'
   have hcell : ∀ j, j < zs.length → w.cell? ⟨b, o + j, none⟩ = some (.int .i64 (zs.getD j 0)) := by
    intro j hj
    have e2 : ca[o + j]? = some ca[o + j] := by rw [Array.getElem?_eq_getElem]
    have e3 := ZO (g7 j (I (zs.getD j 0)) _ (by simp [hj]) e2)
    rw [e3] at e2
    simp [World.cell?, g3, e2]
   refine (Tryz.slices_BinarySearch_int b o n cap zs c w (by omega) (by omega) hcell (hs.sublist (List.take_sublist _ _))).mono ?_
   rintro e w' ⟨rfl, q, rfl⟩
   obtain ⟨s1, s2⟩ := hS.drewN q
   rw [List.take_of_length_le (by omega)]
   exact ⟨_, _, _, _, rfl, ⟨rfl, rfl⟩, (hret _ _).mono s2, s1, s2⟩
theorem ZjV {n k : Nat} (hk : k < n) (W : Nat → List Spot) (E : List Spot) (i : Nat) (x : List PV) (h : ((W k).map vM)[i]? = some x) : (((List.range n).flatMap W ++ E).map vM)[((List.range k).flatMap W).length + i]? = some x := by
 obtain ⟨m, rfl⟩ : ∃ m, n = k + (m + 1) := ⟨n - k - 1, by omega⟩
 rw [List.getElem?_map] at h ⊢
 rw [List.range_add, List.flatMap_append, List.append_assoc, List.getElem?_append_right (Nat.le_add_right _ _), Nat.add_sub_cancel_left, List.range_succ_eq_map]
 have hi : i < (W k).length := by
  rcases Nat.lt_or_ge i (W k).length with e | e
  ·exact e
  ·rw [List.getElem?_eq_none e] at h; cases h
 rw [List.getElem?_append_left (by simp; omega)]
 simp only [List.map_cons, List.flatMap_cons, Nat.add_zero]
 rw [List.getElem?_append_left (by omega)]
 exact h
theorem ZjW (W : Nat → List Spot) (k : Nat) : ((List.range (k + 1)).flatMap W).length = ((List.range k).flatMap W).length + (W k).length := by
 rw [List.range_succ, List.flatMap_append, List.length_append]; simp
theorem ZjX (l : List Int) (c : Int) : (yM l).contains c = l.contains c := by
 rw [Bool.eq_iff_iff, List.contains_iff_mem, List.contains_iff_mem]
 exact (List.mergeSort_perm l _).mem_iff
theorem ZcR {x : Inst} {s : Stop} (hx : x.cust.length ≤ 1048576) (h : zJ x [s] ≠ 1) : small s.c := by
 have := ZcA h
 unfold q9 at this
 simp only [Bool.and_eq_true, decide_eq_true_eq] at this
 unfold small; omega
theorem ZcS (x : Inst) (d : zi) (s : Stop) (hx : x.cust.length ≤ 1048576) (hdo : DayOk d) (hf : d.flatten.length ≤ 1048576) : Ze Tryz.prog 138 [.ip [I s.c, I s.q], .ip (vK x d)] ((yO x d s).map vM) := by
 have hmay := QK x [s] hx (by simp)
 have hse := ZjU (yM (d.flatten.map (·.c))) s.c (by rw [Zg, List.length_map]; exact hf) (QI _)
 rw [ZjX] at hse
 generalize ((yM (d.flatten.map (·.c))).countP (· < s.c) : Nat) = cnt at hse
 obtain ⟨tw, htw⟩ : ∃ tw, tw = decide (¬ (yM (d.flatten.map (·.c))).Nodup) := ⟨_, rfl⟩
 have htw' : tw = decide (¬ (d.flatten.map (·.c)).Nodup) := by rw [htw]; exact decide_eq_decide.2 (not_congr (List.mergeSort_perm _ _).nodup_iff)
 obtain ⟨th, hth⟩ : ∃ th, th = (d.flatten.map (·.c)).contains s.c := ⟨_, rfl⟩
 rw [← hth] at hse
 have hlk : vK x d = wT x d (yM (d.flatten.map (·.c))) tw (d.map (zJ x)) (yS x d) (d.map qM) (d.map (qL x)) := by rw [htw]
 rw [hlk]
 obtain ⟨on, hon⟩ : ∃ on, on = yM (d.flatten.map (·.c)) := ⟨_, rfl⟩
 rw [← hon] at hse ⊢
 obtain ⟨fa, hfa⟩ : ∃ fa, fa = zJ x [s] := ⟨_, rfl⟩
 rw [← hfa] at hmay
 have hdn := hdo.n
 refine QB Tryz.func138 (by rfl) rfl Tryz.ntmps138 (congrArg Array.toList Tryz.results138) (by simp) fun l V keep nx J hJd hY A0 hA0 => ?_
 refine za (zC (some []) (Row.pures [0, 1, 2, 3, 4, 5] (.alt 6 (.alt 7 (Row.pures [8] .done) .stop) .stop)) mixed trivial ?_)
 refine zI (WJ s) trivial ?_
 intro v0
 refine za (zb ?_)
 refine zz hmay ?_
 refine za (zb ?_)
 refine zz hse ?_
 by_cases hout : zJ x [s] = 1 ∨ s.c ∈ d.flatten.map (·.c) ∨ ¬ (d.flatten.map (·.c)).Nodup ∨ x.veh < d.length
 ·have hz : yO x d s = [] := by unfold yO; rw [if_pos hout]
  rw [hz] at hY ⊢
  by_cases h1 : fa = 1
  ·repeat apply za
   refine ze [(2, 30), (5, 33), (9, 37)] (zm h1 zL) ?_
   exact zo rfl (zg (vf (hJd _ _ hA0) rfl (by simpa using hA0)))
  cases h2 : th with
  | true =>
   repeat apply za
   refine ze [(2, 30), (5, 33), (9, 37)] (zm h1 zL) ?_
   exact zo rfl (zg (vf (hJd _ _ hA0) rfl (by simpa using hA0)))
  | false =>
   cases h3 : tw with
   | true =>
    repeat apply za
    refine ze [(2, 30), (5, 33), (9, 37)] (zm h1 zL) ?_
    exact zo rfl (zg (vf (hJd _ _ hA0) rfl (by simpa using hA0)))
   | false =>
    have h4 : x.veh < d.length := by
     rcases hout with e | e | e | e
     ·exact absurd (hfa.trans e) h1
     ·have : th = true := by rw [hth, List.contains_iff_mem]; exact e
      rw [h2] at this; cases this
     ·have : tw = true := by rw [htw']; exact decide_eq_true e
      rw [h3] at this; cases this
     ·exact e
    repeat apply za
    refine ze [(2, 30), (5, 33), (9, 37)] (zF h1 h4 zL) ?_
    exact zo rfl (zg (vf (hJd _ _ hA0) rfl (by simpa using hA0)))
 have h1 : ¬ fa = 1 := fun e => hout (.inl (hfa ▸ e))
 have h2 : th = false := by
  cases e : th with
  | false => rfl
  | true => rw [hth, List.contains_iff_mem] at e; exact absurd (.inr (.inl e)) hout
 have h3 : tw = false := by
  cases e : tw with
  | false => rfl
  | true => rw [htw'] at e; exact absurd (.inr (.inr (.inl (of_decide_eq_true e)))) hout
 have h4 : ¬ x.veh < d.length := fun e => hout (.inr (.inr (.inr e)))
 have hsm := ZcR hx (s := s) (fun e => hout (.inl e))
 obtain ⟨WW, hWW⟩ : ∃ WW : Nat → List Spot, WW = fun t => vk x t (d.getD t []) (zJ x (d.getD t [])) (yS x d) (qM (d.getD t [])) (qL x (d.getD t [])) s := ⟨_, rfl⟩
 obtain ⟨EE, hEE⟩ : ∃ EE : List Spot, EE = if yS x d = 0 ∧ zJ x [s] = 0 ∧ (d.length : Int) < x.veh then [⟨d.length, 0, W (zX x [s.c])⟩] else [] := ⟨_, rfl⟩
 have hz : yO x d s = (List.range d.length).flatMap WW ++ EE := by unfold yO; rw [if_neg hout, hWW, hEE]
 rw [hz] at hY ⊢
 subst h2 h3
 repeat apply za
 refine ze [(2, 30), (5, 33), (9, 37)] (zF h1 h4 zL) ?_
 refine zn rfl (zh ?_)
 repeat apply za
 refine zb ?_
 refine zj (jo (σ := Nat × Store) (fun s' => s'.1 ≤ d.length ∧ J ((List.range s'.1).flatMap WW).length s'.2) (fun s' => [(0, jl l), (1, .ip [I s.c, I s.q]), (2, .ip (wT x d on false (d.map (zJ x)) (yS x d) (d.map qM) (d.map (qL x)))), (4, .ptr nx v0 0), (5, I d.length), (6, I fa), (44, I d.length), (45, I s'.1)]) (fun s' => s'.2)
  (fun _ => [.cells v0 72 [L [s]]]) (fun s' => d.length - s'.1) (zP (0, A0) [] (by simpa using hA0) (by simp) rfl (by simp)) ?_)
 rintro ⟨k, A⟩ ⟨hk, hJ⟩
 simp only at hk hJ ⊢
 refine za (zb ?_)
 refine za (zr rfl (fun hc => ?_) (fun hc => ?_))
 ·simp at hc
  have hdk : d[k]? = some d[k] := List.getElem?_eq_getElem hc
  have hg : d.getD k [] = d[k] := by rw [List.getD_eq_getElem?_getD, hdk]; rfl
  have hb : zJ x d[k] = 13 → 0 < yS x d := by
   intro e
   rcases Nat.eq_zero_or_pos (yS x d) with q | q
   ·rw [Zl.1 q _ (List.getElem_mem hc)] at e; cases e
   ·exact q
  have hw := Zjz x d on false (d.map (zJ x)) (yS x d) (d.map qM) (d.map (qL x)) k d[k] s (zJ x d[k]) (qM d[k]) (qL x d[k]) (Nat.le_trans (Zcn x d) hdn) hdn hdk (by rw [List.getElem?_map, hdk]; rfl) (by rw [List.getElem?_map, hdk]; rfl) (by rw [List.getElem?_map, hdk]; rfl) (by simp) (by simp) (by simp) hb (hdo.t _ (List.getElem_mem hc)) (hdo.s _ (List.getElem_mem hc)) hsm
  have hWk : WW k = vk x k d[k] (zJ x d[k]) (yS x d) (qM d[k]) (qL x d[k]) s := by rw [hWW]; simp only [hg]
  rw [← hWk] at hw
  have hlen := ZjW WW k
  refine zh (za (zj (za (zb ?_))))
  refine za (zV [] (by rfl) (by rfl) fun K Gc Gh hK hGc hGh X hX0 hX => ?_)
  simp -implicitDefEqProofs [hX0, hX]
  try clear hX0 hX X
  refine hGc _ _ _ _ _ _ _ fun hsuf => ((Zcq hw keep hY _ (ZjV hc WW EE) hJ _).mono ?_)
  rintro _ _ ⟨A', rfl, hJ', rfl⟩
  rw [List.length_map, ← hlen] at hJ'
  refine ⟨_, _, rfl, ?_⟩
  clear hGc hGh
  clear Gc Gh
  refine zR hsuf (D := []) (by rfl) fun Gc Gh hGc hGh X hX0 hX => ?_
  simp -implicitDefEqProofs [hX0, hX]
  clear hX0 hX X
  refine hK _ _ _ ?_
  clear hK hGc hGh
  clear K Gc Gh
  refine zn rfl (zh (zb ?_))
  exact zp (k + 1, A') [] ⟨hc, hJ'⟩ (by simp; omega) (by simp [zt k (by omega)]) rfl (by simp)
 ·simp at hc
  obtain rfl : k = d.length := by omega
  refine zy ?_
  by_cases he : yS x d = 0 ∧ zJ x [s] = 0 ∧ (d.length : Int) < x.veh
  ·have hE : EE = [⟨d.length, 0, W (zX x [s.c])⟩] := by rw [hEE, if_pos he]
   obtain ⟨e1, e2, e3⟩ := he
   have hlw := QH x [s] (by simp) (by simpa using hsm)
   have h5 : fa = 0 := hfa.trans e2
   have hy : (((List.range d.length).flatMap WW ++ EE).map vM)[((List.range d.length).flatMap WW).length]? = some (vM ⟨d.length, 0, W (zX x [s.c])⟩) := by
    rw [List.getElem?_map, List.getElem?_append_right (Nat.le_refl _), Nat.sub_self, hE]; rfl
   simp only [List.map_cons, List.map_nil] at hlw
   refine za (ze [(3, 58), (7, 62)] (yi e1 h5 e3 zL) ?_)
   refine zo rfl (zV [] (by rfl) (by rfl) fun K Gc Gh hK hGc hGh X hX0 hX => ?_)
   simp -implicitDefEqProofs [hX0, hX]
   try clear hX0 hX X
   refine hGc _ _ _ _ _ _ _ fun hsuf => ((hlw _).mono ?_).v
   rintro _ _ ⟨rfl, rfl⟩
   refine ⟨_, _, rfl, ?_⟩
   clear hGc hGh
   clear Gc Gh
   refine zR hsuf (D := []) (by rfl) fun Gc Gh hGc hGh X hX0 hX => ?_
   simp -implicitDefEqProofs [hX0, hX]
   try clear hX0 hX X
   refine hGh _ _ _ _ _ fun hsuf => YE rfl rfl rfl (hY _ _ _ _ hy hJ) ?_
   rintro _ ⟨A', hJ', rfl⟩
   refine ⟨_, _, rfl, ?_⟩
   clear hGc hGh
   clear Gc Gh
   refine zR hsuf (D := []) (by rfl) fun Gc Gh hGc hGh X hX0 hX => ?_
   simp -implicitDefEqProofs [hX0, hX]
   try clear hX0 hX X
   refine hK _ _ _ ?_
   clear hK hGc hGh
   clear K Gc Gh
   exact vf (hJd _ _ hJ') rfl (by rw [List.length_map, List.length_append, hE]; exact hJ')
  ·have hE : EE = [] := by rw [hEE, if_neg he]
   have hfin : J (((List.range d.length).flatMap WW ++ EE).map vM).length A := by rw [hE, List.append_nil, List.length_map]; exact hJ
   by_cases e1 : yS x d = 0
   ·by_cases e2 : fa = 0
    ·have e3 : ¬ (d.length : Int) < x.veh := fun e => he ⟨e1, hfa ▸ e2, e⟩
     refine za (ze [(3, 58), (7, 62)] (yi e1 e2 e3 zL) ?_)
     exact zn rfl (zh (vf (hJd _ _ hJ) rfl hfin))
    ·refine za (ze [(3, 58), (7, 62)] (zF e1 e2 zL) ?_)
     exact zn rfl (zh (vf (hJd _ _ hJ) rfl hfin))
   ·refine za (ze [(3, 58), (7, 62)] (zm e1 zL) ?_)
    exact zn rfl (zh (vf (hJd _ _ hJ) rfl hfin))
open Go Go.Proofs
theorem ZcT (id v : Nat) (cs : List PV) (d : zi) : (d.flatMap Enc.enc).map (yZ id v cs) = (d.flatMap Enc.enc : List PV) := by
 induction d with
 | nil => rfl
 | cons l d ih => rw [List.flatMap_cons, List.map_append, ih]; rfl
theorem ZjY (id v : Nat) (cs : List PV) (d : zi) (t : Nat) (p : PV) : ((d.flatMap Enc.enc).set t p).map (yZ id v cs) = (d.flatMap Enc.enc : List PV).set t (yZ id v cs p) := by
 rw [List.map_set, ZcT]
theorem ZcU : ∀ (d : zi) (t : Nat) (l : zD), (d.flatMap Enc.enc : List PV).set t (L l) = (d.set t l).flatMap Enc.enc
 | [], t, l => rfl
 | m :: d, 0, l => rfl
 | m :: d, t + 1, l => by
  rw [List.set_cons_succ, List.flatMap_cons, List.flatMap_cons, ← ZcU d t l]
  rfl
theorem ZjZ {S : Store} {nx m : Nat} {obs : List Ob} (x y : Ob) (hm : m = nx + obs.length) : ((ext S nx obs).set (m + 3) x).set (m + 4) y = ext S nx (obs ++ [.dead, .dead, .dead, x, y]) := by
 subst hm
 rw [JX 3]
 have := jk (S := S) (nx := nx) (obs := obs ++ List.replicate 3 .dead ++ [x]) y
 simpa [Nat.add_assoc] using this
theorem Zj0 (d : zi) (hd0 : d.length ≤ 1048576) (hd1 : ∀ l ∈ d, l.length ≤ 1048576) (S : Store) (nx : Nat) (hd : zW nx S) :
  Spec Tryz.prog 100 [.agg [L d]] S (fun p S' => ∃ v, p = .agg [.sl (nx + 3) v 1 0 d.length] ∧ S' = S.set (nx + 3) (.cells v 72 (d.flatMap Enc.enc))) := by
 refine (W9 d d.length hd0 hd1 (by simp) S nx hd).mono ?_
 rintro _ _ ⟨v, ts, ob, ⟨h1, h2, -⟩, rfl, rfl⟩
 obtain ⟨rfl, rfl⟩ := h2 (Nat.le_refl _)
 rw [List.take_length]
 refine ⟨v, rfl, ?_⟩
 funext o
 by_cases h4 : o = nx + 4
 ·subst h4
  rw [Store.set_same, Store.set_other _ _ _ _ (by omega), hd _ (by omega)]
 ·rw [Store.set_other _ _ _ _ h4]
theorem Zj1 (cs : List PV) (i : Nat) (p q : PV) (h : i < cs.length) : ye (cs.set i p) i [q] = cs.set i q := by
 unfold ye
 rw [List.set_eq_take_append_cons_drop, if_pos h, List.set_eq_take_append_cons_drop, if_pos h]
 have hl : (cs.take i).length = i := by rw [List.length_take]; omega
 rw [List.take_append_of_le_length (by omega), List.take_of_length_le (by omega), List.drop_append, hl, List.drop_of_length_le (by rw [hl]; simp)]
 simp
theorem ZcV (id v sz k : Nat) (cs : List PV) (h : k * sz = cs.length) : yZ id v cs (.sl id v sz 0 k) = .lst k cs := by simp [yZ, h]
theorem Vj {α β : Type} {f : β → α → β} {b : β} {l : List α} {i : Nat} {a : α} (h : l[i]? = some a) : (l.take (i + 1)).foldl f b = f ((l.take i).foldl f b) a := by
 obtain ⟨hi, rfl⟩ := List.getElem?_eq_some_iff.1 h
 rw [List.take_succ_eq_append_getElem hi, List.foldl_append]; rfl
theorem Zj2 {x : Inst} {d : zi} {s : Stop} {b : Spot} (h : b ∈ yO x d s) (hb : b.t ≠ d.length) : ∃ l, d[b.t]? = some l ∧ 0 < l.length ∧ b.p ≤ l.length := by
 obtain ⟨-, -, -, -, h⟩ := QS h
 rcases h with ⟨l, hl, hi, ho, -⟩ | ⟨rfl, -⟩
 ·refine ⟨l, hl, ?_, hi⟩
  have hself : zJ x l = 0 ∨ zJ x l = 13 := by
   by_cases hf : zJ x l = 13
   ·exact .inr hf
   ·rw [if_neg hf] at ho
    exact .inl (Zl.1 (by omega) l (List.mem_of_getElem? hl))
  have hst : qn x l = true := by
   cases e : qn x l with
   | true => rfl
   | false => rw [Ve e] at hself; rcases hself with h | h <;> cases h
  exact List.length_pos_iff.2 (Xl hst)
 ·exact absurd rfl hb
theorem Zj3 {x : Inst} {d : zi} {s : Stop} {b : Spot} (h : b ∈ yO x d s) : b.t ≤ d.length := by
 obtain ⟨-, -, -, -, h⟩ := QS h
 rcases h with ⟨l, hl, -⟩ | ⟨rfl, -⟩
 ·exact Nat.le_of_lt (List.getElem?_eq_some_iff.1 hl).1
 ·exact Nat.le_refl _
theorem Vk (x : Inst) (d : zi) (s : Stop) (hx : x.cust.length ≤ 1048576) (hdo : DayOk d) (hf : d.flatten.length ≤ 1000000) : Pure Tryz.prog 57 [.agg (zA x), .agg [L d], .agg [I s.c, I s.q]] (.tup [.agg [L (yC x d s).1], B (yC x d s).2]) := by
 have hit := ZcS x d s hx hdo (by omega)
 have hsee := Zco x d hx hdo (by omega)
 have hmem := fun h => Xj (l := yO x d s) h
 have hle : ∀ b ∈ yO x d s, b.t ≤ d.length := fun b hb => Zj3 hb
 have htour : ∀ b ∈ yO x d s, b.t ≠ d.length → ∃ l, d[b.t]? = some l ∧ 0 < l.length ∧ b.p ≤ l.length := fun b hb => Zj2 hb
 have hins : yC x d s = bif (xY (yO x d s)).2 then (qS d (xY (yO x d s)).1 s, true) else (d, false) := rfl
 have hsF := Zcl (vK x d) s rfl
 rw [hins]
 clear hins
 generalize yO x d s = xs at *
 generalize hlk : vK x d = lk at *
 have hdn := hdo.n
 have hd1 : ∀ l ∈ d, l.length ≤ 1000000 := fun l hl => Nat.le_trans (vN hl).length_le hf
 refine zx Tryz.func57 Tryz.ntmps57 Tryz.results57 fun S nx hd => ?_
 refine za (zb ?_)
 intro v0 v1 v2 v3
 refine za (zb ?_)
 intro v4 v5
 repeat apply za
 refine zC none (Row.pures [0, 1, 2, 3, 4] .done) mixed trivial ?_
 refine zI (hsee) trivial ?_
 refine zI (hsF) trivial ?_
 refine zj (YF (xs := xs.map vM) (σ := Spot × Bool) (fun i st => st = (xs.take i).foldl up (⟨0, 0, 0⟩, false)) [(3, .ptr nx v0 0), (4, .ptr (nx + 1) v1 0), (5, .ptr (nx + 2) v2 0), (6, .ptr (nx + 3) v3 0), (8, .ptr (nx + 4) v4 0), (9, .ptr (nx + 5) v5 0)] (fun _ => S)
  (fun (b, found) => [.cells v0 25 (zA x), .cells v1 58 [L d], .cells v2 35 [I s.c, I s.q], .cells v3 58 [yG], .cells v4 136 [I b.t, I b.p, I b.m], .cells v5 4 [B found]]) (⟨0, 0, 0⟩, false)
  hit rfl (by intro x hx; obtain ⟨y, _, rfl⟩ := List.mem_map.1 hx; rfl) (by decide) (by simp) (by simp) rfl (by simp) (by simp) ?_ ?_)
 ·rintro l i ⟨b, found⟩ more y hst hy
  simp only at hst ⊢
  rw [List.getElem?_map] at hy
  obtain ⟨p, hp, rfl⟩ := Option.map_eq_some_iff.1 hy
  have hsucc := Vj (f := up) (b := (⟨0, 0, 0⟩, false)) hp
  rw [← hst] at hsucc
  unfold up at hsucc
  simp only at hsucc
  refine zb ?_
  intro v6
  refine zj ?_
  cases found with
  | false =>
   rw [if_pos (.inl rfl)] at hsucc
   refine za (ze [(2, 21)] zL ?_)
   refine zo rfl (zb ?_)
   simp only [qX]
   exact xF (p, true) [_] hsucc.symm rfl (by simp; rfl)
  | true =>
   by_cases hm : p.m < b.m
   ·rw [if_pos (.inr hm)] at hsucc
    refine za (ze [(2, 21)] (zm hm zL) ?_)
    refine zo rfl (zb ?_)
    simp only [qX]
    exact xF (p, true) [_] hsucc.symm rfl (by simp; rfl)
   ·rw [if_neg (by simp [hm])] at hsucc
    refine za (ze [(2, 21)] (zm hm zL) ?_)
    refine zn rfl (zh ?_)
    simp only [qX]
    exact xF (b, true) [_] hsucc.symm rfl (by simp; rfl)
 ·rintro ⟨b, found⟩ hst
  simp only [List.length_map, List.take_length] at hst ⊢
  have hbz : xY xs = (b, found) := hst.symm
  rw [hbz] at hmem ⊢
  simp only at hmem ⊢
  cases found with
  | false =>
   simp only [cond_false]
   refine za (zb ?_)
   refine zz (Zjv d hdn (fun l hl => Nat.le_trans (hd1 l hl) (by decide))) ?_
   refine za (zj (za (zb ?_)))
   refine zo rfl (za (zb ?_))
   exact zg (zk hd (by simp; rfl) (by simp [zq]))
  | true =>
   have hb := hmem rfl
   have hbl := hle b hb
   simp only [cond_true]
   by_cases hbt : b.t = d.length
   ·have hpd : qS d b s = d ++ [[s]] := by unfold qS; rw [if_pos hbt]
    rw [hpd]
    have hfl : (d.flatMap Enc.enc : List PV).length = d.length := jp d
    have htk : (d.flatMap Enc.enc : List PV).take d.length = d.flatMap Enc.enc := List.take_of_length_le (by omega)
    have hsn : ((d ++ [[s]]).flatMap Enc.enc : List PV) = d.flatMap Enc.enc ++ [L [s]] := by rw [List.flatMap_append]; rfl
    refine za (zV [] (by rfl) (by rfl) fun K Gc Gh hK hGc hGh X hX0 hX => ?_)
    simp -implicitDefEqProofs [hX0, hX]
    try clear hX0 hX X
    refine hGc _ _ _ _ _ _ _ fun hsuf => ((Zj0 d hdn (fun l hl => Nat.le_trans (hd1 l hl) (by decide)) _ _ jO).mono ?_).v
    rintro _ _ ⟨v7, rfl, rfl⟩
    refine ⟨_, _, JX 3 _, ?_⟩
    clear hGc hGh
    clear Gc Gh
    refine zR hsuf (D := []) (by rfl) fun Gc Gh hGc hGh X hX0 hX => ?_
    simp -implicitDefEqProofs [hX0, hX, Nat.add_assoc]
    clear hX0 hX X
    refine hK _ _ _ ?_
    clear hK hGc hGh
    clear K Gc Gh
    generalize hds : (d.flatMap Enc.enc : List PV) = ds at *
    refine za (zj (za (zb ?_)))
    refine zn rfl (za (zb ?_))
    refine zo (by simp; omega) ?_
    refine zC (some [nx + 2]) (Row.pures [0, 2, 3, 4] (.alt 1 (.alt 5 (Row.pures [6] (.alt 7 (.done) .stop)) .stop) .stop)) mixed (zm hfl htk) ?_
    refine zI (WJ s) (zm hfl htk) ?_
    refine ⟨by omega, ?_⟩
    refine yc 9 rfl ?_
    refine za (zb ?_)
    exact zg (zk hd (by simp; rfl) (by simp [zq, hfl, hds]))
   ·obtain ⟨l, hl, hl0, hp⟩ := htour b hb hbt
    have hblt : b.t < d.length := by omega
    have hpd : qS d b s = d.set b.t (jm l b.p s) := by unfold qS; rw [if_neg hbt, List.getD_eq_getElem?_getD, hl]; rfl
    have hl1 := hd1 l (List.mem_of_getElem? hl)
    rw [hpd]
    refine za (zV [] (by rfl) (by rfl) fun K Gc Gh hK hGc hGh X hX0 hX => ?_)
    simp -implicitDefEqProofs [hX0, hX]
    try clear hX0 hX X
    refine hGc _ _ _ _ _ _ _ fun hsuf => ((Zjw d b.t l hdn (fun l hl => Nat.le_trans (hd1 l hl) (by decide)) hl hl0 _ _ jO).mono ?_).v
    rintro _ _ ⟨v7, w7, rfl, rfl⟩
    refine ⟨_, _, ZjZ _ _ rfl, ?_⟩
    clear hGc hGh
    clear Gc Gh
    refine zR hsuf (D := []) (by rfl) fun Gc Gh hGc hGh X hX0 hX => ?_
    simp -implicitDefEqProofs [hX0, hX, Nat.add_assoc]
    clear hX0 hX X
    refine hK _ _ _ ?_
    clear hK hGc hGh
    clear K Gc Gh
    refine za (zj (za (zb ?_)))
    refine zn rfl (za (zb ?_))
    refine zn (by simp; omega) ?_
    refine za (ze [] hblt ?_)
    refine vE (some [nx + 4, nx + 2]) (Row.pures [0, 1, 2, 3, 5, 6, 7, 8] (.alt 4 (.alt 9 (Row.pures [10, 11] (.alt 12 (.done) .stop)) .stop) .stop)) mixed (by rfl) (by rfl) (by rfl) fun K Gp Gc Gh hK hGp hGc hGh X hX0 hX1 hX2 hX => ?_
    simp -implicitDefEqProofs [hX0, hX1, hX2, hX, hblt]
    try clear hX0 hX1 hX2 hX X
    refine hGc _ _ _ _ _ _ _ ?_
    refine ((Zjs l b.p s hp hl1 (by simp)).mono ?_).v
    rintro _ _ ⟨rfl, rfl⟩
    have hcl : ((jm l b.p s).flatMap Enc.enc : List PV).length = (l.length + 1) * 2 := by
     have e := (QU l s b.p).length_eq
     rw [Zf, e]; simp
    have hLi : L (jm l b.p s) = .lst (l.length + 1) ((jm l b.p s).flatMap Enc.enc) := by
     have e := (QU l s b.p).length_eq
     show PV.lst _ _ = _
     rw [e]; rfl
    rw [show l.take b.p ++ s :: l.drop b.p = jm l b.p s from rfl]
    generalize hcs : ((jm l b.p s).flatMap Enc.enc : List PV) = cs at *
    rw [y9 _ (by omega) (by simp), Nat.add_sub_cancel_left]
    refine ⟨by simp [yF], ?_⟩
    clear hGp hGc hGh
    clear Gp Gc Gh
    refine j3 fun Gp Gc Gh hGp hGc hGh X hX0 hX1 hX2 hX => ?_
    simp -implicitDefEqProofs [hX0, hX1, hX2, hX, hblt]
    try clear hX0 hX1 hX2 hX X
    refine ⟨by omega, ?_⟩
    refine hK _ _ _ ?_
    clear hK hGp hGc hGh
    clear K Gp Gc Gh
    rw [Zj1 _ _ _ _ (by rw [jp]; exact hblt)]
    have e10 : yZ (nx + 10) (w7 + 1) cs (.sl (nx + 10) (w7 + 1) 2 0 (l.length + 1)) = L (jm l b.p s) := by
     rw [ZcV _ _ _ _ _ hcl.symm, hLi]
    have e9 : yZ (nx + 9) v7 ((d.set b.t (jm l b.p s)).flatMap Enc.enc) (.sl (nx + 9) v7 1 0 d.length) = L (d.set b.t (jm l b.p s)) := by
     rw [ZcV _ _ _ _ _ (by rw [jp]; simp)]
     show _ = PV.lst _ _
     rw [List.length_set]
    have n9 : yZ (nx + 10) (w7 + 1) cs (.sl (nx + 9) v7 1 0 d.length) = .sl (nx + 9) v7 1 0 d.length := by
     simp only [yZ]; rw [if_neg (by omega)]
    refine yc 10 rfl ?_
    simp only [List.map_cons, List.map_nil, List.set_cons_succ, List.set_cons_zero, jP, ZjY, e10, ZcU, n9]
    refine yc 9 rfl ?_
    simp only [List.map_cons, List.map_nil, List.set_cons_succ, List.set_cons_zero, jP, e9]
    refine za (ze [] (zm e9 n9) ?_)
    exact zg (zk hd (by simp; rfl) (by simp [zq]))
open Go Go.Proofs
theorem ZcW {α : Type} (f : Nat → List α) (m : Nat) : ∀ n, (∀ t, t < n → (f t).length ≤ m) → ((List.range n).flatMap f).length ≤ n * m
 | 0, _ => by simp
 | n + 1, h => by
  rw [List.range_succ, List.flatMap_append, List.length_append]
  have h1 := ZcW f m n fun t ht => h t (by omega)
  have h2 := h n (by omega)
  simp only [List.flatMap_cons, List.flatMap_nil, List.append_nil]
  rw [Nat.add_mul, Nat.one_mul]; omega
theorem Zj4 {d : zi} (h1 : d.length ≤ 1000000) (h2 : d.flatten.length ≤ 1000000) : (Zm d).length ≤ 1000001 * 1000001 := by
 unfold Zm
 refine Nat.le_trans (ZcW _ 1000001 _ fun t _ => ?_) (Nat.mul_le_mul_right _ (by omega))
 rw [List.length_map, List.length_range, List.getD_eq_getElem?_getD]
 cases hq : d[t]? with
 | none => simp
 | some l =>
  have := (vN (List.mem_of_getElem? hq)).length_le
  simp only [Option.getD_some]; omega
theorem Zj5 {x : Inst} {d : zi} {s : Stop} (hd : yq x d = 0) (h1 : d.length ≤ 1000000) (h2 : d.flatten.length ≤ 1000000) : (yO x d s).length ≤ 1000001 * 1000001 := by
 rw [ZjN hd]; exact Nat.le_trans (List.length_filterMap_le _ _) (Zj4 h1 h2)
theorem Zj6 (cs : List PV) (v : PV) (h : 0 < cs.length) : ye cs (cs.length - 1) [v] = cs.set (cs.length - 1) v := by
 unfold ye
 rw [List.set_eq_take_append_cons_drop, if_pos (by omega)]; simp
theorem ZcX : ∀ (l : List Int) (k : Nat) (v : Int), (l.flatMap Enc.enc : List PV).set k (I v) = (l.set k v).flatMap Enc.enc
 | [], k, v => rfl
 | a :: l, 0, v => rfl
 | a :: l, k + 1, v => by
  rw [List.set_cons_succ, List.flatMap_cons, List.flatMap_cons, ← ZcX l k v]
  rfl
theorem Zj7 (st : List Int × Int) (p : Spot) : (xp st p).1.length ≤ st.1.length + 1 := by
 unfold xp; split <;> simp
def Vl (st : List Int × Int) : Prop := st.2 = -1 ∨ 0 < st.1.length
theorem Zj8 {st : List Int × Int} (h : Vl st) (p : Spot) : Vl (xp st p) := by
 unfold xp
 split
 ·exact .inr (by simp)
 ·rename_i e
  rcases h with h | h
  ·exfalso; simp only [ne_eq] at e; omega
  ·exact .inr (by simpa using h)
theorem Zj9 (x : Inst) (d : zi) (s : Stop) (hx : x.cust.length ≤ 1048576) (hdo : DayOk d) (h0 : yq x d = 0) (h1 : d.length ≤ 1000000) (h2 : d.flatten.length ≤ 1000000) : Pure Tryz.prog 266 [.agg (vK x d), .agg [I s.c, I s.q]] (L (YU x d s)) := by
 have hit := ZcS x d s hx hdo (by omega)
 have hfold := ZjS (s := s) h0
 have hlen := Zj5 (s := s) h0 h1 h2
 have hml := ZjT x d s (d.length + 1)
 have hsF := Zcl (vK x d) s rfl
 unfold YU
 rw [← hfold] at hml ⊢
 clear hfold
 generalize yO x d s = xs at *
 obtain ⟨on, tw, fs, bd, ls, ws, hlk⟩ : ∃ on tw fs bd ls ws, vK x d = wT x d on tw fs bd ls ws := ⟨_, _, _, _, _, _, rfl⟩
 rw [hlk] at hit hsF ⊢
 clear hlk
 refine zx Tryz.func266 Tryz.ntmps266 Tryz.results266 fun S nx hd => ?_
 refine za (zb ?_)
 intro v0 v1
 refine za (zb ?_)
 intro v2
 refine za (zb ?_)
 intro v3
 repeat apply za
 refine zb ?_
 refine zz hsF ?_
 refine qQ 2 0 3 1 rfl rfl fun v4 => ?_
 refine zj (YF (xs := xs.map vM) (σ := (List Int × Int) × Nat) (fun i st => st.1 = (xs.take i).foldl xp ([], -1) ∧ Vl st.1 ∧ st.1.1.length ≤ i ∧ i ≤ xs.length) [(2, .ptr nx v0 0), (3, .ptr (nx + 1) v1 0), (5, .ptr (nx + 2) v2 0), (6, .ptr (nx + 3) v3 0)] (fun _ => S)
  (fun ((l, last), v4) => [.cells v0 140 (wT x d on tw fs bd ls ws), .cells v1 35 [I s.c, I s.q], .cells v2 45 [.sl (nx + 4) v4 1 0 l.length], .cells v3 3 [I last], .cells v4 3 (l.flatMap Enc.enc)]) (([], -1), v4)
  hit rfl (by intro x hx; obtain ⟨y, _, rfl⟩ := List.mem_map.1 hx; rfl) (by decide) (by simp) ⟨rfl, .inl rfl, by simp, by simp⟩ rfl (by simp) (by simp) ?_ ?_)
 ·rintro lp i ⟨⟨l, last⟩, v4⟩ more y ⟨hst, hok, hli, hi⟩ hy
  simp only at hst hok hli hi ⊢
  rw [List.getElem?_map] at hy
  obtain ⟨p, hp, rfl⟩ := Option.map_eq_some_iff.1 hy
  have hsucc := Vj (f := xp) (b := ([], -1)) hp
  rw [← hst] at hsucc
  have hok2 := Zj8 hok p
  have hln2 := Zj7 (l, last) p
  simp only at hln2
  have hil := (List.getElem?_eq_some_iff.1 hp).1
  have hdef : xp (l, last) p = xp (l, last) p := rfl
  conv at hdef => rhs; unfold xp
  simp only at hdef
  have hlf : (l.flatMap Enc.enc : List PV).length = l.length := q8 l
  have hlt : (l.flatMap Enc.enc : List PV).take l.length = l.flatMap Enc.enc := List.take_of_length_le (by omega)
  refine zb ?_
  intro v5
  refine zj ?_
  repeat apply za
  refine zb ?_
  by_cases hpl : (p.t : Int) = last
  ·have hl0 : 0 < l.length := by
    rcases hok with e | e
    ·simp only at e; omega
    ·exact e
   obtain ⟨m, hm⟩ : ∃ m, l.length = m + 1 := ⟨l.length - 1, by omega⟩
   obtain ⟨z, tz, z1, z2, z3, z0⟩ := zE rfl l m (by omega)
   rw [if_neg (by simp [hpl])] at hdef
   have hgz : l.getD (l.length - 1) 0 = z := by rw [hm, Nat.add_sub_cancel, List.getD_eq_getElem?_getD, z1]; rfl
   rw [hgz] at hdef
   have wm : IntKind.i64.wrap ((l.length : Int) - 1) = (m : Int) := by rw [wr _ (by omega) (by omega)]; omega
   have hml1 : m < l.length := by omega
   have hml2 : 1 ≤ l.length - m := by omega
   have hsp := Zj6 (l.flatMap Enc.enc) (I (if p.m < z then p.m else z)) (by omega)
   rw [hlf, ZcX] at hsp
   have hmin : vy z p.m = if p.m < z then p.m else z := rfl
   refine zn (by simp [hpl]) ?_
   refine zh ?_
   rw [show l.length - 1 = m by omega] at hsp
   refine zC (some [nx + 2, nx + (more.length + 5)]) (Row.pures [0, 1, 2, 3, 4, 5, 6, 7, 8, 10, 11] (.alt 9 (Row.pures [12, 13] (.alt 14 (.done) .stop)) .stop)) mixed (yh wm hml1 hml2 z0 hmin hlf) ?_
   refine ⟨by omega, ?_⟩
   simp only [qX]
   rw [hm, Nat.add_sub_cancel] at hdef
   rw [hdef] at hsucc hok2
   refine xF ((l.set m (if p.m < z then p.m else z), last), v4) [_] ⟨hsucc.symm, hok2, by simp; omega, by omega⟩ rfl (by simp [hsp]; rfl)
  ·rw [if_pos hpl] at hdef
   rw [hdef] at hsucc hok2 hln2
   have w0 : IntKind.i64.wrap (l.length : Int) = (l.length : Int) := wr _ (by omega) (by omega)
   have w2 : (l.length : Int) < (l.length : Int) + 1 := by omega
   have hmin : vy p.m p.m = p.m := by unfold vy; split <;> rfl
   have hat : (l.flatMap Enc.enc ++ [I p.m] : List PV)[l.length]? = some (I p.m) := by rw [List.getElem?_append_right (by omega), hlf, Nat.sub_self]; rfl
   have hdl : (l.flatMap Enc.enc ++ [I p.m] : List PV).drop l.length = [I p.m] := by rw [← hlf, List.drop_left]
   have hspl : ye (l.flatMap Enc.enc ++ [I p.m] : List PV) l.length [I p.m] = l.flatMap Enc.enc ++ [I p.m] := by
    unfold ye
    rw [← hlf, List.take_left, List.drop_of_length_le (by simp)]; simp
   refine zo (by simp [hpl]) ?_
   refine zC (some [nx + (more.length + 5)]) (Row.pures [1, 2, 3, 5, 6] (.alt 0 (.alt 4 (.alt 7 (.alt 8 (.done) .stop) .stop) .stop) .stop)) mixed (zm hlf hlt) ?_
   refine ⟨by omega, ?_⟩
   refine zC (some [nx + 2, nx + (more.length + 5)]) (Row.pures [0, 1, 2, 3, 4, 5, 6, 7, 8, 10, 11] (.alt 9 (Row.pures [12, 13] (.alt 14 (.done) .stop)) .stop)) mixed (qm w0 w2 hmin hat hlf) ?_
   simp only [qX]
   refine xF ((l ++ [p.m], (p.t : Int)), v4 + 1) [_] ⟨hsucc.symm, hok2, by simp; omega, by omega⟩ rfl (by simp [hspl]; rfl)
 ·rintro ⟨⟨l, last⟩, v4⟩ ⟨hst, -⟩
  simp only [List.length_map, List.take_length] at hst ⊢
  rw [← hst] at hml ⊢
  simp only at hml ⊢
  have hz4 := Zg l
  refine za (zV [] (by rfl) (by rfl) fun K Gc Gh hK hGc hGh X hX0 hX => ?_)
  simp -implicitDefEqProofs [hX0, hX]
  try clear hX0 hX X
  refine hGc _ _ _ _ _ _ _ fun hsuf => ((J6 l (by simp) (by omega)).mono ?_).v
  rintro _ _ rfl
  refine ⟨_, _, y9 _ (by omega) (by simp), ?_⟩
  clear hGc hGh
  clear Gc Gh
  refine zR hsuf (D := []) (by rfl) fun Gc Gh hGc hGh X hX0 hX => ?_
  simp -implicitDefEqProofs [hX0, hX, (show nx + 4 - nx = 4 by omega)]
  clear hX0 hX X
  refine hK _ _ _ ?_
  clear hK hGc hGh
  clear K Gc Gh
  generalize yM l = c at *
  rw [← hz4]
  refine yc 4 rfl ?_
  refine za (zb ?_)
  exact zg (zk hd (by simp; rfl) rfl)
open Go Go.Proofs Go.Shelf Go.RowKit Go.Lib
theorem Zka {P : Program} (b o : Nat) (vs : List Value) (w : World) (cur : Array Value) (t : TypeId) (hw : w.heap[b]? = some (.cells cur t (0, 0))) (hl : o + vs.length ≤ cur.size) (h1 : ∀ v ∈ vs, v.oneCell' = true) :
  w.setCells b o vs = w.setRow b (cur.toList.take o ++ vs ++ cur.toList.drop (o + vs.length)).toArray := by
 have a := run_storeCells_cells (P := P) b o vs 0 w (fun j hj => by simp [World.cell?, hw]; omega) (fun j _ => by simp [World.frozen?, hw]) h1
 have c := run_storeCells_at (P := P) b o t vs 0 cur w hw (by simpa using hl) h1
 rw [a] at c
 simpa using c
theorem Zkb (zc : Array Value) : (Builtin.zeroCells zc 1).toList = zc.toList := by
 apply List.ext_getElem
 ·simp [Builtin.zeroCells]
 ·intro i h1 h2
  simp [Builtin.zeroCells, Nat.mod_eq_of_lt (show i < zc.size by simpa using h2)]
  exact getElem!_pos zc i (by simpa using h2)
theorem Zkc {P : Program} (w : World) (t e ty : TypeId) (zc : Array Value) (ht : P.underlying t = some (.slice e)) (hv : ∀ w, (zeroValue e).run P w = .ok (.agg zc) w) (h1 : ∀ v ∈ zc.toList, v.oneCell' = true) (b o c : Nat) (cur : Array Value) (t' : TypeId) (hw : w.heap[b]? = some (.cells cur t' (0, 0))) (hl : o + zc.size ≤ cur.size) :
  (Builtin.clear_ #[t] ty #[.slice (some ⟨b, o, none⟩) 1 c]).run P w = .ok (.tuple #[]) (w.setRow b (cur.toList.take o ++ zc.toList ++ cur.toList.drop (o + zc.size)).toArray) := by
 have c := run_storeCells_at (P := P) b o t' zc.toList 0 cur w hw (by simpa using hl) h1
 simp only [Nat.add_zero, Array.length_toList] at c
 simp [Builtin.clear_, run_underlying ht, hv, Zkb, c]
theorem Zkd (b n c i : Nat) (V : List Value) (w : World) (i0 : TypeInfo) (hi0 : Tryz.prog.info? 35 = some i0) (hzs : i0.size = 2) (cur : Array Value) (hcur : w.heap[b]? = some (.cells cur 35 (0, 0))) (hcc : cur.size = c * 2)
  (hi : i < n) (hnc : n ≤ c) (hc63 : c ≤ 9223372036854775807) (hn : n ≤ 1048576) (hV : V.length = n * 2) (hcV : cur.toList.take (n * 2) = V) (h1 : ∀ v ∈ V, v.oneCell' = true) (R1 R2 : Array Value)
  (hR1 : R1 = (cur.toList.take (i * 2) ++ V.drop ((i + 1) * 2) ++ cur.toList.drop (i * 2 + (V.drop ((i + 1) * 2)).length)).toArray) (hR2 : R2 = (R1.toList.take ((i + (n - (i + 1))) * 2) ++ ([.int .i64 0, .int .i64 0] : List Value) ++ R1.toList.drop ((i + (n - (i + 1))) * 2 + 2)).toArray) :
  Calls Tryz.prog 244 #[.slice (some ⟨b, 0, none⟩) n c, .int .i64 i, .int .i64 ((i : Int) + 1)] w fun e w' =>
   e = .returned (.slice (some ⟨b, 0, none⟩) (i + (n - (i + 1))) c) ∧ w' = (w.drew.setRow b R1).setRow b R2 := by
 obtain ⟨news, hnews⟩ : ∃ news, news = V.drop ((i + 1) * 2) := ⟨_, rfl⟩
 have hlen : news.length = (n - (i + 1)) * 2 := by rw [hnews, List.length_drop, hV]; omega
 have hget : ∀ t u, news[t]? = some u → w.drew.cell? ⟨b, (i + 1) * 2 + t, none⟩ = some u := by
  intro t u hu
  rw [hnews, List.getElem?_drop, ← hcV, List.getElem?_take] at hu
  split at hu
  ·rw [Array.getElem?_toList] at hu
   show w.cell? _ = _
   simp [World.cell?, hcur, hu]
  ·cases hu
 obtain ⟨A, hA, hsrc⟩ : ∃ A : Addr, (if c = i + 1 then some (⟨b, 0, none⟩ : Addr) else some ⟨b, (i + 1) * 2, none⟩) = some A ∧ Hid (∀ t u, news[t]? = some u → w.drew.cell? (A.add t) = some u) := by
  by_cases h : c = i + 1
  ·refine ⟨⟨b, 0, none⟩, by simp [h], fun t u hu => ?_⟩
   have h0 : news.length = 0 := by rw [hlen]; omega
   rw [List.length_eq_zero_iff.1 h0] at hu
   simp at hu
  ·refine ⟨⟨b, (i + 1) * 2, none⟩, by simp [h], fun t u hu => ?_⟩
   rw [Addr.add_lit]
   exact hget t u hu
 have s1 : Hid (news.length = (n - (i + 1)) * 2) := hlen
 have s2 : Hid (∀ u ∈ news, u.oneCell' = true) := fun u hu => h1 u (by rw [hnews] at hu; exact List.mem_of_mem_drop hu)
 have s3 : Hid (∀ t, t < news.length → (w.drew.cell? ⟨b, 0 + i * 2 + t, none⟩).isSome = true ∧ w.drew.frozen? ⟨b, 0 + i * 2 + t, none⟩ = false) := by
  intro t ht
  rw [hlen] at ht
  refine ⟨?_, ?_⟩
  ·show (w.cell? _).isSome = true
   simp [World.cell?, hcur]; omega
  ·show w.frozen? _ = false
   simp [World.frozen?, hcur]
 obtain ⟨W1, hW1⟩ : ∃ W1, W1 = w.drew.setCells b (0 + i * 2) news := ⟨_, rfl⟩
 have hW1' : W1 = w.drew.setRow b R1 := by
  rw [hW1, Zka (P := Tryz.prog) b (0 + i * 2) news w.drew cur 35 hcur (by rw [hlen, hcc]; omega) s2, hR1, hnews, Nat.zero_add]
 have hW1h : W1.heap[b]? = some (.cells R1 35 (0, 0)) := by rw [hW1']; exact setRow_heap _ _ _ _ _ _ hcur
 have hR1s : R1.size = c * 2 := by rw [hR1, ← hnews]; simp [hlen]; omega
 have hcl : ∀ ty, (Builtin.clear_ #[31] ty #[.slice (some ⟨b, (i + (n - (i + 1))) * 2, none⟩) (n - (i + (n - (i + 1)))) (c - (i + (n - (i + 1))))]).run Tryz.prog W1 = .ok (.tuple #[]) (W1.setRow b R2) := fun ty => by
  have := Zkc (P := Tryz.prog) W1 31 35 ty #[.int .i64 0, .int .i64 0] Tryz.underlying31 Tryz.zeroValue35 (by intro v hv; simp at hv; rcases hv with rfl | rfl <;> rfl) b ((i + (n - (i + 1))) * 2) (c - (i + (n - (i + 1)))) R1 35 hW1h (by simp; omega)
  rw [show n - (i + (n - (i + 1))) = 1 by omega, this, hR2]
  simp
 have hW : Hid (W1 = w.drew.setCells b (0 + i * 2) news) := hW1
 have hX : Hid (W1 = w.drew.setRow b R1) := hW1'
 clear hW1 hW1' hW1h hR1 hR2 hR1s hcur hcV hget hnews hlen h1 hV hcc
 have hic : i ≤ c := by omega
 have hjc : i + 1 ≤ c := by omega
 have hin : i ≤ n := by omega
 have hjn : i + 1 ≤ n := by omega
 have hne : ¬ (i : Int) = (i : Int) + 1 := by omega
 have hb1 : (0 : Int) ≤ (i : Int) + 1 := by omega
 have htn : ((i : Int) + 1).toNat = i + 1 := by omega
 have hb2 : (i : Int) + 1 ≤ (n : Int) := by omega
 have hb3 : (i : Int) ≤ (i : Int) + 1 := by omega
 have hcn : ¬ c = i + (n - (i + 1)) := by omega
 have hnn : i + (n - (i + 1)) ≤ n := by omega
 have mixed : Tryz.prog.follows .mixedOrders = true := by kernel_rfl
 go_enter Tryz.func244, Tryz.ntmps244
 go_wp2_with fail
 go_region_law_o (refine step_append_room rfl (.tmp 22) (.tmp 25) 31 rfl 35 i0 2 Tryz.underlying31 hi0 hzs b 0 i c (by simp [Act.eval, Act.put]) A (n - (i + 1)) (c - (i + 1)) news (by simp [Act.eval, Act.put]) s1.out hsrc.out s2.out (by omega) s3.out ?_; rw [← hW.out])
 go_wp2
 go_ret
 exact ⟨rfl, by rw [hX.out]⟩
theorem Zke (l : List Stop) (i : Nat) (h : i < l.length) : yf (l.eraseIdx i) = (yf l).take (i * 2) ++ (yf l).drop ((i + 1) * 2) := by
 rw [List.eraseIdx_eq_take_drop_succ, J7, ZbF l i (by omega), ZbG l (i + 1) (by omega)]
theorem Zkf {S : Store} {id ver : Nat} (cs : List Stop) (i : Nat) (hi : i < cs.length) (hn : cs.length ≤ 1000000) (hid : S id = .cells ver 35 (cs.flatMap Enc.enc)) :
  Spec Tryz.prog 244 [.sl id ver 2 0 cs.length, I i, I ((i : Int) + 1)] S (fun p S' => p = .sl id (ver + 1) 2 0 (cs.eraseIdx i).length ∧ S' = S.set id (.cells (ver + 1) 35 ((cs.eraseIdx i).flatMap Enc.enc))) := by
 refine ⟨qE Tryz.func244 (by rfl) rfl, ?_⟩
 intro C w vs hS hl hr
 obtain ⟨u, v, x, rfl⟩ := ZbH hl
 obtain rfl := ZO (hr 1 _ v rfl rfl)
 obtain rfl := ZO (hr 2 _ x rfl rfl)
 have hu := hr 0 _ u rfl rfl
 have hvl : (yf cs).length = cs.length * 2 := YK cs
 have hel : (cs.eraseIdx i).length = i + (cs.length - (i + 1)) := by rw [List.length_eraseIdx_of_lt hi]; omega
 have hnew := Zke cs i hi
 have hnl : (yf (cs.eraseIdx i)).length = (i + (cs.length - (i + 1))) * 2 := by rw [YK, hel]
 rw [ZbE] at hid ⊢
 rw [hel]
 generalize cs.eraseIdx i = es at *
 obtain ⟨i0, hi0⟩ := Option.isSome_iff_exists.1 Wz
 have hc := Wy
 simp only [Program.cellsOf, hi0, Option.map_some, Option.getD_some] at hc
 cases hu with
 | sl h1 h2 h3 =>
  obtain ⟨ad, cap, rfl, q1, q2, q3, q4⟩ := h1
  have hloc := (h3 ver (by rw [hid]; rfl)).2 rfl
  rcases hS.cells id ver _ _ hid with ⟨hno, hnil⟩ | ⟨b, k, c, g1, g2, g3, g4, g5, g6⟩
  ·have := congrArg List.length hnil
   simp [hvl] at this
   exfalso; omega
  rcases hloc with ⟨z1, _⟩ | ⟨b', k', ad', cap', z1, z2, z3, z4⟩
  ·rw [g1] at z1; cases z1
  rw [g1] at z1; cases z1; cases z2
  obtain ⟨rfl, hcap⟩ := z3 rfl
  rw [List.length_map, hvl] at g4
  have hcells : ∀ (j : Nat) v, (yf cs)[j]? = some v → c[j]? = some v := by
   intro j v hj
   have hjl := (List.getElem?_eq_some_iff.1 hj).1
   have e2 : c[j]? = some c[j] := Array.getElem?_eq_getElem (by omega)
   have := g6 j (.sc v) _ (by rw [List.getElem?_map, hj]; rfl) e2
   rw [e2]
   generalize c[j] = y at this
   cases this; rfl
  have hcur : c.toList.take (cs.length * 2) = yf cs := by
   apply List.ext_getElem?
   intro j
   by_cases hj : j < cs.length * 2
   ·rw [List.getElem?_take_of_lt hj, Array.getElem?_toList]
    have e : (yf cs)[j]? = some (yf cs)[j] := List.getElem?_eq_getElem (by omega)
    rw [e, hcells j _ e]
   ·rw [List.getElem?_eq_none (by simp; omega), List.getElem?_eq_none (by omega)]
  have hcsz : c.size = cap * 2 := g3.trans hcap.symm
  have hdl : ((yf cs).drop ((i + 1) * 2)).length = (cs.length - (i + 1)) * 2 := by rw [List.length_drop, hvl]; omega
  obtain ⟨R1, hR1⟩ : ∃ R1 : Array Value, R1 = (c.toList.take (i * 2) ++ (yf cs).drop ((i + 1) * 2) ++ c.toList.drop (i * 2 + ((yf cs).drop ((i + 1) * 2)).length)).toArray := ⟨_, rfl⟩
  obtain ⟨R2, hR2⟩ : ∃ R2 : Array Value, R2 = (R1.toList.take ((i + (cs.length - (i + 1))) * 2) ++ ([.int .i64 0, .int .i64 0] : List Value) ++ R1.toList.drop ((i + (cs.length - (i + 1))) * 2 + 2)).toArray := ⟨_, rfl⟩
  have htk : c.toList.take (i * 2) = (yf cs).take (i * 2) := by rw [← hcur, List.take_take, Nat.min_eq_left (by omega)]
  have hR1l : R1.toList.take ((i + (cs.length - (i + 1))) * 2) = yf es := by
   rw [hR1]
   simp only []
   rw [htk, ← hnew, ← hnl, List.take_left]
  have hR1s : R1.size = cap * 2 := by rw [hR1]; simp [hdl]; omega
  have hR2l : R2.toList = yf es ++ (([.int .i64 0, .int .i64 0] : List Value) ++ R1.toList.drop ((i + (cs.length - (i + 1))) * 2 + 2)) := by
   rw [hR2, hR1l]
   simp
  have hR2s : R2.size = cap * 2 := by
   rw [← Array.length_toList, hR2l]
   simp [hnl, hR1s]
   omega
  refine (Zkd b cs.length cap i (yf cs) w i0 hi0 hc c g2 hcsz hi q1 (by unfold maxLen at q3; omega) (by omega) hvl hcur (YL cs) R1 R2 hR1 hR2).mono ?_
  rintro e w' ⟨rfl, rfl⟩
  obtain ⟨r1, r2⟩ := WH (C := C) (S := S) (w := w) hR2l (YL _)
  have hb1 := setRow_heap w.drew b c R1 _ _ g2
  obtain ⟨t1, t2⟩ := hS.turn (l := some (b, cap * 2)) (ver' := ver + 1) (cs' := (yf es).map .sc) hid (by omega) (fun h => absurd h (by omega)) (w' := (w.drew.setRow b R1).setRow b R2)
   (by
    rw [g1]
    refine ⟨⟨rfl, rfl, rfl, by simp [World.setRow], fun j hj hne => ?_⟩, Nat.le_succ _⟩
    have hjb : j ≠ b := fun e => hne (by rw [e]; rfl)
    rw [setRow_other _ _ _ _ hjb, setRow_other _ _ _ _ hjb]; rfl)
   (.inr ⟨b, cap * 2, R2, rfl, .inr (by rw [g1]; rfl), setRow_heap _ _ _ _ _ _ hb1, hR2s, by rw [List.length_map, hnl]; omega, r1, r2⟩)
  refine ⟨_, _, _, _, rfl, ⟨rfl, rfl⟩, ?_, t1, t2⟩
  refine .sl ⟨_, _, rfl, by omega, by unfold jn; omega, q3, fun _ => ⟨_, _, rfl⟩⟩ ⟨h2.1, by simp only [Ctx.at]; omega⟩ fun v0 hv0 => ?_
  rw [Store.set_same] at hv0; cases hv0
  exact ⟨Nat.le_refl _, fun _ => .inr ⟨b, _, _, _, by simp [Ctx.at], rfl, fun _ => ⟨rfl, rfl⟩, fun _ => rfl⟩⟩
open Go Go.Proofs
def ZZ (c : Int) (l : List Stop) : Int := ((l.filter fun s => decide (s.c = c)).map (·.q)).sum
theorem Zkg (c : Int) (d : zi) : ZcB c d = W (ZZ c d.flatten) := rfl
theorem Zkh (c : Int) (l : List Stop) (s : Stop) : ZZ c (l ++ [s]) = ZZ c l + if s.c = c then s.q else 0 := by
 unfold ZZ
 rw [List.filter_append, List.map_append, List.sum_append]
 by_cases h : s.c = c <;> simp [h]
theorem Zki (c : Int) (l : List Stop) (s : Stop) : j7 c (l ++ [s]) = j7 c l ++ if s.c = c then [] else [s] := by
 unfold j7
 rw [List.filter_append]
 by_cases h : s.c = c <;> simp [h]
theorem Zkj (c : Int) (d : zi) (t : zD) : ju c (d ++ [t]) = ju c d ++ if (j7 c t).length = 0 then [] else [j7 c t] := by
 rw [ZjH]
 congr 1
 unfold ju
 rw [List.map_cons, List.map_nil]
 generalize j7 c t = u
 cases u <;> simp
theorem Vm (c : Int) (t : zD) : (j7 c t).length ≤ t.length := List.length_filter_le _ _
theorem ZcY (c : Int) (d : zi) : (ju c d).length ≤ d.length := by
 unfold ju
 exact Nat.le_trans (List.length_filter_le _ _) (by simp)
theorem Zkk (d : zi) (c : Int) (hdn : d.length ≤ 1048576) (hdt : ∀ t ∈ d, t.length ≤ 1048576) : Pure Tryz.prog 54 [.agg [L d], I c] (.tup [.agg [L (ju c d)], I (ZcB c d)]) := by
 rw [Zkg]
 refine zx Tryz.func54 Tryz.ntmps54 Tryz.results54 fun S nx hd => ?_
 refine za (zb ?_)
 intro v0 v1
 refine za (zb ?_)
 intro v2
 refine qQ 2 0 72 1 rfl rfl fun v3 => ?_
 refine za (zb ?_)
 repeat apply za
 refine zb ?_
 refine zj (zG (fun (s : Nat × Nat) => s.1 ≤ d.length) (fun (k, v3) => [(1, I c), (4, .ptr (nx + 1) v1 0), (6, .ptr (nx + 2) v2 0), (7, I (W (ZZ c (d.take k).flatten))), (14, L d), (15, I d.length), (16, I k)]) (fun (k, v3) => [.cells v0 58 [L d], .cells v1 58 [yG], .cells v2 58 [.sl (nx + 3) v3 1 0 (ju c (d.take k)).length], .cells v3 72 ((ju c (d.take k)).flatMap Enc.enc)]) (fun s => d.length - s.1) (0, v3) [] (by simp) (by simp [ZZ]) (by simp [ju]) ?_)
 rintro ⟨k, v3⟩ hk
 simp only at hk ⊢
 refine za (zb ?_)
 refine za (zr rfl (fun hc => ?_) (fun hc => ?_))
 ·simp at hc
  obtain ⟨t, tl, a1, a2, a3, e0⟩ := zE rfl d k hc
  have hk1 : 1 ≤ d.length - k := by omega
  have htm := List.mem_of_getElem? a1
  have htn := hdt t htm
  have hrd := Zkj c (d.take k) t
  rw [← a3] at hrd
  have hfl : (d.take (k + 1)).flatten = (d.take k).flatten ++ t := by rw [a3, List.flatten_append]; simp
  generalize (d.take k).flatten = pre at *
  have hrl : (ju c (d.take k)).length ≤ 1048576 := Nat.le_trans (ZcY _ _) (by rw [List.length_take]; omega)
  refine zh (za (zj ?_))
  generalize hrk : ju c (d.take k) = rk at *
  have hfz : ∀ id v cs, (rk.flatMap Enc.enc).map (yZ id v cs) = (rk.flatMap Enc.enc : List PV) := fun id v cs => ZcT id v cs rk
  have hrf : (rk.flatMap Enc.enc : List PV).length = rk.length := jp rk
  have hrt : (rk.flatMap Enc.enc : List PV).take rk.length = rk.flatMap Enc.enc := List.take_of_length_le (by omega)
  refine za (ze [] (zF hc e0 hk1) ?_)
  intro v4
  refine za (zb ?_)
  refine qZ 10 35 2 rfl fun v5 => ?_
  repeat apply za
  refine zb ?_
  refine zj (zG (fun (s : Nat × Nat) => s.1 ≤ t.length) (fun (j, v5) => [(1, I c), (4, .ptr (nx + 1) v1 0), (6, .ptr (nx + 2) v2 0), (7, I (W (ZZ c (pre ++ t.take j)))), (10, .sl (nx + 5) v5 2 0 (j7 c (t.take j)).length), (14, L d), (15, I d.length), (16, I k), (21, L t), (22, I t.length), (23, I j)]) (fun (j, v5) => [.cells v0 58 [L d], .cells v1 58 [yG], .cells v2 58 [.sl (nx + 3) v3 1 0 rk.length], .cells v3 72 (rk.flatMap Enc.enc), .cells v4 72 [L t], .cells v5 35 ((j7 c (t.take j)).flatMap Enc.enc)]) (fun s => t.length - s.1) (0, v5) [] (by simp) (by simp [j7]) (by simp [j7]) ?_)
  rintro ⟨j, v5⟩ hj
  simp only at hj ⊢
  refine za (zb ?_)
  refine za (zr rfl (fun hcj => ?_) (fun hcj => ?_))
  ·simp at hcj
   obtain ⟨s, ts, b1, b2, b3, b4, b5⟩ := el 2 rfl t j hcj
   have hj2 : 2 ≤ t.length * 2 - j * 2 := by omega
   have hsum := Zkh c (pre ++ t.take j) s
   rw [List.append_assoc, ← b3] at hsum
   have hrs := Zki c (t.take j) s
   rw [← b3] at hrs
   have hul : (j7 c (t.take j)).length ≤ 1048576 := Nat.le_trans (Vm _ _) (by rw [List.length_take]; omega)
   generalize j7 c (t.take j) = u at *
   have huf : (u.flatMap Enc.enc : List PV).length = u.length * 2 := Zf u
   have hut : (u.flatMap Enc.enc : List PV).take (u.length * 2) = u.flatMap Enc.enc := List.take_of_length_le (by omega)
   refine zh (za (zj (za (ze [] (zF hcj b5 hj2) ?_))))
   intro v6
   refine za (zb ?_)
   refine zr rfl (fun hq => ?_) (fun hq => ?_)
   ·simp at hq
    rw [if_pos hq] at hsum hrs
    rw [List.append_nil] at hrs
    refine zb ?_
    refine zb ?_
    exact zp (j + 1, v5) [_] (by simp; omega) (by simp; omega) (by simp [zt j (by omega), hsum, xE, hrs]) rfl (by simp [hrs]; rfl)
   ·simp at hq
    rw [if_neg hq] at hsum hrs
    rw [Int.add_zero] at hsum
    have hul' : ((j7 c (t.take (j + 1))).flatMap Enc.enc : List PV) = u.flatMap Enc.enc ++ [I s.c, I s.q] := by rw [hrs, List.flatMap_append]; rfl
    refine ze [] (zm huf hut) ?_
    refine ⟨by omega, ?_⟩
    refine zb ?_
    exact zp (j + 1, v5 + 1) [_] (by simp; omega) (by simp; omega) (by simp [zt j (by omega), hsum, hrs]) rfl (by simp [hul']; rfl)
  ·simp at hcj
   obtain rfl : j = t.length := by omega
   refine zy ?_
   rw [List.take_length]
   have hul : (j7 c t).length ≤ 1048576 := Nat.le_trans (Vm _ _) htn
   generalize j7 c t = u at *
   have huf : (u.flatMap Enc.enc : List PV).length = u.length * 2 := Zf u
   refine yc 5 rfl ?_
   simp only [List.map_cons, List.map_nil, List.set_cons_succ, List.set_cons_zero, jP, hfz]
   refine za (zb ?_)
   refine zr rfl (fun hq => ?_) (fun hq => ?_)
   ·simp at hq
    rw [if_neg (by omega)] at hrd
    have hrl' : ((rk ++ [u]).flatMap Enc.enc : List PV) = rk.flatMap Enc.enc ++ [L u] := by rw [List.flatMap_append]; rfl
    refine ze [] (zm hrf hrt) ?_
    refine ⟨by omega, ?_⟩
    refine zb ?_
    exact zp (k + 1, v3 + 1) [_, _] (by simp; omega) (by simp; omega) (by simp [zt k (by omega), hfl]) rfl (by simp [hrd, hrl']; exact ⟨rfl, rfl⟩)
   ·simp at hq
    rw [if_pos (by rw [hq]; rfl), List.append_nil] at hrd
    refine zh (zb ?_)
    exact zp (k + 1, v3) [_, _] (by simp; omega) (by simp; omega) (by simp [zt k (by omega), hfl]) rfl (by simp [hrd]; exact ⟨rfl, rfl⟩)
 ·simp at hc
  obtain rfl : k = d.length := by omega
  refine zy (yc 3 rfl ?_)
  have g1 : d.take d.length = d := List.take_length
  refine za (zb ?_)
  exact zg (zk hd (by simp; rfl) (by simp [zq, g1]))
open Go Hp
theorem ZcZ {x : Inst} (h : ∀ row ∈ x.dist, ∀ d ∈ row, 0 ≤ d ∧ d ≤ 2147483648) : qH x := by
 intro a b
 unfold arc
 split
 ·omega
 ·rw [List.getD_eq_getElem?_getD, List.getD_eq_getElem?_getD]
  cases hr : x.dist[a.toNat]? with
  | none => simp
  | some row =>
   simp only [Option.getD_some]
   cases hd : row[b.toNat]? with
   | none => simp
   | some d => exact h row (List.mem_of_getElem? hr) d (List.mem_of_getElem? hd)
open Go Go.Proofs
theorem YV {α : Type} {a b : List α} {k : Nat} {x y : α} (hx : a[k]? = some x) (hy : b[k]? = some y) (h : x ≠ y) : a ≠ b := by
 rintro rfl; rw [hx] at hy; cases hy; exact h rfl
theorem Zc0 {x : Inst} {d : zi} {s : Stop} (hx : x.cust.length ≤ 1048576) (hdo : DayOk d) (hd1 : d.length ≤ 1000000) (hf : d.flatten.length ≤ 1000000) : DayOk (yC x d s).1 := by
 unfold yC
 cases hb : (xY (yO x d s)).2 with
 | false => exact hdo
 | true =>
  have hm := Xj hb
  have hp := Vd hm
  have hs := ZcR hx (QS hm).1
  simp only [cond_true]
  have hfl : (qS d (xY (yO x d s)).1 s).flatten.length ≤ 1000001 := by rw [hp.length_eq, List.length_cons]; omega
  refine ⟨?_, fun t ht => ?_, fun t ht a ha => ?_⟩
  ·unfold qS; split
   ·simp; omega
   ·simp; omega
  ·have := (vN ht).length_le; omega
  ·have := hp.subset ((vN ht).subset ha)
   rw [List.mem_cons] at this
   rcases this with rfl | h
   ·exact hs
   ·obtain ⟨u, hu, hau⟩ := List.mem_flatten.1 h
    exact hdo.s u hu a hau
open Go Go.Proofs
def vO (l : List Int) : Int := if 1 < l.length then W (l.getD 1 0 - l.getD 0 0) else 1099511627776
def wB (c : Stop → List Int) : List Stop → Nat → Int → Int → Int
 | [], _, place, _ => place
 | s :: l, i, place, most => if (c s).length = 0 then (i : Int) else if place < 0 ∨ most < vO (c s) then wB c l (i + 1) (i : Int) (vO (c s)) else wB c l (i + 1) place most
def ur (x : Inst) (d : zi) (l : List Stop) : Int := wB (YU x d) l 0 (-1) 0
theorem Vn (c : Stop → List Int) : ∀ (l : List Stop) (i : Nat) (place most : Int), (l ≠ [] ∨ 0 ≤ place) → place < i → 0 ≤ wB c l i place most ∧ wB c l i place most < (i + l.length : Nat)
 | [], i, place, most, h, hp => by
  rcases h with h | h
  ·exact absurd rfl h
  ·simp only [wB, List.length_nil]; omega
 | s :: l, i, place, most, _, hp => by
  unfold wB
  split
  ·simp only [List.length_cons]; omega
  ·split
   ·have := Vn c l (i + 1) i (vO (c s)) (.inr (by omega)) (by omega)
    simp only [List.length_cons]; omega
   ·rename_i hc
    have := Vn c l (i + 1) place most (.inr (by omega)) (by omega)
    simp only [List.length_cons]; omega
theorem Zc1 {x : Inst} {d : zi} {l : List Stop} (h : l ≠ []) : ∃ k : Nat, ur x d l = k ∧ k < l.length := by
 have := Vn (YU x d) l 0 (-1) 0 (.inl h) (by omega)
 exact ⟨(ur x d l).toNat, by unfold ur; omega, by unfold ur; omega⟩
def wC (x : Inst) : Nat → zi → List Stop → zi × Bool
 | 0, d, _ => (d, true)
 | n + 1, d, l => bif (yC x d (l.getD (ur x d l).toNat default)).2 then wC x n (yC x d (l.getD (ur x d l).toNat default)).1 (l.eraseIdx (ur x d l).toNat) else (d, false)
def qI (x : Inst) (l : List Stop) : zi × Bool := wC x l.length [] l
structure RgOk (x : Inst) (d : zi) (l : List Stop) : Prop where
 ok : DayOk d
 may : yq x d = 0
 len : d.flatten.length + l.length ≤ 1000
theorem RgOk.dl {x : Inst} {d : zi} {l : List Stop} (h : RgOk x d l) : d.length ≤ 1000 := by
 have h1 := QR d (Xn h.may)
 have h2 := h.len
 omega
theorem RgOk.step {x : Inst} {d : zi} {l : List Stop} (hx : x.cust.length ≤ 1048576) (h : RgOk x d l) {i : Nat} (hi : i < l.length) {s : Stop} (hs : (yC x d s).2 = true) : RgOk x (yC x d s).1 (l.eraseIdx i) := by
 have hf := h.len
 have hl := h.dl
 refine ⟨Zc0 hx h.ok (by omega) (by omega), ?_, ?_⟩
 ·unfold yC at hs ⊢
  cases hb : (xY (yO x d s)).2 with
  | false => rw [hb] at hs; cases hs
  | true => exact Vf (Xj hb)
 ·rw [(Xk hs).length_eq, List.length_cons, List.length_eraseIdx_of_lt hi]; omega
theorem Vo {x : Inst} (hv : 0 ≤ x.veh) {l : List Stop} (hl : l.length ≤ 1000) : RgOk x [] l :=
 ⟨⟨by simp, by simp, by simp⟩, (xo x []).2 ⟨by simp, by simp, by simpa using hv⟩, by simpa using hl⟩
theorem Zkl {c : Stop → List Int} {l : List Stop} {k : Nat} {s : Stop} {place most : Int} (hd : l.drop k = s :: l.drop (k + 1)) :
  wB c (l.drop k) k place most = if (c s).length = 0 then (k : Int) else if place < 0 ∨ most < vO (c s) then wB c (l.drop (k + 1)) (k + 1) (k : Int) (vO (c s)) else wB c (l.drop (k + 1)) (k + 1) place most := by
 rw [hd]; rfl
theorem Zkm (x : Inst) (d : zi) (l : List Stop) (hx : x.cust.length ≤ 1048576) (h : RgOk x d l) {S : Store} {id ver : Nat} (hid : S id = .cells ver 35 (l.flatMap Enc.enc)) :
  Spec Tryz.prog 243 [.agg (vK x d), .sl id ver 2 0 l.length] S (fun p S' => p = I (ur x d l) ∧ S' = S) := by
 have hf := h.len
 have hl := h.dl
 have hco := fun s => Zj9 x d s hx h.ok h.may (by omega) (by omega)
 have hu : ur x d l = wB (YU x d) (l.drop 0) 0 (-1) 0 := rfl
 rw [hu]
 clear hu
 obtain ⟨on, tw, fs, bd, ls, ws, hlk⟩ : ∃ on tw fs bd ls ws, vK x d = wT x d on tw fs bd ls ws := ⟨_, _, _, _, _, _, rfl⟩
 rw [hlk] at hco ⊢
 clear hlk
 generalize hcz : YU x d = cz at *
 refine yU Tryz.func243 Tryz.ntmps243 Tryz.results243 fun nx hd => ?_
 have hlt : id < nx := yA hd hid (by simp)
 have xid := fun obs => zH (S := S) (obs := obs) hlt
 refine za (zb ?_)
 intro v0
 refine za (zb ?_)
 repeat apply za
 refine zb ?_
 refine zj (zG (fun s' : Nat × Int × Int => s'.1 ≤ l.length ∧ wB cz (l.drop s'.1) s'.1 s'.2.1 s'.2.2 = wB cz (l.drop 0) 0 (-1) 0) (fun (k, place, most) => [(2, .ptr nx v0 0), (5, I place), (6, I most), (11, .sl id ver 2 0 l.length), (12, I l.length), (13, I k)]) (fun _ => [.cells v0 140 (wT x d on tw fs bd ls ws)]) (fun s' => l.length - s'.1) (0, -1, 0) [] ⟨by simp, rfl⟩ (by simp) (by simp) ?_)
 rintro ⟨k, place, most⟩ ⟨hk, hg⟩
 simp only at hk hg ⊢
 rw [← hg]
 refine za (zb ?_)
 refine za (zr rfl (fun hc => ?_) (fun hc => ?_))
 ·simp at hc
  obtain ⟨s, tl, a1, a2, a3, e1, e0⟩ := el 2 rfl l k hc
  have hk2 : 2 ≤ l.length * 2 - k * 2 := by omega
  have hun := Zkl (c := cz) (place := place) (most := most) a2
  have hcs := hco s
  generalize hc0 : cz s = c at *
  have wk := zt k (by omega)
  refine zh (za (zj (za (ze [] (qm xid hid e0 hc hk2) ?_))))
  intro v1
  refine za (zb ?_)
  refine zz hcs ?_
  by_cases h0 : c.length = 0
  ·rw [if_pos h0] at hun
   repeat apply za
   refine ze [] h0 ?_
   refine zo rfl (za (zb ?_))
   exact zg ⟨_, S, (by simp; rfl), ⟨by simp [zq, hun], rfl⟩, yb hd⟩
  rw [if_neg h0] at hun
  repeat apply za
  refine zb ?_
  refine zn (by simp; exact fun e => h0 (by rw [e]; rfl)) ?_
  refine zh ?_
  repeat apply za
  refine zb ?_
  refine qh (nx := nx) (fun _ : Unit => True) (fun _ => [(2, .ptr nx v0 0), (5, I place), (6, I most), (7, I k), (10, I (vO c)), (11, .sl id ver 2 0 l.length), (12, I l.length), (13, I k)]) (fun _ => S) (fun _ => [.cells v0 140 (wT x d on tw fs bd ls ws)]) ?_ ?_
  ·by_cases h1 : 1 < c.length
   ·obtain ⟨a, ta, q1, -, -, q0⟩ := zE rfl c 1 h1
    obtain ⟨b, tb, r1, -, -, r0⟩ := zE rfl c 0 (by omega)
    have hab : vO c = W (a - b) := by unfold vO; rw [if_pos h1, List.getD_eq_getElem?_getD, List.getD_eq_getElem?_getD, q1, r1]; rfl
    have g1 : 1 ≤ c.length - 1 := by omega
    have g2 : 0 < c.length := by omega
    have g3 : 1 ≤ c.length := by omega
    have r0' : (c.flatMap Enc.enc : List PV) = Enc.enc b ++ tb := by simpa using r0
    have h1' : (1 : Int) < c.length := by omega
    refine zo (by simp; omega) ?_
    rw [r0'] at q0
    have htb : tb = I a :: ta := by simpa using q0
    rw [htb] at r0'
    refine zC none (Row.pures [0, 1, 2, 3, 4, 5, 6, 7] .done) mixed (yh r0' h1 h1' g1 g2 g3) ?_
    exact zP () [_] trivial (by simp [hab]) rfl (by simp; rfl)
   ·have hab : vO c = 1099511627776 := by unfold vO; rw [if_neg h1]
    refine zn (by simp; omega) ?_
    exact zh (zP () [_] trivial (by simp [hab]) rfl (by simp; rfl))
  ·rintro ⟨⟩ -
   generalize vO c = ab at *
   by_cases hq : place < 0
   ·rw [if_pos (.inl hq)] at hun
    refine za (ze [(2, 37)] (zm hq zL) ?_)
    refine zo rfl (zb ?_)
    refine zb ?_
    exact zp (k + 1, (k : Int), ab) [] ⟨hc, by rw [← hun, hg]⟩ (by simp; omega) (by simp [wk]) rfl (by simp)
   ·by_cases hq2 : most < ab
    ·rw [if_pos (.inr hq2)] at hun
     refine za (ze [(2, 37)] (zm hq hq2) ?_)
     refine zo rfl (zb ?_)
     refine zb ?_
     exact zp (k + 1, (k : Int), ab) [] ⟨hc, by rw [← hun, hg]⟩ (by simp; omega) (by simp [wk]) rfl (by simp)
    ·rw [if_neg (by rintro (q | q); exact hq q; exact hq2 q)] at hun
     refine za (ze [(2, 37)] (zm hq hq2) ?_)
     refine zn rfl (zh (zb ?_))
     exact zp (k + 1, place, most) [] ⟨hc, by rw [← hun, hg]⟩ (by simp; omega) (by simp [wk]) rfl (by simp)
 ·simp at hc
  obtain rfl : k = l.length := by omega
  refine zy ?_
  have hgl : wB cz (l.drop l.length) l.length place most = place := by rw [List.drop_length]; rfl
  refine za (zb ?_)
  exact zg ⟨_, S, (by simp; rfl), ⟨by simp [zq]; rfl, rfl⟩, yb hd⟩
open Go Go.Proofs
theorem Zkn {x : Inst} {d : zi} {l : List Stop} {k : Nat} {s : Stop} (hu : ur x d l = k) (hk : l[k]? = some s) :
  wC x l.length d l = bif (yC x d s).2 then wC x (l.eraseIdx k).length (yC x d s).1 (l.eraseIdx k) else (d, false) := by
 have hlt := (List.getElem?_eq_some_iff.1 hk).1
 obtain ⟨n, hn⟩ : ∃ n, l.length = n + 1 := ⟨l.length - 1, by omega⟩
 have he : (l.eraseIdx k).length = n := by rw [List.length_eraseIdx_of_lt hlt]; omega
 have hg : l.getD k default = s := by rw [List.getD_eq_getElem?_getD, hk]; rfl
 rw [hn, he, wC, hu, Int.toNat_natCast, hg]
theorem Zko {x : Inst} {d : zi} {l : List Stop} (h : RgOk x d l) : d.length ≤ 1000 ∧ d.flatten.length ≤ 1000 ∧ l.length ≤ 1000 := by
 have h1 := h.dl
 have h2 := h.len
 omega
theorem Zkp (x : Inst) (l : List Stop) (hx : x.cust.length ≤ 1048576) (hv : 0 ≤ x.veh) (hl : l.length ≤ 1000) : Pure Tryz.prog 215 [.agg (zA x), L l] (.tup [.agg [L (qI x l).1], B (qI x l).2]) := by
 have hb := Vo hv hl
 unfold qI
 by_cases h0 : 0 < l.length
 case neg =>
  obtain rfl : l = [] := List.eq_nil_of_length_eq_zero (by omega)
  have hcl := Xg [] (by simp)
  refine zx Tryz.func215 Tryz.ntmps215 Tryz.results215 fun S nx hd => ?_
  refine za (zb ?_)
  intro v0 v1
  refine za (zb ?_)
  intro v2
  refine uP 2 0 rfl rfl ?_
  refine za (zb ?_)
  refine zz hcl ?_
  refine za (zj (zG (fun _ : Nat => True) (fun _ => [(2, .ptr nx v0 0), (4, .ptr (nx + 1) v1 0), (6, .ptr (nx + 2) v2 0), (7, L ([] : List Stop))]) (fun _ => [.cells v0 25 (zA x), .cells v1 58 [yG], .cells v2 58 [L ([] : zi)]]) (fun k => k) 0 [] trivial (by simp) (by simp) ?_))
  rintro k -
  repeat apply za
  refine zb ?_
  refine zn rfl (zy (za (zb ?_)))
  exact zg (zk hd (by simp; rfl) (by simp [zq, wC]))
 refine zx Tryz.func215 Tryz.ntmps215 Tryz.results215 fun S nx hd => ?_
 refine za (zb ?_)
 intro v0 v1
 refine za (zb ?_)
 intro v2
 refine uP 2 0 rfl rfl ?_
 refine za (zV [] (by rfl) (by rfl) fun K Gc Gh hK hGc hGh X hX0 hX => ?_)
 simp -implicitDefEqProofs [hX0, hX]
 try clear hX0 hX X
 refine hGc _ _ _ _ _ _ _ fun hsuf => ((W8 l h0 (by omega) _ _ uf).mono ?_).v
 rintro _ _ ⟨v3, rfl, rfl⟩
 refine ⟨_, _, jk _, ?_⟩
 clear hGc hGh
 clear Gc Gh
 refine zR hsuf (D := []) (by rfl) fun Gc Gh hGc hGh X hX0 hX => ?_
 simp -implicitDefEqProofs [hX0, hX]
 clear hX0 hX X
 refine hK _ _ _ ?_
 clear hK hGc hGh
 clear K Gc Gh
 refine za (zj (zG (fun s' : zi × List Stop × Nat => wC x s'.2.1.length s'.1 s'.2.1 = wC x l.length [] l ∧ RgOk x s'.1 s'.2.1) (fun (d, m, v3) => [(2, .ptr nx v0 0), (4, .ptr (nx + 1) v1 0), (6, .ptr (nx + 2) v2 0), (7, .sl (nx + 3) v3 2 0 m.length)]) (fun (d, m, v3) => [.cells v0 25 (zA x), .cells v1 58 [yG], .cells v2 58 [L d], .cells v3 35 (m.flatMap Enc.enc)]) (fun s' => s'.2.1.length) ([], l, v3) [] ⟨rfl, hb⟩ (by simp) (by simp) ?_))
 rintro ⟨d, m, v3⟩ ⟨hr, hok⟩
 simp only at hr hok ⊢
 rw [← hr]
 by_cases hm : m = []
 ·subst hm
  repeat apply za
  refine zb ?_
  refine zn rfl (zy (za (zb ?_)))
  exact zg (zk hd (by simp; rfl) (by simp [zq, wC]))
 ·have hm0 : 0 < m.length := List.length_pos_iff.2 hm
  obtain ⟨k, hu, hk⟩ := Zc1 (x := x) (d := d) hm
  obtain ⟨s, tl, a1, a2, a3, e1, e0⟩ := el 2 rfl m k hk
  have hk2 : 2 ≤ m.length * 2 - k * 2 := by omega
  have hst := Zkn hu a1
  obtain ⟨b1, b2, b3⟩ := Zko hok
  have hsee := Zco x d hx hok.ok (by omega)
  have hins := Vk x d s hx hok.ok (by omega)
  have hnx := fun h => hok.step hx hk (s := s) h
  have hurg := fun (S : Store) (id ver : Nat) h => Zkm x d m hx hok (S := S) (id := id) (ver := ver) h
  rw [hu] at hurg
  obtain ⟨on, tw, fs, bd, ls, ws, hlk⟩ : ∃ on tw fs bd ls ws, vK x d = wT x d on tw fs bd ls ws := ⟨_, _, _, _, _, _, rfl⟩
  rw [hlk] at hsee hurg
  clear hlk
  have hno := Zcz (x := x) (d := d) (s := s)
  generalize hi : yC x d s = r at *
  obtain ⟨d2, ok⟩ := r
  simp only at hst hnx hno
  have wk := zt k (by omega)
  have hm0' : (0 : Int) < m.length := by omega
  repeat apply za
  refine ze [] hm0' ?_
  refine zo (by simp; exact hm0) ?_
  refine zh (zj (za (zV [] (by rfl) (by rfl) fun K Gc Gh hK hGc hGh X hX0 hX => ?_)))
  simp -implicitDefEqProofs [hX0, hX]
  try clear hX0 hX X
  refine hGc _ _ _ _ _ _ _ fun hsuf => ((hsee _).mono ?_).v
  rintro _ _ ⟨rfl, rfl⟩
  refine ⟨_, _, rfl, ?_⟩
  clear hGc hGh
  clear Gc Gh
  refine zR hsuf (D := []) (by rfl) fun Gc Gh hGc hGh X hX0 hX => ?_
  simp -implicitDefEqProofs [hX0, hX]
  clear hX0 hX X
  refine hGc _ _ _ _ _ _ _ fun hsuf => ((hurg _ _ _ (by rw [yQ]; rfl)).mono ?_).v
  rintro _ _ ⟨rfl, rfl⟩
  refine ⟨_, _, rfl, ?_⟩
  clear hGc hGh
  clear Gc Gh
  refine zR hsuf (D := []) (by rfl) fun Gc Gh hGc hGh X hX0 hX => ?_
  simp -implicitDefEqProofs [hX0, hX]
  clear hX0 hX X
  refine hK _ _ _ ?_
  clear hK hGc hGh
  clear K Gc Gh
  refine za (zC (some [nx, nx + 2, nx + 3]) (Row.pures [0, 1, 2, 3, 4, 5, 6, 7, 8, 9] (.alt 10 (.alt 11 (Row.pures [12] .done) .stop) .stop)) mixed (zF e0 hk hk2) ?_)
  refine zI (hins) trivial ?_
  intro v4
  repeat apply za
  refine zb ?_
  cases ok with
  | false =>
   simp only [cond_false] at hst
   refine zo rfl (za (zb ?_))
   exact zg (zk hd (by simp; rfl) (by simp [zq, hst]))
  | true =>
   simp only [cond_true] at hst
   refine zn rfl (zh ?_)
   have hkl := List.length_eraseIdx_of_lt hk
   refine vE (some [nx + 4]) (Row.pures [0, 1, 2, 3, 4] (.alt 5 (.alt 6 (Row.pures [7] .done) .stop) .stop)) mixed (by rfl) (by rfl) (by rfl) fun K Gp Gc Gh hK hGp hGc hGh X hX0 hX1 hX2 hX => ?_
   simp -implicitDefEqProofs [hX0, hX1, hX2, hX, wk]
   try clear hX0 hX1 hX2 hX X
   refine hGc _ _ _ _ _ _ _ ?_
   refine ((Zkf m k hk (by omega) (by rw [yQ]; rfl)).mono ?_).v
   rintro _ _ ⟨rfl, rfl⟩
   rw [y9 _ (by omega) (by simp), Nat.add_sub_cancel_left]
   refine ⟨by simp [yF], ?_⟩
   clear hGp hGc hGh
   clear Gp Gc Gh
   refine j3 fun Gp Gc Gh hGp hGc hGh X hX0 hX1 hX2 hX => ?_
   simp -implicitDefEqProofs [hX0, hX1, hX2, hX]
   try clear hX0 hX1 hX2 hX X
   refine hK _ _ _ ?_
   clear hK hGp hGc hGh
   clear K Gp Gc Gh
   exact zp (d2, m.eraseIdx k, v3 + 1) [_] ⟨hst.symm, hnx rfl⟩ (by simp only; omega) (by simp) rfl (by simp; rfl)
open Go Go.Proofs
def xM (step : zi → Option zi) : Nat → zi → zi
 | 0, d => d
 | n + 1, d => match step d with
  | none => d
  | some e => xM step n e
def vQ (step : zi → Option zi) : Nat → zi → Nat
 | 0, _ => 0
 | n + 1, d => match step d with
  | none => 0
  | some e => vQ step n e + 1
def Zc2 (x : Inst) (step : zi → Option zi) (G : zi → Prop) : Prop := ∀ d, G d → ∃ mk ma mb mi mj least, Pure Tryz.prog 106 [.agg (zA x), .agg [L d]] (.tup [.agg [I mk, I ma, I mb, I mi, I mj], I least, B (step d).isSome]) ∧
 ∀ e, step d = some e → Pure Tryz.prog 107 [.agg (zA x), .agg [L d], .agg [I mk, I ma, I mb, I mi, I mj]] (.tup [.agg [L e], I 0]) ∧ G e
theorem Zc3 (x : Inst) (d : zi) (b : Int) (step : zi → Option zi) (G : zi → Prop) (hb : b ≤ 9223372036854775807) (hdn : d.length ≤ 1048576) (hdt : ∀ t ∈ d, t.length ≤ 1048576) (hd' : 0 < b → G d) (hs : Zc2 x step G) : Pure Tryz.prog 62 [.agg (zA x), .agg [L d], I b] (.tup [.agg [L (xM step b.toNat d)], I (if vQ step b.toNat d < b.toNat then (vQ step b.toNat d : Int) else xA b 0)]) := by
 refine zx Tryz.func62 Tryz.ntmps62 Tryz.results62 fun S nx hd => ?_
 refine za (zb ?_)
 intro v0 v1 v2
 refine za (zb ?_)
 intro v3
 refine qQ 3 0 72 1 rfl rfl fun v4 => ?_
 repeat apply za
 refine zb ?_
 refine zj (zG (fun s' : Nat × Nat => s'.1 ≤ d.length) (fun (k, v4) => [(2, I b), (3, .ptr nx v0 0), (6, .ptr (nx + 2) v2 0), (7, I 0), (8, .ptr (nx + 3) v3 0), (16, L d), (17, I d.length), (18, I k)]) (fun (k, v4) => [.cells v0 25 (zA x), .cells v1 58 [L d], .cells v2 58 [yG], .cells v3 58 [.sl (nx + 4) v4 1 0 k], .cells v4 72 ((d.take k).flatMap Enc.enc)]) (fun s' => d.length - s'.1) (0, v4) [] (by simp) (by simp) (by simp) ?_)
 rintro ⟨k, v4⟩ hk
 simp only at hk ⊢
 refine za (zb ?_)
 refine za (zr rfl (fun hc => ?_) (fun hc => ?_))
 ·simp at hc
  obtain ⟨t, tl, a1, a2, a3, e0⟩ := zE rfl d k hc
  have hk1 : 1 ≤ d.length - k := by omega
  have hcl := Xg t (hdt t (List.mem_of_getElem? a1))
  have hcl' : ((d.take k).flatMap Enc.enc : List PV).length = k := by rw [jp, List.length_take]; omega
  have hct : ((d.take k).flatMap Enc.enc : List PV).take k = (d.take k).flatMap Enc.enc := List.take_of_length_le (by omega)
  have hcn : ((d.take (k + 1)).flatMap Enc.enc : List PV) = (d.take k).flatMap Enc.enc ++ [L t] := by rw [a3, List.flatMap_append]; rfl
  generalize ((d.take k).flatMap Enc.enc : List PV) = cs at *
  refine zh (za (zj (za (ze [] (zF e0 hc hk1) ?_))))
  intro v5
  refine zC (some [nx + 5]) (Row.pures [0, 2, 3, 4, 5, 6] (.alt 1 (.alt 7 (Row.pures [8] (.alt 9 (.done) .stop)) .stop) .stop)) mixed (zm hcl' hct) ?_
  refine zI (hcl) (zm hcl' hct) ?_
  refine ⟨by omega, ?_⟩
  refine zb ?_
  exact zp (k + 1, v4 + 1) [_] hc (by simp; omega) (by simp [zt k (by omega)]) rfl (by simp [hcn]; rfl)
 ·simp at hc
  obtain rfl : k = d.length := by omega
  have g1 : d.take d.length = d := List.take_length
  refine zy ?_
  rw [g1]
  refine yc 4 rfl ?_
  repeat apply za
  refine zb ?_
  clear hk hc g1
  refine zj (zG (fun s' : Nat × zi => s'.1 ≤ b.toNat ∧ (0 < b → G s'.2) ∧ xM step (b.toNat - s'.1) s'.2 = xM step b.toNat d ∧ s'.1 + vQ step (b.toNat - s'.1) s'.2 = vQ step b.toNat d) (fun (k, e) => [(2, I b), (3, .ptr nx v0 0), (6, .ptr (nx + 2) v2 0), (8, .ptr (nx + 3) v3 0), (11, I k)]) (fun (k, e) => [.cells v0 25 (zA x), .cells v1 58 [L d], .cells v2 58 [yG], .cells v3 58 [L e]]) (fun s' => b.toNat - s'.1) (0, d) [.dead] ⟨by simp, hd', by simp, by simp⟩ (by simp) (by simp) ?_)
  rintro ⟨k, e⟩ ⟨hk, hG, hi, hco⟩
  simp only at hk hG hi hco ⊢
  rw [← hi]
  repeat apply za
  refine zb ?_
  refine zr rfl (fun hc => ?_) (fun hc => ?_)
  ·simp at hc
   obtain ⟨mk, ma, mb, mi, mj, least, hB, hM⟩ := hs e (hG (by omega))
   obtain ⟨n, hn⟩ : ∃ n, b.toNat - k = n + 1 := ⟨b.toNat - k - 1, by omega⟩
   refine zh (za (zj (za (zb ?_))))
   refine zz hB ?_
   intro v5
   repeat apply za
   refine zb ?_
   cases hst : step e with
   | none =>
    have hr : xM step (b.toNat - k) e = e := by rw [hn]; unfold xM; rw [hst]
    have hr2 : vQ step (b.toNat - k) e = 0 := by rw [hn]; unfold vQ; rw [hst]
    rw [hr2] at hco
    rw [hr, ← hco, if_pos (by omega)]
    refine zo rfl (za (zb ?_))
    exact zg (zk hd (by simp; rfl) (by simp [zq]))
   | some e2 =>
    have hr : xM step (b.toNat - k) e = xM step (b.toNat - (k + 1)) e2 := by rw [hn, show b.toNat - (k + 1) = n by omega]; conv => lhs; unfold xM; rw [hst]
    have hr2 : vQ step (b.toNat - k) e = vQ step (b.toNat - (k + 1)) e2 + 1 := by rw [hn, show b.toNat - (k + 1) = n by omega]; conv => lhs; unfold vQ; rw [hst]
    obtain ⟨hM1, hG2⟩ := hM e2 hst
    refine zn rfl (zh (zb ?_))
    refine zz hM1 ?_
    refine zb ?_
    exact zp (k + 1, e2) [_] ⟨by simp; omega, fun _ => hG2, hr.symm, by simp only; omega⟩ (by simp; omega) (by simp [zt k (by omega)]) rfl (by simp; rfl)
  ·simp at hc
   have hz : b.toNat - k = 0 := by omega
   rw [hz] at hco ⊢
   have hco' : vQ step b.toNat d = k := by rw [← hco]; rfl
   rw [hco', if_neg (by omega)]
   refine zy (za (zb ?_))
   exact zg (zk hd (by simp; rfl) (by simp [zq, xM]))
open Go Go.Proofs
structure Pc where
 t : Nat
 f : Nat
 o : Nat
 b : Bool
 deriving DecidableEq
def yr : Pc := ⟨0, 0, 0, false⟩
abbrev pcL (p : Pc) : List PV := [I p.t, I p.f, I p.o, B p.b]
structure Rw5 where
 a : Pc
 b : Pc
 c : Pc
 d : Pc
 e : Pc
abbrev yk (r : Rw5) : List PV := [I r.a.t, I r.a.f, I r.a.o, B r.a.b, I r.b.t, I r.b.f, I r.b.o, B r.b.b, I r.c.t, I r.c.f, I r.c.o, B r.c.b, I r.d.t, I r.d.f, I r.d.o, B r.d.b, I r.e.t, I r.e.f, I r.e.o, B r.e.b]
def Rw5.l (r : Rw5) : List Pc := [r.a, r.b, r.c, r.d, r.e]
def jF : Rw5 := ⟨yr, yr, yr, yr, yr⟩
structure Mv where
 k : Nat
 a : Nat
 b : Nat
 i : Nat
 j : Nat
 deriving DecidableEq
abbrev vn (m : Mv) : List PV := [I m.k, I m.a, I m.b, I m.i, I m.j]
abbrev vR (m : Mv) (la lb : Nat) : List PV := [I m.k, I m.a, I m.b, I m.i, I m.j, I la, I lb]
def xZ (m : Mv) (la lb : Nat) : Bool :=
 if m.k = 0 then decide (m.b = m.a ∧ m.i < m.j ∧ m.j < la)
 else if m.k = 1 then decide (m.i < la ∧ (if m.a = m.b then m.j < lb else m.j ≤ lb))
 else if m.k = 2 then decide (¬ (m.b < m.a ∨ m.a = m.b ∧ m.j ≤ m.i) ∧ m.i < la ∧ m.j < lb)
 else decide (m.a < m.b ∧ m.i ≤ la ∧ m.j ≤ lb)
def jG (m : Mv) (la lb : Nat) : Rw5 × Rw5 :=
 if m.k = 0 then (⟨⟨m.a, 0, m.i, false⟩, ⟨m.a, m.i, m.j + 1, true⟩, ⟨m.a, m.j + 1, la, false⟩, yr, yr⟩, jF)
 else if m.k = 1 then
  (if m.a ≠ m.b then (⟨⟨m.a, 0, m.i, false⟩, ⟨m.a, m.i + 1, la, false⟩, yr, yr, yr⟩, ⟨⟨m.b, 0, m.j, false⟩, ⟨m.a, m.i, m.i + 1, false⟩, ⟨m.b, m.j, lb, false⟩, yr, yr⟩)
  else if m.i < m.j then (⟨⟨m.a, 0, m.i, false⟩, ⟨m.a, m.i + 1, m.j + 1, false⟩, ⟨m.a, m.i, m.i + 1, false⟩, ⟨m.a, m.j + 1, la, false⟩, yr⟩, jF)
  else (⟨⟨m.a, 0, m.j, false⟩, ⟨m.a, m.i, m.i + 1, false⟩, ⟨m.a, m.j, m.i, false⟩, ⟨m.a, m.i + 1, la, false⟩, yr⟩, jF))
 else if m.k = 2 then
  (if m.a = m.b then (⟨⟨m.a, 0, m.i, false⟩, ⟨m.b, m.j, m.j + 1, false⟩, ⟨m.a, m.i + 1, m.j, false⟩, ⟨m.a, m.i, m.i + 1, false⟩, ⟨m.a, m.j + 1, la, false⟩⟩, jF)
  else (⟨⟨m.a, 0, m.i, false⟩, ⟨m.b, m.j, m.j + 1, false⟩, ⟨m.a, m.i + 1, la, false⟩, yr, yr⟩, ⟨⟨m.b, 0, m.j, false⟩, ⟨m.a, m.i, m.i + 1, false⟩, ⟨m.b, m.j + 1, lb, false⟩, yr, yr⟩))
 else (⟨⟨m.a, 0, m.i, false⟩, ⟨m.b, m.j, lb, false⟩, yr, yr, yr⟩, ⟨⟨m.b, 0, m.j, false⟩, ⟨m.a, m.i, la, false⟩, yr, yr, yr⟩)
theorem Zkr (m : Mv) (la lb : Nat) (hk : m.k = 0) : Pure Tryz.prog 225 [.agg (vR m la lb)] (B (xZ m la lb)) := by
 unfold xZ
 rw [if_pos hk]
 refine zx Tryz.func225 Tryz.ntmps225 Tryz.results225 fun S nx hd => ?_
 refine za (zb ?_)
 intro v0
 by_cases h1 : m.b = m.a
 case neg =>
  have h1' : ¬ (m.b : Int) = m.a := by omega
  refine za (ze [(7, 10), (13, 16), (22, 25)] (zm h1' zL) ?_)
  exact zg (zk hd rfl (by simp [h1, zq]))
 have h1' : (m.b : Int) = m.a := by omega
 by_cases h2 : m.i < m.j
 case neg =>
  have h2' : ¬ (m.i : Int) < m.j := by omega
  refine za (ze [(7, 10), (13, 16), (22, 25)] (zF h1' h2 zL) ?_)
  exact zg (zk hd rfl (by simp [h2, zq]))
 by_cases h3 : m.j < la
 case neg =>
  refine za (ze [(7, 10), (13, 16), (22, 25)] (yi h1' h2 h3 zL) ?_)
  exact zg (zk hd rfl (by simp [h3, zq]))
 refine za (ze [(7, 10), (13, 16), (22, 25)] (zF h1' h2 h3) ?_)
 exact zg (zk hd rfl (by simp [h1, h2, h3, zq]))
theorem Zks (m : Mv) (la lb : Nat) (hk : m.k = 1) (hlb : lb ≤ 1048576) : Pure Tryz.prog 227 [.agg (vR m la lb)] (B (xZ m la lb)) := by
 unfold xZ
 rw [if_neg (by omega), if_pos hk]
 refine zx Tryz.func227 Tryz.ntmps227 Tryz.results227 fun S nx hd => ?_
 refine za (zb ?_)
 intro v0
 refine za (zb ?_)
 refine za (qh (nx := nx) (fun z : Int => (m.j : Int) ≤ z ↔ (if m.a = m.b then m.j < lb else m.j ≤ lb)) (fun z => [(1, .ptr nx v0 0), (3, I z)]) (fun _ => S) (fun _ => [.cells v0 251 (vR m la lb)]) ?_ ?_)
 ·by_cases h1 : m.a = m.b
  ·have h1' : (m.a : Int) = m.b := by omega
   have w1 : IntKind.i64.wrap ((lb : Int) - 1) = (lb : Int) - 1 := wr _ (by omega) (by omega)
   refine za (ze [] h1' ?_)
   refine zo rfl (ze [] w1 ?_)
   exact zP ((lb : Int) - 1) [] (by rw [if_pos h1]; omega) (by simp) rfl (by simp)
  ·have h1' : ¬ (m.a : Int) = m.b := by omega
   refine za (ze [] h1' ?_)
   exact zn rfl (zh (zP (lb : Int) [] (by rw [if_neg h1]; omega) (by simp) rfl (by simp)))
 ·intro z hz
  by_cases h2 : m.i < la
  case neg =>
   refine za (ze [(4, 19), (12, 27), (18, 33)] (zm h2 zL) ?_)
   exact zg (zk hd rfl (by simp [h2, zq]))
  by_cases h3 : (m.j : Int) ≤ z
  case neg =>
   have h4 := (not_congr hz).1 h3
   refine za (ze [(4, 19), (12, 27), (18, 33)] (zm h2 h3) ?_)
   exact zg (zk hd rfl (by simp [h2, h4, zq]))
  have h4 := hz.1 h3
  refine za (ze [(4, 19), (12, 27), (18, 33)] (zm h2 h3) ?_)
  exact zg (zk hd rfl (by simp [h2, h4, zq]))
theorem Zkt (m : Mv) (la lb : Nat) (hk : m.k = 2) : Pure Tryz.prog 229 [.agg (vR m la lb)] (B (xZ m la lb)) := by
 unfold xZ
 rw [if_neg (by omega), if_neg (by omega), if_pos hk]
 refine zx Tryz.func229 Tryz.ntmps229 Tryz.results229 fun S nx hd => ?_
 refine za (zb ?_)
 intro v0
 have rest : ∀ (P : Prop), (m.i < la → m.j < lb → P) → (¬ (m.i < la ∧ m.j < lb) → P) → P := fun P a b => by
  by_cases q : m.i < la ∧ m.j < lb
  ·exact a q.1 q.2
  ·exact b q
 by_cases h1 : m.b < m.a
 ·repeat apply za
  refine ze [(7, 10), (15, 18)] (zm h1 zL) ?_
  refine zo rfl (za (zb ?_))
  exact zg (zk hd rfl (by simp [h1, zq]))
 by_cases h2 : m.a = m.b
 ·have h2' : (m.a : Int) = m.b := by omega
  by_cases h3 : m.j ≤ m.i
  ·have h1' : ¬ m.b < m.b := by omega
   repeat apply za
   refine ze [(7, 10), (15, 18)] (zF h2' h1' h3) ?_
   refine zo rfl (za (zb ?_))
   exact zg (zk hd rfl (by simp [h2, h3, zq]))
  ·have h1' : ¬ m.b < m.b := by omega
   have h0 : ¬ (m.b < m.a ∨ m.a = m.b ∧ m.j ≤ m.i) := by omega
   repeat apply za
   refine ze [(7, 10), (15, 18)] (zF h2' h1' h3) ?_
   refine zn rfl (zh ?_)
   by_cases h4 : m.i < la
   case neg =>
    refine za (ze [(4, 32), (12, 40), (18, 46)] (zm h4 zL) ?_)
    exact zg (zk hd rfl (by simp [h4, zq]))
   by_cases h5 : m.j < lb
   case neg =>
    refine za (ze [(4, 32), (12, 40), (18, 46)] (zm h4 h5) ?_)
    exact zg (zk hd rfl (by simp [h5, zq]))
   refine za (ze [(4, 32), (12, 40), (18, 46)] (zm h4 h5) ?_)
   exact zg (zk hd rfl (by simp [h0, h4, h5, zq]))
 ·have h2' : ¬ (m.a : Int) = m.b := by omega
  have h0 : ¬ (m.b < m.a ∨ m.a = m.b ∧ m.j ≤ m.i) := by omega
  repeat apply za
  refine ze [(7, 10), (15, 18)] (zF h1 h2' zL) ?_
  refine zn rfl (zh ?_)
  by_cases h4 : m.i < la
  case neg =>
   refine za (ze [(4, 32), (12, 40), (18, 46)] (zm h4 zL) ?_)
   exact zg (zk hd rfl (by simp [h4, zq]))
  by_cases h5 : m.j < lb
  case neg =>
   refine za (ze [(4, 32), (12, 40), (18, 46)] (zm h4 h5) ?_)
   exact zg (zk hd rfl (by simp [h5, zq]))
  refine za (ze [(4, 32), (12, 40), (18, 46)] (zm h4 h5) ?_)
  exact zg (zk hd rfl (by simp [h0, h4, h5, zq]))
theorem Zku (m : Mv) (la lb : Nat) (hk : 3 ≤ m.k) : Pure Tryz.prog 231 [.agg (vR m la lb)] (B (xZ m la lb)) := by
 unfold xZ
 rw [if_neg (by omega), if_neg (by omega), if_neg (by omega)]
 refine zx Tryz.func231 Tryz.ntmps231 Tryz.results231 fun S nx hd => ?_
 refine za (zb ?_)
 intro v0
 by_cases h1 : m.a < m.b
 case neg =>
  refine za (ze [(7, 10), (13, 16), (21, 24), (27, 30)] (zm h1 zL) ?_)
  exact zg (zk hd rfl (by simp [h1, zq]))
 by_cases h2 : m.i ≤ la
 case neg =>
  refine za (ze [(7, 10), (13, 16), (21, 24), (27, 30)] (zF h1 h2 zL) ?_)
  exact zg (zk hd rfl (by simp [h2, zq]))
 by_cases h3 : m.j ≤ lb
 case neg =>
  refine za (ze [(7, 10), (13, 16), (21, 24), (27, 30)] (zF h1 h2 h3) ?_)
  exact zg (zk hd rfl (by simp [h3, zq]))
 refine za (ze [(7, 10), (13, 16), (21, 24), (27, 30)] (zF h1 h2 h3) ?_)
 exact zg (zk hd rfl (by simp [h1, h2, h3, zq]))
theorem Zkv (m : Mv) (la lb : Nat) (hk : m.k = 0) (hi : m.i ≤ 1048576) (hj : m.j ≤ 1048576) : Pure Tryz.prog 226 [.agg (vR m la lb)] (.tup [.agg (yk (jG m la lb).1), .agg (yk (jG m la lb).2)]) := by
 have wi := zt m.i (by omega)
 have wj := zt m.j (by omega)
 unfold jG
 rw [if_pos hk]
 refine zx Tryz.func226 Tryz.ntmps226 Tryz.results226 fun S nx hd => ?_
 refine za (zb ?_)
 intro v0 v1 v2
 refine za (zC (some [nx]) (Row.pures [0, 1, 2, 3, 4, 5, 6, 7, 8, 9, 10, 11] .done) mixed trivial ?_)
 refine za (ze [] wj ?_)
 exact zg (zk hd (by simp; rfl) (by simp [zq, jF, yr]))
theorem Zkw (m : Mv) (la lb : Nat) (hk : 3 ≤ m.k) : Pure Tryz.prog 232 [.agg (vR m la lb)] (.tup [.agg (yk (jG m la lb).1), .agg (yk (jG m la lb).2)]) := by
 unfold jG
 rw [if_neg (by omega), if_neg (by omega), if_neg (by omega)]
 refine zx Tryz.func232 Tryz.ntmps232 Tryz.results232 fun S nx hd => ?_
 refine za (zb ?_)
 intro v0 v1 v2
 refine za (zC (some [nx]) (Row.pures [0, 1, 2, 3, 4, 5, 6, 7, 8, 9, 10, 11, 12, 13, 14, 15] .done) mixed trivial ?_)
 refine za (zC (some [nx]) (Row.pures [0, 1, 2, 3, 4, 5, 6, 7, 8, 9, 10, 11, 12, 13, 14, 15, 16, 17] (.alt 18 (.alt 19 (.done) .stop) .stop)) mixed trivial ?_)
 exact zg (zk hd (by simp; rfl) (by simp [zq, jF, yr]))
theorem Zkx (m : Mv) (la lb : Nat) (hk : m.k = 1) (hi : m.i ≤ 1048576) (hj : m.j ≤ 1048576) : Pure Tryz.prog 228 [.agg (vR m la lb)] (.tup [.agg (yk (jG m la lb).1), .agg (yk (jG m la lb).2)]) := by
 have wi := zt m.i (by omega)
 have wj := zt m.j (by omega)
 unfold jG
 rw [if_neg (by omega), if_pos hk]
 refine zx Tryz.func228 Tryz.ntmps228 Tryz.results228 fun S nx hd => ?_
 refine za (zb ?_)
 intro v0 v1 v2
 refine za (zC (some [nx]) (Row.pures [0, 1, 2, 3, 4, 5, 6, 7, 8, 9, 10, 11, 12, 13, 14, 15] .done) mixed trivial ?_)
 refine za (ze [] wi ?_)
 intro v3
 refine za (zj ?_)
 by_cases h1 : m.a = m.b
 case neg =>
  have h1' : ¬ (m.a : Int) = m.b := by omega
  rw [if_pos h1]
  refine za (ze [] h1' ?_)
  refine zo rfl (za (zC (some [nx, nx + 3]) (Row.pures [0, 1, 2, 3, 4, 5, 6, 7, 8, 9, 10, 11, 12, 13, 14, 15, 16, 17, 18, 19] (.alt 20 (.alt 21 (.done) .stop) .stop)) mixed wi ?_))
  exact zg (zk hd (by simp; rfl) (by simp [zq, jF, yr]))
 have h1' : (m.a : Int) = m.b := by omega
 rw [if_neg (by simpa using h1)]
 refine za (ze [] h1' ?_)
 refine zn rfl ?_
 by_cases h2 : m.i < m.j
 ·rw [if_pos h2]
  refine za (ze [] h2 ?_)
  refine zo rfl (za (ze [] (zm wi wj) ?_))
  exact zg (zk hd (by simp; rfl) (by simp [zq, jF, yr, h1]))
 ·rw [if_neg h2]
  refine za (ze [] h2 ?_)
  refine zn rfl (zh (za (ze [] (zm wi wj) ?_)))
  exact zg (zk hd (by simp; rfl) (by simp [zq, jF, yr, h1]))
theorem Zky (m : Mv) (la lb : Nat) (hk : m.k = 2) (hi : m.i ≤ 1048576) (hj : m.j ≤ 1048576) : Pure Tryz.prog 230 [.agg (vR m la lb)] (.tup [.agg (yk (jG m la lb).1), .agg (yk (jG m la lb).2)]) := by
 have wi := zt m.i (by omega)
 have wj := zt m.j (by omega)
 unfold jG
 rw [if_neg (by omega), if_neg (by omega), if_pos hk]
 refine zx Tryz.func230 Tryz.ntmps230 Tryz.results230 fun S nx hd => ?_
 refine za (zb ?_)
 intro v0 v1 v2
 refine za (zC (some [nx]) (Row.pures [0, 1, 2, 3, 4, 5, 6, 7, 8, 9, 10, 11, 12, 13, 14, 15] .done) mixed trivial ?_)
 refine za (ze [] (zm wi wj) ?_)
 intro v3 v4
 by_cases h1 : m.a = m.b
 ·have h1' : (m.a : Int) = m.b := by omega
  rw [if_pos h1]
  repeat apply za
  refine ze [] h1' ?_
  refine zo rfl (za (ze [] (zm wi wj) ?_))
  exact zg (zk hd (by simp; rfl) (by simp [zq, jF, yr, h1]))
 ·have h1' : ¬ (m.a : Int) = m.b := by omega
  rw [if_neg h1]
  repeat apply za
  refine ze [] h1' ?_
  refine zn rfl (zh (za (zC (some [nx, nx + 3, nx + 4]) (Row.pures [0, 1, 2, 3, 4, 5, 6, 7, 8, 9, 10, 11, 12, 13, 14, 15, 16, 17, 18, 19, 20, 21] (.alt 22 (.alt 23 (.done) .stop) .stop)) mixed (zm wi wj) ?_)))
  exact zg (zk hd (by simp; rfl) (by simp [zq, jF, yr]))
open Go Go.Proofs
abbrev Xo : List PV := [.fn (.func 225) [] [], .fn (.func 226) [] [], .fn (.func 227) [] [], .fn (.func 228) [] [], .fn (.func 229) [] [], .fn (.func 230) [] [], .fn (.func 231) [] [], .fn (.func 232) [] []]
theorem Zc4 : Pure Tryz.prog 181 [] (.agg Xo) := by
 refine zx Tryz.func181 Tryz.ntmps181 Tryz.results181 fun S nx hd => ?_
 refine za (zb ?_)
 intro v0
 refine za (zb ?_)
 exact zg (zk hd (by simp; rfl) rfl)
def tlen (d : zi) (t : Nat) : Nat := (d.getD t []).length
def j8 (d : zi) (m : Mv) : Bool := decide (m.k ≤ 3 ∧ m.a < d.length ∧ m.b < d.length) && xZ m (tlen d m.a) (tlen d m.b)
def z8 (d : zi) (m : Mv) : Rw5 × Rw5 := jG m (tlen d m.a) (tlen d m.b)
def ut (d : zi) (m : Mv) : Rw5 × Rw5 × Bool := if j8 d m = true then ((z8 d m).1, (z8 d m).2, true) else (jF, jF, false)
theorem Vp (d : zi) (m : Mv) (hdn : d.length ≤ 1048576) (hdt : ∀ t ∈ d, t.length ≤ 1048576) (hk : m.k ≤ 3) (ha : m.a < d.length) (hb : m.b < d.length) (hi : m.i ≤ 1048576) (hj : m.j ≤ 1048576) : Pure Tryz.prog 146 [.agg [L d], .agg (vn m)]
  (.tup [.agg (yk (ut d m).1), .agg (yk (ut d m).2.1), B (ut d m).2.2]) := by
 obtain ⟨ta, xa, a1, -, -, a0⟩ := zE rfl d m.a ha
 obtain ⟨tb, xb, b1, -, -, b0⟩ := zE rfl d m.b hb
 have ha1 : 1 ≤ d.length - m.a := by omega
 have hb1 : 1 ≤ d.length - m.b := by omega
 have la : tlen d m.a = ta.length := by unfold tlen; rw [List.getD_eq_getElem?_getD, a1]; rfl
 have lb : tlen d m.b = tb.length := by unfold tlen; rw [List.getD_eq_getElem?_getD, b1]; rfl
 have hbl := hdt tb (List.mem_of_getElem? b1)
 have hmay : j8 d m = xZ m ta.length tb.length := by unfold j8; rw [la, lb, decide_eq_true ⟨hk, ha, hb⟩]; rfl
 have hcut : z8 d m = jG m ta.length tb.length := by unfold z8; rw [la, lb]
 unfold ut
 rw [hmay, hcut]
 clear hmay hcut la lb
 have call : ∀ f g : Nat, m.k = m.k → True := fun _ _ _ => trivial
 clear call
 have g1 : ¬ (m.k : Int) < 0 := by omega
 have g2 : ¬ (3 : Int) < m.k := by omega
 have g3 : ¬ (m.a : Int) < 0 := by omega
 have g4 : ¬ d.length ≤ m.a := by omega
 have g5 : ¬ (m.b : Int) < 0 := by omega
 have g6 : ¬ d.length ≤ m.b := by omega
 refine zx Tryz.func146 Tryz.ntmps146 Tryz.results146 fun S nx hd => ?_
 refine za (zb ?_)
 intro v0 v1 v2 v3
 refine za (zb ?_)
 repeat apply za
 refine ze [(3, 18), (8, 23), (13, 28), (19, 34), (24, 39)] (yh g1 g2 g3 g4 g5 g6) ?_
 refine zn rfl (zh (za (zC (some [nx, nx + 1]) (Row.pures [0, 1, 2, 3, 4, 5, 6, 7, 8, 9, 10, 11, 12, 13, 14, 15, 16, 17] (.alt 18 (.alt 19 (.done) .stop) .stop)) mixed (yh a0 b0 ha hb ha1 hb1) ?_)))
 intro v4
 obtain ⟨mf, cf, hmf, hcf, hidx⟩ : ∃ mf cf : Nat, Pure Tryz.prog mf [.agg (vR m ta.length tb.length)] (B (xZ m ta.length tb.length)) ∧ Pure Tryz.prog cf [.agg (vR m ta.length tb.length)] (.tup [.agg (yk (jG m ta.length tb.length).1), .agg (yk (jG m ta.length tb.length).2)]) ∧
   ∃ k : Nat, (k : Int) = m.k ∧ k < 4 ∧ (Xo.drop (k * 2)).take 2 = [.fn (.func mf) [] [], .fn (.func cf) [] []] := by
  have h4 : m.k = 0 ∨ m.k = 1 ∨ m.k = 2 ∨ m.k = 3 := by omega
  rcases h4 with h | h | h | h
  ·exact ⟨_, _, Zkr m _ _ h, Zkv m _ _ h hi hj, 0, by omega, by omega, rfl⟩
  ·exact ⟨_, _, Zks m _ _ h hbl, Zkx m _ _ h hi hj, 1, by omega, by omega, rfl⟩
  ·exact ⟨_, _, Zkt m _ _ h, Zky m _ _ h hi hj, 2, by omega, by omega, rfl⟩
  ·exact ⟨_, _, Zku m _ _ (by omega), Zkw m _ _ (by omega), 3, by omega, by omega, rfl⟩
 obtain ⟨k, hkk, hk4, hkt⟩ := hidx
 obtain rfl : k = m.k := by omega
 have hk4' : (m.k : Int) < 4 := by omega
 have hk5 : 2 ≤ 8 - m.k * 2 := by omega
 generalize hmz : xZ m ta.length tb.length = mz at *
 generalize hcz : jG m ta.length tb.length = cz at *
 obtain ⟨r1, r2⟩ := cz
 generalize hkl : Xo = kl at hkt
 have hkinds := Zc4
 rw [hkl] at hkinds
 have hkll : kl.length = 8 := by rw [← hkl]; rfl
 clear hkl
 refine za (zC (some [nx + 1]) (Row.pures [0, 1, 2, 3] (.alt 4 (.alt 5 (.done) .stop) .stop)) mixed (qm hkt hk4 hk4' hkll hk5) ?_)
 refine zI (hkinds) (qm hkt hk4 hk4' hkll hk5) ?_
 intro v5
 repeat apply za
 refine zb ?_
 refine zz hmf ?_
 cases mz with
 | false =>
  refine zo rfl (za (zb ?_))
  exact zg (zk hd (by simp; rfl) (by simp [zq, jF, yr]))
 | true =>
  refine zn rfl (zh (za (zb ?_)))
  refine zz hcf ?_
  intro v6 v7
  refine za (zC (some [nx + 6, nx + 7]) (Row.pures [0, 1] (.alt 2 (.alt 3 (Row.pures [4] .done) .stop) .stop)) mixed trivial ?_)
  exact zg (zk hd (by simp; rfl) (by simp [zq]))
open Go Go.Proofs
theorem Zc5 (l : List Stop) (k : Nat) (s : Stop) (h : k < l.length) : ye (l.flatMap Enc.enc) (k * 2) [I s.c, I s.q] = (l.set k s).flatMap Enc.enc := by
 unfold ye
 rw [List.set_eq_take_append_cons_drop, if_pos h, List.flatMap_append, List.flatMap_cons, ← Zb Enc.enc 2 (fun _ => rfl) l k, ← Yt Enc.enc 2 (fun _ => rfl) l (k + 1)]
 simp [show k * 2 + 2 = (k + 1) * 2 by omega]
def qN (l : List Stop) (k : Nat) : List Stop := (List.range l.length).map fun q => if q < k ∨ l.length - 1 - q < k then l.getD (l.length - 1 - q) default else l.getD q default
theorem wU (l : List Stop) (k : Nat) : (qN l k).length = l.length := by simp [qN]
theorem YW {l : List Stop} {k q : Nat} (hq : q < l.length) : (qN l k)[q]? = some (if q < k ∨ l.length - 1 - q < k then l.getD (l.length - 1 - q) default else l.getD q default) := by
 unfold qN; rw [List.getElem?_map, List.getElem?_range hq]; rfl
theorem Zkz (l : List Stop) : qN l 0 = l := by
 apply List.ext_getElem?
 intro q
 by_cases h : q < l.length
 ·rw [YW h, if_neg (by omega), List.getD_eq_getElem?_getD, List.getElem?_eq_getElem h]; rfl
 ·rw [List.getElem?_eq_none (by rw [wU]; omega), List.getElem?_eq_none (by omega)]
theorem ZkA {l : List Stop} {k : Nat} (hk : l.length - 1 ≤ k + k) : qN l k = l.reverse := by
 apply List.ext_getElem?
 intro q
 by_cases h : q < l.length
 ·rw [YW h, List.getElem?_reverse h]
  by_cases h1 : q < k ∨ l.length - 1 - q < k
  ·rw [if_pos h1, List.getD_eq_getElem?_getD, List.getElem?_eq_getElem (by omega)]; rfl
  ·rw [if_neg h1, List.getD_eq_getElem?_getD]
   have : q = l.length - 1 - q := by omega
   rw [← this, List.getElem?_eq_getElem h]; rfl
 ·rw [List.getElem?_eq_none (by rw [wU]; omega), List.getElem?_eq_none (by simp; omega)]
theorem ZkB {l : List Stop} {k : Nat} (h : k < l.length - 1 - k) {a b : Stop} (ha : (qN l k)[k]? = some a) (hb : (qN l k)[l.length - 1 - k]? = some b) : ((qN l k).set k b).set (l.length - 1 - k) a = qN l (k + 1) := by
 rw [YW (by omega), if_neg (by omega)] at ha
 rw [YW (by omega), if_neg (by omega)] at hb
 cases ha; cases hb
 apply List.ext_getElem?
 intro q
 by_cases hq : q < l.length
 ·rw [YW hq, List.getElem?_set, List.getElem?_set]
  by_cases e1 : l.length - 1 - k = q
  ·rw [if_pos e1, if_pos (by rw [List.length_set, wU]; omega), if_pos (by omega)]
   congr 2; omega
  ·rw [if_neg e1]
   by_cases e2 : k = q
   ·subst e2
    rw [if_pos rfl, if_pos (by rw [wU]; exact hq), if_pos (by omega)]
   ·rw [if_neg e2, YW hq]
    by_cases h1 : q < k ∨ l.length - 1 - q < k
    ·rw [if_pos h1, if_pos (by omega)]
    ·rw [if_neg h1, if_neg (by omega)]
 ·rw [List.getElem?_eq_none (by rw [List.length_set, List.length_set, wU]; omega), List.getElem?_eq_none (by rw [wU]; omega)]
theorem Xp (S : Store) (i : Nat) (a b : Ob) : (S.set i a).set i b = S.set i b := by
 funext o
 by_cases h : o = i
 ·subst h; rw [Store.set_same, Store.set_same]
 ·rw [Store.set_other _ _ _ _ h, Store.set_other _ _ _ _ h, Store.set_other _ _ _ _ h]
theorem ZkC {S : Store} {id ver : Nat} (pre l : List Stop) (hn : (pre ++ l).length ≤ 1048576) (hid : S id = .cells ver 35 ((pre ++ l).flatMap Enc.enc)) :
  Spec Tryz.prog 185 [.sl id ver 2 (pre.length * 2) l.length] S (fun _ S' => S' = S.set id (.cells ver 35 ((pre ++ l.reverse).flatMap Enc.enc))) := by
 refine yU Tryz.func185 Tryz.ntmps185 Tryz.results185 fun nx hd => ?_
 have hlt : id < nx := yA hd hid (by simp)
 simp only [List.length_append] at hn
 have w0 : IntKind.i64.wrap ((l.length : Int) - 1) = (l.length : Int) - 1 := wr _ (by omega) (by omega)
 refine za (ze [] w0 ?_)
 refine zj (jo (σ := Nat) (fun k => k ≤ l.length) (fun k => [(0, .sl id ver 2 (pre.length * 2) l.length), (2, I k), (3, I ((l.length : Int) - 1 - k))]) (fun k => S.set id (.cells ver 35 ((pre ++ qN l k).flatMap Enc.enc))) (fun _ => []) (fun k => l.length - k) (zP 0 [] (by simp) (by simp) (by rw [Zkz]; exact YJ S id _ hid) (by simp)) ?_)
 rintro k hk
 show PW _ _ _ _ _ _ _ (ext (S.set id (.cells ver 35 ((pre ++ qN l k).flatMap Enc.enc))) nx [])
 obtain ⟨T, hT⟩ : ∃ T, T = S.set id (.cells ver 35 ((pre ++ qN l k).flatMap Enc.enc)) := ⟨_, rfl⟩
 rw [← hT]
 repeat apply za
 refine zb ?_
 refine zr rfl (fun hc => ?_) (fun hc => ?_)
 ·simp at hc
  have h1 : k < l.length - 1 - k := by omega
  have x1 := wU l k
  obtain ⟨a, ta, a1, -, -, -, a0⟩ := el 2 rfl (pre ++ qN l k) (pre.length + k) (by simp [wU]; omega)
  obtain ⟨b, tb, b1, -, -, -, b0⟩ := el 2 rfl (pre ++ qN l k) (pre.length + (l.length - 1 - k)) (by simp [wU]; omega)
  have hst := ZkB h1 (a := a) (b := b) (by rw [← a1, List.getElem?_append_right (by omega), Nat.add_sub_cancel_left]) (by rw [← b1, List.getElem?_append_right (by omega), Nat.add_sub_cancel_left])
  have sp1 := Zc5 (pre ++ qN l k) (pre.length + k) b (by simp [wU]; omega)
  have sp2 := Zc5 ((pre ++ qN l k).set (pre.length + k) b) (pre.length + (l.length - 1 - k)) a (by simp [wU]; omega)
  have hs2 : ((pre ++ qN l k).set (pre.length + k) b).set (pre.length + (l.length - 1 - k)) a = pre ++ qN l (k + 1) := by
   rw [List.set_append_right _ _ (by omega), List.set_append_right _ _ (by omega), Nat.add_sub_cancel_left, Nat.add_sub_cancel_left, hst]
  rw [hs2] at sp2
  have hjj : (l.length : Int) - 1 - k = ((l.length - 1 - k : Nat) : Int) := by omega
  generalize l.length - 1 - k = j at *
  generalize hw0 : ((pre ++ qN l k).flatMap Enc.enc : List PV) = c0 at *
  generalize hw1 : (((pre ++ qN l k).set (pre.length + k) b).flatMap Enc.enc : List PV) = c1 at *
  have l0 : c0.length = (pre.length + l.length) * 2 := by rw [← hw0, Zf]; simp [wU]
  have l1 : c1.length = (pre.length + l.length) * 2 := by rw [← hw1, Zf]; simp [wU]
  have hTid : T id = .cells ver 35 c0 := by rw [hT]; exact Store.set_same _ _ _
  have xid := fun obs => zH (S := T) (obs := obs) hlt
  have xid1 := fun obs => zH (S := T.set id (.cells ver 35 c1)) (obs := obs) hlt
  have hs1 : (T.set id (.cells ver 35 c1)) id = .cells ver 35 c1 := Store.set_same _ _ _
  have hq1 : k + 1 ≤ l.length := by omega
  have q1 : pre.length * 2 + k * 2 = (pre.length + k) * 2 := by omega
  have q2 : pre.length * 2 + j * 2 = (pre.length + j) * 2 := by omega
  have q3 : j < l.length := by omega
  have q4 : k < l.length := by omega
  have q5 : ¬ nx ≤ id := by omega
  refine zh (za (zj ?_))
  rw [hjj]
  refine zC (some []) (Row.pures [0, 1, 2, 3, 4, 5, 6, 8, 9, 10] (.alt 7 (.alt 11 (Row.pures [12] (.alt 13 (Row.pures [14] (.alt 15 (.done) .stop)) .stop)) .stop) (.alt 11 (.alt 7 (Row.pures [12] (.alt 13 (Row.pures [14] (.alt 15 (.done) .stop)) .stop)) .stop) .stop))) mixed (yh xid hTid q1 q2 a0 (zm (yh b0 q3 q4 q5 l0 sp1) (yi hs1 xid1 sp2 l1))) ?_
  have wj : IntKind.i64.wrap ((j : Int) - 1) = (l.length : Int) - 1 - ((k + 1 : Nat) : Int) := by rw [wr _ (by omega) (by omega)]; omega
  have wk := zt k (by omega)
  have hfin : S.set id (.cells ver 35 ((pre ++ qN l (k + 1)).flatMap Enc.enc)) = (T.set id (.cells ver 35 c1)).set id (.cells ver 35 ((pre ++ qN l (k + 1)).flatMap Enc.enc)) := by rw [hT, Xp, Xp]
  have happ : ((pre ++ qN l (k + 1)).flatMap Enc.enc : List PV) = pre.flatMap Enc.enc ++ (qN l (k + 1)).flatMap Enc.enc := by rw [List.flatMap_append]
  rw [happ] at hfin
  refine ⟨?_, ?_⟩
  ·refine ⟨by omega, by omega, ?_⟩
   refine ze [] (zm wk wj) ?_
   exact zp (k + 1) [] hq1 (by omega) (by simp) (by rw [happ, hT]; simp only [Xp]) (by simp)
  ·refine ⟨by omega, by omega, ?_⟩
   refine ze [] (zm wk wj) ?_
   exact zp (k + 1) [] hq1 (by omega) (by simp) (by rw [happ, hT]; simp only [Xp]) (by simp)
 ·simp at hc
  refine zy ?_
  refine ⟨[], T, rfl, ?_, yb ?_⟩
  ·rw [hT, ZkA (by omega)]
  ·rw [hT]
   intro i hi
   rw [Store.set_other _ _ _ _ (by omega)]; exact hd i hi
open Go Go.Proofs
def qe (d : zi) (p : Pc) : List Stop := if p.f < p.o then (bif p.b then (((d.getD p.t []).drop p.f).take (p.o - p.f)).reverse else ((d.getD p.t []).drop p.f).take (p.o - p.f)) else []
def yH (d : zi) (r : Rw5) : List Stop := r.l.flatMap (qe d)
def YX (d : zi) (p : Pc) : Prop := p.f < p.o → p.t < d.length ∧ p.o ≤ tlen d p.t
def wV (d : zi) (r : Rw5) : Prop := ∀ p ∈ r.l, YX d p
theorem ZkD (d : zi) : wV d jF := by
 intro p hp h
 simp [Rw5.l, jF] at hp
 subst hp
 exact absurd h (by decide)
theorem Xq (r : Rw5) {k : Nat} (h : k < 5) : ∃ p, r.l[k]? = some p ∧ ((yk r).drop (k * 4)).take 4 = pcL p ∧ r.l.take (k + 1) = r.l.take k ++ [p] := by
 have h5 : k = 0 ∨ k = 1 ∨ k = 2 ∨ k = 3 ∨ k = 4 := by omega
 rcases h5 with rfl | rfl | rfl | rfl | rfl <;> exact ⟨_, rfl, rfl, rfl⟩
theorem Zc6 {d : zi} {p : Pc} {m : Nat} (h : ∀ t ∈ d, t.length ≤ m) : (qe d p).length ≤ m := by
 have hg : (d.getD p.t []).length ≤ m := by
  rw [List.getD_eq_getElem?_getD]
  cases hq : d[p.t]? with
  | none => simp
  | some l => exact h l (List.mem_of_getElem? hq)
 unfold qe
 generalize d.getD p.t [] = l at *
 split
 ·cases p.b <;> simp <;> omega
 ·simp
theorem Zc7 (d : zi) (r : Rw5) (hdn : d.length ≤ 1048576) (hdt : ∀ t ∈ d, t.length ≤ 1000) (hr : wV d r) : Pure Tryz.prog 149 [.agg [L d], .agg (yk r)] (L (yH d r)) := by
 have hat := fun k (h : k < 5) => Xq r h
 have hz : yH d r = (r.l.take 5).flatMap (qe d) := by unfold yH; rw [List.take_of_length_le (by simp [Rw5.l])]
 rw [hz]
 clear hz
 have hcl : (yk r).length = 20 := rfl
 have hct : (yk r).take 20 = yk r := rfl
 have hpl := fun p => Zc6 (d := d) (p := p) hdt
 have hgl : ∀ k, ((r.l.take k).flatMap (qe d)).length ≤ 1000 * k := by
  intro k
  induction k with
  | zero => simp
  | succ k ih =>
   by_cases hk : k < 5
   ·obtain ⟨p, -, -, e⟩ := hat k hk
    rw [e, List.flatMap_append, List.length_append]
    have := hpl p
    simp only [List.flatMap_cons, List.flatMap_nil, List.append_nil]; omega
   ·rw [List.take_of_length_le (by simp [Rw5.l]; omega)] at ih ⊢; omega
 have hrl : r.l.length = 5 := rfl
 generalize hrc : yk r = rc at *
 refine zx Tryz.func149 Tryz.ntmps149 Tryz.results149 fun S nx hd => ?_
 refine za (zb ?_)
 intro v0 v1
 refine za (zb ?_)
 refine za (qZ 5 35 2 rfl fun v2 => ?_)
 refine za (ze [] (zm hcl hct) ?_)
 refine zj (zG (fun s' : Nat × Nat => s'.1 ≤ 5) (fun (k, v2) => [(2, .ptr nx v0 0), (3, .ptr (nx + 1) v1 0), (5, .sl (nx + 2) v2 2 0 ((r.l.take k).flatMap (qe d)).length), (9, .agg rc), (10, I k)]) (fun (k, v2) => [.cells v0 58 [L d], .cells v1 195 rc, .cells v2 35 (((r.l.take k).flatMap (qe d)).flatMap Enc.enc)]) (fun s' => 5 - s'.1) (0, v2) [] (by simp) (by simp) (by simp) ?_)
 rintro ⟨k, v2⟩ hk
 simp only at hk ⊢
 by_cases hk5 : k < 5
 ·obtain ⟨p, hp1, hp2, hp3⟩ := hat k hk5
  have hk5' : (k : Int) < 5 := by omega
  have hk6 : 4 ≤ 20 - k * 4 := by omega
  have hok := hr p (List.mem_of_getElem? hp1)
  have hol := hgl k
  have hnx : (r.l.take (k + 1)).flatMap (qe d) = (r.l.take k).flatMap (qe d) ++ qe d p := by rw [hp3, List.flatMap_append]; simp
  have hol2 := hpl p
  generalize (r.l.take k).flatMap (qe d) = out at *
  have wk := zt k (by omega)
  refine za (ze [] hk5' ?_)
  refine za (zo rfl (zh (za (zj (za (ze [] (qm hp2 hk5 hk5' hcl hk6) ?_))))))
  intro v3
  by_cases hfo : p.f < p.o
  case neg =>
   have hpz : qe d p = [] := by unfold qe; rw [if_neg hfo]
   have hfo' : p.o ≤ p.f := by omega
   repeat apply za
   refine ze [] hfo' ?_
   refine zo (by simp [hfo']) ?_
   refine zy (zb ?_)
   exact zp (k + 1, v2) [_] (by simp; omega) (by simp; omega) (by simp [wk, hnx, hpz]) rfl (by simp [hnx, hpz]; rfl)
  obtain ⟨ht, ho⟩ := hok hfo
  obtain ⟨t, tt, t1, -, -, t0⟩ := zE rfl d p.t ht
  have ht1 : 1 ≤ d.length - p.t := by omega
  have htg : d.getD p.t [] = t := by rw [List.getD_eq_getElem?_getD, t1]; rfl
  unfold tlen at ho
  rw [htg] at ho
  have hpz : qe d p = bif p.b then ((t.drop p.f).take (p.o - p.f)).reverse else (t.drop p.f).take (p.o - p.f) := by unfold qe; rw [if_pos hfo, htg]
  have hfo' : ¬ p.o ≤ p.f := by omega
  have hsl : ((t.flatMap Enc.enc : List PV).drop (p.f * 2)).take ((p.o - p.f) * 2) = ((t.drop p.f).take (p.o - p.f)).flatMap Enc.enc := by rw [Yt Enc.enc 2 (fun _ => rfl) t p.f, Zb Enc.enc 2 (fun _ => rfl) (t.drop p.f) (p.o - p.f)]
  have hsl2 : ((t.drop p.f).take (p.o - p.f)).length = p.o - p.f := by simp; omega
  have hsl3 : (((t.drop p.f).take (p.o - p.f)).flatMap Enc.enc : List PV).length = (p.o - p.f) * 2 := by rw [Zf, hsl2]
  generalize (t.drop p.f).take (p.o - p.f) = sg at *
  have hof : (out.flatMap Enc.enc : List PV).length = out.length * 2 := Zf out
  have hot : (out.flatMap Enc.enc : List PV).take (out.length * 2) = out.flatMap Enc.enc := List.take_of_length_le (by omega)
  have q1 : p.f ≤ p.o := by omega
  have htl := hdt t (List.mem_of_getElem? t1)
  repeat apply za
  refine ze [] hfo' ?_
  refine zn (by simp [hfo']) ?_
  refine zh (za (zb ?_))
  refine za (zC (some [nx, nx + 3]) (Row.pures [0, 1, 2, 3, 4, 5, 6, 7, 8, 9, 10, 11, 12] (.alt 13 (Row.pures [14] .done) .stop)) mixed (yh t0 ht ht1 hof hot (yi hsl hsl2 q1 ho)) ?_)
  refine ⟨by omega, ?_⟩
  have hsgl : sg.length ≤ 1000 := by
   have h1 := hdt t (List.mem_of_getElem? t1)
   omega
  cases hpb : p.b with
  | false =>
   rw [hpb] at hpz
   simp only [cond_false] at hpz
   refine za (ze [] hpb ?_)
   refine zn rfl (zh (zb ?_))
   exact zp (k + 1, v2 + 1) [_] (by simp; omega) (by simp; omega) (by simp [wk, hnx, hpz, hsl2]) rfl (by simp [hnx, hpz]; rfl)
  | true =>
   rw [hpb] at hpz
   simp only [cond_true] at hpz
   have hrev := fun (S : Store) (id ver : Nat) h => ZkC (S := S) (id := id) (ver := ver) out sg (by simp; omega) h
   rw [hsl2] at hrev
   refine za (ze [] hpb ?_)
   refine zo rfl (zV [] (by rfl) (by rfl) fun K Gc Gh hK hGc hGh X hX0 hX => ?_)
   simp -implicitDefEqProofs [hX0, hX]
   try clear hX0 hX X
   refine hGc _ _ _ _ _ _ _ fun hsuf => ((hrev _ _ _ (by rw [yQ, List.flatMap_append]; rfl)).mono ?_).v
   rintro _ _ rfl
   refine ⟨_, _, y9 _ (by omega) (by simp), ?_⟩
   clear hGc hGh
   clear Gc Gh
   refine zR hsuf (D := []) (by rfl) fun Gc Gh hGc hGh X hX0 hX => ?_
   simp -implicitDefEqProofs [hX0, hX, (show nx + 2 - nx = 2 by omega)]
   clear hX0 hX X
   refine hK _ _ _ ?_
   clear hK hGc hGh
   clear K Gc Gh
   refine zb ?_
   exact zp (k + 1, v2 + 1) [_] (by simp; omega) (by simp; omega) (by simp [wk, hnx, hpz, hsl2]) rfl (by simp [hnx, hpz]; rfl)
 ·obtain rfl : k = 5 := by omega
  generalize (r.l.take 5).flatMap (qe d) = out at *
  refine za (zb ?_)
  refine za (zn rfl (zy (yc 2 rfl ?_)))
  refine za (zb ?_)
  exact zg (zk hd (by simp; rfl) (by simp [zq]))
open Go Hp
theorem Zc8 {α : Type} {d : List α} (hn : d.Nodup) {i j : Nat} {t : α} (hi : d[i]? = some t) (hj : d[j]? = some t) : i = j := by
 obtain ⟨g1, g2⟩ := List.getElem?_eq_some_iff.1 hi
 obtain ⟨g3, g4⟩ := List.getElem?_eq_some_iff.1 hj
 have hp := List.pairwise_iff_getElem.1 hn
 rcases Nat.lt_trichotomy i j with h | h | h
 ·exact absurd (g2.trans g4.symm) (hp i j g1 g3 h)
 ·exact h
 ·exact absurd (g4.trans g2.symm) (hp j i g3 g1 h)
def jx (f : zD → Bool) : zi → Int
 | [] => -1
 | t :: d => if 0 ≤ jx f d then jx f d + 1 else if f t then 0 else -1
theorem Zc9 (f : zD → Bool) : ∀ d : zi, (jx f d = -1 ∧ ∀ t ∈ d, f t = false) ∨ ∃ (k : Nat) (t : zD), d[k]? = some t ∧ f t = true ∧ jx f d = k
 | [] => .inl ⟨rfl, fun t h => by cases h⟩
 | u :: d => by
  unfold jx
  rcases Zc9 f d with ⟨h1, h2⟩ | ⟨k, t, h1, h2, h3⟩
  ·rw [h1, if_neg (by omega)]
   cases hu : f u with
   | true => exact .inr ⟨0, u, rfl, hu, by simp⟩
   | false =>
    refine .inl ⟨by simp, fun t ht => ?_⟩
    rcases List.mem_cons.1 ht with rfl | ht
    ·exact hu
    ·exact h2 t ht
  ·rw [h3, if_pos (by omega)]
   exact .inr ⟨k + 1, t, by simpa using h1, h2, by simp⟩
def Vq (d : zi) (a b : Nat) (t : zD) (k : Nat) : zi := (List.range k).flatMap fun j => if j = a then [t] else if j = b then [] else [d.getD j []]
def uT (c : Int) (t : zD) : Bool := decide (uR t = some c)
def uU (c : Int) (t : zD) : Bool := decide (Zi t = some c)
def uV (x : Inst) (d : zi) (p : Pr) : zi :=
 if jx (uT p.a) d < 0 ∨ jx (uU p.b) d < 0 ∨ jx (uT p.a) d = jx (uU p.b) d ∨ (p.s ≤ 0 ∧ (d.length : Int) ≤ x.veh) then d
 else if zJ x (d.getD (jx (uT p.a) d).toNat [] ++ d.getD (jx (uU p.b) d).toNat []) = 0 then
  Vq d (jx (uT p.a) d).toNat (jx (uU p.b) d).toNat (d.getD (jx (uT p.a) d).toNat [] ++ d.getD (jx (uU p.b) d).toNat []) d.length
 else d
theorem Vr {α β γ : Type} {f : α → List γ} {g : β → List γ} : ∀ (A : List α) (B : List β), A.length = B.length → (∀ (j : Nat) a b, A[j]? = some a → B[j]? = some b → f a = g b) → A.flatMap f = B.flatMap g
 | [], [], _, _ => rfl
 | a :: A, b :: B, hl, h => by
  rw [List.flatMap_cons, List.flatMap_cons, h 0 a b rfl rfl, Vr A B (by simpa using hl) fun j a b ha hb => h (j + 1) a b (by simpa using ha) (by simpa using hb)]
 | [], _ :: _, hl, _ => by simp at hl
 | _ :: _, [], hl, _ => by simp at hl
theorem Vs {α : Type} (p : α → Bool) : ∀ l : List α, l.filter p = l.flatMap fun a => if p a then [a] else []
 | [] => rfl
 | a :: l => by
  rw [List.flatMap_cons, ← Vs p l, List.filter_cons]
  cases p a <;> simp
structure Apt (T : zi) : Prop where
 u : ∀ (i j : Nat) t s s', T[i]? = some t → s ∈ t → ∀ t', T[j]? = some t' → s' ∈ t' → s.c = s'.c → i = j
theorem JI.apt {ss : List Stop} {T : zi} {g : Int → Option Int} (h : JI ss T g) : Apt T := ⟨fun i j t s s' hi hs t' hj hs' e => by
 have e1 := h.g i t s hi hs
 have e2 := h.g j t' s' hj hs'
 rw [e, e2] at e1
 have := Option.some.inj e1
 omega⟩
abbrev ne (t : zD) : Bool := !t.isEmpty
theorem QW {t : zD} (h : ne t = true) : ∃ s, s ∈ t := by
 cases t with
 | nil => cases h
 | cons s t => exact ⟨s, by simp⟩
theorem QX {t : zD} {s : Stop} (h : s ∈ t) : ne t = true := by
 cases t with
 | nil => cases h
 | cons s t => rfl
def YY (ta tb u : zD) : zi := if u = ta then [ta ++ tb] else if u = tb then [] else [u]
theorem ZkE {T : zi} (hA : Apt T) {i k : Nat} {ta tb : zD} (hi : T[i]? = some ta) (hk : T[k]? = some tb) (hik : i ≠ k) (ha : ne ta = true) (hb : ne tb = true) :
  ((T.set i (ta ++ tb)).set k []).filter ne = (T.filter ne).flatMap (YY ta tb) := by
 rw [Vs ne T, List.flatMap_assoc, Vs]
 refine Vr _ _ (by simp) fun j u v hu hv => ?_
 obtain ⟨sa, hsa⟩ := QW ha
 obtain ⟨sb, hsb⟩ := QW hb
 have hjl := (List.getElem?_eq_some_iff.1 hv).1
 by_cases h1 : k = j
 ·subst h1
  rw [List.getElem?_set_self (by simpa using hjl)] at hu
  cases hu
  obtain rfl : tb = v := by rw [hk] at hv; exact Option.some.inj hv
  have hne : tb ≠ ta := by
   rintro rfl
   exact hik (hA.u i k tb sb sb hi hsb tb hk hsb rfl)
  rw [if_pos hb]
  simp [YY, hne]
 ·rw [List.getElem?_set_ne h1] at hu
  by_cases h2 : i = j
  ·subst h2
   rw [List.getElem?_set_self hjl] at hu
   cases hu
   obtain rfl : ta = v := by rw [hi] at hv; exact Option.some.inj hv
   rw [if_pos ha, if_pos (QX (s := sa) (by simp [hsa]))]
   simp [YY]
  ·rw [List.getElem?_set_ne h2] at hu
   obtain rfl : u = v := by rw [hv] at hu; exact (Option.some.inj hu).symm
   cases hn : ne u with
   | false => simp
   | true =>
    obtain ⟨su, hsu⟩ := QW hn
    have n1 : u ≠ ta := by rintro rfl; exact h2 (hA.u i j u su su hi hsu u hv hsu rfl)
    have n2 : u ≠ tb := by rintro rfl; exact h1 (hA.u k j u su su hk hsu u hv hsu rfl)
    simp [YY, n1, n2]
theorem ZkF {T : zi} (hA : Apt T) : (T.filter ne).Nodup := by
 rw [List.nodup_iff_pairwise_ne, List.pairwise_filter, List.pairwise_iff_getElem]
 intro i j hi hj hij h1 h2 e
 obtain ⟨s, hs⟩ := QW h1
 have := hA.u i j T[i] s s (List.getElem?_eq_getElem hi) hs T[j] (List.getElem?_eq_getElem hj) (e ▸ hs) rfl
 omega
theorem ZkG {d : zi} (hn : d.Nodup) {a b : Nat} {ta tb : zD} (ha : d[a]? = some ta) (hb : d[b]? = some tb) : Vq d a b (ta ++ tb) d.length = d.flatMap (YY ta tb) := by
 unfold Vq
 refine Vr _ _ (by simp) fun j n u hj hu => ?_
 rw [List.getElem?_range (List.getElem?_eq_some_iff.1 hu).1] at hj
 cases hj
 have same : ∀ {k : Nat} {t : zD}, d[k]? = some t → (j = k ↔ u = t) := by
  intro k t hk
  constructor
  ·rintro rfl; rw [hu] at hk; exact Option.some.inj hk
  ·rintro rfl; exact Zc8 hn hu hk
 have e1 := same ha
 have e2 := same hb
 have hg : d.getD j [] = u := by rw [List.getD_eq_getElem?_getD, hu]; rfl
 unfold YY
 by_cases h1 : j = a
 ·rw [if_pos h1, if_pos (e1.1 h1)]
 ·rw [if_neg h1, if_neg fun e => h1 (e1.2 e)]
  by_cases h2 : j = b
  ·rw [if_pos h2, if_pos (e2.1 h2)]
  ·rw [if_neg h2, if_neg fun e => h2 (e2.2 e), hg]
theorem Zda {T : zi} (hA : Apt T) {i : Nat} {t : zD} {s : Stop} (hi : T[i]? = some t) (hs : s ∈ t) (f : zD → Bool) (hf : ∀ u, f u = true → ∃ s' ∈ u, s'.c = s.c) :
  (f t = false ∧ jx f (T.filter ne) = -1) ∨ (f t = true ∧ ∃ k : Nat, (T.filter ne)[k]? = some t ∧ jx f (T.filter ne) = k) := by
 have uniq : ∀ u ∈ T.filter ne, f u = true → u = t := by
  intro u hu hfu
  obtain ⟨s', hs', e⟩ := hf u hfu
  obtain ⟨j, hj⟩ := List.mem_iff_getElem?.1 (List.mem_filter.1 hu).1
  have := hA.u i j t s s' hi hs u hj hs' e.symm
  subst this
  rw [hi] at hj; exact (Option.some.inj hj).symm
 have ht : t ∈ T.filter ne := List.mem_filter.2 ⟨List.mem_of_getElem? hi, QX hs⟩
 rcases Zc9 f (T.filter ne) with ⟨h1, h2⟩ | ⟨k, u, h1, h2, h3⟩
 ·exact .inl ⟨h2 t ht, h1⟩
 ·have := uniq u (List.mem_of_getElem? h1) h2
  subst this
  exact .inr ⟨h2, k, h1, h3⟩
theorem ZkH {c : Int} {t : zD} (h : uT c t = true) : ∃ s ∈ t, s.c = c := by
 have h : uR t = some c := of_decide_eq_true h
 unfold uR at h
 obtain ⟨s, h1, h2⟩ := Option.map_eq_some_iff.1 h
 exact ⟨s, List.mem_of_getElem? h1, h2⟩
theorem ZkI {c : Int} {t : zD} (h : uU c t = true) : ∃ s ∈ t, s.c = c := by
 have h : Zi t = some c := of_decide_eq_true h
 unfold Zi at h
 obtain ⟨s, h1, h2⟩ := Option.map_eq_some_iff.1 h
 exact ⟨s, List.mem_of_getElem? h1, h2⟩
theorem Vt (p : zD → Bool) : ∀ T : zi, ((T.filter p).length : Int) = (T.map fun t => if p t then (1 : Int) else 0).sum
 | [] => rfl
 | t :: T => by
  rw [List.filter_cons, List.map_cons, List.sum_cons, ← Vt p T]
  cases p t <;> simp <;> omega
theorem ZkJ {T : zi} {i k : Nat} {ta tb : zD} (hi : T[i]? = some ta) (hk : T[k]? = some tb) (hik : i ≠ k) (ha : ne ta = true) (hb : ne tb = true) :
  ((((T.set i (ta ++ tb)).set k []).filter ne).length : Int) = ((T.filter ne).length : Int) - 1 := by
 obtain ⟨sa, hsa⟩ := QW ha
 rw [Vt, Vt, QV _ _ k tb [] (by rw [List.getElem?_set_ne hik]; exact hk), QV _ _ i ta (ta ++ tb) hi]
 have hn : ne (ta ++ tb) = true := QX (s := sa) (by simp [hsa])
 simp only [ha, hb, hn, if_true]
 simp
theorem ZkK {x : Inst} {ss : List Stop} {st : zi × Int} {g : Int → Option Int} (h : JI ss st.1 g) (hnum : st.2 = ((st.1.filter ne).length : Int)) {p : Pr} (hpa : p.a ∈ ss.map (·.c)) (hpb : p.b ∈ ss.map (·.c)) :
  uV x (st.1.filter ne) p = (qw x st p).1.filter ne ∧ (qw x st p).2 = (((qw x st p).1.filter ne).length : Int) ∧ ∃ g', JI ss (qw x st p).1 g' := by
 obtain ⟨i, a, sa, hia, hsa, hsac, hga, hpi⟩ := h.there hpa
 obtain ⟨k, b, sb, hkb, hsb, hsbc, hgb, hpk⟩ := h.there hpb
 have hgi : st.1.getD i [] = a := by rw [List.getD_eq_getElem?_getD, hia]; rfl
 have hgk : st.1.getD k [] = b := by rw [List.getD_eq_getElem?_getD, hkb]; rfl
 have hdef : qw x st p = bif y8 x st.2 p i k a b then ((st.1.set i (a ++ b)).set k [], st.2 - 1) else st := by
  unfold qw YO
  simp only [hpi, hpk, hgi, hgk]
 have hA := h.apt
 have hna := QX hsa
 have hnb := QX hsb
 have hnd := ZkF hA
 rw [hdef]
 have stay : y8 x st.2 p i k a b = false → uV x (st.1.filter ne) p = st.1.filter ne → uV x (st.1.filter ne) p = (bif y8 x st.2 p i k a b then ((st.1.set i (a ++ b)).set k [], st.2 - 1) else st).1.filter ne ∧ (bif y8 x st.2 p i k a b then ((st.1.set i (a ++ b)).set k [], st.2 - 1) else st).2 = (((bif y8 x st.2 p i k a b then ((st.1.set i (a ++ b)).set k [], st.2 - 1) else st).1.filter ne).length : Int) ∧ ∃ g', JI ss (bif y8 x st.2 p i k a b then ((st.1.set i (a ++ b)).set k [], st.2 - 1) else st).1 g' := by
  intro e1 e2
  rw [e1]
  exact ⟨e2, hnum, g, h⟩
 rcases Zda hA hia hsa (uT p.a) (fun u hu => by rw [hsac]; exact ZkH hu) with ⟨fa, la⟩ | ⟨fa, ka, ha1, la⟩
 ·have e1 : uR a ≠ some p.a := of_decide_eq_false fa
  refine stay (by simp [y8, e1]) ?_
  unfold uV; rw [if_pos (.inl (by omega))]
 rcases Zda hA hkb hsb (uU p.b) (fun u hu => by rw [hsbc]; exact ZkI hu) with ⟨fb, lb⟩ | ⟨fb, kb, hb1, lb⟩
 ·have e1 : Zi b ≠ some p.b := of_decide_eq_false fb
  refine stay (by simp [y8, e1]) ?_
  unfold uV; rw [if_pos (.inr (.inl (by omega)))]
 have e1 : uR a = some p.a := of_decide_eq_true fa
 have e2 : Zi b = some p.b := of_decide_eq_true fb
 have hab : ka = kb ↔ i = k := by
  constructor
  ·rintro rfl
   obtain rfl : a = b := by rw [ha1] at hb1; exact Option.some.inj hb1
   exact hA.u i k a sa sa hia hsa a hkb hsa rfl
  ·rintro rfl
   obtain rfl : a = b := by rw [hia] at hkb; exact Option.some.inj hkb
   exact Zc8 hnd ha1 hb1
 have ga : (st.1.filter ne).getD (ka : Int).toNat [] = a := by rw [Int.toNat_natCast, List.getD_eq_getElem?_getD, ha1]; rfl
 have gb : (st.1.filter ne).getD (kb : Int).toNat [] = b := by rw [Int.toNat_natCast, List.getD_eq_getElem?_getD, hb1]; rfl
 by_cases hik : i = k
 ·refine stay (by simp [y8, hik]) ?_
  unfold uV; rw [if_pos (.inr (.inr (.inl (by rw [la, lb, hab.2 hik]))))]
 by_cases hfew : p.s ≤ 0 ∧ st.2 ≤ x.veh
 ·refine stay (by simp [y8, hfew.1, hfew.2]) ?_
  unfold uV; rw [if_pos (.inr (.inr (.inr ⟨hfew.1, by omega⟩)))]
 have hcond : ¬ (jx (uT p.a) (st.1.filter ne) < 0 ∨ jx (uU p.b) (st.1.filter ne) < 0 ∨ jx (uT p.a) (st.1.filter ne) = jx (uU p.b) (st.1.filter ne) ∨ (p.s ≤ 0 ∧ ((st.1.filter ne).length : Int) ≤ x.veh)) := by
  rw [la, lb]
  rintro (q | q | q | q)
  ·omega
  ·omega
  ·exact hik (hab.1 (by omega))
  ·exact hfew ⟨q.1, by omega⟩
 by_cases hmay : zJ x (a ++ b) = 0
 ·have hc : y8 x st.2 p i k a b = true := by
   unfold y8
   simp only [hik, e1, e2, hmay, Bool.and_eq_true, decide_eq_true_eq, ne_eq, not_false_eq_true, Bool.not_eq_true', Bool.and_eq_false_iff, decide_eq_false_iff_not, and_true, true_and]
   by_cases q : p.s ≤ 0
   ·exact .inr fun e => hfew ⟨q, e⟩
   ·exact .inl q
  rw [hc]
  simp only [cond_true]
  refine ⟨?_, ?_, _, h.join hia hkb hik⟩
  ·unfold uV
   rw [if_neg hcond, la, lb, ga, gb, if_pos hmay, ZkE hA hia hkb hik hna hnb, ← ZkG hnd ha1 hb1]
   rfl
  ·rw [ZkJ hia hkb hik hna hnb, hnum]
 ·refine stay (by simp [y8, hmay]) ?_
  unfold uV
  rw [if_neg hcond, la, lb, ga, gb, if_neg hmay]
theorem ZkL (ss : List Stop) : (ss.map fun s => [s]).filter ne = qi ss := by
 unfold qi; rw [List.filter_eq_self]; intro t ht; obtain ⟨s, _, rfl⟩ := List.mem_map.1 ht; rfl
open Go Hp
theorem Vu (l : List Stop) : (qi l).length = l.length := by simp [qi]
theorem ZkM {x : Inst} {ss : List Stop} {T : zi} {g : Int → Option Int} (h : JI ss T g) (hss : ss.length ≤ 1000) : (T.filter ne).length ≤ 1000 ∧ (T.filter ne).flatten.length ≤ 1000 ∧ ∀ t ∈ T.filter ne, t ≠ [] := by
 have hf : (T.filter ne).flatten = T.flatten := by
  induction T with
  | nil => rfl
  | cons t T ih =>
   clear h
   have key : ∀ T : zi, (T.filter ne).flatten = T.flatten := by
    intro T
    induction T with
    | nil => rfl
    | cons t T ih =>
     rw [List.filter_cons]
     cases t with
     | nil => simpa using ih
     | cons s t => simp [ih]
   exact key _
 have hne : ∀ t ∈ T.filter ne, t ≠ [] := fun t ht e => by
  have := (List.mem_filter.1 ht).2
  rw [e] at this; cases this
 have hl := h.perm.length_eq
 have h1 := QR (T.filter ne) hne
 rw [hf] at h1
 exact ⟨by omega, by rw [hf]; omega, hne⟩
end Go.Proofs.YtcnbiofjmioaiaaGreat.Pv
