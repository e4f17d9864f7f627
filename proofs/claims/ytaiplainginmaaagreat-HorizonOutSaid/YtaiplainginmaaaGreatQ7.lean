/- A part of the proof of the statement that the last text of this claim proves; no condition is added. Packed by a program of the prover. -/
import Derived.Test.YtaiplainginmaaaGreatQ6
namespace Go.Proofs.YtaiplainginmaaaGreat.Pv
open Go Go.Proofs Hp
def RowOf (S : Store) (pl : PV) (l : List Int) : Prop := pl = L l ∨ ∃ id ver, pl = .sl id ver 1 0 l.length ∧ S id = .cells ver 3 (l.flatMap Enc.enc)
theorem RowOf.ext {S : Store} {pl : PV} {l : List Int} (h : RowOf S pl l) {nx : Nat} (hd : zK nx S) (obs : List Ob) : RowOf (ext S nx obs) pl l := by
 rcases h with h | ⟨id, ver, h1, h2⟩
 ·exact .inl h
 ·exact .inr ⟨id, ver, h1, (zy (yQ hd h2 (by simp))).trans h2⟩
set_option maxRecDepth 20000 in
theorem ZbI {S : Store} {nx id ver : Nat} (hd : zK nx S) (x : Inst) (v p f pr : PV) (b : Int) (fn : FuncId) (fs : List PV) (n : Nat) (hn : x.days = n) (hn2 : n ≤ 1000) (hS : S id = .cells ver 87 (plL x v b p f pr)) (Pk : Nat → Store → Prop) (h0 : Pk 0 S)
  (hPd : ∀ k T, Pk k T → zK nx T) (hstep : ∀ k, k < n → ∀ T, Pk k T → Spec Tryz.prog fn (fs ++ [I k]) T (fun _ S' => Pk (k + 1) S')) :
  Spec Tryz.prog 47 [.ptr id ver 0, .fn (.func fn) fs []] S (fun _ S' => Pk n S') := by
 refine uI hd Tryz.func47 Tryz.ntmps47 Tryz.results47 ?_
 have hlt : id < nx := yQ hd hS (by simp)
 have xw := fun obs => (zy (S := S) (obs := obs) hlt).trans hS
 repeat apply za
 refine pwN [] (jn2 xw hn) ?_
 intros
 repeat apply za
 refine ze (qV (σ := Nat × Store) (fun s => s.1 ≤ n ∧ Pk s.1 s.2) (fun s => [(1, .fn (.func fn) fs []), (9, I n), (10, I s.1)]) (fun s => s.2) (fun _ => []) (fun s => n - s.1) (zt (0, S) [] ⟨by simp, h0⟩ (by simp) rfl (by simp)) ?_)
 rintro ⟨k, T⟩ ⟨hk, hP⟩
 simp only at hk hP ⊢
 (repeat apply za); refine pwn ?_; intros
 repeat apply za
 refine zl rfl (fun hc => ?_) (fun hc => ?_)
 ·simp at hc
  refine zd (za (ze ?_))
  (repeat apply za); refine pwn ?_; intros
  repeat apply za
  refine zN [] (by rfl) (by rfl) fun K Gc Gh hK hGc hGh X hX0 hX => ?_
  simp -implicitDefEqProofs [hX0, hX]
  try clear hX0 hX X
  refine hGc _ _ _ _ _ _ _ fun hsuf => (Spec.mono (by rw [yt (hPd k T hP)]; simpa using hstep k hc T hP) ?_).v
  rintro _ T' hP'
  refine ⟨T', [], (yt (hPd _ _ hP')).symm, ?_⟩
  clear hGc hGh
  clear Gc Gh
  refine zI hsuf (D := []) (by rfl) fun Gc Gh hGc hGh X hX0 hX => ?_
  simp -implicitDefEqProofs [hX0, hX]
  clear hX0 hX X
  intros
  refine hK _ _ _ ?_
  clear hK hGc hGh
  clear K Gc Gh
  (repeat apply za); refine pwn ?_; intros
  exact zk (k + 1, T') [] ⟨hc, hP'⟩ (by simp; omega) (by simp [wrN k (by omega)]) rfl (by simp)
 ·simp at hc
  obtain rfl : k = n := by omega
  refine zm ?_
  exact ⟨_, T, rfl, hP, zL (hPd _ _ hP)⟩
def xN (x : Inst) (j : Nat) : Int := W (zB x [(j : Int)])
def yY (x : Inst) (k i : Nat) : List (List Int) := (List.range x.cust.length).map fun j => List.replicate (if j < i then k + 1 else k) (xN x j)
theorem wv (x : Inst) (k i : Nat) : (yY x k i).length = x.cust.length := by simp [yY]
theorem ZbJ (x : Inst) (k i j : Nat) (h : j < x.cust.length) : (yY x k i).getD j [] = List.replicate (if j < i then k + 1 else k) (xN x j) := by
 rw [List.getD_eq_getElem?_getD]; simp [yY, h]
theorem Zi9 (x : Inst) (k : Nat) : yY x k x.cust.length = yY x (k + 1) 0 := by
 unfold yY
 refine List.map_congr_left fun j hj => ?_
 rw [if_pos (List.mem_range.1 hj), if_neg (by omega)]
theorem Zja (x : Inst) (k i : Nat) (h : i < x.cust.length) : (yY x k i).set i (List.replicate (k + 1) (xN x i)) = yY x k (i + 1) := by
 apply List.ext_getElem?
 intro j
 rw [List.getElem?_set, wv]
 by_cases hij : i = j
 ·subst hij; rw [if_pos rfl, if_pos h]; simp [yY, h]
 ·rw [if_neg hij]
  by_cases hj : j < x.cust.length
  ·simp only [yY, List.getElem?_map, List.getElem?_range hj, Option.map_some]
   congr 2
   by_cases h1 : j < i
   ·rw [if_pos h1, if_pos (by omega)]
   ·rw [if_neg h1, if_neg (by omega)]
  ·rw [List.getElem?_eq_none (by rw [wv]; omega), List.getElem?_eq_none (by rw [wv]; omega)]
set_option maxRecDepth 20000 in
theorem Zjb {S : Store} {id ver A va base : Nat} {ws : Nat → Nat} {x : Inst} {v p f : PV} {b : Int} (k : Nat) (hx : x.cust.length ≤ 1000) (hk : k ≤ 1000) (hid : id < base) (hidA : id ≠ A) (hS : S id = .cells ver 87 (plL x v b p f (.sl A va 1 0 x.cust.length)))
  (hR : RowsAt S A va 54 base 3 1 ws (yY x k 0)) :
  Spec Tryz.prog 48 [.ptr id ver 0, I k] S (fun _ S' => (∃ ws', RowsAt S' A va 54 base 3 1 ws' (yY x (k + 1) 0)) ∧ ∀ o, o ≠ A → (o < base ∨ base + x.cust.length ≤ o) → S' o = S o) := by
 refine jg Tryz.func48 Tryz.ntmps48 Tryz.results48 fun nx hd => ?_
 have hlt : id < nx := yQ hd hS (by simp)
 have hltA : A < nx := yQ hd hR.arr (by simp)
 have hltR : ∀ i, i < x.cust.length → base + i < nx := fun i hi => yQ hd (hR.row i (by rw [wv]; exact hi)) (by simp)
 have xw := fun obs => (zy (S := S) (obs := obs) hlt).trans hS
 repeat apply za
 refine pwN [] xw ?_
 intros
 repeat apply za
 refine ze (qV (σ := Nat × Store × (Nat → Nat)) (fun s => s.1 ≤ x.cust.length ∧ RowsAt s.2.1 A va 54 base 3 1 s.2.2 (yY x k s.1) ∧ ∀ o, o ≠ A → (o < base ∨ base + x.cust.length ≤ o) → s.2.1 o = S o)
  (fun s => [(0, .ptr id ver 0), (10, I x.cust.length), (11, I s.1)]) (fun s => s.2.1) (fun _ => []) (fun s => x.cust.length - s.1) (zt (0, S, ws) [] ⟨by simp, hR, fun _ _ _ => rfl⟩ (by simp) rfl (by simp)) ?_)
 clear hR
 rintro ⟨i, T, ws⟩ ⟨hi, hR, hT⟩
 simp only at hi hR hT ⊢
 (repeat apply za); refine pwn ?_; intros
 repeat apply za
 refine zl rfl (fun hc => ?_) (fun hc => ?_)
 ·simp at hc
  have hTw : T id = .cells ver 87 (plL x v b p f (.sl A va 1 0 x.cust.length)) := (hT id hidA (.inl hid)).trans hS
  have hAb := hR.out
  have hri := hR.row i (by rw [wv]; exact hc)
  rw [ZbJ x k i i hc, if_neg (Nat.lt_irrefl i)] at hri
  have hlti := hltR i hc
  have xw := fun obs => (zy (S := T) (obs := obs) hlt).trans hTw
  have xa := fun obs => (zy (S := T) (obs := obs) hltA).trans hR.arr
  have xr := fun obs => (zy (S := T) (obs := obs) hlti).trans hri
  have ya := fun (o : Ob) obs => (zy (S := T.set (base + i) o) (obs := obs) hltA).trans ((Store.set_other _ _ _ _ (by omega)).trans hR.arr)
  have yw := fun (o : Ob) obs => (zy (S := T.set (base + i) o) (obs := obs) hlt).trans ((Store.set_other _ _ _ _ (by omega)).trans hTw)
  have zw := fun (o o' : Ob) obs => (zy (S := (T.set (base + i) o).set A o') (obs := obs) hlt).trans ((Store.set_other _ _ _ _ hidA).trans ((Store.set_other _ _ _ _ (by omega)).trans hTw))
  have g1 : ¬ nx ≤ base + i := by omega
  have g2 : ¬ nx ≤ A := by omega
  obtain ⟨tl, hdr⟩ := XG base 1 ws (yY x k i) i (by rw [wv]; exact hc)
  rw [ZbJ x k i i hc, if_neg (Nat.lt_irrefl i), List.length_replicate] at hdr
  have hcl : (rwC base 1 ws (yY x k i)).length = x.cust.length := by rw [Zb, wv]
  have hsp := JG (rwC base 1 ws (yY x k i)) i (.sl (base + i) (ws i + 1) 1 0 (k + 1)) (by omega)
  have hway := WY x [(i : Int)] (by simp) (fun c hc => by rw [List.mem_singleton.1 hc]; unfold small; omega)
  have hfe : ∀ m : Nat, ((List.replicate m (xN x i)).flatMap Enc.enc).length = m := fun m => by rw [jf]; simp [Enc.sz]
  refine zd (za (ze ?_))
  (repeat apply za); refine pwn ?_; intros
  repeat apply za
  refine pwY (some [id]) (Row.pures [0, 1, 2, 3, 4, 5, 6, 7, 8, 9, 10, 12, 13, 14, 15, 16, 17, 18, 19] (.alt 11 (.alt 20 (Row.pures [21] (.alt 22 (.done) .stop)) .stop) .stop)) mixed (jn6 xw xa xr ya yw (jn2 (jn6 zw hdr g1 g2 hsp hcl) hc)) ?_
  refine pwP (hway) (jn6 xw xa xr ya yw (jn2 (jn6 zw hdr g1 g2 hsp hcl) hc)) ?_
  refine ⟨by omega, by omega, ?_⟩
  intros
  obtain ⟨T', hT'⟩ : ∃ T', T' = (T.set (base + i) (.cells (ws i + 1) 3 ((List.replicate (k + 1) (xN x i)).flatMap Enc.enc))).set A (.cells va 54 ((rwC base 1 ws (yY x k i)).set i (.sl (base + i) (ws i + 1) 1 0 (List.replicate (k + 1) (xN x i)).length))) := ⟨_, rfl⟩
  have hnew := hR.turn (i := i) (by rw [wv]; exact hc) (T' := T') (ws i + 1) (List.replicate (k + 1) (xN x i)) (by rw [hT']; exact Store.set_same _ _ _) (by rw [hT', Store.set_other _ _ _ _ (by omega), Store.set_same]) (fun o o1 o2 => by rw [hT', Store.set_other _ _ _ _ o1, Store.set_other _ _ _ _ o2])
  rw [Zja x k i hc] at hnew
  (repeat apply za); refine pwn ?_; intros
  refine zk (i + 1, T', _) [] ⟨hc, hnew, fun o ho hob => ?_⟩ (by simp; omega) (by simp [wrN i (by omega)]) ?_ (by simp)
  ·dsimp only; rw [hT', Store.set_other _ _ _ _ ho, Store.set_other _ _ _ _ (by omega)]; exact hT o ho hob
  ·dsimp only; rw [hT']
   have htk : ((List.replicate k (xN x i)).flatMap Enc.enc).take k = (List.replicate k (xN x i)).flatMap Enc.enc := List.take_of_length_le (by rw [hfe]; exact Nat.le_refl _)
   simp only [List.length_replicate, List.replicate_succ', List.flatMap_append]
   unfold xN at htk
   simp [xN, htk]
 ·simp at hc
  obtain rfl : i = x.cust.length := by omega
  rw [Zi9] at hR
  refine zm ?_
  have hdT : zK nx T := fun o ho => by
   have h1 : o ≠ A := by omega
   by_cases h2 : o < base ∨ base + x.cust.length ≤ o
   ·rw [hT o h1 h2]; exact hd o ho
   ·have := hltR (o - base) (by omega); omega
  exact ⟨_, T, rfl, ⟨⟨ws, hR⟩, hT⟩, zL hdT⟩
def ww (k : Nat) (l : List Int) : List Int := l.set k (W (W (2 * l.getD k 0) + 1))
def jC (pr : List (List Int)) (k i : Nat) : List (List Int) := (List.range pr.length).map fun j => if j < i then ww k (pr.getD j []) else pr.getD j []
def Zc (fs : List Int) (pr : List (List Int)) (k : Nat) : List (List Int) := if fs.getD k 0 = 14 then pr.map (ww k) else pr
def Zd (fs : List Int) (pr : List (List Int)) : Nat → List (List Int)
 | 0 => pr
 | k + 1 => Zc fs (Zd fs pr k) k
theorem ZbK (k : Nat) (l : List Int) : (ww k l).length = l.length := by simp [ww]
theorem vH (pr : List (List Int)) (k i : Nat) : (jC pr k i).length = pr.length := by simp [jC]
theorem XH (pr : List (List Int)) (k i j : Nat) (h : j < pr.length) : (jC pr k i).getD j [] = if j < i then ww k (pr.getD j []) else pr.getD j [] := by
 rw [List.getD_eq_getElem?_getD, jC]; simp [h]
theorem Zjc (pr : List (List Int)) (k : Nat) : jC pr k 0 = pr := by
 apply List.ext_getElem?
 intro j
 simp only [jC, Nat.not_lt_zero, if_false, List.getElem?_map]
 by_cases h : j < pr.length
 ·rw [List.getElem?_range h]; simp [h]
 ·rw [List.getElem?_eq_none (by simp; omega), List.getElem?_eq_none (by omega)]; rfl
theorem Zjd (pr : List (List Int)) (k : Nat) : jC pr k pr.length = pr.map (ww k) := by
 apply List.ext_getElem?
 intro j
 simp only [jC, List.getElem?_map]
 by_cases h : j < pr.length
 ·rw [List.getElem?_range h]; simp [h]
 ·rw [List.getElem?_eq_none (by simp; omega), List.getElem?_eq_none (by omega)]; rfl
theorem Zje (pr : List (List Int)) (k i : Nat) (h : i < pr.length) : (jC pr k i).set i (ww k (pr.getD i [])) = jC pr k (i + 1) := by
 apply List.ext_getElem?
 intro j
 rw [List.getElem?_set, vH]
 by_cases hij : i = j
 ·subst hij; rw [if_pos rfl, if_pos h]; simp [jC, h]
 ·rw [if_neg hij]
  by_cases hj : j < pr.length
  ·simp only [jC, List.getElem?_map, List.getElem?_range hj, Option.map_some]
   congr 1
   by_cases h1 : j < i
   ·rw [if_pos h1, if_pos (by omega)]
   ·rw [if_neg h1, if_neg (by omega)]
  ·rw [List.getElem?_eq_none (by rw [vH]; omega), List.getElem?_eq_none (by rw [vH]; omega)]
def wU (m n : Nat) (pr : List (List Int)) : Prop := pr.length = m ∧ ∀ l ∈ pr, l.length = n ∧ ∀ z ∈ l, I64 z
theorem ZbL (x : Int) : I64 (W x) := by
 have key : ∀ m : Int, 0 ≤ m → m < 2 ^ 64 → I64 (if (true && decide (m ≥ 2 ^ (64 - 1))) = true then m - 2 ^ 64 else m) := by
  intro m h1 h2
  unfold I64
  by_cases h : m ≥ 2 ^ (64 - 1)
  ·simp [h]; omega
  ·simp [h]; omega
 exact key _ (Int.emod_nonneg x (by decide)) (Int.emod_lt_of_pos x (by decide))
theorem Zjf {m n : Nat} {pr : List (List Int)} (fs : List Int) (k : Nat) (h : wU m n pr) : wU m n (Zc fs pr k) := by
 unfold Zc
 split
 ·refine ⟨by simp [h.1], fun l hl => ?_⟩
  obtain ⟨l', hl', rfl⟩ := List.mem_map.1 hl
  rw [ZbK]
  refine ⟨(h.2 l' hl').1, fun z hz => ?_⟩
  rcases List.mem_or_eq_of_mem_set hz with hz | rfl
  ·exact (h.2 l' hl').2 z hz
  ·exact ZbL _
 ·exact h
theorem Qw {m n : Nat} {pr : List (List Int)} (fs : List Int) (h : wU m n pr) : ∀ k, wU m n (Zd fs pr k)
 | 0 => h
 | k + 1 => Zjf fs k (Qw fs h k)
theorem Zjg (x : Inst) (n : Nat) : wU x.cust.length n (yY x n 0) := by
 refine ⟨wv x n 0, fun l hl => ?_⟩
 obtain ⟨j, _, rfl⟩ := List.mem_map.1 hl
 refine ⟨by simp, fun z hz => ?_⟩
 rw [(List.mem_replicate.1 hz).2]; exact ZbL _
set_option maxRecDepth 20000 in
theorem Zjh {S : Store} {id ver A va base idF vF : Nat} {ws : Nat → Nat} {x : Inst} {v p : PV} {b : Int} {m n : Nat} {pr : List (List Int)} {fs : List Int} (k : Nat) (hm : m ≤ 1000) (hn : n ≤ 1000) (hkn : k < n) (hid : id < base) (hidA : id ≠ A) (hF : S idF = .cells vF 30 (fs.flatMap Enc.enc)) (hfl : fs.length = n)
  (hS : S id = .cells ver 87 (plL x v b p (.sl idF vF 1 0 fs.length) (.sl A va 1 0 m))) (hP : wU m n pr) (hR : RowsAt S A va 54 base 3 1 ws pr) :
  Spec Tryz.prog 53 [.ptr id ver 0, I k] S (fun _ S' => RowsAt S' A va 54 base 3 1 ws (Zc fs pr k) ∧ ∀ o, (o < base ∨ base + m ≤ o) → S' o = S o) := by
 obtain ⟨hPl, hPr⟩ := hP
 refine jg Tryz.func53 Tryz.ntmps53 Tryz.results53 fun nx hd => ?_
 have hlt : id < nx := yQ hd hS (by simp)
 have hltF : idF < nx := yQ hd hF (by simp)
 have hltA : A < nx := yQ hd hR.arr (by simp)
 have hltR : ∀ i, i < m → base + i < nx := fun i hi => yQ hd (hR.row i (by omega)) (by simp)
 have xw := fun obs => (zy (S := S) (obs := obs) hlt).trans hS
 have xf := fun obs => (zy (S := S) (obs := obs) hltF).trans hF
 obtain ⟨e, tl0, e1, -, -, e0⟩ := el1 rfl fs k (by omega)
 have hkf : k < fs.length := by omega
 have hge : fs.getD k 0 = e := by rw [List.getD_eq_getElem?_getD, e1]; rfl
 repeat apply za
 refine pwN [] (jn4 xw xf e0 hkf) ?_
 intros
 by_cases he : e = 14
 case neg =>
  repeat apply za
  refine zh (by simp [he]) ?_
  repeat apply za
  exact zb ⟨_, S, rfl, ⟨by unfold Zc; rw [hge, if_neg he]; exact hR, fun _ _ => rfl⟩, zL hd⟩
 repeat apply za
 refine zj (by simp [he]) ?_
 refine zd ?_
 repeat apply za
 refine pwN [] xw ?_
 intros
 have hkill : ∀ T : Store, (∀ o, (o < base ∨ base + m ≤ o) → T o = S o) → zK nx T := fun T hT o ho => by
  by_cases h2 : o < base ∨ base + m ≤ o
  ·rw [hT o h2]; exact hd o ho
  ·have := hltR (o - base) (by omega); omega
 repeat apply za
 refine ze (qV (σ := Nat × Store) (fun s => s.1 ≤ m ∧ RowsAt s.2 A va 54 base 3 1 ws (jC pr k s.1) ∧ ∀ o, (o < base ∨ base + m ≤ o) → s.2 o = S o)
  (fun s => [(0, .ptr id ver 0), (1, I k), (17, I m), (18, I s.1)]) (fun s => s.2) (fun _ => []) (fun s => m - s.1) (zt (0, S) [] ⟨by simp, by simpa only [Zjc] using hR, fun _ _ => rfl⟩ (by simp) rfl (by simp)) ?_)
 have hAb0 := hR.out
 clear hR
 rintro ⟨i, T⟩ ⟨hi, hR, hT⟩
 simp only at hi hR hT ⊢
 (repeat apply za); refine pwn ?_; intros
 repeat apply za
 refine zl rfl (fun hc => ?_) (fun hc => ?_)
 ·simp at hc
  have hil : i < pr.length := by omega
  have hTw : T id = .cells ver 87 (plL x v b p (.sl idF vF 1 0 fs.length) (.sl A va 1 0 m)) := (hT id (.inl hid)).trans hS
  have hri := hR.row i (by rw [vH]; exact hil)
  rw [XH pr k i i hil, if_neg (Nat.lt_irrefl i)] at hri
  obtain ⟨tl, hdr⟩ := XG base 1 ws (jC pr k i) i (by rw [vH]; exact hil)
  rw [XH pr k i i hil, if_neg (Nat.lt_irrefl i)] at hdr
  have hcl : (rwC base 1 ws (jC pr k i)).length = m := by rw [Zb, vH, hPl]
  have hgl : (pr.getD i []).length = n := by
   rw [List.getD_eq_getElem?_getD, List.getElem?_eq_getElem hil]; exact (hPr _ (List.getElem_mem hil)).1
  generalize hrow : pr.getD i [] = row at hri hdr hgl
  obtain ⟨z, tl2, z1, -, -, z0⟩ := el1 rfl row k (by omega)
  have hgz : row.getD k 0 = z := by rw [List.getD_eq_getElem?_getD, z1]; rfl
  have hkr : k < row.length := by omega
  have hlti := hltR i hc
  have xw := fun obs => (zy (S := T) (obs := obs) hlt).trans hTw
  have xa := fun obs => (zy (S := T) (obs := obs) hltA).trans hR.arr
  have xr := fun obs => (zy (S := T) (obs := obs) hlti).trans hri
  have yw := fun (o : Ob) obs => (zy (S := T.set (base + i) o) (obs := obs) hlt).trans ((Store.set_other _ _ _ _ (by omega)).trans hTw)
  have ya := fun (o : Ob) obs => (zy (S := T.set (base + i) o) (obs := obs) hltA).trans ((Store.set_other _ _ _ _ (by omega)).trans hR.arr)
  have g1 : ¬ nx ≤ base + i := by omega
  have hsp := XC (α := Int) rfl row k (W (W (2 * z) + 1)) hkr
  have hsp' : zJ (row.flatMap Enc.enc) k [I (W (W (2 * z) + 1))] = (row.set k (W (W (2 * z) + 1))).flatMap Enc.enc := by simpa using hsp
  have hrl : (row.flatMap Enc.enc).length = n := by rw [jf, hgl]; simp [Enc.sz]
  refine zd (za (ze ?_))
  (repeat apply za); refine pwn ?_; intros
  repeat apply za
  refine pwY (some [id, A]) (Row.pures [0, 1, 2, 3, 4, 5, 6, 7, 8, 9, 10, 11, 12, 13, 15] (.alt 14 (Row.pures [16] (.alt 17 (Row.pures [18, 19, 20] (.alt 21 (.done) .stop)) .stop)) .stop)) mixed (jn6 xw xa xr yw ya (jn2 (jn6 hdr g1 hcl hc z0 hkr) (jn4 hsp' hrl hgl hkn))) ?_
  refine ⟨by omega, ?_⟩
  intros
  obtain ⟨T', hT'⟩ : ∃ T', T' = T.set (base + i) (.cells (ws i) 3 ((ww k row).flatMap Enc.enc)) := ⟨_, rfl⟩
  have hnew := hR.turn (i := i) (by rw [vH]; exact hil) (T' := T') (ws i) (ww k row) (by
   rw [hT', Store.set_other _ _ _ _ (by omega), hR.arr]
   congr 1
   refine (List.ext_getElem? fun j => ?_).symm
   rw [List.getElem?_set]
   split
   ·rename_i hij
    subst hij
    rw [if_pos (by omega), ZZ _ _ _ _ _ (by rw [vH]; exact hil), XH pr k i i hil, if_neg (Nat.lt_irrefl i), hrow, ZbK]
   ·rfl) (by rw [hT']; exact Store.set_same _ _ _) (fun o o1 o2 => by rw [hT']; exact Store.set_other _ _ _ _ o2)
  have hws : (fun k => if k = i then ws i else ws k) = ws := by funext j; split <;> simp_all
  rw [hws, ← hrow, Zje pr k i hil] at hnew
  (repeat apply za); refine pwn ?_; intros
  refine zk (i + 1, T') [] ⟨hc, hnew, fun o hob => ?_⟩ (by simp; omega) (by simp [wrN i (by omega)]) ?_ (by simp)
  ·dsimp only; rw [hT', Store.set_other _ _ _ _ (by omega)]; exact hT o hob
  ·dsimp only; rw [hT']
   simp only [ww, hgz]
 ·simp at hc
  obtain rfl : i = m := by omega
  rw [← hPl, Zjd] at hR
  refine zm ?_
  exact ⟨_, T, rfl, ⟨by unfold Zc; rw [hge, if_pos he]; exact hR, hT⟩, zL (hkill T hT)⟩
def wV (e : Int) : Bool := decide (e ≠ 0) && decide (e ≠ 14)
set_option maxRecDepth 20000 in
theorem Zji (e : Int) : Pure Tryz.prog 52 [I e] (B (wV e)) := by
 unfold wV
 refine pwe Tryz.func52 Tryz.ntmps52 Tryz.results52 fun S nx hd => ?_
 (repeat apply za); refine pwn ?_; intros
 by_cases h1 : e = 0
 ·repeat apply za
  refine pwN [(2, 5)] (jn2 h1 zn) ?_
  intros
  repeat apply za
  exact zb (zg hd rfl (by simp [zi, h1]))
 ·by_cases h2 : e = 14
  ·repeat apply za
   refine pwN [(2, 5)] (jn3 h1 h2 zn) ?_
   intros
   repeat apply za
   exact zb (zg hd rfl (by simp [zi, h2]))
  ·repeat apply za
   refine pwN [(2, 5)] (jn3 h1 h2 zn) ?_
   intros
   repeat apply za
   exact zb (zg hd rfl (by simp [zi, h1, h2]))
set_option maxRecDepth 20000 in
theorem Zjj {S : Store} {idF vF : Nat} (fs : List Int) (hF : S idF = .cells vF 30 (fs.flatMap Enc.enc)) (hl : fs.length ≤ 1000) :
  Spec Tryz.prog 91 [.sl idF vF 1 0 fs.length, .fn (.func 52) [] []] S (fun q S' => (∃ z : Int, q = I z ∧ (fs.any wV = decide (0 ≤ z))) ∧ S' = S) := by
 refine jg Tryz.func91 Tryz.ntmps91 Tryz.results91 fun nx hd => ?_
 have hltF : idF < nx := yQ hd hF (by simp)
 have xf := fun obs => (zy (S := S) (obs := obs) hltF).trans hF
 (repeat apply za); refine pwn ?_; intros
 (repeat apply za); refine pwn ?_; intros
 repeat apply za
 refine ze (zq (fun k : Nat => k ≤ fs.length ∧ ∀ e ∈ fs.take k, wV e = false) (fun k => [(0, .sl idF vF 1 0 fs.length), (1, .fn (.func 52) [] []), (7, I fs.length), (8, I k)]) (fun _ => []) (fun k => fs.length - k) 0 [] (by simp) (by simp) (by simp) ?_)
 rintro k ⟨hk, h0⟩
 (repeat apply za); refine pwn ?_; intros
 repeat apply za
 refine zl rfl (fun hc => ?_) (fun hc => ?_)
 ·simp at hc
  obtain ⟨e, tl, a1, a2, a3, e0⟩ := el1 rfl fs k hc
  refine zd (za (ze ?_))
  (repeat apply za); refine pwn ?_; intros
  repeat apply za
  refine pwN [] (jn3 xf e0 hc) ?_
  refine pwc (Zji e) ?_
  intros
  cases hb : wV e with
  | true =>
   repeat apply za
   refine zh rfl ?_
   (repeat apply za); refine pwn ?_; intros
   repeat apply za
   exact zb ⟨_, S, rfl, ⟨⟨k, by simp [zi], by rw [List.any_eq_true.2 ⟨e, List.mem_of_getElem? a1, hb⟩]; simp⟩, rfl⟩, zL hd⟩
  | false =>
   repeat apply za
   refine zj rfl ?_
   refine zd ?_
   (repeat apply za); refine pwn ?_; intros
   exact zk (k + 1) [] ⟨hc, fun y hy => by rw [a3] at hy; rcases List.mem_append.1 hy with h | h; exact h0 y h; rw [List.mem_singleton.1 h]; exact hb⟩ (by omega) (by simp [wrN k (by omega)]) rfl (by simp)
 ·simp at hc
  obtain rfl : k = fs.length := by omega
  rw [List.take_length] at h0
  refine zm ?_
  (repeat apply za); refine pwn ?_; intros
  repeat apply za
  exact zb ⟨_, S, rfl, ⟨⟨-1, by simp [zi], by rw [List.any_eq_false.2 fun e he => by rw [h0 e he]; simp]; rfl⟩, rfl⟩, zL hd⟩
set_option maxRecDepth 20000 in
theorem Zjk {S : Store} {idF vF : Nat} (fs : List Int) (hF : S idF = .cells vF 30 (fs.flatMap Enc.enc)) (hl : fs.length ≤ 1000) :
  Spec Tryz.prog 51 [.sl idF vF 1 0 fs.length, .fn (.func 52) [] []] S (fun q S' => q = B (fs.any wV) ∧ S' = S) := by
 refine jg Tryz.func51 Tryz.ntmps51 Tryz.results51 fun nx hd => ?_
 have hltF : idF < nx := yQ hd hF (by simp)
 (repeat apply za); refine pwn ?_; intros
 repeat apply za
 refine zN [] (by rfl) (by rfl) fun K Gc Gh hK hGc hGh X hX0 hX => ?_
 simp -implicitDefEqProofs [hX0, hX]
 try clear hX0 hX X
 refine hGc _ _ _ _ _ _ _ fun hsuf => ((Zjj fs ((zy hltF).trans hF) hl).mono ?_).v
 rintro _ _ ⟨⟨z, rfl, hz⟩, rfl⟩
 refine ⟨_, _, rfl, ?_⟩
 clear hGc hGh
 clear Gc Gh
 refine zI hsuf (D := []) (by rfl) fun Gc Gh hGc hGh X hX0 hX => ?_
 simp -implicitDefEqProofs [hX0, hX]
 clear hX0 hX X
 intros
 refine hK _ _ _ ?_
 clear hK hGc hGh
 clear K Gc Gh
 repeat apply za
 exact zb ⟨_, S, rfl, ⟨by simp [zi, hz], rfl⟩, zL hd⟩
def xO (x : Inst) (sol : Cust → List Int → List Visit × Bool) (pr : List (List Int)) (k : Nat) : List (List Visit × Bool) := (List.range k).map fun i => sol (x.cust.getD i default) (pr.getD i [])
def qu (x : Inst) (sol : Cust → List Int → List Visit × Bool) (pr : List (List Int)) : List (List Visit) × Int := if (xO x sol pr x.cust.length).all (·.2) = true then ((xO x sol pr x.cust.length).map (·.1), 0) else ([], 15)
theorem Zjl (x : Inst) (sol : Cust → List Int → List Visit × Bool) (pr : List (List Int)) (k : Nat) : xO x sol pr (k + 1) = xO x sol pr k ++ [sol (x.cust.getD k default) (pr.getD k [])] := by simp [xO, List.range_succ]
theorem Zjm (x : Inst) (sol : Cust → List Int → List Visit × Bool) (pr : List (List Int)) {k m : Nat} (h : k < m) : sol (x.cust.getD k default) (pr.getD k []) ∈ xO x sol pr m := List.mem_map.2 ⟨k, List.mem_range.2 h, rfl⟩
def XI (x : Inst) (n : Nat) (sol : Cust → List Int → List Visit × Bool) : Prop :=
 ∀ c ∈ x.cust, ∀ (l : List Int), l.length = n → (∀ z ∈ l, I64 z) → ∀ (S : Store) (pl : PV), RowOf S pl l → Spec Tryz.prog 88 [.agg (zM c), I x.days, I x.cap, pl] S (fun q S' => q = .tup [L (sol c l).1, B (sol c l).2] ∧ S' = S)
set_option maxRecDepth 20000 in
theorem Zjn {S : Store} {A va base : Nat} {ws : Nat → Nat} {x : Inst} {n : Nat} {pr : List (List Int)} {sol : Cust → List Int → List Visit × Bool} (hx : x.cust.length ≤ 1000) (hP : wU x.cust.length n pr) (hR : RowsAt S A va 54 base 3 1 ws pr) (hs : XI x n sol) :
  Spec Tryz.prog 49 [.agg (zp x), .sl A va 1 0 x.cust.length] S (fun q S' => q = .tup [L (qu x sol pr).1, I (qu x sol pr).2] ∧ S' = S) := by
 obtain ⟨hPl, hPr⟩ := hP
 refine jg Tryz.func49 Tryz.ntmps49 Tryz.results49 fun nx hd => ?_
 have hltA : A < nx := yQ hd hR.arr (by simp)
 have xa := fun obs => (zy (S := S) (obs := obs) hltA).trans hR.arr
 repeat apply za
 refine pwn ?_
 intro v0
 (repeat apply za); refine pwn ?_; intros
 refine za (yA 6 42 1 rfl fun v1 => ?_)
 (repeat apply za); refine pwn ?_; intros
 repeat apply za
 refine ze (zq (fun s : Nat × List (List Visit) × Nat => s.1 ≤ x.cust.length ∧ s.2.1 = (xO x sol pr s.1).map (·.1) ∧ (xO x sol pr s.1).all (·.2) = true) (fun (i, out, w) => [(1, .sl A va 1 0 x.cust.length), (2, .ptr nx v0 0), (4, .sc (.slice none 0 0)), (6, .sl (nx + 1) w 1 0 out.length), (13, L x.cust), (14, I x.cust.length), (15, I i)]) (fun (i, out, w) => [.cells v0 25 (zp x), .cells w 42 (out.flatMap Enc.enc)]) (fun s => x.cust.length - s.1) (0, [], v1) [] (by simp [xO]) (by simp) (by simp) ?_)
 rintro ⟨i, out, w⟩ ⟨hi, ho, hall⟩
 simp only at hi ho hall ⊢
 have hol : out.length = i := by rw [ho]; simp [xO]
 (repeat apply za); refine pwn ?_; intros
 repeat apply za
 refine zl rfl (fun hc => ?_) (fun hc => ?_)
 ·simp at hc
  obtain ⟨c, tl, a1, a2, a3, e1, e0⟩ := el 8 rfl x.cust i hc
  have hcm := List.mem_of_getElem? a1
  have hgc : x.cust.getD i default = c := by rw [List.getD_eq_getElem?_getD, a1]; rfl
  have hil : i < pr.length := by omega
  obtain ⟨tl2, hdr⟩ := XG base 1 ws pr i hil
  obtain ⟨hgl, hgi⟩ : (pr.getD i []).length = n ∧ ∀ z ∈ pr.getD i [], I64 z := by
   rw [List.getD_eq_getElem?_getD, List.getElem?_eq_getElem hil]; exact hPr _ (List.getElem_mem hil)
  have hrow : RowOf S (.sl (base + i) (ws i) 1 0 (pr.getD i []).length) (pr.getD i []) := .inr ⟨_, _, rfl, hR.row i hil⟩
  have hsol := hs c hcm (pr.getD i []) hgl hgi
  have hch := Zjl x sol pr i
  have hcm2 := Zjm x sol pr (k := i) hc
  rw [hgc] at hch hcm2
  generalize pr.getD i [] = row at hdr hgl hgi hrow hsol hch hcm2
  generalize hr : sol c row = r at hsol hch hcm2
  obtain ⟨vv, ok⟩ := r
  simp only at hsol hch
  refine zd (za (ze ?_))
  repeat apply za
  refine pwN [] (jn2 e0 hc) ?_
  intro v2
  (repeat apply za); refine pwn ?_; intros
  (repeat apply za); refine pwn ?_; intros
  repeat apply za
  refine zh (by simp [hc]) ?_
  repeat apply za
  refine pwN [] (jn3 xa hdr hc) ?_
  intros
  repeat apply za
  refine zN [] (by rfl) (by rfl) fun K Gc Gh hK hGc hGh X hX0 hX => ?_
  simp -implicitDefEqProofs [hX0, hX]
  try clear hX0 hX X
  refine hGc _ _ _ _ _ _ _ fun hsuf => ((hsol _ _ (hrow.ext hd _)).mono ?_).v
  rintro _ _ ⟨rfl, rfl⟩
  refine ⟨_, _, rfl, ?_⟩
  clear hGc hGh
  clear Gc Gh
  refine zI hsuf (D := []) (by rfl) fun Gc Gh hGc hGh X hX0 hX => ?_
  simp -implicitDefEqProofs [hX0, hX]
  clear hX0 hX X
  intros
  refine hK _ _ _ ?_
  clear hK hGc hGh
  clear K Gc Gh
  (repeat apply za); refine pwn ?_; intros
  cases ok with
  | false =>
   have hno : qu x sol pr = ([], 15) := by
    unfold qu
    rw [if_neg]
    intro q
    have := List.all_eq_true.1 q _ hcm2
    cases this
   rw [hno]
   repeat apply za
   refine zh rfl ?_
   (repeat apply za); refine pwn ?_; intros
   refine xW 4 rfl ?_
   repeat apply za
   exact zb ⟨_, S, rfl, ⟨by simp [zi], rfl⟩, zL hd⟩
  | true =>
   repeat apply za
   refine zj rfl ?_
   refine zd ?_
   repeat apply za
   refine pwn ?_
   refine ⟨by omega, ?_⟩
   intros
   (repeat apply za); refine pwn ?_; intros
   exact zk (i + 1, out ++ [vv], w + 1) [_] ⟨hc, by rw [hch, List.map_append, ho]; rfl, by rw [hch, List.all_append, hall]; rfl⟩ (by simp; omega) (by simp [wrN i (by omega)]) rfl (by simp; rfl)
 ·simp at hc
  obtain rfl : i = x.cust.length := by omega
  have hyes : qu x sol pr = (out, 0) := by unfold qu; rw [if_pos hall, ← ho]
  rw [hyes]
  refine zm ?_
  refine zC 1 rfl ?_
  (repeat apply za); refine pwn ?_; intros
  repeat apply za
  exact zb ⟨_, S, (by simp; rfl), ⟨by simp [zi], rfl⟩, zL hd⟩
open Go Go.Proofs Hp
theorem Zjo (n : Nat) : y8 n (.slice none 0 0) = List.replicate n (.sc (.slice none 0 0)) := by
 induction n with
 | zero => simp
 | succ n ih => rw [wE, ih]; rfl
structure RowsV (m n i : Nat) (v : List (List Visit)) : Prop where
 len : v.length = m
 ok : ∀ l ∈ v, ∀ w ∈ l, (0 ≤ w.d ∧ w.d < n) ∧ 1 ≤ w.q ∧ w.q ≤ 12
 nd : ∀ l ∈ v, (l.map (·.d)).Nodup
 few : ∀ l ∈ v, l.length ≤ i
theorem RowsV.vs {m n i : Nat} {v : List (List Visit)} (h : RowsV m n i v) (hi : i ≤ 12) : VsOk m n v :=
 ⟨h.len, fun l hl w hw => by have := h.ok l hl w hw; omega, h.nd, fun l hl => by have := h.few l hl; omega⟩
theorem RowsV.more {m n i : Nat} {v : List (List Visit)} (h : RowsV m n i v) : RowsV m n (i + 1) v := ⟨h.len, h.ok, h.nd, fun l hl => Nat.le_succ_of_le (h.few l hl)⟩
theorem RowsV.put {m n i : Nat} {v : List (List Visit)} (h : RowsV m n i v) {c : Nat} {l : List Visit} (hc : v[c]? = some l) (w : Visit) (hw : (0 ≤ w.d ∧ w.d < n) ∧ 1 ≤ w.q ∧ w.q ≤ 12) (hno : w.d ∉ l.map (·.d)) : RowsV m n (i + 1) (v.set c (l ++ [w])) := by
 have hlm := List.mem_of_getElem? hc
 refine ⟨by simp [h.len], fun k hk u hu => ?_, fun k hk => ?_, fun k hk => ?_⟩
 ·rcases List.mem_or_eq_of_mem_set hk with hk | rfl
  ·exact h.ok k hk u hu
  ·rcases List.mem_append.1 hu with hu | hu
   ·exact h.ok l hlm u hu
   ·rw [List.mem_singleton.1 hu]; exact hw
 ·rcases List.mem_or_eq_of_mem_set hk with hk | rfl
  ·exact h.nd k hk
  ·rw [List.map_append]; exact ZB _ _ (h.nd l hlm) hno
 ·rcases List.mem_or_eq_of_mem_set hk with hk | rfl
  ·exact Nat.le_succ_of_le (h.few k hk)
  ·have := h.few l hlm; simp; omega
open Go Go.Proofs Hp
section
variable {P : Program} {r : Rd} {n N : Nat} {Q : Exit → (Nat → PV) → Store → Prop} {F : Nat → PV} {c : Code}
theorem Zjp {S : Store} {nx : Nat} {obs : List Ob} (j : Nat) {ver e : Nat} {cs : List PV} (hj : obs[j]? = some (.cells ver e cs)) {id v e2 : Nat} {ds : List PV} (hlt : id < nx) (hs : S id = .cells v e2 ds)
  (h : PW P r n N c Q F (ext (S.set id (.cells v e2 (ds.map (yo (nx + j) ver cs)))) nx (obs.set j .dead))) : PW P r n N c Q F (ext S nx obs) := by
 have hjl : j < obs.length := (List.getElem?_eq_some_iff.1 hj).1
 refine Zi2 (id := nx + j) (ver := ver) (e := e) (cs := cs) (G := F) (by rw [yP, List.getD_eq_getElem?_getD, hj]; rfl) (by rw [yP, List.getD_eq_getElem?_getD, List.getElem?_set_self hjl]; rfl) (fun o => ?_) (fun _ => .inl rfl) h
 by_cases ho : o < nx
 ·rw [zy ho, zy ho]
  by_cases hoi : o = id
  ·subst hoi; rw [Store.set_same, hs]; exact .inr (.inr rfl)
  ·rw [Store.set_other _ _ _ _ hoi]; exact .inr (.inl rfl)
 ·simp only [ext]
  rw [if_neg ho, if_neg ho, List.getD_eq_getElem?_getD, List.getD_eq_getElem?_getD, List.getElem?_set]
  split
  ·simp [hjl]
  ·exact .inr (.inl rfl)
theorem Qx {S T : Store} {nx nz : Nat} {obs : List Ob} (hd : zK nx S) (hle : nx ≤ nz) (h : ∀ o, o < nx → T o = S o) (o : Nat) : S o = ext T nz obs o ∨ S o = .dead := by
 by_cases ho : o < nx
 ·rw [zy (by omega), h o ho]; exact .inl rfl
 ·exact .inr (hd o (by omega))
end
def vI (x : Inst) (sol : Cust → List Int → List Visit × Bool) (b : Int) (n : Nat) : Nat → List (List Int) → zQ × Int
 | 0, _ => ([], 15)
 | k + 1, pr =>
  if (qu x sol pr).2 ≠ 0 then ([], 15)
  else if qh (yW x (qu x sol pr).1 b n) = 0 then (qQ x (qu x sol pr).1 b n, 0)
  else if (yW x (qu x sol pr).1 b n).any wV = true then ([], 15)
  else vI x sol b n k (Zd (yW x (qu x sol pr).1 b n) pr n)
def Z0 (x : Inst) (sol : Cust → List Int → List Visit × Bool) (b : Int) (n : Nat) : zQ × Int := vI x sol b n 8 (yY x n 0)
def ZbM (x : Inst) (n : Nat) (sol : Cust → List Int → List Visit × Bool) : Prop := ∀ pr, wU x.cust.length n pr → (qu x sol pr).2 = 0 → VsOk x.cust.length n (qu x sol pr).1
set_option maxHeartbeats 3200000 in
theorem Zjq {x : Inst} {sol : Cust → List Int → List Visit × Bool} {b : Int} {n : Nat} (hx : InstH x) (hn : x.days = n) (hn2 : n ≤ 1000) (hs : XI x n sol) (hv : ZbM x n sol) (hb : b ≤ 9223372036854775807) :
  Pure Tryz.prog 13 [.agg (zp x), I b] (.tup [.agg [L (Z0 x sol b n).1], I (Z0 x sol b n).2]) := by
 have hm := hx.cust
 unfold Z0
 have hPo := Zjg x n
 refine pwe Tryz.func13 Tryz.ntmps13 Tryz.results13 fun S nx hd => ?_
 repeat apply za
 refine pwn ?_
 intro v0 v1
 repeat apply za
 refine pwY (some [nx]) (Row.pures [0, 1, 2, 3, 4] (.alt 5 (Row.pures [6] (.alt 7 (Row.pures [8] .done) .stop)) .stop)) mixed trivial ?_
 refine ⟨by omega, ?_⟩
 intro v2 v3
 intros
 rw [Zjo]
 refine Zi4 (α := Int) (nx + 2) v2 54 (nx + 4) 3 1 x.cust.length (by simp) (jF (obs := [_, _, _, _])) fun T ws hR hT hdT => ?_
 have hT0 : T nx = .cells v0 25 (zp x) := by rw [hT nx (by omega) (by omega)]; simp
 have hT1 : T (nx + 1) = .cells v1 29 [.sc (.slice none 0 0)] := by rw [hT (nx + 1) (by omega) (by omega)]; simp
 have hT3 : T (nx + 3) = .cells v3 87 (plL x (.sc (.slice none 0 0)) b (.sc (.slice none 0 0)) (.sc (.slice none 0 0)) (.sl (nx + 2) v2 1 0 x.cust.length)) := by rw [hT (nx + 3) (by omega) (by omega)]; simp
 have hTS : ∀ o, o < nx → T o = S o := fun o ho => by rw [hT o (by omega) (by omega), zy ho]
 clear hT
 obtain ⟨nz, hnz⟩ : ∃ nz, nz = nx + 4 + x.cust.length := ⟨_, rfl⟩
 rw [← hnz] at hdT
 rw [show List.replicate x.cust.length ([] : List Int) = yY x 0 0 from (List.ext_getElem? fun j => by
  by_cases h : j < x.cust.length
  ·simp [yY, h]
  ·rw [List.getElem?_eq_none (by simp; omega), List.getElem?_eq_none (by rw [wv]; omega)])] at hR
 rw [← yt hdT]
 repeat apply za
 refine zN [] (by rfl) (by rfl) fun K Gc Gh hK hGc hGh X hX0 hX => ?_
 simp -implicitDefEqProofs [hX0, hX]
 try clear hX0 hX X
 refine hGc _ _ _ _ _ _ _ fun hsuf => (Spec.mono (ZbI (nx := nz) (by rw [yt hdT]; exact hdT) x _ _ _ _ _ _ _ n hn hn2 (by rw [yt hdT]; exact hT3)
  (fun k T' => (∃ ws', RowsAt T' (nx + 2) v2 54 (nx + 4) 3 1 ws' (yY x k 0)) ∧ (∀ o, o ≠ nx + 2 → (o < nx + 4 ∨ nx + 4 + x.cust.length ≤ o) → T' o = T o)) ⟨⟨ws, by rw [yt hdT]; exact hR⟩, fun o _ _ => by rw [yt hdT]⟩
  (fun k T' h o ho => by rw [h.2 o (by omega) (.inr (by omega))]; exact hdT o ho) (fun k hk T' h => ?_)) ?_).v
 ·obtain ⟨⟨ws', h1⟩, h2⟩ := h
  refine (Zjb k hm (by omega) (by omega) (by omega) ((h2 (nx + 3) (by omega) (.inl (by omega))).trans hT3) h1).mono ?_
  rintro _ T2 ⟨g1, g2⟩
  exact ⟨g1, fun o o1 o2 => (g2 o o1 o2).trans (h2 o o1 o2)⟩
 rintro _ T' ⟨⟨ws', hR'⟩, hT'⟩
 have hdT' : zK nz T' := fun o ho => by rw [hT' o (by omega) (.inr (by omega))]; exact hdT o ho
 refine ⟨T', [], (yt hdT').symm, ?_⟩
 clear hGc hGh
 clear Gc Gh
 refine zI hsuf (D := []) (by rfl) fun Gc Gh hGc hGh X hX0 hX => ?_
 simp -implicitDefEqProofs [hX0, hX]
 clear hX0 hX X
 intros
 refine hK _ _ _ ?_
 clear hK hGc hGh
 clear K Gc Gh
 replace hT0 := (hT' nx (by omega) (.inl (by omega))).trans hT0
 replace hT1 := (hT' (nx + 1) (by omega) (.inl (by omega))).trans hT1
 replace hT3 := (hT' (nx + 3) (by omega) (.inl (by omega))).trans hT3
 replace hTS : ∀ o, o < nx → T' o = S o := fun o ho => (hT' o (by omega) (.inl (by omega))).trans (hTS o ho)
 clear hT' hR hdT
 generalize yY x n 0 = pr0 at *
 (repeat apply za); refine pwn ?_; intros
 repeat apply za
 refine ze (qV (σ := Nat × Store × List (List Int)) (fun s => s.1 ≤ 8 ∧ wU x.cust.length n s.2.2 ∧ vI x sol b n 8 pr0 = vI x sol b n (8 - s.1) s.2.2 ∧ (∃ ws', RowsAt s.2.1 (nx + 2) v2 54 (nx + 4) 3 1 ws' s.2.2) ∧ s.2.1 nx = .cells v0 25 (zp x) ∧ s.2.1 (nx + 1) = .cells v1 29 [.sc (.slice none 0 0)] ∧
  (∃ vP pP fP, s.2.1 (nx + 3) = .cells v3 87 (plL x vP b pP fP (.sl (nx + 2) v2 1 0 x.cust.length))) ∧ (∀ o, o < nx → s.2.1 o = S o) ∧ zK nz s.2.1)
  (fun s => [(2, .ptr nx v0 0), (4, .ptr (nx + 1) v1 0), (6, .ptr (nx + 3) v3 0), (21, I s.1)]) (fun s => s.2.1) (fun _ => []) (fun s => 8 - s.1) (zt (0, T', pr0) [] ⟨by simp, hPo, rfl, ⟨ws', hR'⟩, hT0, hT1, ⟨_, _, _, hT3⟩, hTS, hdT'⟩ (by simp) rfl (by simp)) ?_)
 clear hR' hT0 hT1 hT3 hTS hdT' hPo T'
 rintro ⟨k, T, pr⟩ ⟨hk, hP, hst, ⟨ws, hR⟩, hT0, hT1, ⟨vP, pP, fP, hT3⟩, hTS, hdT⟩
 simp only at hk hP hst hR hT0 hT1 hT3 hTS hdT ⊢
 have x0 := fun obs => (zy (S := T) (nx := nz) (obs := obs) (i := nx) (by omega)).trans hT0
 have x3 := fun obs => (zy (S := T) (nx := nz) (obs := obs) (i := nx + 3) (by omega)).trans hT3
 have g1 : ¬ nz ≤ nx + 1 := by omega
 have x1 := fun obs => (zy (S := T) (nx := nz) (obs := obs) (i := nx + 1) (by omega)).trans hT1
 (repeat apply za); refine pwn ?_; intros
 repeat apply za
 refine zl rfl (fun hc => ?_) (fun hc => ?_)
 ·simp at hc
  rw [show 8 - k = (7 - k) + 1 from by omega] at hst
  have hvs := hv pr hP
  have hch := Zjn (S := T) hm hP hR hs
  rw [show vI x sol b n (7 - k + 1) pr = (if (qu x sol pr).2 ≠ 0 then ([], 15) else if qh (yW x (qu x sol pr).1 b n) = 0 then (qQ x (qu x sol pr).1 b n, 0) else if (yW x (qu x sol pr).1 b n).any wV = true then ([], 15) else vI x sol b n (7 - k) (Zd (yW x (qu x sol pr).1 b n) pr n)) from rfl] at hst
  generalize qu x sol pr = cz at hst hvs hch
  obtain ⟨v, e⟩ := cz
  simp only at hst hvs hch
  refine zd (za (ze ?_))
  repeat apply za
  refine xV none (Row.pures [0, 1, 2, 3, 4] (.alt 5 (Row.pures [6, 7, 8, 9, 10] .done) .stop)) mixed (by rfl) (by rfl) (by rfl) fun K Gp Gc Gh hK hGp hGc hGh X hX0 hX1 hX2 hX => ?_
  simp -implicitDefEqProofs [hX0, hX1, hX2, hX, x0, x3]
  try clear hX0 hX1 hX2 hX X
  refine hGc _ _ _ _ _ _ _ (Spec.mono (by rw [yt hdT]; exact hch) ?_).v
  rintro _ S2 ⟨rfl, hS2⟩
  have hS3 : S2 = ext T nz [] := hS2.trans (yt hdT).symm
  subst hS3
  clear hS2
  refine ⟨by simp [yf], ?_⟩
  clear hGp hGc hGh
  clear Gp Gc Gh
  refine ju fun Gp Gc Gh hGp hGc hGh X hX0 hX1 hX2 hX => ?_
  simp -implicitDefEqProofs [hX0, hX1, hX2, hX]
  try clear hX0 hX1 hX2 hX X
  refine hK _ _ _ ?_
  clear hK hGp hGc hGh
  clear K Gp Gc Gh
  (repeat apply za); refine pwn ?_; intros
  by_cases he : e = 0
  case neg =>
   rw [if_pos he] at hst
   rw [hst]
   repeat apply za
   refine zh (by simp [he]) ?_
   repeat apply za
   refine pwN [] (jn3 x0 x1 g1) ?_
   intros
   show PW _ _ _ _ _ _ _ (ext _ _ _)
   refine YV (o := nx + 1) 0 (by rw [zy (by omega)]; first | exact Store.set_same _ _ _ | exact hT1) rfl ?_
   rw [xz _ (by omega)]
   try rw [Store.set_set]
   repeat apply za
   refine zb ⟨_, S, (by simp [zy (show nx + 1 < nz from by omega), Store.set_same]; rfl), ⟨by simp [zi], rfl⟩, ?_⟩
   exact Qx hd (by omega) fun o ho => by rw [Store.set_other _ _ _ _ (by omega)]; exact hTS o ho
  rw [if_neg (by simpa using he)] at hst
  have hvs := hvs he
  repeat apply za
  refine zj (by simp [he]) ?_
  refine zd ?_
  repeat apply za
  refine zN [] (by rfl) (by rfl) fun K Gc Gh hK hGc hGh X hX0 hX => ?_
  simp -implicitDefEqProofs [hX0, hX]
  try clear hX0 hX X
  refine hGc _ _ _ _ _ _ _ fun hsuf => (Spec.mono (Zi8 (nx := nz) (n := n) (by rw [yt hdT]; exact hdT) (by rw [yt hdT]; exact hT3) hx hn hn2 hvs hb) ?_).v
  rintro _ _ ⟨rfl, vD, vF, rfl⟩
  rw [yt hdT]
  refine ⟨_, _, rfl, ?_⟩
  clear hGc hGh
  clear Gc Gh
  refine zI hsuf (D := []) (by rfl) fun Gc Gh hGc hGh X hX0 hX => ?_
  simp -implicitDefEqProofs [hX0, hX]
  clear hX0 hX X
  intros
  refine hK _ _ _ ?_
  clear hK hGc hGh
  clear K Gc Gh
  have hfl := Zbn x v b n
  have hpl := Zbm x v b n
  generalize yW x v b n = fs at *
  generalize qQ x v b n = pl at *
  by_cases hf : qh fs = 0
  ·rw [if_pos hf] at hst
   rw [hst]
   repeat apply za
   refine zh (by simp [hf]) ?_
   show PW _ _ _ _ _ _ _ (ext _ _ _)
   refine Zjp 0 (id := nx + 3) rfl (by omega) (Store.set_same _ _ _) ?_
   rw [Store.set_set]
   have hfz : ([I x.days, I x.veh, I x.cap, I x.len, L x.cust, L x.dist, L v, I b, .sl nz vD 1 0 pl.length, .sl (nz + 1) vF 1 0 fs.length, .sl (nx + 2) v2 1 0 x.cust.length] : List PV).map (yo (nz + 0) vD (pl.flatMap Enc.enc)) = plL x (L v) b (L pl) (.sl (nz + 1) vF 1 0 fs.length) (.sl (nx + 2) v2 1 0 x.cust.length) := by
    simp [yo]
    omega
   rw [hfz]
   have y3 := fun (o : Ob) obs => (zy (S := T.set (nx + 3) o) (nx := nz) (obs := obs) (i := nx + 3) (by omega)).trans (Store.set_same _ _ _)
   have y1 := fun (o : Ob) obs => (zy (S := T.set (nx + 3) o) (nx := nz) (obs := obs) (i := nx + 1) (by omega)).trans ((Store.set_other _ _ _ _ (by omega)).trans hT1)
   repeat apply za
   refine pwN [] (jn3 y3 y1 g1) ?_
   intros
   repeat apply za
   refine zb ⟨_, S, (by simp [zy (show nx + 1 < nz from by omega), Store.set_same]; rfl), ⟨by simp [zi], rfl⟩, ?_⟩
   exact Qx hd (by omega) fun o ho => by rw [Store.set_other _ _ _ _ (by omega), Store.set_other _ _ _ _ (by omega)]; exact hTS o ho
  rw [if_neg hf] at hst
  repeat apply za
  refine zj (by simp [hf]) ?_
  refine zd ?_
  have y3 := fun (o : Ob) obs => (zy (S := T.set (nx + 3) o) (nx := nz) (obs := obs) (i := nx + 3) (by omega)).trans (Store.set_same _ _ _)
  have y1 := fun (o : Ob) obs => (zy (S := T.set (nx + 3) o) (nx := nz) (obs := obs) (i := nx + 1) (by omega)).trans ((Store.set_other _ _ _ _ (by omega)).trans hT1)
  repeat apply za
  refine zN [] (by rfl) (by rfl) fun K Gc Gh hK hGc hGh X hX0 hX => ?_
  simp -implicitDefEqProofs [hX0, hX, y3]
  try clear hX0 hX X
  refine hGc _ _ _ _ _ _ _ fun hsuf => ((Zjk (idF := nz + 1) (vF := vF) fs (by rw [yP]; rfl) (by omega)).mono ?_).v
  rintro _ _ ⟨rfl, rfl⟩
  refine ⟨_, _, rfl, ?_⟩
  clear hGc hGh
  clear Gc Gh
  refine zI hsuf (D := []) (by rfl) fun Gc Gh hGc hGh X hX0 hX => ?_
  simp -implicitDefEqProofs [hX0, hX]
  clear hX0 hX X
  intros
  refine hK _ _ _ ?_
  clear hK hGc hGh
  clear K Gc Gh
  cases hbad : fs.any wV with
  | true =>
   rw [if_pos hbad] at hst
   rw [hst]
   repeat apply za
   refine zh rfl ?_
   repeat apply za
   refine pwN [] (jn2 y1 g1) ?_
   intros
   show PW _ _ _ _ _ _ _ (ext _ _ _)
   refine YV (o := nx + 1) 0 (by rw [zy (by omega)]; first | exact Store.set_same _ _ _ | exact (Store.set_other _ _ _ _ (by omega)).trans hT1) rfl ?_
   rw [xz _ (by omega)]
   try rw [Store.set_set]
   repeat apply za
   refine zb ⟨_, S, (by simp [zy (show nx + 1 < nz from by omega), Store.set_same]; rfl), ⟨by simp [zi], rfl⟩, ?_⟩
   exact Qx hd (by omega) fun o ho => by rw [Store.set_other _ _ _ _ (by omega), Store.set_other _ _ _ _ (by omega)]; exact hTS o ho
  | false =>
   rw [if_neg (by rw [hbad]; decide)] at hst
   repeat apply za
   refine zj rfl ?_
   refine zd ?_
   generalize hT2 : ext (T.set (nx + 3) (.cells v3 87 (plL x (L v) b (.sl nz vD 1 0 pl.length) (.sl (nz + 1) vF 1 0 fs.length) (.sl (nx + 2) v2 1 0 x.cust.length)))) nz [.cells vD 66 (pl.flatMap Enc.enc), .cells vF 30 (fs.flatMap Enc.enc)] = T2
   have q3 : T2 (nx + 3) = .cells v3 87 (plL x (L v) b (.sl nz vD 1 0 pl.length) (.sl (nz + 1) vF 1 0 fs.length) (.sl (nx + 2) v2 1 0 x.cust.length)) := by rw [← hT2, zy (by omega), Store.set_same]
   have qF : T2 (nz + 1) = .cells vF 30 (fs.flatMap Enc.enc) := by rw [← hT2, yP]; rfl
   have qo : ∀ o, o < nz → o ≠ nx + 3 → T2 o = T o := fun o h1 h2 => by rw [← hT2, zy h1, Store.set_other _ _ _ _ h2]
   have qd : zK (nz + 2) T2 := by rw [← hT2]; exact jF (obs := [_, _])
   have qR : RowsAt T2 (nx + 2) v2 54 (nx + 4) 3 1 ws pr := hR.other fun o ho => by
    rw [hP.1] at ho
    exact qo o (by omega) (by omega)
   clear hT2
   rw [← yt qd]
   repeat apply za
   refine zN [] (by rfl) (by rfl) fun K Gc Gh hK hGc hGh X hX0 hX => ?_
   simp -implicitDefEqProofs [hX0, hX]
   try clear hX0 hX X
   refine hGc _ _ _ _ _ _ _ fun hsuf => (Spec.mono (ZbI (nx := nz + 2) (by rw [yt qd]; exact qd) x _ _ _ _ _ _ _ n hn hn2 (by rw [yt qd]; exact q3)
    (fun k T' => RowsAt T' (nx + 2) v2 54 (nx + 4) 3 1 ws (Zd fs pr k) ∧ (∀ o, (o < nx + 4 ∨ nx + 4 + x.cust.length ≤ o) → T' o = T2 o)) ⟨by rw [yt qd]; exact qR, fun o _ => by rw [yt qd]⟩
    (fun k T' h o ho => by rw [h.2 o (.inr (by omega))]; exact qd o ho) (fun j hj T' h => ?_)) ?_).v
   ·obtain ⟨h1, h2⟩ := h
    refine (Zjh (n := n) j hm hn2 hj (by omega) (by omega) ((h2 (nz + 1) (.inr (by omega))).trans qF) hfl ((h2 (nx + 3) (.inl (by omega))).trans q3) (Qw fs hP j) h1).mono ?_
    rintro _ T3 ⟨r1, r2⟩
    exact ⟨r1, fun o o1 => (r2 o o1).trans (h2 o o1)⟩
   rintro _ T3 ⟨hR3, hT3'⟩
   have hd3 : zK (nz + 2) T3 := fun o ho => by rw [hT3' o (.inr (by omega))]; exact qd o ho
   refine ⟨T3, [], (yt hd3).symm, ?_⟩
   clear hGc hGh
   clear Gc Gh
   refine zI hsuf (D := []) (by rfl) fun Gc Gh hGc hGh X hX0 hX => ?_
   simp -implicitDefEqProofs [hX0, hX]
   clear hX0 hX X
   intros
   refine hK _ _ _ ?_
   clear hK hGc hGh
   clear K Gc Gh
   rw [yt hd3]
   refine Wv (T' := fun o => if o < nz then T3 o else .dead) (fun o => by by_cases ho : o < nz <;> simp [ho]) ?_
   generalize hT4 : (fun o => if o < nz then T3 o else Ob.dead) = T4
   have q4 : ∀ o, o < nz → T4 o = T3 o := fun o ho => by rw [← hT4]; simp [ho]
   have qd4 : zK nz T4 := fun o ho => by rw [← hT4]; simp; omega
   clear hT4
   rw [← yt qd4]
   (repeat apply za); refine pwn ?_; intros
   refine zk (k + 1, T4, Zd fs pr n) [] ⟨by dsimp only; omega, Qw fs hP n, by rw [hst, show 8 - (k + 1) = 7 - k from by omega], ⟨ws, hR3.other fun o ho => q4 o (by rw [(Qw fs hP n).1] at ho; omega)⟩, ?_, ?_, ⟨L v, .sl nz vD 1 0 pl.length, .sl (nz + 1) vF 1 0 fs.length, ?_⟩, fun o ho => ?_, qd4⟩ (by simp; omega) (by simp [wrN k (by omega)]) rfl (by simp)
   ·dsimp only; rw [q4 _ (by omega), hT3' _ (.inl (by omega)), qo _ (by omega) (by omega)]; exact hT0
   ·dsimp only; rw [q4 _ (by omega), hT3' _ (.inl (by omega)), qo _ (by omega) (by omega)]; exact hT1
   ·dsimp only; rw [q4 _ (by omega), hT3' _ (.inl (by omega))]; exact q3
   ·dsimp only; rw [q4 _ (by omega), hT3' _ (.inl (by omega)), qo _ (by omega) (by omega)]; exact hTS o ho
 ·simp at hc
  obtain rfl : k = 8 := by omega
  rw [hst]
  refine zm ?_
  repeat apply za
  refine pwN [] (jn2 x1 g1) ?_
  intros
  show PW _ _ _ _ _ _ _ (ext _ _ _)
  refine YV (o := nx + 1) 0 (by rw [zy (by omega)]; first | exact Store.set_same _ _ _ | exact hT1) rfl ?_
  rw [xz _ (by omega)]
  try rw [Store.set_set]
  repeat apply za
  refine zb ⟨_, S, (by simp [zy (show nx + 1 < nz from by omega), Store.set_same]; rfl), ⟨by simp [zi, vI], rfl⟩, ?_⟩
  exact Qx hd (by omega) fun o ho => by rw [Store.set_other _ _ _ _ (by omega)]; exact hTS o ho
open Go Go.Proofs Hp
set_option maxRecDepth 20000 in
theorem ZbN (p : Nat) (hp : p < 2 ^ 64) : Pure Tryz.prog 208 [U p] (L (zX p 0 64)) := by
 have h := Zic p 0 hp (by decide)
 refine pwe Tryz.func208 Tryz.ntmps208 Tryz.results208 fun S nx hd => ?_
 (repeat apply za); refine pwn ?_; intros
 repeat apply za
 refine pwn ?_
 refine pwc h ?_
 intros
 repeat apply za
 exact zb (zg hd rfl rfl)
set_option maxRecDepth 20000 in
theorem Zjr (c : Cust) (p : Nat) (hp : p < 2 ^ 64) : Pure Tryz.prog 169 [.agg (zM c), U p] (L (jP c p)) := by
 have hall := ZbN p hp
 have hln := uo p 0 64
 unfold jP
 generalize zX p 0 64 = l at hall hln
 refine pwe Tryz.func169 Tryz.ntmps169 Tryz.results169 fun S nx hd => ?_
 repeat apply za
 refine pwn ?_
 intro v0
 (repeat apply za); refine pwn ?_; intros
 refine za (yA 5 103 2 rfl fun v1 => ?_)
 repeat apply za
 refine pwn ?_
 refine pwc hall ?_
 intros
 repeat apply za
 refine ze (zq (fun s : Nat × List Visit × Nat => s.1 ≤ l.length ∧ s.2.1 = (l.take s.1).map fun d => ⟨d, c.demand⟩) (fun (k, out, v1) => [(2, .ptr nx v0 0), (5, .sl (nx + 1) v1 2 0 out.length), (9, L l), (10, I l.length), (11, I k)]) (fun (k, out, v1) => [.cells v0 41 (zM c), .cells v1 103 (out.flatMap Enc.enc)]) (fun s => l.length - s.1) (0, [], v1) [] (by simp) (by simp) (by simp) ?_)
 rintro ⟨k, out, v1⟩ ⟨hk, ho⟩
 simp only at hk ho ⊢
 have hol : out.length = k := by rw [ho]; simp; omega
 (repeat apply za); refine pwn ?_; intros
 repeat apply za
 refine zl rfl (fun hc => ?_) (fun hc => ?_)
 ·simp at hc
  obtain ⟨d, tl, a1, a2, a3, e0⟩ := el1 rfl l k hc
  refine zd (za (ze ?_))
  repeat apply za
  refine pwN [] (jn2 e0 hc) ?_
  intros
  repeat apply za
  refine pwn ?_
  refine ⟨by omega, ?_⟩
  intros
  (repeat apply za); refine pwn ?_; intros
  exact zk (k + 1, out ++ [⟨d, c.demand⟩], v1 + 1) [] ⟨hc, by rw [a3, ho]; simp⟩ (by simp; omega) (by simp [wrN k (by omega)]) rfl (by simp)
 ·simp at hc
  obtain rfl : k = l.length := by omega
  rw [List.take_length] at ho
  refine zm ?_
  refine zC 1 rfl ?_
  (repeat apply za); refine pwn ?_; intros
  repeat apply za
  exact zb (zg hd (by simp; rfl) (by simp [zi, ho]))
def jD (price : List Int) (ds : List Int) : Int := ds.foldl (fun (s d : Int) => if d < price.length then wR s (price.getD d.toNat 0) else s) 0
def Z1 (price : List Int) (p : Nat) : Int := jD price (zX p 0 64)
def yZ (price : List Int) (l : List Nat) : Nat → Int × Int
 | 0 => (-1, 0)
 | k + 1 => if (yZ price l k).1 < 0 ∨ Z1 price (l.getD k 0) < (yZ price l k).2 then (k, Z1 price (l.getD k 0)) else yZ price l k
theorem ZbO (price : List Int) (l : List Nat) : ∀ k : Nat, (yZ price l k).1 < k ∧ -1 ≤ (yZ price l k).1 ∧ (0 < k → 0 ≤ (yZ price l k).1)
 | 0 => by simp [yZ]
 | k + 1 => by
  have := ZbO price l k
  unfold yZ
  split
  ·dsimp only; omega
  ·rename_i h; omega
theorem Zjs (a b : Int) (ha : I64 a) (hb : I64 b) : I64 (wR a b) := by
 unfold I64 wR at *
 split
 ·omega
 ·split <;> omega
theorem Zjt (price ds : List Int) (d : Int) : jD price (ds ++ [d]) = if d < price.length then wR (jD price ds) (price.getD d.toNat 0) else jD price ds := by simp [jD]
theorem Zju (price : List Int) (hp : ∀ z ∈ price, I64 z) (ds : List Int) : I64 (jD price ds) := by
 unfold jD
 have : ∀ (ds : List Int) (s : Int), I64 s → I64 (ds.foldl (fun (s d : Int) => if d < price.length then wR s (price.getD d.toNat 0) else s) s) := by
  intro ds
  induction ds with
  | nil => intro s h; exact h
  | cons d ds ih =>
   intro s h
   rw [List.foldl_cons]
   apply ih
   split
   ·refine Zjs _ _ h ?_
    rw [List.getD_eq_getElem?_getD]
    cases hq : price[d.toNat]? with
    | none => unfold I64; simp
    | some z => exact hp z (List.mem_of_getElem? hq)
   ·exact h
 exact this ds 0 (by unfold I64; omega)
set_option maxRecDepth 20000 in
theorem Zjv {S : Store} {pl : PV} {price : List Int} (l : List Nat) (hR : RowOf S pl price) (hp : ∀ z ∈ price, I64 z) (hpl : price.length ≤ 1000) (hl : l.length ≤ 1000) (h64 : ∀ p ∈ l, p < 2 ^ 64) :
  Spec Tryz.prog 168 [L l, pl] S (fun q S' => q = .tup [I (yZ price l l.length).1, I (yZ price l l.length).2] ∧ S' = S) := by
 refine jg Tryz.func168 Tryz.ntmps168 Tryz.results168 fun nx hd => ?_
 (repeat apply za); refine pwn ?_; intros
 (repeat apply za); refine pwn ?_; intros
 (repeat apply za); refine pwn ?_; intros
 repeat apply za
 refine ze (zq (fun k : Nat => k ≤ l.length) (fun k => [(1, pl), (6, I (yZ price l k).1), (7, I (yZ price l k).2), (13, L l), (14, I l.length), (15, I k)]) (fun _ => []) (fun k => l.length - k) 0 [] (by simp) (by simp [yZ]) (by simp) ?_)
 rintro k hk
 have hb : yZ price l (k + 1) = if (yZ price l k).1 < 0 ∨ Z1 price (l.getD k 0) < (yZ price l k).2 then (↑k, Z1 price (l.getD k 0)) else yZ price l k := rfl
 generalize hst : yZ price l k = st at hb ⊢
 obtain ⟨place, least⟩ := st
 simp only at hb ⊢
 (repeat apply za); refine pwn ?_; intros
 repeat apply za
 refine zl rfl (fun hc => ?_) (fun hc => ?_)
 ·simp at hc
  obtain ⟨p, tl, a1, a2, a3, e0⟩ := el1 rfl l k hc
  have hall := ZbN p (h64 p (List.mem_of_getElem? a1))
  have hgp : l.getD k 0 = p := by rw [List.getD_eq_getElem?_getD, a1]; rfl
  rw [hgp] at hb
  have hds : ∀ d ∈ zX p 0 64, ∃ i : Nat, d = i := fun d hd => by obtain ⟨i, h, _⟩ := Zbz hd; exact ⟨i, h⟩
  have hdl := uo p 0 64
  rw [show Z1 price p = jD price (zX p 0 64) from rfl] at hb
  generalize zX p 0 64 = ds at hall hds hdl hb
  refine zd (za (ze ?_))
  repeat apply za
  refine pwN [] (jn2 e0 hc) ?_
  intros
  (repeat apply za); refine pwn ?_; intros
  repeat apply za
  refine pwn ?_
  refine pwc hall ?_
  intros
  repeat apply za
  refine ze (zq (fun j : Nat => j ≤ ds.length) (fun j => [(1, pl), (6, I place), (7, I least), (8, I k), (10, I (jD price (ds.take j))), (13, L l), (14, I l.length), (15, I k), (21, L ds), (22, I ds.length), (23, I j)]) (fun _ => []) (fun j => ds.length - j) 0 [] (by simp) (by simp [jD]) (by simp) ?_)
  rintro j hj
  (repeat apply za); refine pwn ?_; intros
  repeat apply za
  refine zl rfl (fun hc2 => ?_) (fun hc2 => ?_)
  ·simp at hc2
   obtain ⟨d, tl2, b1, b2, b3, f0⟩ := el1 rfl ds j hc2
   obtain ⟨i, rfl⟩ := hds d (List.mem_of_getElem? b1)
   have hsn := Zjt price (ds.take j) (i : Int)
   rw [← b3, Int.toNat_natCast] at hsn
   have hsi := Zju price hp (ds.take j)
   refine zd (za (ze ?_))
   repeat apply za
   refine pwN [] (jn2 f0 hc2) ?_
   intros
   by_cases hi : i < price.length
   ·obtain ⟨z, tl3, c1, -, -, g0⟩ := el1 rfl price i hi
    have hgz : price.getD i 0 = z := by rw [List.getD_eq_getElem?_getD, c1]; rfl
    rw [if_pos (by omega), hgz] at hsn
    have hsat := ZhR (jD price (ds.take j)) z hsi (hp z (List.mem_of_getElem? c1))
    rw [← hsn] at hsat
    rcases hR with rfl | ⟨id, ver, rfl, hS⟩
    ·repeat apply za
     refine pwN [] hi ?_
     intros
     repeat apply za
     refine zh rfl ?_
     repeat apply za
     refine pwN [] (jn2 g0 hi) ?_
     refine pwc hsat ?_
     intros
     (repeat apply za); refine pwn ?_; intros
     exact zk (j + 1) [] hc2 (by omega) (by simp [wrN j (by omega)]) rfl (by simp)
    ·have hlt : id < nx := yQ hd hS (by simp)
     have xr := fun obs => (zy (S := S) (obs := obs) hlt).trans hS
     repeat apply za
     refine pwN [] hi ?_
     intros
     repeat apply za
     refine zh rfl ?_
     repeat apply za
     refine pwN [] (jn3 xr g0 hi) ?_
     refine pwc hsat ?_
     intros
     (repeat apply za); refine pwn ?_; intros
     exact zk (j + 1) [] hc2 (by omega) (by simp [wrN j (by omega)]) rfl (by simp)
   ·rw [if_neg (by omega)] at hsn
    rcases hR with rfl | ⟨id, ver, rfl, hS⟩
    ·repeat apply za
     refine pwN [] hi ?_
     intros
     repeat apply za
     refine zj rfl ?_
     refine zd ?_
     (repeat apply za); refine pwn ?_; intros
     exact zk (j + 1) [] hc2 (by omega) (by simp [wrN j (by omega), hsn]) rfl (by simp)
    ·repeat apply za
     refine pwN [] hi ?_
     intros
     repeat apply za
     refine zj rfl ?_
     refine zd ?_
     (repeat apply za); refine pwn ?_; intros
     exact zk (j + 1) [] hc2 (by omega) (by simp [wrN j (by omega), hsn]) rfl (by simp)
  ·simp at hc2
   obtain rfl : j = ds.length := by omega
   rw [List.take_length]
   refine zm ?_
   repeat apply za
   refine zR (nx := nx) (σ := Bool) (fun t => t = decide (place < 0 ∨ jD price ds < least)) (fun t => [(1, pl), (6, I place), (7, I least), (8, I k), (10, I (jD price ds)), (13, L l), (14, I l.length), (15, I k), (44, B t)]) (fun _ => S) (fun _ => []) ?_ ?_
   ·by_cases h1 : place < 0
    ·repeat apply za
     refine pwN [(2, 40)] (jn2 h1 zn) ?_
     intros
     exact zt true [] (by simp [h1]) (by simp) rfl (by simp)
    ·repeat apply za
     refine pwN [(2, 40)] h1 ?_
     intros
     exact zt (decide (jD price ds < least)) [] (by simp [h1]) (by simp) rfl (by simp)
   rintro t rfl
   by_cases h : place < 0 ∨ jD price ds < least
   ·rw [decide_eq_true h]
    rw [if_pos h] at hb
    repeat apply za
    refine zh rfl ?_
    (repeat apply za); refine pwn ?_; intros
    (repeat apply za); refine pwn ?_; intros
    exact zk (k + 1) [] hc (by omega) (by simp [wrN k (by omega), hb]) rfl (by simp)
   ·rw [decide_eq_false h]
    rw [if_neg h] at hb
    repeat apply za
    refine zj rfl ?_
    refine zd ?_
    (repeat apply za); refine pwn ?_; intros
    exact zk (k + 1) [] hc (by omega) (by simp [wrN k (by omega), hb]) rfl (by simp)
 ·simp at hc
  obtain rfl : k = l.length := by omega
  refine zm ?_
  (repeat apply za); refine pwn ?_; intros
  repeat apply za
  exact zb ⟨_, S, rfl, ⟨by simp [zi, hst], rfl⟩, zL hd⟩
def xP (c : Cust) (cap : Int) : List Nat := c.pats.filter fun p => decide (p = 0) || decide (c.demand ≤ cap)
set_option maxRecDepth 20000 in
theorem Zjw (c : Cust) (cap : Int) (hl : c.pats.length ≤ 1000) : Pure Tryz.prog 167 [.agg (zM c), I cap] (L (xP c cap)) := by
 unfold xP
 refine pwe Tryz.func167 Tryz.ntmps167 Tryz.results167 fun S nx hd => ?_
 repeat apply za
 refine pwn ?_
 intro v0
 (repeat apply za); refine pwn ?_; intros
 refine za (yA 5 99 1 rfl fun v1 => ?_)
 (repeat apply za); refine pwn ?_; intros
 repeat apply za
 refine ze (zq (fun s : Nat × List Nat × Nat => s.1 ≤ c.pats.length ∧ s.2.1 = (c.pats.take s.1).filter (fun p => decide (p = 0) || decide (c.demand ≤ cap)) ∧ s.2.1.length ≤ s.1) (fun (k, out, w) => [(1, I cap), (2, .ptr nx v0 0), (5, .sl (nx + 1) w 1 0 out.length), (9, L c.pats), (10, I c.pats.length), (11, I k)]) (fun (k, out, w) => [.cells v0 41 (zM c), .cells w 99 (out.flatMap Enc.enc)]) (fun s => c.pats.length - s.1) (0, [], v1) [] (by simp) (by simp) (by simp) ?_)
 rintro ⟨k, out, w⟩ ⟨hk, ho, hol⟩
 simp only at hk ho hol ⊢
 (repeat apply za); refine pwn ?_; intros
 repeat apply za
 refine zl rfl (fun hc => ?_) (fun hc => ?_)
 ·simp at hc
  obtain ⟨p, tl, a1, a2, a3, e0⟩ := el1 rfl c.pats k hc
  refine zd (za (ze ?_))
  repeat apply za
  refine pwN [] (jn2 e0 hc) ?_
  intros
  repeat apply za
  refine zR (nx := nx) (σ := Bool × Nat) (fun s => s.1 = (decide (p = 0) || decide (c.demand ≤ cap))) (fun (t, w) => [(1, I cap), (2, .ptr nx v0 0), (5, .sl (nx + 1) w 1 0 out.length), (7, U p), (9, L c.pats), (10, I c.pats.length), (11, I k), (22, B t)]) (fun _ => S) (fun (t, w) => [.cells v0 41 (zM c), .cells w 99 (out.flatMap Enc.enc)]) ?_ ?_
  ·by_cases h1 : p = 0
   ·repeat apply za
    refine pwN [(2, 17)] (jn2 h1 zn) ?_
    intros
    exact zt (true, w) [] (by simp [h1]) (by simp [h1]) rfl (by simp)
   ·repeat apply za
    refine pwN [(2, 17)] h1 ?_
    intros
    exact zt (decide (c.demand ≤ cap), w) [] (by simp [h1]) (by simp) rfl (by simp)
  rintro ⟨t, w⟩ ht
  simp only at ht ⊢
  subst ht
  have hstep : (c.pats.take (k + 1)).filter (fun p => decide (p = 0) || decide (c.demand ≤ cap)) = out ++ (if (decide (p = 0) || decide (c.demand ≤ cap)) = true then [p] else []) := by
   rw [a3, List.filter_append, ho]
   congr 1
   simp only [List.filter_cons, List.filter_nil]
  cases ht : (decide (p = 0) || decide (c.demand ≤ cap)) with
  | true =>
   rw [ht, if_pos rfl] at hstep
   repeat apply za
   refine zh rfl ?_
   repeat apply za
   refine pwn ?_
   refine ⟨by omega, ?_⟩
   intros
   (repeat apply za); refine pwn ?_; intros
   exact zk (k + 1, out ++ [p], w + 1) [] ⟨hc, hstep.symm, by simp; omega⟩ (by simp; omega) (by simp [wrN k (by omega)]) rfl (by simp)
  | false =>
   rw [ht, if_neg (by decide), List.append_nil] at hstep
   repeat apply za
   refine zj rfl ?_
   refine zd ?_
   (repeat apply za); refine pwn ?_; intros
   exact zk (k + 1, out, w) [] ⟨hc, hstep.symm, by dsimp only; omega⟩ (by simp; omega) (by simp [wrN k (by omega)]) rfl (by simp)
 ·simp at hc
  obtain rfl : k = c.pats.length := by omega
  rw [List.take_length] at ho
  refine zm ?_
  refine zC 1 rfl ?_
  (repeat apply za); refine pwn ?_; intros
  repeat apply za
  exact zb (zg hd (by simp; rfl) (by simp [zi, ho]))
def wW (c : Cust) (cap : Int) (price : List Int) : List Visit × Bool :=
 if (yZ price (xP c cap) (xP c cap).length).1 < 0 then ([], false) else (jP c ((xP c cap).getD (yZ price (xP c cap) (xP c cap).length).1.toNat 0), true)
set_option maxRecDepth 20000 in
theorem Zjx {S : Store} {pl : PV} {price : List Int} (c : Cust) (cap : Int) (hR : RowOf S pl price) (hp : ∀ z ∈ price, I64 z) (hpl : price.length ≤ 1000) (hl : c.pats.length ≤ 1000) (h64 : ∀ p ∈ c.pats, p < 2 ^ 64) :
  Spec Tryz.prog 127 [.agg (zM c), I cap, pl] S (fun q S' => q = .tup [L (wW c cap price).1, B (wW c cap price).2] ∧ S' = S) := by
 have hca := Zjw c cap hl
 have hsub : ∀ p ∈ xP c cap, p < 2 ^ 64 := fun p hp => h64 p (List.mem_filter.1 hp).1
 have hcl : (xP c cap).length ≤ 1000 := Nat.le_trans (List.length_filter_le _ _) hl
 unfold wW
 generalize xP c cap = l at *
 have hb := fun S (hR : RowOf S pl price) => Zjv l hR hp hpl hcl hsub
 obtain ⟨b1, b2, b3⟩ := ZbO price l l.length
 generalize yZ price l l.length = r at *
 obtain ⟨place, least⟩ := r
 simp only at hb b1 b2 b3 ⊢
 refine jg Tryz.func127 Tryz.ntmps127 Tryz.results127 fun nx hd => ?_
 repeat apply za
 refine pwn ?_
 intro v0
 repeat apply za
 refine pwn ?_
 refine pwc hca ?_
 intros
 repeat apply za
 refine zN [] (by rfl) (by rfl) fun K Gc Gh hK hGc hGh X hX0 hX => ?_
 simp -implicitDefEqProofs [hX0, hX]
 try clear hX0 hX X
 refine hGc _ _ _ _ _ _ _ fun hsuf => ((hb _ (hR.ext hd _)).mono ?_).v
 rintro _ _ ⟨rfl, rfl⟩
 refine ⟨_, _, rfl, ?_⟩
 clear hGc hGh
 clear Gc Gh
 refine zI hsuf (D := []) (by rfl) fun Gc Gh hGc hGh X hX0 hX => ?_
 simp -implicitDefEqProofs [hX0, hX]
 clear hX0 hX X
 intros
 refine hK _ _ _ ?_
 clear hK hGc hGh
 clear K Gc Gh
 (repeat apply za); refine pwn ?_; intros
 by_cases h : place < 0
 ·rw [if_pos h]
  repeat apply za
  refine zh (by simp [h]) ?_
  (repeat apply za); refine pwn ?_; intros
  refine xW 6 rfl ?_
  repeat apply za
  exact zb ⟨_, S, rfl, ⟨by simp [zi], rfl⟩, zL hd⟩
 ·rw [if_neg h]
  obtain ⟨i, rfl⟩ := Int.eq_ofNat_of_zero_le (show 0 ≤ place by omega)
  have hil : i < l.length := by omega
  obtain ⟨p, tl, a1, a2, a3, e0⟩ := el1 rfl l i hil
  have hgp : l.getD (i : Int).toNat 0 = p := by rw [Int.toNat_natCast, List.getD_eq_getElem?_getD, a1]; rfl
  rw [hgp]
  have hon := Zjr c p (hsub p (List.mem_of_getElem? a1))
  repeat apply za
  refine zj (by simp) ?_
  refine zd ?_
  repeat apply za
  refine pwY (some [nx]) (Row.pures [0, 1, 2, 3, 4, 5, 6, 7] .done) mixed (jn2 e0 hil) ?_
  refine pwP (hon) (jn2 e0 hil) ?_
  intros
  repeat apply za
  exact zb ⟨_, S, (by simp; rfl), ⟨by simp [zi], rfl⟩, zL hd⟩
set_option maxRecDepth 20000 in
theorem Zjy {S : Store} {pl : PV} {price : List Int} (c : Cust) (n cap : Int) (hk : c.kind = 1) (hR : RowOf S pl price) (hp : ∀ z ∈ price, I64 z) (hpl : price.length ≤ 1000) (hl : c.pats.length ≤ 1000) (h64 : ∀ p ∈ c.pats, p < 2 ^ 64) :
  Spec Tryz.prog 88 [.agg (zM c), I n, I cap, pl] S (fun q S' => q = .tup [L (wW c cap price).1, B (wW c cap price).2] ∧ S' = S) := by
 have hs := fun S (hR : RowOf S pl price) => Zjx c cap hR hp hpl hl h64
 generalize wW c cap price = r at *
 obtain ⟨v, ok⟩ := r
 simp only at hs ⊢
 refine jg Tryz.func88 Tryz.ntmps88 Tryz.results88 fun nx hd => ?_
 repeat apply za
 refine pwn ?_
 intro v0
 repeat apply za
 refine ze ?_
 repeat apply za
 refine pwN [] hk ?_
 intros
 repeat apply za
 refine zh rfl ?_
 repeat apply za
 refine zN [] (by rfl) (by rfl) fun K Gc Gh hK hGc hGh X hX0 hX => ?_
 simp -implicitDefEqProofs [hX0, hX]
 try clear hX0 hX X
 refine hGc _ _ _ _ _ _ _ fun hsuf => ((hs _ (hR.ext hd _)).mono ?_).v
 rintro _ _ ⟨rfl, rfl⟩
 refine ⟨_, _, rfl, ?_⟩
 clear hGc hGh
 clear Gc Gh
 refine zI hsuf (D := []) (by rfl) fun Gc Gh hGc hGh X hX0 hX => ?_
 simp -implicitDefEqProofs [hX0, hX]
 clear hX0 hX X
 intros
 refine hK _ _ _ ?_
 clear hK hGc hGh
 clear K Gc Gh
 repeat apply za
 exact zb ⟨_, S, (by simp; rfl), ⟨by simp [zi], rfl⟩, zL hd⟩
open Go Go.Proofs Hp
def vJ : Cust := ⟨1, 1, [1], 0, 0, 0, 0, 0⟩
def x19 : Inst := ⟨1, 1, 9, 9, [vJ], [[0, 3], [4, 0]]⟩
def ut (c : Cust) (l : List Int) : List Visit × Bool := wW c 9 l
theorem XJ : InstH x19 := by
 refine ⟨by decide, by decide, Zav fun row hr d hd => ?_, by decide⟩
 simp only [x19, List.mem_cons, List.not_mem_nil, or_false] at hr
 rcases hr with rfl | rfl <;> simp only [List.mem_cons, List.not_mem_nil, or_false] at hd <;> rcases hd with rfl | rfl <;> decide
theorem Zjz (l : List Int) : wW vJ 9 l = ([⟨0, 1⟩], true) := by
 have h1 : xP vJ 9 = [1] := by decide
 have h2 : jP vJ 1 = [⟨0, 1⟩] := by decide
 unfold wW
 rw [h1]
 have h3 : (yZ l [1] 1).1 = 0 := by
  unfold yZ
  rw [if_pos (.inl (by simp [yZ]))]; rfl
 simp only [List.length_cons, List.length_nil, Nat.zero_add, h3]
 rw [if_neg (by decide)]
 show (jP vJ 1, true) = _
 rw [h2]
theorem ZjA : XI x19 1 ut := by
 intro c hc l hl hi S pl hR
 have : c = vJ := by simpa [x19] using hc
 subst this
 exact Zjy vJ 1 9 rfl hR hi (by omega) (by decide) (by decide)
theorem ZbP (pr : List (List Int)) : qu x19 ut pr = ([[⟨0, 1⟩]], 0) := by
 have h : xO x19 ut pr x19.cust.length = [([⟨0, 1⟩], true)] := by
  show [ut vJ (pr.getD 0 [])] = _
  unfold ut; rw [Zjz]
 unfold qu
 rw [h]; rfl
theorem ZbQ : VsOk 1 1 [[⟨0, 1⟩]] := by
 refine ⟨rfl, fun l hl w hw => ?_, fun l hl => ?_, fun l hl => ?_⟩
 ·simp at hl; subst hl; simp at hw; subst hw; decide
 ·simp at hl; subst hl; simp
 ·simp at hl; subst hl; simp
theorem ZjB : ZbM x19 1 ut := by
 intro pr _ _
 rw [ZbP]; exact ZbQ
theorem ZjC {d : Day} {s : Stop} (h : d.flatten.Perm [s]) (hn : ∀ t ∈ d, t ≠ []) : d = [[s]] := by
 have h1 : d.flatten = [s] := List.perm_singleton.1 h
 match d, h1, hn with
 | [], h1, _ => simp at h1
 | [t], h1, _ => simpa using h1
 | t :: u :: r, h1, hn =>
  exfalso
  have a := hn t (by simp)
  have b := hn u (by simp)
  have := congrArg List.length h1
  simp only [List.flatten_cons, List.length_append, List.length_cons, List.length_nil] at this
  have := List.length_pos_iff.2 a
  have := List.length_pos_iff.2 b
  omega
theorem ZjD {x : Inst} {s : Stop} (h : SOk x [s]) (h0 : arc x 0 0 = 0) (hf : qy x [s] = 0) (hv : 1 ≤ x.veh) (b : Int) : qZ x b [s] = ([[s]], 0) := by
 have he : (qZ x b [s]).2 = 0 := by
  apply Classical.byContradiction
  intro hne
  rcases (ZhM h b hne).2 with q | q
  ·exact q hf
  ·simp at q; omega
 obtain ⟨-, h2, h3, -⟩ := ZhL h h0 b he
 have := ZjC h3 (Y7 h2)
 exact Prod.ext this he
theorem ZjE : Z0 x19 ut 0 1 = ([[[⟨0, 1⟩]]], 0) := by
 have hs : qf [[⟨0, 1⟩]] (0 : Nat) 1 = [⟨0, 1⟩] := by decide
 have hk := Zbl XJ ZbQ 0
 have hb : ur x19 [[⟨0, 1⟩]] 0 1 = [([[⟨0, 1⟩]], 0)] := by
  show [qZ x19 0 (qf [[⟨0, 1⟩]] (0 : Nat) 1)] = _
  rw [hs]
  rw [show qf [[(⟨0, 1⟩ : Visit)]] 0 x19.cust.length = [⟨0, 1⟩] from hs] at hk
  rw [ZjD hk XJ.diag (by decide) (by decide) 0]
 have h1 : yW x19 [[⟨0, 1⟩]] 0 1 = [0] := by unfold yW; rw [hb]; rfl
 have h2 : qQ x19 [[⟨0, 1⟩]] 0 1 = [[[⟨0, 1⟩]]] := by unfold qQ; rw [hb]; rfl
 unfold Z0 vI
 rw [ZbP]
 simp only [h1, h2]
 rfl
theorem ZjF : Pure Tryz.prog 13 [.agg (zp x19), I 0] (.tup [.agg [L ([[[⟨0, 1⟩]]] : zQ)], I 0]) := by
 have h := Zjq (b := 0) XJ (n := 1) rfl (by decide) ZjA ZjB (by decide)
 rw [ZjE] at h
 exact h
set_option maxRecDepth 20000 in
theorem ZjG : Pure Tryz.prog 17 [] (B true) := by
 have h1 := ZjF
 have h2 := Zbo [[[⟨0, 1⟩]]] 0 (by decide) (by decide) (by decide)
 rw [show woP 0 [[[(⟨0, 1⟩ : Stop)]]] = [[]] from by decide] at h2
 refine pwe Tryz.func17 Tryz.ntmps17 Tryz.results17 fun S nx hd => ?_
 (repeat apply za); refine pwn ?_; intros
 repeat apply za
 refine pwn ?_
 intro v0
 repeat apply za
 refine pwn ?_
 refine pwc h1 ?_
 intro v1
 intros
 repeat apply za
 refine pwN [(2, 18), (8, 24), (17, 33)] trivial ?_
 refine pwC [(2, 18), (8, 24), (17, 33)] h2 trivial ?_
 intros
 repeat apply za
 exact zb (zg hd (by simp; rfl) rfl)
open Go Go.Proofs Hp
set_option maxHeartbeats 3200000 in
theorem ZjH (x : Inst) (pick : List Int) (joins : List Bool) (cu : Int) (hx : InstOk x) (hpk : ∀ z ∈ pick, I64 z) : Pure Tryz.prog 6 [.agg (zp x), L pick, L joins, I cu] (B true) := by
 have hgd := XE x
 have hgc := ZiL x
 have hgn := XF x
 have hmade := ZiH (vG x 6 (zP x).cap 1000) (zP x).days.toNat pick joins (ZiM x _ _ _ (by omega)) hpk
 have hgood := ZdC x hx
 have hgo : InstOk (vG x 6 (zP x).cap 1000) := ZiN x 6 (zP x).cap 1000 (by unfold I64; omega) (by unfold I64; omega) (by unfold I64; omega)
 have hA60 : ∀ a b, 0 ≤ arc (vG x 6 (zP x).cap 1000) a b ∧ arc (vG x 6 (zP x).cap 1000) a b ≤ 60 := ZiW x
 have hAk : yq (vG x 6 (zP x).cap 1000) := ZhA x
 have hlv := ZjG
 obtain ⟨y, hy⟩ : ∃ y, y = vG x 6 (zP x).cap 1000 := ⟨_, rfl⟩
 have e1 : PV.agg (zp y) = .agg [I (zP x).days, I 6, I (zP x).cap, I 1000, L (zP x).cust, L (zP x).dist] := by rw [hy]; rfl
 have hyl : y.len = 1000 := by rw [hy]; rfl
 rw [← hy] at hmade hgo hA60 hAk
 have hyc : y.cust.length ≤ 6 := by rw [hy]; exact hgn
 have hycl : y.cust.length = (zP x).cust.length := by rw [hy]; rfl
 have hnn : (zP x).days.toNat ≤ 7 := by omega
 generalize (zP x).days.toNat = n at hmade hnn
 rw [e1] at hmade
 generalize zP x = g at *
 refine pwe Tryz.func6 Tryz.ntmps6 Tryz.results6 fun S nx hd => ?_
 repeat apply za
 refine pwn ?_
 intro v0
 repeat apply za
 refine pwn ?_
 refine pwc hgood ?_
 intro v1
 intros
 (repeat apply za); refine pwn ?_; intros
 (repeat apply za); refine pwn ?_; intros
 repeat apply za
 refine zN [] (by rfl) (by rfl) fun K Gc Gh hK hGc hGh X hX0 hX => ?_
 simp -implicitDefEqProofs [hX0, hX]
 try clear hX0 hX X
 refine hGc _ _ _ _ _ _ _ fun hsuf => ((hmade _).mono ?_).v
 rintro _ _ ⟨⟨pl, b, rfl, hg⟩, rfl⟩
 refine ⟨_, _, rfl, ?_⟩
 clear hGc hGh
 clear Gc Gh
 refine zI hsuf (D := []) (by rfl) fun Gc Gh hGc hGh X hX0 hX => ?_
 simp -implicitDefEqProofs [hX0, hX]
 try clear hX0 hX X
 intro v2
 intros
 refine hK _ _ _ ?_
 clear hK hGc hGh
 clear K Gc Gh
 have hstop : ∀ (Z : Bool), Z = true → True := fun _ _ => trivial
 clear hstop
 cases b with
 | false =>
  repeat apply za
  refine pwN [(2, 27), (8, 33), (12, 37)] zn ?_
  intros
  repeat apply za
  refine zh rfl ?_
  repeat apply za
  refine pwn ?_
  refine pwc hlv ?_
  intros
  repeat apply za
  exact zb (zg hd (by simp; rfl) rfl)
 | true =>
  obtain ⟨hm, hcnt⟩ := hg rfl
  have hpl := hm.len
  have hsz := ZiO hm (by omega) (by omega) hcnt
  have hdo := ZiP hm (by omega)
  have hPR := Zil y pl hgo hsz
  simp only [e1] at hPR
  by_cases hpe : vE y pl = 0
  case neg =>
   repeat apply za
   refine pwN [(2, 27), (8, 33), (12, 37)] (jn2 hpe zn) ?_
   refine pwC [(2, 27), (8, 33), (12, 37)] hPR (jn2 hpe zn) ?_
   intros
   repeat apply za
   refine zh rfl ?_
   repeat apply za
   refine pwn ?_
   refine pwc hlv ?_
   intros
   repeat apply za
   exact zb (zg hd (by simp; rfl) rfl)
  by_cases h0 : cu < 0
  ·repeat apply za
   refine pwN [(2, 27), (8, 33), (12, 37)] (jn3 hpe h0 zn) ?_
   refine pwC [(2, 27), (8, 33), (12, 37)] hPR (jn3 hpe h0 zn) ?_
   intros
   repeat apply za
   refine zh rfl ?_
   repeat apply za
   refine pwn ?_
   refine pwc hlv ?_
   intros
   repeat apply za
   exact zb (zg hd (by simp; rfl) rfl)
  by_cases h1 : (g.cust.length : Int) ≤ cu
  ·repeat apply za
   refine pwN [(2, 27), (8, 33), (12, 37)] (jn4 hpe h0 h1 zn) ?_
   refine pwC [(2, 27), (8, 33), (12, 37)] hPR (jn4 hpe h0 h1 zn) ?_
   intros
   repeat apply za
   refine zh rfl ?_
   repeat apply za
   refine pwn ?_
   refine pwc hlv ?_
   intros
   repeat apply za
   exact zb (zg hd (by simp; rfl) rfl)
  obtain ⟨c, rfl⟩ := Int.eq_ofNat_of_zero_le (show 0 ≤ cu by omega)
  obtain ⟨-, -, hdm, -⟩ := ZiT hpe
  have hW := Zbo pl c (by omega) (fun d hd => (hdo d hd).n) (fun d hd => (hdo d hd).t)
  have hW2 := Ziu pl c (by omega) (fun d hd => (hdo d hd).n) (fun d hd => (hdo d hd).t)
  have hDM : DaysMay y (woP c pl) := ZiU (by omega) (by unfold woP; rw [List.length_map]; omega) fun d hd => by
   obtain ⟨d0, hd0, rfl⟩ := List.mem_map.1 hd
   exact ZiZ hyc hA60 hyl (hdm d0 hd0) c
  have hcy : c < y.cust.length := by omega
  have hP1 := ZiR y (woP c pl) c (by omega) hcy hDM
  have hP2 := ZiS y (woP c pl) c (by omega) hAk hcy hDM
  have hprl : ((woP c pl).map (qS y (jq y c))).length ≤ 1048576 := by rw [List.length_map]; have := hDM.len; omega
  have hS2 := ZdL ((woP c pl).map (qS y (jq y c))) ((woP c pl).map (qS y (jq y c))) hprl hprl
  have hS1 := Zi1 (woP c pl) (woP c pl) (by have := hDM.len; omega) (fun d hd => (hDM.ok d hd).ok.n) (fun d hd => (hDM.ok d hd).ok.t)
  simp only [e1] at hP1 hP2
  rw [decide_eq_true rfl] at hS1 hS2
  generalize (woP c pl).map (qS y (jq y c)) = pr at *
  generalize woP c pl = wp at *
  repeat apply za
  refine pwN [(2, 27), (8, 33), (12, 37)] (jn4 hpe h0 h1 zn) ?_
  refine pwC [(2, 27), (8, 33), (12, 37)] hPR (jn4 hpe h0 h1 zn) ?_
  intros
  repeat apply za
  refine zj rfl ?_
  refine zd ?_
  repeat apply za
  refine pwn ?_
  refine pwc hW ?_
  intro v3
  intros
  repeat apply za
  refine pwn ?_
  refine pwc hW2 ?_
  intro v4
  intros
  repeat apply za
  refine pwY (some [nx + 1, nx + 2, nx + 3, nx + 4]) (Row.pures [0, 1, 2, 3, 4, 5, 6, 7, 8, 9, 10, 11, 12, 13, 14, 15, 16, 17] .done) mixed trivial ?_
  refine pwP (hS1) trivial ?_
  refine pwP (hP1) trivial ?_
  refine pwP (hP2) trivial ?_
  refine pwP (hS2) trivial ?_
  refine pwP (hlv) trivial ?_
  intros
  repeat apply za
  exact zb (zg hd (by simp; rfl) rfl)
end Go.Proofs.YtaiplainginmaaaGreat.Pv
namespace Go.Proofs.YtaiplainginmaaaGreat
open Go Go.ChangeShapes Go.WideShapes Go.ChangeAt Go.RowKit Pv
set_option maxRecDepth 100000 in
theorem ZjI (os : Os) (started : os.Started) (H : Type) (enc : TypeId × Value → H) :
  ReturnsInHanded {} Tryz.checked os 6 .any (Rows.horizonOutSpec.pre6 enc Tryz.prog Tryz.f6 Rows.horizonOutRow.domain false) (Rows.horizonOutSpec.post enc Tryz.prog Tryz.f6 false true false false) := by
 refine returnsInHanded_of_change (C := Tryz.checked) Zc7 started (by kernel_rfl) Tryz.func6
  (ChangeSpec.witness6 (enc := enc) (C := Tryz.checked) false ⟨#[], #[.agg #[.int .i64 0, .int .i64 0, .int .i64 0, .int .i64 0, .slice none 0 0, .slice none 0 0], .slice none 0 0, .slice none 0 0, .int .i64 0], []⟩ 8 (by kernel_rfl) (by kernel_rfl) (by kernel_rfl) (by kernel_rfl)) ?_
 intro W base args ds gs before hval0 hW hcnd _
 have hval : ∀ (j : Nat) t v, Tryz.f6.params[j]? = some t → args[j]? = some v → Value.okWide Tryz.prog W .any base t v := hval0
 have hW' := hW
 obtain ⟨p, q, hA0, hV, rfl, hfz, hnd⟩ := hW
 have hA : DataW.TrodAll enc Tryz.prog W 0 (fun _ => true) true Tryz.f6.params.toList args.toList ds p := hA0
 rw [Tryz.params6] at hA hval
 obtain ⟨v0, v1, v2, v3, d0, d1, d2, d3, p0, p1, p2, p3, rfl, rfl, rfl, h0, h1, h2, h3⟩ := trodAll_four hA
 obtain ⟨rfl, rfl⟩ := trodVars_none hV
 obtain ⟨c0, rfl, _⟩ := okWide_struct Tryz.underlying25 (hval 0 _ v0 rfl rfl)
 obtain ⟨a0, k0, r0⟩ := Zc6 (ZdE W) h0
 obtain ⟨b1, n1, m1, rfl⟩ := okWide_slice Tryz.underlying54 (hval 1 _ v1 rfl rfl)
 obtain ⟨a1, k1, r1⟩ := Q7 (ZdG W) rfl h1
 have r1 := r1 _ rfl
 obtain ⟨b2, n2, m2, rfl⟩ := okWide_slice Tryz.underlying55 (hval 2 _ v2 rfl rfl)
 obtain ⟨a2, k2, r2⟩ := Q7 (ZdF W) rfl h2
 have r2 := r2 _ rfl
 obtain ⟨z3, rfl⟩ := okWide_int Tryz.underlying3 (hval 3 _ v3 rfl rfl)
 obtain ⟨a3, k3, r3⟩ := Q7 ((jH Tryz.underlying3 : xk Tryz.prog W 3 Int I64)) rfl h3
 have r3 := r3 _ rfl
 refine (Zc9 ((ZjH a0 a1 a2 a3 k0 k1.2)) rfl (fun i c v hc hv => ?_)).mono fun e W' hq => ?_
 ·match i with
  | 0 => cases hc; cases hv; exact r0
  | 1 => cases hc; cases hv; exact r1
  | 2 => cases hc; cases hv; exact r2
  | 3 => cases hc; cases hv; exact r3
  | i + 4 => cases hc
 exact ⟨_, hq.1, Zda rfl rfl (of_decide_eq_true (by kernel_rfl)) hW' rfl rfl rfl hq.2⟩
set_option maxRecDepth 100000 in
theorem ZjJ : Rows.horizonOutRow.wf (OpenSpec.ofChange Rows.horizonOutSpec) = true := by kernel_rfl
set_option maxRecDepth 100000 in
theorem ZjK : Tryz.f6.params.all (Tryz.pinned.checked.prog.readableRec ·) = true := by kernel_rfl
set_option maxRecDepth 100000 in
theorem ZjL : namedTie Tryz.pinned.checked.prog Rows.horizonOutRow.named Rows.horizonOutSpec.vars = true := by kernel_rfl
set_option maxRecDepth 100000 in
theorem ZjM : (Rows.horizonOutRow.inPlace == Tryz.pinned.checked.prog.inPlace 6) = true := by kernel_rfl
set_option maxRecDepth 100000 in
theorem ZjN : (Rows.horizonOutRow.unfollowed == Tryz.pinned.checked.prog.unfollowed 6) = true := by kernel_rfl
set_option maxRecDepth 100000 in
theorem ZjO : (Rows.horizonOutRow.recurses == Tryz.pinned.checked.prog.recurses 6) = true := by kernel_rfl
set_option maxRecDepth 100000 in
theorem ZjP : (Rows.horizonOutRow.named == Tryz.pinned.checked.prog.varsNamed 6) = true := by kernel_rfl
set_option maxRecDepth 100000 in
theorem ZjQ : (Rows.horizonOutRow.maps == (Tryz.f6.params.toList ++ Rows.horizonOutSpec.plain.varTypes Tryz.pinned.checked.prog).any (Tryz.pinned.checked.prog.mapsRec ·)) = true := by kernel_rfl
set_option maxRecDepth 100000 in
theorem ZjR : (Rows.horizonOutRow.ifaces == (Tryz.f6.params.toList ++ Rows.horizonOutSpec.plain.varTypes Tryz.pinned.checked.prog).any (Tryz.pinned.checked.prog.ifacesRec ·)) = true := by kernel_rfl
set_option maxRecDepth 100000 in
theorem ZjS : (Rows.horizonOutRow.mapsOut == Tryz.pinned.checked.prog.mapsAmong Tryz.f6.resultTypes.toList) = true := by kernel_rfl
set_option maxRecDepth 100000 in
theorem ZjT : (Rows.horizonOutRow.loops == (Tryz.f6.params.toList ++ Rows.horizonOutSpec.plain.varTypes Tryz.pinned.checked.prog).any (Tryz.pinned.checked.prog.loopsFrom ·)) = true := by kernel_rfl
set_option maxRecDepth 100000 in
theorem ZjU : (Rows.horizonOutRow.wideKeys == (Tryz.f6.params.toList ++ Rows.horizonOutSpec.plain.varTypes Tryz.pinned.checked.prog ++ Tryz.f6.resultTypes.toList).any (Tryz.pinned.checked.prog.wideKeysFrom ·)) = true := by kernel_rfl
set_option maxRecDepth 100000 in
theorem ZjV : Rows.horizonOutSpec.vars.all (Tryz.pinned.checked.prog.varReadable ·) = true := by kernel_rfl
set_option maxRecDepth 100000 in
theorem ZjW : Tryz.f6.resultTypes.all (fun t => Tryz.pinned.checked.prog.readableRec t && decide (t < Tryz.pinned.checked.prog.types.size)) = true := by kernel_rfl
set_option maxRecDepth 100000 in
theorem ZjX : (Rows.horizonOutRow.ifacesOut == Tryz.f6.resultTypes.toList.any (Tryz.pinned.checked.prog.ifacesRec ·)) = true := by kernel_rfl
set_option maxRecDepth 100000 in
theorem ZjY : (Rows.horizonOutRow.loopsOut == Tryz.f6.resultTypes.toList.any (Tryz.pinned.checked.prog.loopsFrom ·)) = true := by kernel_rfl
set_option maxRecDepth 100000 in
theorem ZjZ : (Rows.horizonOutRow.plainKeys == Tryz.pinned.checked.prog.plainKeys) = true := by kernel_rfl
set_option maxRecDepth 100000 in
theorem Zj0 : (Rows.horizonOutRow.lifted == Tryz.pinned.checked.prog.liftsFinal) = true := by kernel_rfl
set_option maxRecDepth 100000 in
theorem Zj1 : (Tryz.pinned.checked.prog.make == some Rows.horizonOutRow.make) = true := by kernel_rfl
set_option maxRecDepth 100000 in
theorem Zj2 : (Rows.horizonOutRow.kinds == (if Rows.horizonOutRow.domain.isEmpty then [] else Tryz.f6.params.toList.map fun t => match Tryz.pinned.checked.prog.underlying t with | some (.int k) => some k | _ => none)) = true := by kernel_rfl
set_option maxRecDepth 100000 in
theorem Zj3 : (Rows.horizonOutRow.veiled == (Tryz.f6.params.toList ++ Rows.horizonOutSpec.plain.varTypes Tryz.pinned.checked.prog ++ Tryz.f6.resultTypes.toList).any (Tryz.pinned.checked.prog.veiledRec ·)) = true := by kernel_rfl
set_option maxRecDepth 100000 in
theorem Zj4 : Rows.horizonOutRow.veiledFits Tryz.pinned.checked.prog Tryz.f6.params.toList (Tryz.f6.params.toList ++ Rows.horizonOutSpec.plain.varTypes Tryz.pinned.checked.prog ++ Tryz.f6.resultTypes.toList) = true := by kernel_rfl
theorem Zj5 : Tryz.pinned.checked.prog.funcNamed Rows.horizonOutRow.func = some 6 := by kernel_rfl
theorem Zj6 : Tryz.f6.isInstance Tryz.pinned.checked.prog Rows.horizonOutRow.origin Rows.horizonOutRow.targs := of_decide_eq_true (by kernel_rfl)
theorem Zj7 : Tryz.f6.isWrapper Tryz.pinned.checked.prog Rows.horizonOutRow.wrapper Rows.horizonOutRow.mainSum := by unfold Func.isWrapper; first | (rw [if_pos (by decide +kernel)]; kernel_rfl) | (rw [if_neg (by decide +kernel)]; exact ⟨rfl, rfl⟩)
set_option maxRecDepth 20000 in
theorem horizonOut_holds : Rows.HorizonOutSaid :=
 OpenClaim.holds_of_wide 6 Tryz.f6 rfl rfl rfl rfl rfl rfl rfl ⟨rfl, rfl, rfl, rfl, rfl⟩ rfl rfl rfl rfl rfl Zj5 Tryz.func6 (Zdb ZjJ Zdc Zdd ZjK ZjL rfl Zde rfl Zdf ZjM ZjN ZjO ZjP ZjQ ZjR ZjS ZjT ZjU ZjV ZjW ZjX ZjY ZjZ rfl Zdg Zdh Zj0 Zj1 Zj2 rfl Zj3 Zj4)
  Zj6 Zj7
  (fun os started H enc _ => ZjI os started H enc)
end Go.Proofs.YtaiplainginmaaaGreat
