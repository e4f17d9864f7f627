/- Part of a proof, packed. -/
import Derived.Test.YtcnbiofjmioaiaaGreatR5
set_option maxRecDepth 100000
set_option maxHeartbeats 3200000
namespace Go.Proofs.YtcnbiofjmioaiaaGreat.Pv
open Go
theorem Zd3 {α : Type} (l : List α) : l = [] ∨ ∃ m x, l = m ++ [x] := by
 rcases List.eq_nil_or_concat l with h | ⟨m, x, h⟩
 ·exact .inl h
 ·exact .inr ⟨m, x, by rw [h, List.concat_eq_append]⟩
def Y7 (x : Inst) (d : zi) (s : Stop) (join : Bool) : zi :=
 match d.reverse with
 | t :: r => if join = true ∧ zJ x (t ++ [s]) = 0 then r.reverse ++ [t ++ [s]] else d ++ [[s]]
 | [] => [[s]]
theorem Zd4 (x : Inst) (s : Stop) (j : Bool) : Y7 x [] s j = [[s]] := rfl
theorem Zd5 (x : Inst) (d : zi) (t : zD) (s : Stop) (j : Bool) : Y7 x (d ++ [t]) s j = if j = true ∧ zJ x (t ++ [s]) = 0 then d ++ [t ++ [s]] else (d ++ [t]) ++ [[s]] := by simp [Y7]
theorem Zd6 (x : Inst) (d : zi) (s : Stop) (j : Bool) : (Y7 x d s j).flatten = d.flatten ++ [s] := by
 rcases Zd3 d with rfl | ⟨d', t, rfl⟩
 ·simp [Zd4]
 ·rw [Zd5]; split <;> simp
theorem ZlZ (x : Inst) (d : zi) (s : Stop) (j : Bool) (h : ∀ t ∈ d, t ≠ []) : ∀ t ∈ Y7 x d s j, t ≠ [] := by
 rcases Zd3 d with rfl | ⟨d', t, rfl⟩
 ·simp [Zd4]
 ·rw [Zd5]
  split
  ·intro u hu
   rcases List.mem_append.1 hu with hu | hu
   ·exact h u (by simp [hu])
   ·rw [List.mem_singleton.1 hu]; simp
  ·intro u hu
   rcases List.mem_append.1 hu with hu | hu
   ·exact h u hu
   ·rw [List.mem_singleton.1 hu]; simp
theorem VT {α : Type} [Enc α] (h1 : Enc.sz α = 1) (l : List α) (k : Nat) (v : α) (h : k < l.length) : yd (l.flatMap Enc.enc) k (Enc.enc v) = (l.set k v).flatMap Enc.enc := by
 have e1 : (l.flatMap Enc.enc).take k = (l.take k).flatMap Enc.enc := by
  have := Zb (α := α) Enc.enc (Enc.sz α) Enc.len l k; rwa [h1, Nat.mul_one] at this
 have e2 : (l.flatMap Enc.enc).drop (k + 1) = (l.drop (k + 1)).flatMap Enc.enc := by
  have := Ys (α := α) Enc.enc (Enc.sz α) Enc.len l (k + 1); rwa [h1, Nat.mul_one] at this
 rw [yd, Enc.len, h1, e1, e2, List.set_eq_take_append_cons_drop, if_pos h]
 simp
open Go Go.Proofs Hp
def RowOf (S : Store) (pl : PV) (l : List Int) : Prop := pl = L l ∨ ∃ id ver, pl = .sl id ver 1 0 l.length ∧ S id = .cells ver 3 (l.flatMap Enc.enc)
theorem RowOf.ext {S : Store} {pl : PV} {l : List Int} (h : RowOf S pl l) {nx : Nat} (hd : zV nx S) (obs : List Ob) : RowOf (ext S nx obs) pl l := by
 rcases h with h | ⟨id, ver, h1, h2⟩
 ·exact .inl h
 ·exact .inr ⟨id, ver, h1, (zH (yA hd h2 (by simp))).trans h2⟩
theorem Zd7 {S : Store} {nx id ver : Nat} (hd : zV nx S) (x : Inst) (v p f pr : PV) (b : Int) (fn : FuncId) (fs : List PV) (n : Nat) (hn : x.days = n) (hn2 : n ≤ 1000) (hS : S id = .cells ver 89 (jH x v b p f pr)) (Pk : Nat → Store → Prop) (h0 : Pk 0 S)
  (hPd : ∀ k T, Pk k T → zV nx T) (hstep : ∀ k, k < n → ∀ T, Pk k T → Spec Tryz.prog fn (fs ++ [I k]) T (fun _ S' => Pk (k + 1) S')) :
  Spec Tryz.prog 64 [.ptr id ver 0, .fn (.func fn) fs []] S (fun _ S' => Pk n S') := by
 refine uh hd Tryz.func64 Tryz.ntmps64 Tryz.results64 ?_
 have hlt : id < nx := yA hd hS (by simp)
 have xw := fun obs => (zH (S := S) (obs := obs) hlt).trans hS
 refine za (ze [] (zm xw hn) ?_)
 refine zj (jl (σ := Nat × Store) (fun s => s.1 ≤ n ∧ Pk s.1 s.2) (fun s => [(1, .fn (.func fn) fs []), (9, I n), (10, I s.1)]) (fun s => s.2) (fun _ => []) (fun s => n - s.1) (zP (0, S) [] ⟨by simp, h0⟩ (by simp) rfl (by simp)) ?_)
 rintro ⟨k, T⟩ ⟨hk, hP⟩
 simp only at hk hP ⊢
 refine za (zb ?_)
 refine za (zr rfl (fun hc => ?_) (fun hc => ?_))
 ·simp at hc
  refine zh (za (zj (za (zb ?_))))
  refine zT [] (by rfl) (by rfl) fun K Gc Gh hK hGc hGh X hX0 hX => ?_
  simp -implicitDefEqProofs [hX0, hX]
  try clear hX0 hX X
  refine hGc _ _ _ _ _ _ _ fun hsuf => (Spec.mono (by rw [qi (hPd k T hP)]; simpa using hstep k hc T hP) ?_).v
  rintro _ T' hP'
  refine ⟨T', [], (qi (hPd _ _ hP')).symm, ?_⟩
  clear hGc hGh
  clear Gc Gh
  refine zQ hsuf (D := []) (by rfl) fun Gc Gh hGc hGh X hX0 hX => ?_
  simp -implicitDefEqProofs [hX0, hX]
  clear hX0 hX X
  refine hK _ _ _ ?_
  clear hK hGc hGh
  clear K Gc Gh
  refine zb ?_
  exact zp (k + 1, T') [] ⟨hc, hP'⟩ (by simp; omega) (by simp [zt k (by omega)]) rfl (by simp)
 ·simp at hc
  obtain rfl : k = n := by omega
  refine zy ?_
  exact ⟨_, T, rfl, hP, yb (hPd _ _ hP)⟩
def vU (x : Inst) (j : Nat) : Int := W (zW x [(j : Int)])
def qO (x : Inst) (k i : Nat) : List (List Int) := (List.range x.cust.length).map fun j => List.replicate (if j < i then k + 1 else k) (vU x j)
theorem uy (x : Inst) (k i : Nat) : (qO x k i).length = x.cust.length := by simp [qO]
theorem Zd8 (x : Inst) (k i j : Nat) (h : j < x.cust.length) : (qO x k i).getD j [] = List.replicate (if j < i then k + 1 else k) (vU x j) := by
 rw [List.getD_eq_getElem?_getD]; simp [qO, h]
theorem Zl0 (x : Inst) (k : Nat) : qO x k x.cust.length = qO x (k + 1) 0 := by
 unfold qO
 refine List.map_congr_left fun j hj => ?_
 rw [if_pos (List.mem_range.1 hj), if_neg (by omega)]
theorem Zl1 (x : Inst) (k i : Nat) (h : i < x.cust.length) : (qO x k i).set i (List.replicate (k + 1) (vU x i)) = qO x k (i + 1) := by
 apply List.ext_getElem?
 intro j
 rw [List.getElem?_set, uy]
 by_cases hij : i = j
 ·subst hij; rw [if_pos rfl, if_pos h]; simp [qO, h]
 ·rw [if_neg hij]
  by_cases hj : j < x.cust.length
  ·simp only [qO, List.getElem?_map, List.getElem?_range hj, Option.map_some]
   congr 2
   by_cases h1 : j < i
   ·rw [if_pos h1, if_pos (by omega)]
   ·rw [if_neg h1, if_neg (by omega)]
  ·rw [List.getElem?_eq_none (by rw [uy]; omega), List.getElem?_eq_none (by rw [uy]; omega)]
theorem Zl2 {S : Store} {id ver A va base : Nat} {ws : Nat → Nat} {x : Inst} {v p f : PV} {b : Int} (k : Nat) (hx : x.cust.length ≤ 1000) (hk : k ≤ 1000) (hid : id < base) (hidA : id ≠ A) (hS : S id = .cells ver 89 (jH x v b p f (.sl A va 1 0 x.cust.length)))
  (hR : RowsAt S A va 45 base 3 1 ws (qO x k 0)) :
  Spec Tryz.prog 65 [.ptr id ver 0, I k] S (fun _ S' => (∃ ws', RowsAt S' A va 45 base 3 1 ws' (qO x (k + 1) 0)) ∧ ∀ o, o ≠ A → (o < base ∨ base + x.cust.length ≤ o) → S' o = S o) := by
 refine yT Tryz.func65 Tryz.ntmps65 Tryz.results65 fun nx hd => ?_
 have hlt : id < nx := yA hd hS (by simp)
 have hltA : A < nx := yA hd hR.arr (by simp)
 have hltR : ∀ i, i < x.cust.length → base + i < nx := fun i hi => yA hd (hR.row i (by rw [uy]; exact hi)) (by simp)
 have xw := fun obs => (zH (S := S) (obs := obs) hlt).trans hS
 refine za (ze [] xw ?_)
 refine zj (jl (σ := Nat × Store × (Nat → Nat)) (fun s => s.1 ≤ x.cust.length ∧ RowsAt s.2.1 A va 45 base 3 1 s.2.2 (qO x k s.1) ∧ ∀ o, o ≠ A → (o < base ∨ base + x.cust.length ≤ o) → s.2.1 o = S o)
  (fun s => [(0, .ptr id ver 0), (10, I x.cust.length), (11, I s.1)]) (fun s => s.2.1) (fun _ => []) (fun s => x.cust.length - s.1) (zP (0, S, ws) [] ⟨by simp, hR, fun _ _ _ => rfl⟩ (by simp) rfl (by simp)) ?_)
 clear hR
 rintro ⟨i, T, ws⟩ ⟨hi, hR, hT⟩
 simp only at hi hR hT ⊢
 refine za (zb ?_)
 refine za (zr rfl (fun hc => ?_) (fun hc => ?_))
 ·simp at hc
  have hTw : T id = .cells ver 89 (jH x v b p f (.sl A va 1 0 x.cust.length)) := (hT id hidA (.inl hid)).trans hS
  have hAb := hR.out
  have hri := hR.row i (by rw [uy]; exact hc)
  rw [Zd8 x k i i hc, if_neg (Nat.lt_irrefl i)] at hri
  have hlti := hltR i hc
  have xw := fun obs => (zH (S := T) (obs := obs) hlt).trans hTw
  have xa := fun obs => (zH (S := T) (obs := obs) hltA).trans hR.arr
  have xr := fun obs => (zH (S := T) (obs := obs) hlti).trans hri
  have ya := fun (o : Ob) obs => (zH (S := T.set (base + i) o) (obs := obs) hltA).trans ((Store.set_other _ _ _ _ (by omega)).trans hR.arr)
  have yw := fun (o : Ob) obs => (zH (S := T.set (base + i) o) (obs := obs) hlt).trans ((Store.set_other _ _ _ _ (by omega)).trans hTw)
  have zw := fun (o o' : Ob) obs => (zH (S := (T.set (base + i) o).set A o') (obs := obs) hlt).trans ((Store.set_other _ _ _ _ hidA).trans ((Store.set_other _ _ _ _ (by omega)).trans hTw))
  have g1 : ¬ nx ≤ base + i := by omega
  have g2 : ¬ nx ≤ A := by omega
  obtain ⟨tl, hdr⟩ := VS base 1 ws (qO x k i) i (by rw [uy]; exact hc)
  rw [Zd8 x k i i hc, if_neg (Nat.lt_irrefl i), List.length_replicate] at hdr
  have hcl : (x8 base 1 ws (qO x k i)).length = x.cust.length := by rw [Y6, uy]
  have hsp := WZ (x8 base 1 ws (qO x k i)) i (.sl (base + i) (ws i + 1) 1 0 (k + 1)) (by omega)
  have hway := Zbv x [(i : Int)] (by simp) (fun c hc => by rw [List.mem_singleton.1 hc]; unfold small; omega)
  have hfe : ∀ m : Nat, ((List.replicate m (vU x i)).flatMap Enc.enc).length = m := fun m => by rw [jO]; simp [Enc.sz]
  refine zh (za (zj (za (zb ?_))))
  refine zB (some [id]) (Row.pures [0, 1, 2, 3, 4, 5, 6, 7, 8, 9, 10, 12, 13, 14, 15, 16, 17, 18, 19] (.alt 11 (.alt 20 (Row.pures [21] (.alt 22 (.done) .stop)) .stop) .stop)) mixed (yg xw xa xr ya yw (zm (yg zw hdr g1 g2 hsp hcl) hc)) ?_
  refine zI (hway) (yg xw xa xr ya yw (zm (yg zw hdr g1 g2 hsp hcl) hc)) ?_
  refine ⟨by omega, by omega, ?_⟩
  obtain ⟨T', hT'⟩ : ∃ T', T' = (T.set (base + i) (.cells (ws i + 1) 3 ((List.replicate (k + 1) (vU x i)).flatMap Enc.enc))).set A (.cells va 45 ((x8 base 1 ws (qO x k i)).set i (.sl (base + i) (ws i + 1) 1 0 (List.replicate (k + 1) (vU x i)).length))) := ⟨_, rfl⟩
  have hnew := hR.turn (i := i) (by rw [uy]; exact hc) (T' := T') (ws i + 1) (List.replicate (k + 1) (vU x i)) (by rw [hT']; exact Store.set_same _ _ _) (by rw [hT', Store.set_other _ _ _ _ (by omega), Store.set_same]) (fun o o1 o2 => by rw [hT', Store.set_other _ _ _ _ o1, Store.set_other _ _ _ _ o2])
  rw [Zl1 x k i hc] at hnew
  refine zb ?_
  refine zp (i + 1, T', _) [] ⟨hc, hnew, fun o ho hob => ?_⟩ (by simp; omega) (by simp [zt i (by omega)]) ?_ (by simp)
  ·dsimp only; rw [hT', Store.set_other _ _ _ _ ho, Store.set_other _ _ _ _ (by omega)]; exact hT o ho hob
  ·dsimp only; rw [hT']
   have htk : ((List.replicate k (vU x i)).flatMap Enc.enc).take k = (List.replicate k (vU x i)).flatMap Enc.enc := List.take_of_length_le (by rw [hfe]; exact Nat.le_refl _)
   simp only [List.length_replicate, List.replicate_succ', List.flatMap_append]
   unfold vU at htk
   simp [vU, htk]
 ·simp at hc
  obtain rfl : i = x.cust.length := by omega
  rw [Zl0] at hR
  refine zy ?_
  have hdT : zV nx T := fun o ho => by
   have h1 : o ≠ A := by omega
   by_cases h2 : o < base ∨ base + x.cust.length ≤ o
   ·rw [hT o h1 h2]; exact hd o ho
   ·have := hltR (o - base) (by omega); omega
  exact ⟨_, T, rfl, ⟨⟨ws, hR⟩, hT⟩, yb hdT⟩
def uz (k : Nat) (l : List Int) : List Int := l.set k (W (W (2 * l.getD k 0) + 1))
def x9 (pr : List (List Int)) (k i : Nat) : List (List Int) := (List.range pr.length).map fun j => if j < i then uz k (pr.getD j []) else pr.getD j []
def Y8 (fs : List Int) (pr : List (List Int)) (k : Nat) : List (List Int) := if fs.getD k 0 = 14 then pr.map (uz k) else pr
def Y9 (fs : List Int) (pr : List (List Int)) : Nat → List (List Int)
 | 0 => pr
 | k + 1 => Y8 fs (Y9 fs pr k) k
theorem Zd9 (k : Nat) (l : List Int) : (uz k l).length = l.length := by simp [uz]
theorem Zx (pr : List (List Int)) (k i : Nat) : (x9 pr k i).length = pr.length := by simp [x9]
theorem VU (pr : List (List Int)) (k i j : Nat) (h : j < pr.length) : (x9 pr k i).getD j [] = if j < i then uz k (pr.getD j []) else pr.getD j [] := by
 rw [List.getD_eq_getElem?_getD, x9]; simp [h]
theorem Zl3 (pr : List (List Int)) (k : Nat) : x9 pr k 0 = pr := by
 apply List.ext_getElem?
 intro j
 simp only [x9, Nat.not_lt_zero, if_false, List.getElem?_map]
 by_cases h : j < pr.length
 ·rw [List.getElem?_range h]; simp [h]
 ·rw [List.getElem?_eq_none (by simp; omega), List.getElem?_eq_none (by omega)]; rfl
theorem Zl4 (pr : List (List Int)) (k : Nat) : x9 pr k pr.length = pr.map (uz k) := by
 apply List.ext_getElem?
 intro j
 simp only [x9, List.getElem?_map]
 by_cases h : j < pr.length
 ·rw [List.getElem?_range h]; simp [h]
 ·rw [List.getElem?_eq_none (by simp; omega), List.getElem?_eq_none (by omega)]; rfl
theorem Zl5 (pr : List (List Int)) (k i : Nat) (h : i < pr.length) : (x9 pr k i).set i (uz k (pr.getD i [])) = x9 pr k (i + 1) := by
 apply List.ext_getElem?
 intro j
 rw [List.getElem?_set, Zx]
 by_cases hij : i = j
 ·subst hij; rw [if_pos rfl, if_pos h]; simp [x9, h]
 ·rw [if_neg hij]
  by_cases hj : j < pr.length
  ·simp only [x9, List.getElem?_map, List.getElem?_range hj, Option.map_some]
   congr 1
   by_cases h1 : j < i
   ·rw [if_pos h1, if_pos (by omega)]
   ·rw [if_neg h1, if_neg (by omega)]
  ·rw [List.getElem?_eq_none (by rw [Zx]; omega), List.getElem?_eq_none (by rw [Zx]; omega)]
def vk (m n : Nat) (pr : List (List Int)) : Prop := pr.length = m ∧ ∀ l ∈ pr, l.length = n ∧ ∀ z ∈ l, z8 z
theorem VV (x : Int) : z8 (W x) := by
 have key : ∀ m : Int, 0 ≤ m → m < 2 ^ 64 → z8 (if (true && decide (m ≥ 2 ^ (64 - 1))) = true then m - 2 ^ 64 else m) := by
  intro m h1 h2
  unfold z8
  by_cases h : m ≥ 2 ^ (64 - 1)
  ·simp [h]; omega
  ·simp [h]; omega
 exact key _ (Int.emod_nonneg x (by decide)) (Int.emod_lt_of_pos x (by decide))
theorem Zl6 {m n : Nat} {pr : List (List Int)} (fs : List Int) (k : Nat) (h : vk m n pr) : vk m n (Y8 fs pr k) := by
 unfold Y8
 split
 ·refine ⟨by simp [h.1], fun l hl => ?_⟩
  obtain ⟨l', hl', rfl⟩ := List.mem_map.1 hl
  rw [Zd9]
  refine ⟨(h.2 l' hl').1, fun z hz => ?_⟩
  rcases List.mem_or_eq_of_mem_set hz with hz | rfl
  ·exact (h.2 l' hl').2 z hz
  ·exact VV _
 ·exact h
theorem Q7 {m n : Nat} {pr : List (List Int)} (fs : List Int) (h : vk m n pr) : ∀ k, vk m n (Y9 fs pr k)
 | 0 => h
 | k + 1 => Zl6 fs k (Q7 fs h k)
theorem Zea (x : Inst) (n : Nat) : vk x.cust.length n (qO x n 0) := by
 refine ⟨uy x n 0, fun l hl => ?_⟩
 obtain ⟨j, _, rfl⟩ := List.mem_map.1 hl
 refine ⟨by simp, fun z hz => ?_⟩
 rw [(List.mem_replicate.1 hz).2]; exact VV _
theorem Zl7 {S : Store} {id ver A va base idF vF : Nat} {ws : Nat → Nat} {x : Inst} {v p : PV} {b : Int} {m n : Nat} {pr : List (List Int)} {fs : List Int} (k : Nat) (hm : m ≤ 1000) (hn : n ≤ 1000) (hkn : k < n) (hid : id < base) (hidA : id ≠ A) (hF : S idF = .cells vF 39 (fs.flatMap Enc.enc)) (hfl : fs.length = n)
  (hS : S id = .cells ver 89 (jH x v b p (.sl idF vF 1 0 fs.length) (.sl A va 1 0 m))) (hP : vk m n pr) (hR : RowsAt S A va 45 base 3 1 ws pr) :
  Spec Tryz.prog 69 [.ptr id ver 0, I k] S (fun _ S' => RowsAt S' A va 45 base 3 1 ws (Y8 fs pr k) ∧ ∀ o, (o < base ∨ base + m ≤ o) → S' o = S o) := by
 obtain ⟨hPl, hPr⟩ := hP
 refine yT Tryz.func69 Tryz.ntmps69 Tryz.results69 fun nx hd => ?_
 have hlt : id < nx := yA hd hS (by simp)
 have hltF : idF < nx := yA hd hF (by simp)
 have hltA : A < nx := yA hd hR.arr (by simp)
 have hltR : ∀ i, i < m → base + i < nx := fun i hi => yA hd (hR.row i (by omega)) (by simp)
 have xw := fun obs => (zH (S := S) (obs := obs) hlt).trans hS
 have xf := fun obs => (zH (S := S) (obs := obs) hltF).trans hF
 obtain ⟨e, tl0, e1, -, -, e0⟩ := zE rfl fs k (by omega)
 have hkf : k < fs.length := by omega
 have hge : fs.getD k 0 = e := by rw [List.getD_eq_getElem?_getD, e1]; rfl
 repeat apply za
 refine ze [] (yh xw xf e0 hkf) ?_
 by_cases he : e = 14
 case neg =>
  refine zo (by simp [he]) ?_
  exact zg ⟨_, S, rfl, ⟨by unfold Y8; rw [hge, if_neg he]; exact hR, fun _ _ => rfl⟩, yb hd⟩
 refine zn (by simp [he]) ?_
 refine zh (za (ze [] xw ?_))
 have hkill : ∀ T : Store, (∀ o, (o < base ∨ base + m ≤ o) → T o = S o) → zV nx T := fun T hT o ho => by
  by_cases h2 : o < base ∨ base + m ≤ o
  ·rw [hT o h2]; exact hd o ho
  ·have := hltR (o - base) (by omega); omega
 refine zj (jl (σ := Nat × Store) (fun s => s.1 ≤ m ∧ RowsAt s.2 A va 45 base 3 1 ws (x9 pr k s.1) ∧ ∀ o, (o < base ∨ base + m ≤ o) → s.2 o = S o)
  (fun s => [(0, .ptr id ver 0), (1, I k), (17, I m), (18, I s.1)]) (fun s => s.2) (fun _ => []) (fun s => m - s.1) (zP (0, S) [] ⟨by simp, by simpa only [Zl3] using hR, fun _ _ => rfl⟩ (by simp) rfl (by simp)) ?_)
 have hAb0 := hR.out
 clear hR
 rintro ⟨i, T⟩ ⟨hi, hR, hT⟩
 simp only at hi hR hT ⊢
 refine za (zb ?_)
 refine za (zr rfl (fun hc => ?_) (fun hc => ?_))
 ·simp at hc
  have hil : i < pr.length := by omega
  have hTw : T id = .cells ver 89 (jH x v b p (.sl idF vF 1 0 fs.length) (.sl A va 1 0 m)) := (hT id (.inl hid)).trans hS
  have hri := hR.row i (by rw [Zx]; exact hil)
  rw [VU pr k i i hil, if_neg (Nat.lt_irrefl i)] at hri
  obtain ⟨tl, hdr⟩ := VS base 1 ws (x9 pr k i) i (by rw [Zx]; exact hil)
  rw [VU pr k i i hil, if_neg (Nat.lt_irrefl i)] at hdr
  have hcl : (x8 base 1 ws (x9 pr k i)).length = m := by rw [Y6, Zx, hPl]
  have hgl : (pr.getD i []).length = n := by
   rw [List.getD_eq_getElem?_getD, List.getElem?_eq_getElem hil]; exact (hPr _ (List.getElem_mem hil)).1
  generalize hrow : pr.getD i [] = row at hri hdr hgl
  obtain ⟨z, tl2, z1, -, -, z0⟩ := zE rfl row k (by omega)
  have hgz : row.getD k 0 = z := by rw [List.getD_eq_getElem?_getD, z1]; rfl
  have hkr : k < row.length := by omega
  have hlti := hltR i hc
  have xw := fun obs => (zH (S := T) (obs := obs) hlt).trans hTw
  have xa := fun obs => (zH (S := T) (obs := obs) hltA).trans hR.arr
  have xr := fun obs => (zH (S := T) (obs := obs) hlti).trans hri
  have yw := fun (o : Ob) obs => (zH (S := T.set (base + i) o) (obs := obs) hlt).trans ((Store.set_other _ _ _ _ (by omega)).trans hTw)
  have ya := fun (o : Ob) obs => (zH (S := T.set (base + i) o) (obs := obs) hltA).trans ((Store.set_other _ _ _ _ (by omega)).trans hR.arr)
  have g1 : ¬ nx ≤ base + i := by omega
  have hsp := VT (α := Int) rfl row k (W (W (2 * z) + 1)) hkr
  have hsp' : yd (row.flatMap Enc.enc) k [I (W (W (2 * z) + 1))] = (row.set k (W (W (2 * z) + 1))).flatMap Enc.enc := by simpa using hsp
  have hrl : (row.flatMap Enc.enc).length = n := by rw [jO, hgl]; simp [Enc.sz]
  refine zh (za (zj (za (zb ?_))))
  refine zB (some [id, A]) (Row.pures [0, 1, 2, 3, 4, 5, 6, 7, 8, 9, 10, 11, 12, 13, 15] (.alt 14 (Row.pures [16] (.alt 17 (Row.pures [18, 19, 20] (.alt 21 (.done) .stop)) .stop)) .stop)) mixed (yg xw xa xr yw ya (zm (yg hdr g1 hcl hc z0 hkr) (yh hsp' hrl hgl hkn))) ?_
  refine ⟨by omega, ?_⟩
  obtain ⟨T', hT'⟩ : ∃ T', T' = T.set (base + i) (.cells (ws i) 3 ((uz k row).flatMap Enc.enc)) := ⟨_, rfl⟩
  have hnew := hR.turn (i := i) (by rw [Zx]; exact hil) (T' := T') (ws i) (uz k row) (by
   rw [hT', Store.set_other _ _ _ _ (by omega), hR.arr]
   congr 1
   refine (List.ext_getElem? fun j => ?_).symm
   rw [List.getElem?_set]
   split
   ·rename_i hij
    subst hij
    rw [if_pos (by omega), Q6 _ _ _ _ _ (by rw [Zx]; exact hil), VU pr k i i hil, if_neg (Nat.lt_irrefl i), hrow, Zd9]
   ·rfl) (by rw [hT']; exact Store.set_same _ _ _) (fun o o1 o2 => by rw [hT']; exact Store.set_other _ _ _ _ o2)
  have hws : (fun k => if k = i then ws i else ws k) = ws := by funext j; split <;> simp_all
  rw [hws, ← hrow, Zl5 pr k i hil] at hnew
  refine zb ?_
  refine zp (i + 1, T') [] ⟨hc, hnew, fun o hob => ?_⟩ (by simp; omega) (by simp [zt i (by omega)]) ?_ (by simp)
  ·dsimp only; rw [hT', Store.set_other _ _ _ _ (by omega)]; exact hT o hob
  ·dsimp only; rw [hT']
   simp only [uz, hgz]
 ·simp at hc
  obtain rfl : i = m := by omega
  rw [← hPl, Zl4] at hR
  refine zy ?_
  exact ⟨_, T, rfl, ⟨by unfold Y8; rw [hge, if_pos he]; exact hR, hT⟩, yb (hkill T hT)⟩
def uA (e : Int) : Bool := decide (e ≠ 0) && decide (e ≠ 14)
theorem Zl8 (e : Int) : Pure Tryz.prog 68 [I e] (B (uA e)) := by
 unfold uA
 refine zv Tryz.func68 Tryz.ntmps68 Tryz.results68 fun S nx hd => ?_
 refine za (zb ?_)
 by_cases h1 : e = 0
 ·refine za (ze [(2, 5)] (zm h1 zL) ?_)
  exact zg (zk hd rfl (by simp [zq, h1]))
 ·by_cases h2 : e = 14
  ·refine za (ze [(2, 5)] (zF h1 h2 zL) ?_)
   exact zg (zk hd rfl (by simp [zq, h2]))
  ·refine za (ze [(2, 5)] (zF h1 h2 zL) ?_)
   exact zg (zk hd rfl (by simp [zq, h1, h2]))
theorem Zl9 {S : Store} {idF vF : Nat} (fs : List Int) (hF : S idF = .cells vF 39 (fs.flatMap Enc.enc)) (hl : fs.length ≤ 1000) :
  Spec Tryz.prog 112 [.sl idF vF 1 0 fs.length, .fn (.func 68) [] []] S (fun q S' => (∃ z : Int, q = I z ∧ (fs.any uA = decide (0 ≤ z))) ∧ S' = S) := by
 refine yT Tryz.func112 Tryz.ntmps112 Tryz.results112 fun nx hd => ?_
 have hltF : idF < nx := yA hd hF (by simp)
 have xf := fun obs => (zH (S := S) (obs := obs) hltF).trans hF
 refine za (zb ?_)
 repeat apply za
 refine zb ?_
 refine zj (zG (fun k : Nat => k ≤ fs.length ∧ ∀ e ∈ fs.take k, uA e = false) (fun k => [(0, .sl idF vF 1 0 fs.length), (1, .fn (.func 68) [] []), (7, I fs.length), (8, I k)]) (fun _ => []) (fun k => fs.length - k) 0 [] (by simp) (by simp) (by simp) ?_)
 rintro k ⟨hk, h0⟩
 refine za (zb ?_)
 refine za (zr rfl (fun hc => ?_) (fun hc => ?_))
 ·simp at hc
  obtain ⟨e, tl, a1, a2, a3, e0⟩ := zE rfl fs k hc
  refine zh (za (zj (za (zb ?_))))
  refine za (ze [] (zF xf e0 hc) ?_)
  refine zz (Zl8 e) ?_
  cases hb : uA e with
  | true =>
   refine zo rfl (za (zb ?_))
   exact zg ⟨_, S, rfl, ⟨⟨k, by simp [zq], by rw [List.any_eq_true.2 ⟨e, List.mem_of_getElem? a1, hb⟩]; simp⟩, rfl⟩, yb hd⟩
  | false =>
   refine zn rfl (zh (zb ?_))
   exact zp (k + 1) [] ⟨hc, fun y hy => by rw [a3] at hy; rcases List.mem_append.1 hy with h | h; exact h0 y h; rw [List.mem_singleton.1 h]; exact hb⟩ (by omega) (by simp [zt k (by omega)]) rfl (by simp)
 ·simp at hc
  obtain rfl : k = fs.length := by omega
  rw [List.take_length] at h0
  refine zy (za (zb ?_))
  exact zg ⟨_, S, rfl, ⟨⟨-1, by simp [zq], by rw [List.any_eq_false.2 fun e he => by rw [h0 e he]; simp]; rfl⟩, rfl⟩, yb hd⟩
theorem Zma {S : Store} {idF vF : Nat} (fs : List Int) (hF : S idF = .cells vF 39 (fs.flatMap Enc.enc)) (hl : fs.length ≤ 1000) :
  Spec Tryz.prog 67 [.sl idF vF 1 0 fs.length, .fn (.func 68) [] []] S (fun q S' => q = B (fs.any uA) ∧ S' = S) := by
 refine yT Tryz.func67 Tryz.ntmps67 Tryz.results67 fun nx hd => ?_
 have hltF : idF < nx := yA hd hF (by simp)
 refine za (zb ?_)
 refine za (zT [] (by rfl) (by rfl) fun K Gc Gh hK hGc hGh X hX0 hX => ?_)
 simp -implicitDefEqProofs [hX0, hX]
 try clear hX0 hX X
 refine hGc _ _ _ _ _ _ _ fun hsuf => ((Zl9 fs ((zH hltF).trans hF) hl).mono ?_).v
 rintro _ _ ⟨⟨z, rfl, hz⟩, rfl⟩
 refine ⟨_, _, rfl, ?_⟩
 clear hGc hGh
 clear Gc Gh
 refine zQ hsuf (D := []) (by rfl) fun Gc Gh hGc hGh X hX0 hX => ?_
 simp -implicitDefEqProofs [hX0, hX]
 clear hX0 hX X
 refine hK _ _ _ ?_
 clear hK hGc hGh
 clear K Gc Gh
 exact zg ⟨_, S, rfl, ⟨by simp [zq, hz], rfl⟩, yb hd⟩
def wU (x : Inst) (sol : Cust → List Int → List Visit × Bool) (pr : List (List Int)) (k : Nat) : List (List Visit × Bool) := (List.range k).map fun i => sol (x.cust.getD i default) (pr.getD i [])
def y8 (x : Inst) (sol : Cust → List Int → List Visit × Bool) (pr : List (List Int)) : List (List Visit) × Int := if (wU x sol pr x.cust.length).all (·.2) = true then ((wU x sol pr x.cust.length).map (·.1), 0) else ([], 15)
theorem Zmb (x : Inst) (sol : Cust → List Int → List Visit × Bool) (pr : List (List Int)) (k : Nat) : wU x sol pr (k + 1) = wU x sol pr k ++ [sol (x.cust.getD k default) (pr.getD k [])] := by simp [wU, List.range_succ]
theorem Zeb (x : Inst) (sol : Cust → List Int → List Visit × Bool) (pr : List (List Int)) {k m : Nat} (h : k < m) : sol (x.cust.getD k default) (pr.getD k []) ∈ wU x sol pr m := List.mem_map.2 ⟨k, List.mem_range.2 h, rfl⟩
def VW (x : Inst) (n : Nat) (sol : Cust → List Int → List Visit × Bool) : Prop :=
 ∀ c ∈ x.cust, ∀ (l : List Int), l.length = n → (∀ z ∈ l, z8 z) → ∀ (S : Store) (pl : PV), RowOf S pl l → Spec Tryz.prog 111 [.agg (zY c), I x.days, I x.cap, pl] S (fun q S' => q = .tup [L (sol c l).1, B (sol c l).2] ∧ S' = S)
theorem Zmc {S : Store} {A va base : Nat} {ws : Nat → Nat} {x : Inst} {n : Nat} {pr : List (List Int)} {sol : Cust → List Int → List Visit × Bool} (hx : x.cust.length ≤ 1000) (hP : vk x.cust.length n pr) (hR : RowsAt S A va 45 base 3 1 ws pr) (hs : VW x n sol) :
  Spec Tryz.prog 66 [.agg (zA x), .sl A va 1 0 x.cust.length] S (fun q S' => q = .tup [L (y8 x sol pr).1, I (y8 x sol pr).2] ∧ S' = S) := by
 obtain ⟨hPl, hPr⟩ := hP
 refine yT Tryz.func66 Tryz.ntmps66 Tryz.results66 fun nx hd => ?_
 have hltA : A < nx := yA hd hR.arr (by simp)
 have xa := fun obs => (zH (S := S) (obs := obs) hltA).trans hR.arr
 refine za (zb ?_)
 intro v0
 refine za (zb ?_)
 refine za (qV 6 26 1 rfl fun v1 => ?_)
 refine za (zb ?_)
 refine zj (zG (fun s : Nat × List (List Visit) × Nat => s.1 ≤ x.cust.length ∧ s.2.1 = (wU x sol pr s.1).map (·.1) ∧ (wU x sol pr s.1).all (·.2) = true) (fun (i, out, w) => [(1, .sl A va 1 0 x.cust.length), (2, .ptr nx v0 0), (4, .sc (.slice none 0 0)), (6, .sl (nx + 1) w 1 0 out.length), (13, L x.cust), (14, I x.cust.length), (15, I i)]) (fun (i, out, w) => [.cells v0 25 (zA x), .cells w 26 (out.flatMap Enc.enc)]) (fun s => x.cust.length - s.1) (0, [], v1) [] (by simp [wU]) (by simp) (by simp) ?_)
 rintro ⟨i, out, w⟩ ⟨hi, ho, hall⟩
 simp only at hi ho hall ⊢
 have hol : out.length = i := by rw [ho]; simp [wU]
 refine za (zb ?_)
 refine za (zr rfl (fun hc => ?_) (fun hc => ?_))
 ·simp at hc
  obtain ⟨c, tl, a1, a2, a3, e1, e0⟩ := el 8 rfl x.cust i hc
  have hcm := List.mem_of_getElem? a1
  have hgc : x.cust.getD i default = c := by rw [List.getD_eq_getElem?_getD, a1]; rfl
  have hil : i < pr.length := by omega
  obtain ⟨tl2, hdr⟩ := VS base 1 ws pr i hil
  obtain ⟨hgl, hgi⟩ : (pr.getD i []).length = n ∧ ∀ z ∈ pr.getD i [], z8 z := by
   rw [List.getD_eq_getElem?_getD, List.getElem?_eq_getElem hil]; exact hPr _ (List.getElem_mem hil)
  have hrow : RowOf S (.sl (base + i) (ws i) 1 0 (pr.getD i []).length) (pr.getD i []) := .inr ⟨_, _, rfl, hR.row i hil⟩
  have hsol := hs c hcm (pr.getD i []) hgl hgi
  have hch := Zmb x sol pr i
  have hcm2 := Zeb x sol pr (k := i) hc
  rw [hgc] at hch hcm2
  generalize pr.getD i [] = row at hdr hgl hgi hrow hsol hch hcm2
  generalize hr : sol c row = r at hsol hch hcm2
  obtain ⟨vv, ok⟩ := r
  simp only at hsol hch
  refine zh (za (zj (za (ze [] (zm e0 hc) ?_))))
  intro v2
  refine za (zb ?_)
  repeat apply za
  refine zb ?_
  refine zo (by simp [hc]) ?_
  refine ze [] (zF xa hdr hc) ?_
  refine za (zT [] (by rfl) (by rfl) fun K Gc Gh hK hGc hGh X hX0 hX => ?_)
  simp -implicitDefEqProofs [hX0, hX]
  try clear hX0 hX X
  refine hGc _ _ _ _ _ _ _ fun hsuf => ((hsol _ _ (hrow.ext hd _)).mono ?_).v
  rintro _ _ ⟨rfl, rfl⟩
  refine ⟨_, _, rfl, ?_⟩
  clear hGc hGh
  clear Gc Gh
  refine zQ hsuf (D := []) (by rfl) fun Gc Gh hGc hGh X hX0 hX => ?_
  simp -implicitDefEqProofs [hX0, hX]
  clear hX0 hX X
  refine hK _ _ _ ?_
  clear hK hGc hGh
  clear K Gc Gh
  repeat apply za
  refine zb ?_
  cases ok with
  | false =>
   have hno : y8 x sol pr = ([], 15) := by
    unfold y8
    rw [if_neg]
    intro q
    have := List.all_eq_true.1 q _ hcm2
    cases this
   rw [hno]
   refine zo rfl (za (zb ?_))
   refine w8 4 rfl ?_
   exact zg ⟨_, S, rfl, ⟨by simp [zq], rfl⟩, yb hd⟩
  | true =>
   refine zn rfl (zh (zb ?_))
   refine ⟨by omega, ?_⟩
   refine zb ?_
   exact zp (i + 1, out ++ [vv], w + 1) [_] ⟨hc, by rw [hch, List.map_append, ho]; rfl, by rw [hch, List.all_append, hall]; rfl⟩ (by simp; omega) (by simp [zt i (by omega)]) rfl (by simp; rfl)
 ·simp at hc
  obtain rfl : i = x.cust.length := by omega
  have hyes : y8 x sol pr = (out, 0) := by unfold y8; rw [if_pos hall, ← ho]
  rw [hyes]
  refine zy (yc 1 rfl ?_)
  refine za (zb ?_)
  exact zg ⟨_, S, (by simp; rfl), ⟨by simp [zq], rfl⟩, yb hd⟩
open Go
def uB (x : Inst) (p : zx) (i : Nat) : Int :=
 match x.cust[i]? with
 | none => 0
 | some c => if c.kind = 2 then uv c (yK c (zS (yq i (told 0 p)) x.days)).1 else 0
def jx (x : Inst) (p : zx) (k : Nat) : Int := ((List.range k).map (uB x p)).sum
theorem Zec (x : Inst) (p : zx) (k : Nat) : jx x p (k + 1) = jx x p k + uB x p k := by simp [jx, List.range_succ]
theorem VX (c : Cust) (q : List Int) (hq : q.length ≤ 1048576) : (yK c q).1.length ≤ 1048576 := by
 unfold yK
 split
 ·simp
 ·cases h : yt c.size c.rate c.start q with
  | none => simp
  | some l => simp [ZlA h]; exact hq
theorem Qa (v : List Visit) (n : Int) : (zS v n).length ≤ 1048576 := by rw [Xv]; omega
theorem Zmd (x : Inst) (p : zx) (h : Serves x p) (hx : x.cust.length ≤ 1048576) (hf : ∀ c ∈ x.cust, CustFits c) : Pure Tryz.prog 122 [.agg (zA x), .agg [L p]] (I (W (jx x p x.cust.length))) := by
 refine zv Tryz.func122 Tryz.ntmps122 Tryz.results122 fun S nx hd => ?_
 refine za (zb ?_)
 intro v0 v1
 refine za (zb ?_)
 repeat apply za
 refine zb ?_
 refine zj (zG (fun s : Nat => s ≤ x.cust.length) (fun k => [(2, .ptr nx v0 0), (3, .ptr (nx + 1) v1 0), (5, I (W (jx x p k))), (11, L x.cust), (12, I x.cust.length), (13, I k)]) (fun _ => [.cells v0 25 (zA x), .cells v1 38 [L p]]) (fun s => x.cust.length - s) 0 [] (by simp) (by simp [jx]) (by simp) ?_)
 rintro k hk
 refine za (zb ?_)
 refine za (zr rfl (fun hc => ?_) (fun hc => ?_))
 ·simp at hc
  obtain ⟨c, tl, a1, a2, a3, _, e0⟩ := el 8 rfl x.cust k hc
  have hfc := hf c (List.mem_of_getElem? a1)
  have hs := Zec x p k
  refine zh (za (zj (za (ze [] (zm hc e0) ?_))))
  intro v2
  refine za (zb ?_)
  by_cases hk2 : c.kind = 2
  ·have hb := ZlJ x p k h
   have hn := VI c (zS (yq k (told 0 p)) x.days) hfc (Qa _ _)
   have hh := VJ c (yK c (zS (yq k (told 0 p)) x.days)).1 (VX _ _ (Qa _ _))
   have hC : uB x p k = uv c (yK c (zS (yq k (told 0 p)) x.days)).1 := by simp only [uB, a1, if_pos hk2]
   rw [hC] at hs
   generalize uv c (yK c (zS (yq k (told 0 p)) x.days)).1 = z at *
   generalize yK c (zS (yq k (told 0 p)) x.days) = ne at *
   generalize zS (yq k (told 0 p)) x.days = q at *
   obtain ⟨ns, er⟩ := ne
   simp only at hn hh
   refine zo (by simp [hk2]) ?_
   refine za (zB (some [nx, nx + 1, nx + 2]) (Row.pures [0, 1, 2, 3, 4, 5, 6, 7, 8, 9, 10, 11] .done) mixed trivial ?_)
   refine zI (hb) trivial ?_
   refine zI (hn) trivial ?_
   refine zb ?_
   refine zz hh ?_
   have hw : W (W (jx x p k) + z) = W (jx x p (k + 1)) := by rw [hs, xD]
   refine zb ?_
   exact zp (k + 1) [_] hc (by omega) (by simp [zt k (by omega)]; exact hw) rfl rfl
  ·have hC : uB x p k = 0 := by simp only [uB, a1, if_neg hk2]
   rw [hC, Int.add_zero] at hs
   refine zn (by simp [hk2]) ?_
   refine zh (zb ?_)
   exact zp (k + 1) [_] hc (by omega) (by simp [zt k (by omega), hs]) rfl rfl
 ·simp at hc
  obtain rfl : k = x.cust.length := by omega
  refine zy (za (zb ?_))
  exact zg (zk hd (by simp; rfl) rfl)
theorem Zme (x : Inst) (p : zx) (h : Serves x p) (hx : x.cust.length ≤ 1048576) (hf : ∀ c ∈ x.cust, CustFits c) : Pure Tryz.prog 63 [.agg (zA x), .agg [L p]] (I (W (jx x p x.cust.length))) := by
 refine zv Tryz.func63 Tryz.ntmps63 Tryz.results63 fun S nx hd => ?_
 refine za (zb ?_)
 intro v0 v1
 refine za (zb ?_)
 repeat apply za
 refine zb ?_
 refine zj (zG (fun s : Nat => s ≤ x.cust.length) (fun k => [(2, .ptr nx v0 0), (3, .ptr (nx + 1) v1 0), (5, I (W (jx x p k))), (6, I k)]) (fun _ => [.cells v0 25 (zA x), .cells v1 38 [L p]]) (fun s => x.cust.length - s) 0 [] (by simp) (by simp [jx]) (by simp) ?_)
 rintro k hk
 repeat apply za
 refine zb ?_
 refine zr rfl (fun hc => ?_) (fun hc => ?_)
 ·simp at hc
  obtain ⟨c, tl, a1, a2, a3, _, e0⟩ := el 8 rfl x.cust k hc
  have hfc := hf c (List.mem_of_getElem? a1)
  have hs := Zec x p k
  refine zh (za (zj (za (ze [] (zm hc e0) ?_))))
  intro v2
  refine za (zb ?_)
  by_cases hk2 : c.kind = 2
  ·have hvi := ZlC p k h.sz
   have hb := ZlB (yq k (told 0 p)) x.days (ZdO h k).1
   have hn := Zlz c (zS (yq k (told 0 p)) x.days) hfc (Qa _ _)
   have hh := Zly c (yK c (zS (yq k (told 0 p)) x.days)).1 (VX _ _ (Qa _ _))
   have hC : uB x p k = uv c (yK c (zS (yq k (told 0 p)) x.days)).1 := by simp only [uB, a1, if_pos hk2]
   rw [hC] at hs
   generalize uv c (yK c (zS (yq k (told 0 p)) x.days)).1 = z at *
   generalize yK c (zS (yq k (told 0 p)) x.days) = ne at *
   generalize zS (yq k (told 0 p)) x.days = q at *
   generalize yq (k : Int) (told 0 p) = v at *
   obtain ⟨ns, er⟩ := ne
   simp only at hn hh
   refine zo (by simp [hk2]) ?_
   refine za (zB (some [nx, nx + 1, nx + 2]) (Row.pures [0, 1, 2, 3, 4, 5, 6, 7, 8, 9, 10, 11, 12] .done) mixed trivial ?_)
   refine zI (hvi) trivial ?_
   refine zI (hb) trivial ?_
   refine zI (hn) trivial ?_
   refine zb ?_
   refine zz hh ?_
   have hw : W (W (jx x p k) + z) = W (jx x p (k + 1)) := by rw [hs, xD]
   refine zb ?_
   exact zp (k + 1) [_] hc (by omega) (by simp [zt k (by omega)]; exact hw) rfl rfl
  ·have hC : uB x p k = 0 := by simp only [uB, a1, if_neg hk2]
   rw [hC, Int.add_zero] at hs
   refine zn (by simp [hk2]) ?_
   refine zh (zb ?_)
   exact zp (k + 1) [_] hc (by omega) (by simp [zt k (by omega), hs]) rfl rfl
 ·simp at hc
  obtain rfl : k = x.cust.length := by omega
  refine zy (za (zb ?_))
  exact zg (zk hd (by simp; rfl) rfl)
def wC (x : Inst) (p : zx) : List Int := p.map fun d => W (zU x d)
theorem Zmf (x : Inst) (p : zx) (hp : p.length ≤ 1048576) (hd' : ∀ d ∈ p, DayOk d) (S : Store) (nx : Nat) (hd : zV nx S) :
  Spec Tryz.prog 123 [.agg (zA x), .agg [L p]] S (fun q S' => ∃ v, q = .sl (nx + 2) v 1 0 p.length ∧ S' = S.set (nx + 2) (.cells v 3 ((wC x p).flatMap Enc.enc))) := by
 refine uh hd Tryz.func123 Tryz.ntmps123 Tryz.results123 ?_
 refine za (zb ?_)
 intro v0 v1
 refine za (zb ?_)
 refine za (qV 5 3 1 rfl fun v2 => ?_)
 refine za (zb ?_)
 refine zj (zG (fun s : Nat × List Int × Nat => s.1 ≤ p.length ∧ s.2.1 = wC x (p.take s.1)) (fun (k, out, v2) => [(2, .ptr nx v0 0), (3, .ptr (nx + 1) v1 0), (5, .sl (nx + 2) v2 1 0 out.length), (9, L p), (10, I p.length), (11, I k)]) (fun (k, out, v2) => [.cells v0 25 (zA x), .cells v1 38 [L p], .cells v2 3 (out.flatMap Enc.enc)]) (fun s => p.length - s.1) (0, [], v2) [] (by simp [wC]) (by simp) (by simp) ?_)
 rintro ⟨k, out, v2⟩ ⟨hk, ho⟩
 simp only at hk ho ⊢
 have hol : out.length = k := by rw [ho]; simp [wC]; omega
 refine za (zb ?_)
 refine za (zr rfl (fun hc => ?_) (fun hc => ?_))
 ·simp at hc
  obtain ⟨d, tl, a1, a2, a3, e0⟩ := zE rfl p k hc
  refine zh (za (zj (za (ze [] (zm hc e0) ?_))))
  intro v3
  refine zb ?_
  refine zz (YL x d (hd' d (List.mem_of_getElem? a1))) ?_
  refine ⟨by omega, ?_⟩
  refine zb ?_
  exact zp (k + 1, out ++ [W (zU x d)], v2 + 1) [_] ⟨hc, by rw [a3, ho]; simp [wC]⟩ (by simp; omega) (by simp [zt k (by omega)]) rfl (by simp; rfl)
 ·simp at hc
  obtain rfl : k = p.length := by omega
  rw [List.take_length] at ho
  refine zy (za (zb ?_))
  refine zg ⟨_, _, rfl, ⟨v2, by simp [zq, hol], rfl⟩, YB (j := 2) hd (by simp [ho])⟩
theorem Zmg (x : Inst) (p : zx) (hp : p.length ≤ 1048576) (hd' : ∀ d ∈ p, DayOk d) : Pure Tryz.prog 123 [.agg (zA x), .agg [L p]] (L (wC x p)) := by
 have hl : (wC x p).length = p.length := by simp [wC]
 have := JS 2 (fun S nx hd => Zmf x p hp hd' S nx hd) (by rw [qW, hl]; omega)
 rw [← hl] at this
 exact this
def qq (x : Inst) (p : zx) : Int := W (jx x p x.cust.length + (p.map (zU x)).sum)
theorem Zmh (a : Int) (l : List Int) : W (a + (l.map W).sum) = W (a + l.sum) := by
 induction l generalizing a with
 | nil => rfl
 | cons b l ih =>
  simp only [List.map_cons, List.sum_cons]
  have e1 : a + (W b + (l.map W).sum) = (a + W b) + (l.map W).sum := by omega
  rw [e1, ih, show a + W b + l.sum = (a + l.sum) + W b by omega, Qx, show a + l.sum + b = a + (b + l.sum) by omega]
theorem Zmi (x : Inst) (p : zx) : W (W (jx x p x.cust.length) + (wC x p).sum) = qq x p := by
 have : wC x p = (p.map (zU x)).map W := by simp [wC]
 rw [this, xD, Zmh, qq]
theorem Zmj (x : Inst) (p : zx) (h : Serves x p) (hx : x.cust.length ≤ 1048576) (hf : ∀ c ∈ x.cust, CustFits c) (hd' : ∀ d ∈ p, DayOk d) : Pure Tryz.prog 84 [.agg (zA x), .agg [L p]] (I (qq x p)) := by
 have hres := Zmi x p
 have hl : (wC x p).length = p.length := by simp [wC]
 have hpn := h.sz.n
 have hdy := Zmg x p hpn hd'
 rw [← hres]
 generalize wC x p = ds at hl hdy
 refine zv Tryz.func84 Tryz.ntmps84 Tryz.results84 fun S nx hd => ?_
 refine za (zb ?_)
 intro v0 v1
 refine za (zb ?_)
 refine zz (Zmd x p h hx hf) ?_
 repeat apply za
 refine zb ?_
 refine zz hdy ?_
 refine zj (zG (fun s : Nat => s ≤ ds.length) (fun k => [(5, I (W (W (jx x p x.cust.length) + (ds.take k).sum))), (13, L ds), (14, I ds.length), (15, I k)]) (fun _ => []) (fun s => ds.length - s) 0 [_, _] (by simp) (by simp [W_W]) rfl ?_)
 rintro k hk
 refine za (zb ?_)
 refine za (zr rfl (fun hc => ?_) (fun hc => ?_))
 ·simp at hc
  obtain ⟨z, tl, a1, a2, a3, e0⟩ := zE rfl ds k hc
  have hw : W (W (W (jx x p x.cust.length) + (ds.take k).sum) + z) = W (W (jx x p x.cust.length) + (ds.take (k + 1)).sum) := by rw [a3, Y3, xD]; congr 1; omega
  refine zh (za (zj (za (ze [] (zm hc e0) ?_))))
  refine zb ?_
  refine zb ?_
  exact zp (k + 1) [] hc (by omega) (by simp [zt k (by omega)]; exact hw) rfl (by simp)
 ·simp at hc
  obtain rfl : k = ds.length := by omega
  rw [List.take_length]
  refine zy (za (zb ?_))
  exact zg (zk hd (by simp; rfl) rfl)
theorem Zmk (x : Inst) (p : zx) (h : Serves x p) (hx : x.cust.length ≤ 1048576) (hf : ∀ c ∈ x.cust, CustFits c) (hd' : ∀ d ∈ p, DayOk d) : Pure Tryz.prog 30 [.agg (zA x), .agg [L p]] (I (qq x p)) := by
 have hpn := h.sz.n
 refine zv Tryz.func30 Tryz.ntmps30 Tryz.results30 fun S nx hd => ?_
 refine za (zb ?_)
 intro v0 v1
 refine za (zb ?_)
 refine zz (Zme x p h hx hf) ?_
 repeat apply za
 refine zb ?_
 refine zj (zG (fun s : Nat => s ≤ p.length) (fun k => [(2, .ptr nx v0 0), (3, .ptr (nx + 1) v1 0), (5, I (W (jx x p x.cust.length + ((p.take k).map (zU x)).sum))), (6, I k)]) (fun _ => [.cells v0 25 (zA x), .cells v1 38 [L p]]) (fun s => p.length - s) 0 [] (by simp) (by simp) (by simp) ?_)
 rintro k hk
 repeat apply za
 refine zb ?_
 refine zr rfl (fun hc => ?_) (fun hc => ?_)
 ·simp at hc
  obtain ⟨d, tl, a1, a2, a3, e0⟩ := zE rfl p k hc
  have hw : W (W (jx x p x.cust.length + ((p.take k).map (zU x)).sum) + W (zU x d)) = W (jx x p x.cust.length + ((p.take (k + 1)).map (zU x)).sum) := by rw [a3, List.map_append, List.sum_append, xD, Qx]; simp; congr 1; omega
  refine zh (za (zj (zB (some [nx, nx + 1]) (Row.pures [0, 1, 2, 3, 4, 5, 6, 7, 8, 9] .done) mixed (zm hc e0) ?_)))
  refine zI (Zht x d (hd' d (List.mem_of_getElem? a1))) trivial ?_
  refine zb ?_
  exact zp (k + 1) [] hc (by omega) (by rw [← hw]; simp [zt k (by omega)]) rfl (by simp)
 ·simp at hc
  obtain rfl : k = p.length := by omega
  have htl : (p.map (zU x)).take p.length = p.map (zU x) := List.take_of_length_le (by simp)
  refine zy (za (zb ?_))
  exact zg (zk hd (by simp; rfl) (by simp [htl, qq, zq]))
open Go
def uZ (p : zx) : Nat := (p.map fun d => d.flatten.length).sum
theorem VY : ∀ (p : zx) (i : Nat), (told i p).length = uZ p
 | [], _ => rfl
 | d :: p, i => by
  have := VY p (i + 1)
  simp only [told, List.length_append, List.length_map, uZ, List.map_cons, List.sum_cons] at this ⊢; omega
structure MadeP (m : Nat) (n : Nat) (p : zx) : Prop where
 len : p.length = n
 ne : ∀ d ∈ p, ∀ t ∈ d, t ≠ []
 ok : ∀ d ∈ p, ∀ s ∈ d.flatten, (0 ≤ s.c ∧ s.c < m) ∧ 1 ≤ s.q ∧ s.q ≤ 2147483648
 nd : ∀ d ∈ p, (d.flatten.map (·.c)).Nodup
theorem Zed : ∀ (d : zi), (∀ t ∈ d, t ≠ []) → d.length ≤ d.flatten.length
 | [], _ => by simp
 | t :: d, h => by
  have h1 := Zed d fun u hu => h u (by simp [hu])
  have h2 := List.length_pos_iff.2 (h t (by simp))
  simp only [List.flatten_cons, List.length_cons, List.length_append]; omega
theorem XI : ∀ (d : zi) (t : zD), t ∈ d → t.length ≤ d.flatten.length
 | [], _, h => by cases h
 | u :: d, t, h => by
  simp only [List.flatten_cons, List.length_append]
  rcases List.mem_cons.1 h with rfl | h
  ·omega
  ·have := XI d t h; omega
theorem MadeP.set {m n : Nat} {p : zx} (h : MadeP m n p) {k : Nat} {d : zi} (hd : p[k]? = some d) (x : Inst) (s : Stop) (j : Bool) (hs : (0 ≤ s.c ∧ s.c < m) ∧ 1 ≤ s.q ∧ s.q ≤ 2147483648) (hno : ∀ u ∈ d.flatten, u.c ≠ s.c) : MadeP m n (p.set k (Y7 x d s j)) := by
 have hdm := List.mem_of_getElem? hd
 refine ⟨by simp [h.len], fun e he t ht => ?_, fun e he u hu => ?_, fun e he => ?_⟩
 ·rcases List.mem_or_eq_of_mem_set he with he | rfl
  ·exact h.ne e he t ht
  ·exact ZlZ x d s j (h.ne d hdm) t ht
 ·rcases List.mem_or_eq_of_mem_set he with he | rfl
  ·exact h.ok e he u hu
  ·rw [Zd6] at hu
   rcases List.mem_append.1 hu with hu | hu
   ·exact h.ok d hdm u hu
   ·rw [List.mem_singleton.1 hu]; exact hs
 ·rcases List.mem_or_eq_of_mem_set he with he | rfl
  ·exact h.nd e he
  ·rw [Zd6, List.map_append]
   exact J7 _ _ (h.nd d hdm) (fun hm => by obtain ⟨u, hu, e⟩ := List.mem_map.1 hm; exact hno u hu e)
open Go
def lx : Inst := ⟨1, 1, 9, 9, [], [[0]]⟩
def ly : Inst := ⟨1, 1, 9, 9, [⟨1, 1, [1], 0, 0, 0, 0, 0⟩], [[0, 3], [4, 0]]⟩
def lp : zx := [[]]
theorem Zml : ∀ i : Nat, yQ 1 i = 1 ↔ i = 0 := by
 intro i
 cases i with
 | zero => simp [yQ]
 | succ i => simp [yQ, Nat.div_eq_of_lt (show 1 < 2 ^ (i + 1) from Nat.one_lt_two_pow (by omega))]
open Go
theorem Zee (p : Nat) : ∀ k : Nat, k ≤ 64 → ∀ i : Nat, yQ (jo p k) i = 1 → i < k
 | 0, _, i, h => by simp [jo, yQ] at h
 | k + 1, hk, i, h => by
  have ih := Zee p k (by omega) i
  unfold jo at h
  split at h
  ·rw [ZlK _ _ (JZ p k) (by omega)] at h
   have h2 : ((jo p k ||| 2 ^ k).testBit i) = true := by
    rw [Y4]; unfold jR at h; rw [if_pos (by omega), Int.toNat_natCast] at h; simp [h]
   rw [Nat.testBit_or, Nat.testBit_two_pow, Bool.or_eq_true] at h2
   rcases h2 with h2 | h2
   ·rw [Y4] at h2
    have := ih (by simpa using h2); omega
   ·have : k = i := by simpa using h2
    omega
  ·have := ih h; omega
theorem Z9 {p a k : Nat} {d : Int} (h : d ∈ yy p a k) : ∃ i : Nat, d = i ∧ i < k ∧ yQ p i = 1 := by
 simp only [yy, List.mem_map, List.mem_filter, List.mem_range, Bool.and_eq_true, decide_eq_true_eq] at h
 obtain ⟨i, ⟨h1, _, h3⟩, rfl⟩ := h
 exact ⟨i, rfl, h1, h3⟩
theorem Zef (c : Cust) (days : Int) (h1 : 1 ≤ days) (h7 : days ≤ 7) : CustMade (qC c days) days.toNat := by
 unfold qC
 split
 ·have a := qX c.rate 0 9 (by omega)
  have b := qX c.size 1 30 (by omega)
  have d := qX c.start 0 (yl c.size 1 30) (by omega)
  exact ⟨⟨by dsimp only; omega, by dsimp only; omega, by dsimp only; omega⟩, by simp, by simp, fun h => by simp at h⟩
 ·have a := qX c.demand 1 15 (by omega)
  refine ⟨⟨by simp, by simp, by simp⟩, ?_, ?_, fun _ => ⟨?_, by dsimp only; omega, by dsimp only; omega⟩⟩
  ·intro p hp
   simp only [vG] at hp
   split at hp
   ·simp only [List.mem_singleton] at hp; omega
   ·obtain ⟨q, _, rfl⟩ := List.mem_map.1 hp; exact JZ q _
  ·simp only [vG]; split
   ·simp
   ·simp; omega
  ·intro p hp d hd
   obtain ⟨i, rfl, _, hb⟩ := Z9 hd
   simp only [vG] at hp
   split at hp
   ·simp only [List.mem_singleton] at hp; subst hp
    have := (Zml i).1 hb; omega
   ·obtain ⟨q, _, rfl⟩ := List.mem_map.1 hp
    have := Zee q days.toNat (by omega) i hb; omega
theorem Ya (x : Inst) : 1 ≤ (zN x).days ∧ (zN x).days ≤ 7 := qX x.days 1 7 (by omega)
theorem Zmm (x : Inst) : 0 ≤ (zN x).cap ∧ (zN x).cap ≤ 40 := qX x.cap 0 40 (by omega)
theorem Zmn (x : Inst) : 0 ≤ (zN x).veh ∧ (zN x).veh ≤ 5 := qX x.veh 0 5 (by omega)
theorem Zmo (x : Inst) : 0 ≤ (zN x).len ∧ (zN x).len ≤ 300 := qX x.len 0 300 (by omega)
theorem Zmp (x : Inst) : (zN x).cust.length ≤ 6 := by simp [zN]; omega
theorem Q8 (x : Inst) {c : Cust} (h : c ∈ (zN x).cust) : ∃ c0, c = qC c0 (zN x).days := by
 simp only [zN, List.mem_map] at h
 obtain ⟨c0, _, rfl⟩ := h
 exact ⟨c0, rfl⟩
def Zmq (x : Inst) (v c l : Int) : Inst := ⟨(zN x).days, v, c, l, (zN x).cust, (zN x).dist⟩
theorem Zmr {d : zi} {t : zD} (ht : t ∈ d) {s : Stop} (hs : s ∈ t) : s ∈ d.flatten := List.mem_flatten.2 ⟨t, ht, hs⟩
theorem Zeg {m : Nat} : ∀ (l : List Int), l.Nodup → (∀ c ∈ l, 0 ≤ c ∧ c < m) → l.length ≤ m := by
 intro l hn hl
 have h1 : (l.map Int.toNat).Nodup := by
  refine List.Pairwise.map _ ?_ (List.Pairwise.and_mem.1 hn)
  rintro a b ⟨ha, hb, hab⟩ e
  have := hl a ha; have := hl b hb
  exact hab (by omega)
 have h2 : ∀ c ∈ l.map Int.toNat, c ∈ List.range m := by
  intro c hc
  obtain ⟨z, hz, rfl⟩ := List.mem_map.1 hc
  have := hl z hz
  exact List.mem_range.2 (by omega)
 have := h1.length_le_of_subset h2
 simpa using this
open Go Go.Proofs Hp
theorem VZ (p : Nat) (hp : p < 2 ^ 64) : Pure Tryz.prog 233 [U p] (L (yy p 0 64)) := by
 have h := ZlG p 0 hp (by decide)
 refine zv Tryz.func233 Tryz.ntmps233 Tryz.results233 fun S nx hd => ?_
 refine za (zb ?_)
 refine za (zb ?_)
 refine zz h ?_
 exact zg (zk hd rfl rfl)
theorem Zms (c : Cust) (p : Nat) (hp : p < 2 ^ 64) : Pure Tryz.prog 188 [.agg (zY c), U p] (L (jI c p)) := by
 have hall := VZ p hp
 have hln := Q1 p 0 64
 unfold jI
 generalize yy p 0 64 = l at hall hln
 refine zv Tryz.func188 Tryz.ntmps188 Tryz.results188 fun S nx hd => ?_
 refine za (zb ?_)
 intro v0
 refine za (zb ?_)
 refine za (qV 5 85 2 rfl fun v1 => ?_)
 refine za (zb ?_)
 refine zz hall ?_
 refine zj (zG (fun s : Nat × List Visit × Nat => s.1 ≤ l.length ∧ s.2.1 = (l.take s.1).map fun d => ⟨d, c.demand⟩) (fun (k, out, v1) => [(2, .ptr nx v0 0), (5, .sl (nx + 1) v1 2 0 out.length), (9, L l), (10, I l.length), (11, I k)]) (fun (k, out, v1) => [.cells v0 65 (zY c), .cells v1 85 (out.flatMap Enc.enc)]) (fun s => l.length - s.1) (0, [], v1) [] (by simp) (by simp) (by simp) ?_)
 rintro ⟨k, out, v1⟩ ⟨hk, ho⟩
 simp only at hk ho ⊢
 have hol : out.length = k := by rw [ho]; simp; omega
 refine za (zb ?_)
 refine za (zr rfl (fun hc => ?_) (fun hc => ?_))
 ·simp at hc
  obtain ⟨d, tl, a1, a2, a3, e0⟩ := zE rfl l k hc
  refine zh (za (zj (za (ze [] (zm e0 hc) ?_))))
  refine zb ?_
  refine ⟨by omega, ?_⟩
  refine zb ?_
  exact zp (k + 1, out ++ [⟨d, c.demand⟩], v1 + 1) [] ⟨hc, by rw [a3, ho]; simp⟩ (by simp; omega) (by simp [zt k (by omega)]) rfl (by simp)
 ·simp at hc
  obtain rfl : k = l.length := by omega
  rw [List.take_length] at ho
  refine zy (yc 1 rfl ?_)
  refine za (zb ?_)
  exact zg (zk hd (by simp; rfl) (by simp [zq, ho]))
def wd (price : List Int) (ds : List Int) : Int := ds.foldl (fun (s d : Int) => if d < price.length then vT s (price.getD d.toNat 0) else s) 0
def Q9 (price : List Int) (p : Nat) : Int := wd price (yy p 0 64)
def qE (price : List Int) (l : List Nat) : Nat → Int × Int
 | 0 => (-1, 0)
 | k + 1 => if (qE price l k).1 < 0 ∨ Q9 price (l.getD k 0) < (qE price l k).2 then (k, Q9 price (l.getD k 0)) else qE price l k
theorem V1 (price : List Int) (l : List Nat) : ∀ k : Nat, (qE price l k).1 < k ∧ -1 ≤ (qE price l k).1 ∧ (0 < k → 0 ≤ (qE price l k).1)
 | 0 => by simp [qE]
 | k + 1 => by
  have := V1 price l k
  unfold qE
  split
  ·dsimp only; omega
  ·rename_i h; omega
theorem Zmt (a b : Int) (ha : z8 a) (hb : z8 b) : z8 (vT a b) := by
 unfold z8 vT at *
 split
 ·omega
 ·split <;> omega
theorem Zmu (price ds : List Int) (d : Int) : wd price (ds ++ [d]) = if d < price.length then vT (wd price ds) (price.getD d.toNat 0) else wd price ds := by simp [wd]
theorem Zmv (price : List Int) (hp : ∀ z ∈ price, z8 z) (ds : List Int) : z8 (wd price ds) := by
 unfold wd
 have : ∀ (ds : List Int) (s : Int), z8 s → z8 (ds.foldl (fun (s d : Int) => if d < price.length then vT s (price.getD d.toNat 0) else s) s) := by
  intro ds
  induction ds with
  | nil => intro s h; exact h
  | cons d ds ih =>
   intro s h
   rw [List.foldl_cons]
   apply ih
   split
   ·refine Zmt _ _ h ?_
    rw [List.getD_eq_getElem?_getD]
    cases hq : price[d.toNat]? with
    | none => unfold z8; simp
    | some z => exact hp z (List.mem_of_getElem? hq)
   ·exact h
 exact this ds 0 (by unfold z8; omega)
theorem Zmw {S : Store} {pl : PV} {price : List Int} (l : List Nat) (hR : RowOf S pl price) (hp : ∀ z ∈ price, z8 z) (hpl : price.length ≤ 1000) (hl : l.length ≤ 1000) (h64 : ∀ p ∈ l, p < 2 ^ 64) :
  Spec Tryz.prog 187 [L l, pl] S (fun q S' => q = .tup [I (qE price l l.length).1, I (qE price l l.length).2] ∧ S' = S) := by
 refine yT Tryz.func187 Tryz.ntmps187 Tryz.results187 fun nx hd => ?_
 refine za (zb ?_)
 refine za (zb ?_)
 repeat apply za
 refine zb ?_
 refine zj (zG (fun k : Nat => k ≤ l.length) (fun k => [(1, pl), (6, I (qE price l k).1), (7, I (qE price l k).2), (13, L l), (14, I l.length), (15, I k)]) (fun _ => []) (fun k => l.length - k) 0 [] (by simp) (by simp [qE]) (by simp) ?_)
 rintro k hk
 have hb : qE price l (k + 1) = if (qE price l k).1 < 0 ∨ Q9 price (l.getD k 0) < (qE price l k).2 then (↑k, Q9 price (l.getD k 0)) else qE price l k := rfl
 generalize hst : qE price l k = st at hb ⊢
 obtain ⟨place, least⟩ := st
 simp only at hb ⊢
 refine za (zb ?_)
 refine za (zr rfl (fun hc => ?_) (fun hc => ?_))
 ·simp at hc
  obtain ⟨p, tl, a1, a2, a3, e0⟩ := zE rfl l k hc
  have hall := VZ p (h64 p (List.mem_of_getElem? a1))
  have hgp : l.getD k 0 = p := by rw [List.getD_eq_getElem?_getD, a1]; rfl
  rw [hgp] at hb
  have hds : ∀ d ∈ yy p 0 64, ∃ i : Nat, d = i := fun d hd => by obtain ⟨i, h, _⟩ := Z9 hd; exact ⟨i, h⟩
  have hdl := Q1 p 0 64
  rw [show Q9 price p = wd price (yy p 0 64) from rfl] at hb
  generalize yy p 0 64 = ds at hall hds hdl hb
  refine zh (za (zj (za (ze [] (zm e0 hc) ?_))))
  refine za (zb ?_)
  repeat apply za
  refine zb ?_
  refine zz hall ?_
  refine zj (zG (fun j : Nat => j ≤ ds.length) (fun j => [(1, pl), (6, I place), (7, I least), (8, I k), (10, I (wd price (ds.take j))), (13, L l), (14, I l.length), (15, I k), (21, L ds), (22, I ds.length), (23, I j)]) (fun _ => []) (fun j => ds.length - j) 0 [] (by simp) (by simp [wd]) (by simp) ?_)
  rintro j hj
  refine za (zb ?_)
  refine za (zr rfl (fun hc2 => ?_) (fun hc2 => ?_))
  ·simp at hc2
   obtain ⟨d, tl2, b1, b2, b3, f0⟩ := zE rfl ds j hc2
   obtain ⟨i, rfl⟩ := hds d (List.mem_of_getElem? b1)
   have hsn := Zmu price (ds.take j) (i : Int)
   rw [← b3, Int.toNat_natCast] at hsn
   have hsi := Zmv price hp (ds.take j)
   refine zh (za (zj (za (ze [] (zm f0 hc2) ?_))))
   by_cases hi : i < price.length
   ·obtain ⟨z, tl3, c1, -, -, g0⟩ := zE rfl price i hi
    have hgz : price.getD i 0 = z := by rw [List.getD_eq_getElem?_getD, c1]; rfl
    rw [if_pos (by omega), hgz] at hsn
    have hsat := ZdD (wd price (ds.take j)) z hsi (hp z (List.mem_of_getElem? c1))
    rw [← hsn] at hsat
    rcases hR with rfl | ⟨id, ver, rfl, hS⟩
    ·refine za (ze [] hi ?_)
     refine zo rfl (ze [] (zm g0 hi) ?_)
     refine zz hsat ?_
     refine zb ?_
     exact zp (j + 1) [] hc2 (by omega) (by simp [zt j (by omega)]) rfl (by simp)
    ·have hlt : id < nx := yA hd hS (by simp)
     have xr := fun obs => (zH (S := S) (obs := obs) hlt).trans hS
     refine za (ze [] hi ?_)
     refine zo rfl (ze [] (zF xr g0 hi) ?_)
     refine zz hsat ?_
     refine zb ?_
     exact zp (j + 1) [] hc2 (by omega) (by simp [zt j (by omega)]) rfl (by simp)
   ·rw [if_neg (by omega)] at hsn
    rcases hR with rfl | ⟨id, ver, rfl, hS⟩
    ·refine za (ze [] hi ?_)
     refine zn rfl (zh (zb ?_))
     exact zp (j + 1) [] hc2 (by omega) (by simp [zt j (by omega), hsn]) rfl (by simp)
    ·refine za (ze [] hi ?_)
     refine zn rfl (zh (zb ?_))
     exact zp (j + 1) [] hc2 (by omega) (by simp [zt j (by omega), hsn]) rfl (by simp)
  ·simp at hc2
   obtain rfl : j = ds.length := by omega
   rw [List.take_length]
   refine zy (za (qj (nx := nx) (σ := Bool) (fun t => t = decide (place < 0 ∨ wd price ds < least)) (fun t => [(1, pl), (6, I place), (7, I least), (8, I k), (10, I (wd price ds)), (13, L l), (14, I l.length), (15, I k), (44, B t)]) (fun _ => S) (fun _ => []) ?_ ?_))
   ·by_cases h1 : place < 0
    ·repeat apply za
     refine ze [(2, 40)] (zm h1 zL) ?_
     exact zP true [] (by simp [h1]) (by simp) rfl (by simp)
    ·repeat apply za
     refine ze [(2, 40)] h1 ?_
     exact zP (decide (wd price ds < least)) [] (by simp [h1]) (by simp) rfl (by simp)
   rintro t rfl
   by_cases h : place < 0 ∨ wd price ds < least
   ·rw [decide_eq_true h]
    rw [if_pos h] at hb
    refine zo rfl (zb ?_)
    refine zb ?_
    exact zp (k + 1) [] hc (by omega) (by simp [zt k (by omega), hb]) rfl (by simp)
   ·rw [decide_eq_false h]
    rw [if_neg h] at hb
    refine zn rfl (zh (zb ?_))
    exact zp (k + 1) [] hc (by omega) (by simp [zt k (by omega), hb]) rfl (by simp)
 ·simp at hc
  obtain rfl : k = l.length := by omega
  refine zy (za (zb ?_))
  exact zg ⟨_, S, rfl, ⟨by simp [zq, hst], rfl⟩, yb hd⟩
def jJ (c : Cust) (cap : Int) : List Nat := c.pats.filter fun p => decide (p = 0) || decide (c.demand ≤ cap)
theorem Zmx (c : Cust) (cap : Int) (hl : c.pats.length ≤ 1000) : Pure Tryz.prog 186 [.agg (zY c), I cap] (L (jJ c cap)) := by
 unfold jJ
 refine zv Tryz.func186 Tryz.ntmps186 Tryz.results186 fun S nx hd => ?_
 refine za (zb ?_)
 intro v0
 refine za (zb ?_)
 refine za (qV 5 93 1 rfl fun v1 => ?_)
 refine za (zb ?_)
 refine zj (zG (fun s : Nat × List Nat × Nat => s.1 ≤ c.pats.length ∧ s.2.1 = (c.pats.take s.1).filter (fun p => decide (p = 0) || decide (c.demand ≤ cap)) ∧ s.2.1.length ≤ s.1) (fun (k, out, w) => [(1, I cap), (2, .ptr nx v0 0), (5, .sl (nx + 1) w 1 0 out.length), (9, L c.pats), (10, I c.pats.length), (11, I k)]) (fun (k, out, w) => [.cells v0 65 (zY c), .cells w 93 (out.flatMap Enc.enc)]) (fun s => c.pats.length - s.1) (0, [], v1) [] (by simp) (by simp) (by simp) ?_)
 rintro ⟨k, out, w⟩ ⟨hk, ho, hol⟩
 simp only at hk ho hol ⊢
 refine za (zb ?_)
 refine za (zr rfl (fun hc => ?_) (fun hc => ?_))
 ·simp at hc
  obtain ⟨p, tl, a1, a2, a3, e0⟩ := zE rfl c.pats k hc
  refine zh (za (zj (za (ze [] (zm e0 hc) ?_))))
  refine za (qj (nx := nx) (σ := Bool × Nat) (fun s => s.1 = (decide (p = 0) || decide (c.demand ≤ cap))) (fun (t, w) => [(1, I cap), (2, .ptr nx v0 0), (5, .sl (nx + 1) w 1 0 out.length), (7, U p), (9, L c.pats), (10, I c.pats.length), (11, I k), (22, B t)]) (fun _ => S) (fun (t, w) => [.cells v0 65 (zY c), .cells w 93 (out.flatMap Enc.enc)]) ?_ ?_)
  ·by_cases h1 : p = 0
   ·repeat apply za
    refine ze [(2, 17)] (zm h1 zL) ?_
    exact zP (true, w) [] (by simp [h1]) (by simp [h1]) rfl (by simp)
   ·repeat apply za
    refine ze [(2, 17)] h1 ?_
    exact zP (decide (c.demand ≤ cap), w) [] (by simp [h1]) (by simp) rfl (by simp)
  rintro ⟨t, w⟩ ht
  simp only at ht ⊢
  subst ht
  have hstep : (c.pats.take (k + 1)).filter (fun p => decide (p = 0) || decide (c.demand ≤ cap)) = out ++ (if (decide (p = 0) || decide (c.demand ≤ cap)) = true then [p] else []) := by
   rw [a3, List.filter_append, ho]
   congr 1
   simp only [List.filter_cons, List.filter_nil]
  cases ht : (decide (p = 0) || decide (c.demand ≤ cap)) with
  | true =>
   rw [ht, if_pos rfl] at hstep
   refine zo rfl (zb ?_)
   refine ⟨by omega, ?_⟩
   refine zb ?_
   exact zp (k + 1, out ++ [p], w + 1) [] ⟨hc, hstep.symm, by simp; omega⟩ (by simp; omega) (by simp [zt k (by omega)]) rfl (by simp)
  | false =>
   rw [ht, if_neg (by decide), List.append_nil] at hstep
   refine zn rfl (zh (zb ?_))
   exact zp (k + 1, out, w) [] ⟨hc, hstep.symm, by dsimp only; omega⟩ (by simp; omega) (by simp [zt k (by omega)]) rfl (by simp)
 ·simp at hc
  obtain rfl : k = c.pats.length := by omega
  rw [List.take_length] at ho
  refine zy (yc 1 rfl ?_)
  refine za (zb ?_)
  exact zg (zk hd (by simp; rfl) (by simp [zq, ho]))
def we (c : Cust) (cap : Int) (price : List Int) : List Visit × Bool :=
 if (qE price (jJ c cap) (jJ c cap).length).1 < 0 then ([], false) else (jI c ((jJ c cap).getD (qE price (jJ c cap) (jJ c cap).length).1.toNat 0), true)
theorem Zmy {S : Store} {pl : PV} {price : List Int} (c : Cust) (cap : Int) (hR : RowOf S pl price) (hp : ∀ z ∈ price, z8 z) (hpl : price.length ≤ 1000) (hl : c.pats.length ≤ 1000) (h64 : ∀ p ∈ c.pats, p < 2 ^ 64) :
  Spec Tryz.prog 151 [.agg (zY c), I cap, pl] S (fun q S' => q = .tup [L (we c cap price).1, B (we c cap price).2] ∧ S' = S) := by
 have hca := Zmx c cap hl
 have hsub : ∀ p ∈ jJ c cap, p < 2 ^ 64 := fun p hp => h64 p (List.mem_filter.1 hp).1
 have hcl : (jJ c cap).length ≤ 1000 := Nat.le_trans (List.length_filter_le _ _) hl
 unfold we
 generalize jJ c cap = l at *
 have hb := fun S (hR : RowOf S pl price) => Zmw l hR hp hpl hcl hsub
 obtain ⟨b1, b2, b3⟩ := V1 price l l.length
 generalize qE price l l.length = r at *
 obtain ⟨place, least⟩ := r
 simp only at hb b1 b2 b3 ⊢
 refine yT Tryz.func151 Tryz.ntmps151 Tryz.results151 fun nx hd => ?_
 refine za (zb ?_)
 intro v0
 refine za (zb ?_)
 refine zz hca ?_
 refine za (zT [] (by rfl) (by rfl) fun K Gc Gh hK hGc hGh X hX0 hX => ?_)
 simp -implicitDefEqProofs [hX0, hX]
 try clear hX0 hX X
 refine hGc _ _ _ _ _ _ _ fun hsuf => ((hb _ (hR.ext hd _)).mono ?_).v
 rintro _ _ ⟨rfl, rfl⟩
 refine ⟨_, _, rfl, ?_⟩
 clear hGc hGh
 clear Gc Gh
 refine zQ hsuf (D := []) (by rfl) fun Gc Gh hGc hGh X hX0 hX => ?_
 simp -implicitDefEqProofs [hX0, hX]
 clear hX0 hX X
 refine hK _ _ _ ?_
 clear hK hGc hGh
 clear K Gc Gh
 repeat apply za
 refine zb ?_
 by_cases h : place < 0
 ·rw [if_pos h]
  refine zo (by simp [h]) ?_
  refine za (zb ?_)
  refine w8 6 rfl ?_
  exact zg ⟨_, S, rfl, ⟨by simp [zq], rfl⟩, yb hd⟩
 ·rw [if_neg h]
  obtain ⟨i, rfl⟩ := Int.eq_ofNat_of_zero_le (show 0 ≤ place by omega)
  have hil : i < l.length := by omega
  obtain ⟨p, tl, a1, a2, a3, e0⟩ := zE rfl l i hil
  have hgp : l.getD (i : Int).toNat 0 = p := by rw [Int.toNat_natCast, List.getD_eq_getElem?_getD, a1]; rfl
  rw [hgp]
  have hon := Zms c p (hsub p (List.mem_of_getElem? a1))
  refine zn (by simp) ?_
  refine zh (za (zB (some [nx]) (Row.pures [0, 1, 2, 3, 4, 5, 6, 7] .done) mixed (zm e0 hil) ?_))
  refine zI (hon) (zm e0 hil) ?_
  exact zg ⟨_, S, (by simp; rfl), ⟨by simp [zq], rfl⟩, yb hd⟩
theorem Zmz {S : Store} {pl : PV} {price : List Int} (c : Cust) (n cap : Int) (hk : c.kind = 1) (hR : RowOf S pl price) (hp : ∀ z ∈ price, z8 z) (hpl : price.length ≤ 1000) (hl : c.pats.length ≤ 1000) (h64 : ∀ p ∈ c.pats, p < 2 ^ 64) :
  Spec Tryz.prog 111 [.agg (zY c), I n, I cap, pl] S (fun q S' => q = .tup [L (we c cap price).1, B (we c cap price).2] ∧ S' = S) := by
 have hs := fun S (hR : RowOf S pl price) => Zmy c cap hR hp hpl hl h64
 generalize we c cap price = r at *
 obtain ⟨v, ok⟩ := r
 simp only at hs ⊢
 refine yT Tryz.func111 Tryz.ntmps111 Tryz.results111 fun nx hd => ?_
 refine za (zb ?_)
 intro v0
 refine za (zj (za (ze [] hk ?_)))
 refine zo rfl (za (zT [] (by rfl) (by rfl) fun K Gc Gh hK hGc hGh X hX0 hX => ?_))
 simp -implicitDefEqProofs [hX0, hX]
 try clear hX0 hX X
 refine hGc _ _ _ _ _ _ _ fun hsuf => ((hs _ (hR.ext hd _)).mono ?_).v
 rintro _ _ ⟨rfl, rfl⟩
 refine ⟨_, _, rfl, ?_⟩
 clear hGc hGh
 clear Gc Gh
 refine zQ hsuf (D := []) (by rfl) fun Gc Gh hGc hGh X hX0 hX => ?_
 simp -implicitDefEqProofs [hX0, hX]
 clear hX0 hX X
 refine hK _ _ _ ?_
 clear hK hGc hGh
 clear K Gc Gh
 exact zg ⟨_, S, (by simp; rfl), ⟨by simp [zq], rfl⟩, yb hd⟩
open Go Go.Proofs Hp
def jT (c : Cust) (there cap : Int) : Int := if c.size - there < 1 ∨ cap < 0 then 0 else if c.size - there ≤ cap then c.size - there else if c.rule = 1 then 0 else cap
theorem Zeh {c : Cust} {there cap : Int} (hc : 0 ≤ c.size ∧ c.size ≤ 2147483648) (ht : 0 ≤ there) : 0 ≤ jT c there cap ∧ jT c there cap ≤ 2147483648 := by
 unfold jT
 split
 ·omega
 ·split
  ·omega
  ·split <;> omega
theorem V2 (c : Cust) (there cap : Int) (hc : 0 ≤ c.size ∧ c.size ≤ 2147483648) (ht : -4611686018427387904 ≤ there ∧ there ≤ 4611686018427387904) : Pure Tryz.prog 190 [.agg (zY c), I there, I cap] (I (jT c there cap)) := by
 have w1 : IntKind.i64.wrap (c.size - there) = c.size - there := wr _ (by omega) (by omega)
 unfold jT
 generalize hf : c.size - there = f at w1 ⊢
 refine zv Tryz.func190 Tryz.ntmps190 Tryz.results190 fun S nx hd => ?_
 refine za (zb ?_)
 intro v0
 refine za (ze [] (zm hf w1) ?_)
 refine za (zj ?_)
 by_cases h : f < 1 ∨ cap < 0
 ·rw [if_pos h]
  by_cases h1 : f < 1
  ·refine za (ze [(2, 15)] (zm h1 zL) ?_)
   refine zo rfl (za (zb ?_))
   exact zg (zk hd rfl rfl)
  ·have h2 : cap < 0 := by omega
   refine za (ze [(2, 15)] (zm h1 h2) ?_)
   refine zo rfl (za (zb ?_))
   exact zg (zk hd rfl rfl)
 ·rw [if_neg h]
  have h1 : ¬ f < 1 := by omega
  have h2 : ¬ cap < 0 := by omega
  refine za (ze [(2, 15)] (zm h1 h2) ?_)
  refine zn rfl (za (zb ?_))
  by_cases h3 : f ≤ cap
  ·rw [if_pos h3]
   refine zo (by simp [h3]) ?_
   refine za (zb ?_)
   exact zg (zk hd rfl rfl)
  ·rw [if_neg h3]
   refine zn (by simp; omega) ?_
   refine za (zb ?_)
   by_cases h4 : c.rule = 1
   ·rw [if_pos h4]
    refine zo (by simp [h4]) ?_
    refine za (zb ?_)
    exact zg (zk hd rfl rfl)
   ·rw [if_neg h4]
    refine zn (by simp [h4]) ?_
    refine zh (za (zb ?_))
    exact zg (zk hd rfl rfl)
def Qb (price : List Int) (d : Int) : Int := if d < 0 ∨ (price.length : Int) ≤ d then 0 else price.getD d.toNat 0
theorem Zei {S : Store} {pl : PV} {price : List Int} (d : Int) (hR : RowOf S pl price) :
  Spec Tryz.prog 191 [pl, I d] S (fun q S' => q = I (Qb price d) ∧ S' = S) := by
 unfold Qb
 rcases hR with rfl | ⟨id, ver, rfl, hS⟩
 ·refine yT Tryz.func191 Tryz.ntmps191 Tryz.results191 fun nx hd => ?_
  refine za (zb ?_)
  by_cases h : d < 0
  ·rw [if_pos (.inl h)]
   repeat apply za
   refine ze [(2, 7)] (zm h zL) ?_
   refine zo rfl (za (zb ?_))
   exact zg ⟨_, S, rfl, ⟨by simp [zq], rfl⟩, yb hd⟩
  by_cases h2 : (price.length : Int) ≤ d
  ·rw [if_pos (.inr h2)]
   repeat apply za
   refine ze [(2, 7)] (zm h h2) ?_
   refine zo rfl (za (zb ?_))
   exact zg ⟨_, S, rfl, ⟨by simp [zq], rfl⟩, yb hd⟩
  rw [if_neg (by omega)]
  obtain ⟨i, rfl⟩ := Int.eq_ofNat_of_zero_le (show 0 ≤ d by omega)
  have hi : i < price.length := by omega
  obtain ⟨z, tl, a1, -, -, e0⟩ := zE rfl price i hi
  have hg : price.getD (i : Int).toNat 0 = z := by rw [Int.toNat_natCast, List.getD_eq_getElem?_getD, a1]; rfl
  rw [hg]
  have h2' : ¬ price.length ≤ i := by omega
  repeat apply za
  refine ze [(2, 7)] (zF h h2 h2') ?_
  refine zn rfl (zh (za (ze [] (zm e0 hi) ?_)))
  exact zg ⟨_, S, rfl, ⟨by simp [zq], rfl⟩, yb hd⟩
 ·refine yT Tryz.func191 Tryz.ntmps191 Tryz.results191 fun nx hd => ?_
  have hlt : id < nx := yA hd hS (by simp)
  have xr := fun obs => (zH (S := S) (obs := obs) hlt).trans hS
  refine za (zb ?_)
  by_cases h : d < 0
  ·rw [if_pos (.inl h)]
   repeat apply za
   refine ze [(2, 7)] (zm h zL) ?_
   refine zo rfl (za (zb ?_))
   exact zg ⟨_, S, rfl, ⟨by simp [zq], rfl⟩, yb hd⟩
  by_cases h2 : (price.length : Int) ≤ d
  ·rw [if_pos (.inr h2)]
   repeat apply za
   refine ze [(2, 7)] (zm h h2) ?_
   refine zo rfl (za (zb ?_))
   exact zg ⟨_, S, rfl, ⟨by simp [zq], rfl⟩, yb hd⟩
  rw [if_neg (by omega)]
  obtain ⟨i, rfl⟩ := Int.eq_ofNat_of_zero_le (show 0 ≤ d by omega)
  have hi : i < price.length := by omega
  obtain ⟨z, tl, a1, -, -, e0⟩ := zE rfl price i hi
  have hg : price.getD (i : Int).toNat 0 = z := by rw [Int.toNat_natCast, List.getD_eq_getElem?_getD, a1]; rfl
  rw [hg]
  have h2' : ¬ price.length ≤ i := by omega
  repeat apply za
  refine ze [(2, 7)] (zF h h2 h2') ?_
  refine zn rfl (zh (za (ze [] (zF xr e0 hi) ?_)))
  exact zg ⟨_, S, rfl, ⟨by simp [zq], rfl⟩, yb hd⟩
theorem Zej : ∀ (l m : List Int) (i : Nat), yk i (l ++ m) = yk i l ++ yk (i + l.length) m
 | [], m, i => by simp [yk]
 | z :: l, m, i => by
  have ih := Zej l m (i + 1)
  simp only [List.cons_append, yk, List.length_cons, ih, show i + 1 + l.length = i + (l.length + 1) from by omega]
  split <;> simp
theorem Zek (q : List Int) (hq : q.length ≤ 1048576) : Pure Tryz.prog 195 [L q] (L (yk 0 q)) := by
 refine zv Tryz.func195 Tryz.ntmps195 Tryz.results195 fun S nx hd => ?_
 refine za (zb ?_)
 refine za (zb ?_)
 refine za (qV 3 85 2 rfl fun v1 => ?_)
 refine za (zb ?_)
 refine zj (zG (fun s : Nat × List Visit × Nat => s.1 ≤ q.length ∧ s.2.1 = yk 0 (q.take s.1)) (fun (k, out, w) => [(3, .sl nx w 2 0 out.length), (6, L q), (7, I q.length), (8, I k)]) (fun (k, out, w) => [.cells w 85 (out.flatMap Enc.enc)]) (fun s => q.length - s.1) (0, [], v1) [] (by simp [yk]) (by simp) (by simp) ?_)
 rintro ⟨k, out, w⟩ ⟨hk, ho⟩
 simp only at hk ho ⊢
 have hol : out.length ≤ k := by rw [ho]; exact Nat.le_trans (XF _ _) (by simp; omega)
 refine za (zb ?_)
 refine za (zr rfl (fun hc => ?_) (fun hc => ?_))
 ·simp at hc
  obtain ⟨z, tl, a1, a2, a3, e0⟩ := zE rfl q k hc
  have hst : yk 0 (q.take (k + 1)) = out ++ (if 0 < z then [⟨k, z⟩] else []) := by
   rw [a3, Zej, ← ho, List.length_take, Nat.min_eq_left hk]
   simp only [yk, Nat.zero_add]
  refine zh (za (zj (za (ze [] (zm e0 hc) ?_))))
  refine za (zb ?_)
  by_cases h : 0 < z
  ·rw [if_pos h] at hst
   refine zo (by simp [h]) ?_
   refine zb ?_
   refine ⟨by omega, ?_⟩
   refine zb ?_
   exact zp (k + 1, out ++ [⟨k, z⟩], w + 1) [] ⟨hc, hst.symm⟩ (by simp; omega) (by simp [zt k (by omega)]) rfl (by simp)
  ·rw [if_neg h, List.append_nil] at hst
   refine zn (by simp; omega) ?_
   refine zh (zb ?_)
   exact zp (k + 1, out, w) [] ⟨hc, hst.symm⟩ (by simp; omega) (by simp [zt k (by omega)]) rfl (by simp)
 ·simp at hc
  obtain rfl : k = q.length := by omega
  rw [List.take_length] at ho
  refine zy (yc 0 rfl ?_)
  refine za (zb ?_)
  exact zg (zk hd (by simp; rfl) (by simp [zq, ho]))
def yS (c : Cust) (f : Int → Int) : Nat → List Int × Int
 | 0 => ([], c.start)
 | k + 1 => ((yS c f k).1 ++ [f (yS c f k).2], (yS c f k).2 + (f (yS c f k).2 - c.rate))
def Zy (c : Cust) (cap : Int) (t : Int) : Int := jT c (max t 0) cap
def uC (c : Cust) (cap : Int) (t : Int) : Int := if c.rate ≤ t then 0 else jT c (max t 0) cap
theorem Yb (c : Cust) (f : Int → Int) : ∀ k, (yS c f k).1.length = k
 | 0 => rfl
 | k + 1 => by simp [yS, Yb c f k]
theorem XJ {c : Cust} (hc : CustFits c) (cap t : Int) : 0 ≤ Zy c cap t ∧ Zy c cap t ≤ 2147483648 := Zeh hc.size (by omega)
theorem XK {c : Cust} (hc : CustFits c) (cap t : Int) : 0 ≤ uC c cap t ∧ uC c cap t ≤ 2147483648 := by
 unfold uC
 split
 ·omega
 ·exact Zeh hc.size (by omega)
theorem Yc {c : Cust} (hc : CustFits c) {f : Int → Int} (hf : ∀ t, 0 ≤ f t ∧ f t ≤ 2147483648) : ∀ k : Nat, (-4294967296 * ((k : Int) + 1) ≤ (yS c f k).2 ∧ (yS c f k).2 ≤ 4294967296 * ((k : Int) + 1)) ∧ Qs (yS c f k).1
 | 0 => by
  have := hc.start
  refine ⟨by simp only [yS]; omega, by intro z hz; cases hz⟩
 | k + 1 => by
  obtain ⟨h1, h2⟩ := Yc hc hf k
  have h3 := hf (yS c f k).2
  have h4 := hc.rate
  refine ⟨by simp only [yS]; push_cast; omega, fun z hz => ?_⟩
  simp only [yS] at hz
  rcases List.mem_append.1 hz with hz | hz
  ·exact h2 z hz
  ·rw [List.mem_singleton.1 hz]; exact h3
theorem ZmA (c : Cust) (cap t : Int) (hc : CustFits c) (ht : -4611686018427387904 ≤ t ∧ t ≤ 4611686018427387904) : Pure Tryz.prog 237 [I t, .ip (zY c), .ip [I cap]] (I (Zy c cap t)) := by
 have hm : xz t 0 = max t 0 := by unfold xz; split <;> omega
 have hmo := V2 c (max t 0) cap hc.size (by omega)
 unfold Zy
 generalize max t 0 = m at hm hmo ⊢
 generalize jT c m cap = z at hmo ⊢
 refine zv Tryz.func237 Tryz.ntmps237 Tryz.results237 fun S nx hd => ?_
 refine za (zb ?_)
 refine za (ze [] hm ?_)
 refine jP [] hmo hm ?_
 exact zg (zk hd rfl rfl)
theorem ZmB (c : Cust) (cap t : Int) (hc : CustFits c) (ht : -4611686018427387904 ≤ t ∧ t ≤ 4611686018427387904) : Pure Tryz.prog 238 [I t, .ip (zY c), .ip [I cap]] (I (uC c cap t)) := by
 have hm : xz t 0 = max t 0 := by unfold xz; split <;> omega
 have hmo := V2 c (max t 0) cap hc.size (by omega)
 unfold uC
 generalize max t 0 = m at hm hmo ⊢
 generalize jT c m cap = z at hmo ⊢
 refine zv Tryz.func238 Tryz.ntmps238 Tryz.results238 fun S nx hd => ?_
 refine za (zb ?_)
 repeat apply za
 refine zb ?_
 by_cases h : c.rate ≤ t
 ·rw [if_pos h]
  refine zo (by simp [h]) ?_
  refine za (zb ?_)
  exact zg (zk hd rfl rfl)
 ·rw [if_neg h]
  refine zn (by simp; omega) ?_
  refine zh (za (ze [] hm ?_))
  refine jP [] hmo hm ?_
  exact zg (zk hd rfl rfl)
theorem Zel (c : Cust) (n : Nat) (fn : FuncId) (caps : List PV) (f : Int → Int) (hc : CustFits c) (hn : n ≤ 1000) (hf : ∀ t, 0 ≤ f t ∧ f t ≤ 2147483648) (hfn : ∀ t, (-4611686018427387904 ≤ t ∧ t ≤ 4611686018427387904) → Pure Tryz.prog fn ([I t] ++ caps) (I (f t))) :
  Pure Tryz.prog 236 [.agg (zY c), I n, .fn (.func fn) [] caps] (.tup [L (yS c f n).1, B (decide (x6 c (yS c f n).1 = 0))]) := by
 have hr := hc.rate
 refine zv Tryz.func236 Tryz.ntmps236 Tryz.results236 fun S nx hd => ?_
 refine za (zb ?_)
 intro v0
 refine za (zb ?_)
 refine za (qV 8 3 1 rfl fun v1 => ?_)
 refine zb ?_
 repeat apply za
 refine zb ?_
 refine zj (zG (fun s : Nat × Nat => s.1 ≤ n) (fun (k, w) => [(2, .fn (.func fn) [] caps), (3, .ptr nx v0 0), (8, .sl (nx + 1) w 1 0 (yS c f k).1.length), (9, I (yS c f k).2), (13, I n), (14, I k)]) (fun (k, w) => [.cells v0 65 (zY c), .cells w 3 ((yS c f k).1.flatMap Enc.enc)]) (fun s => n - s.1) (0, v1) [] (by simp) (by simp [yS]) (by simp [yS]) ?_)
 rintro ⟨k, w⟩ hk
 simp only at hk ⊢
 obtain ⟨hbd, -⟩ := Yc hc hf k
 have hl := Yb c f k
 have hsucc : yS c f (k + 1) = ((yS c f k).1 ++ [f (yS c f k).2], (yS c f k).2 + (f (yS c f k).2 - c.rate)) := rfl
 generalize hst : yS c f k = st at hbd hl hsucc ⊢
 obtain ⟨q, t⟩ := st
 simp only at hbd hl hsucc ⊢
 refine za (zb ?_)
 refine za (zr rfl (fun hc1 => ?_) (fun hc1 => ?_))
 ·simp at hc1
  have hft := hf t
  have hcall := hfn t (by omega)
  have w1 : IntKind.i64.wrap (f t - c.rate) = f t - c.rate := wr _ (by omega) (by omega)
  have w2 : IntKind.i64.wrap (t + (f t - c.rate)) = t + (f t - c.rate) := wr _ (by omega) (by omega)
  generalize f t = z at *
  refine zh (za (zj (za (zb ?_))))
  refine zz hcall ?_
  refine za (zb ?_)
  refine ⟨by omega, ?_⟩
  refine ze [] (zm w1 w2) ?_
  refine zb ?_
  exact zp (k + 1, w + 1) [] (by omega) (by simp; omega) (by simp [zt k (by omega), hsucc]) rfl (by simp [hsucc])
 ·simp at hc1
  obtain rfl : k = n := by omega
  refine zy (yc 1 rfl ?_)
  have hh := Zlf c q hc (by omega)
  refine za (zb ?_)
  refine zz hh ?_
  exact zg (zk hd (by simp; rfl) (by simp [zq, hst]))
def vn (c : Cust) (n : Nat) (cap : Int) : List Int × Bool := ((yS c (Zy c cap) n).1, decide (x6 c (yS c (Zy c cap) n).1 = 0))
def vV (c : Cust) (n : Nat) (cap : Int) : List Int × Bool := ((yS c (uC c cap) n).1, decide (x6 c (yS c (uC c cap) n).1 = 0))
theorem ZmC (c : Cust) (n : Nat) (cap : Int) (hc : CustFits c) (hn : n ≤ 1000) : Pure Tryz.prog 194 [.agg (zY c), I n, I cap] (.tup [L (vn c n cap).1, B (vn c n cap).2]) := by
 have h := Zel c n 237 [.ip (zY c), .ip [I cap]] (Zy c cap) hc hn (XJ hc cap) (fun t ht => ZmA c cap t hc ht)
 unfold vn
 generalize yS c (Zy c cap) n = r at h ⊢
 refine zv Tryz.func194 Tryz.ntmps194 Tryz.results194 fun S nx hd => ?_
 refine za (zb ?_)
 intro v0 v1
 refine jZ 0 rfl ?_
 refine jZ 1 rfl ?_
 refine za (zb ?_)
 refine zz h ?_
 exact zg (zk hd (by simp; rfl) rfl)
theorem ZmD (c : Cust) (n : Nat) (cap : Int) (hc : CustFits c) (hn : n ≤ 1000) : Pure Tryz.prog 196 [.agg (zY c), I n, I cap] (.tup [L (vV c n cap).1, B (vV c n cap).2]) := by
 have h := Zel c n 238 [.ip (zY c), .ip [I cap]] (uC c cap) hc hn (XK hc cap) (fun t ht => ZmB c cap t hc ht)
 unfold vV
 generalize yS c (uC c cap) n = r at h ⊢
 refine zv Tryz.func196 Tryz.ntmps196 Tryz.results196 fun S nx hd => ?_
 refine za (zb ?_)
 intro v0 v1
 refine jZ 0 rfl ?_
 refine jZ 1 rfl ?_
 refine za (zb ?_)
 refine zz h ?_
 exact zg (zk hd (by simp; rfl) rfl)
def Yd (price : List Int) (v : List Visit) : Int := v.foldl (fun s w => W (s + Qb price w.d)) 0
theorem ZmE (price : List Int) (v : List Visit) (w : Visit) : Yd price (v ++ [w]) = W (Yd price v + Qb price w.d) := by simp [Yd]
def Qc (c : Cust) (n : Int) (price : List Int) (v : List Visit) : Int := if c.kind = 1 then Yd price v else W (Yd price v + uv c (yK c (zS v n)).1)
theorem Zem {S : Store} {pl : PV} {price : List Int} (c : Cust) (n : Int) (v : List Visit) (hR : RowOf S pl price) (hc : CustFits c) (hv : VisOk v) :
  Spec Tryz.prog 197 [.agg (zY c), I n, pl, L v] S (fun q S' => q = I (Qc c n price v) ∧ S' = S) := by
 have hvn := hv.n
 have hp := fun S (h : RowOf S pl price) d => Zei d h
 unfold Qc
 refine yT Tryz.func197 Tryz.ntmps197 Tryz.results197 fun nx hd => ?_
 refine za (zb ?_)
 intro v0
 refine za (zb ?_)
 repeat apply za
 refine zb ?_
 refine zj (zG (fun k : Nat => k ≤ v.length) (fun k => [(1, I n), (3, L v), (4, .ptr nx v0 0), (9, I (Yd price (v.take k))), (2, pl), (14, L v), (15, I v.length), (16, I k)]) (fun _ => [.cells v0 65 (zY c)]) (fun k => v.length - k) 0 [] (by simp) (by simp [Yd]) (by simp) ?_)
 rintro k hk
 refine za (zb ?_)
 refine za (zr rfl (fun hc1 => ?_) (fun hc1 => ?_))
 ·simp at hc1
  obtain ⟨w, tl, a1, a2, a3, e1, e0⟩ := el 2 rfl v k hc1
  have hsn := ZmE price (v.take k) w
  rw [← a3] at hsn
  refine zh (za (zj (za (ze [] (zm e0 hc1) ?_))))
  intro v2
  refine zT [] (by rfl) (by rfl) fun K Gc Gh hK hGc hGh X hX0 hX => ?_
  simp -implicitDefEqProofs [hX0, hX]
  try clear hX0 hX X
  refine hGc _ _ _ _ _ _ _ fun hsuf => ((hp _ (hR.ext hd _) _).mono ?_).v
  rintro _ _ ⟨rfl, rfl⟩
  refine ⟨_, _, rfl, ?_⟩
  clear hGc hGh
  clear Gc Gh
  refine zQ hsuf (D := []) (by rfl) fun Gc Gh hGc hGh X hX0 hX => ?_
  simp -implicitDefEqProofs [hX0, hX]
  clear hX0 hX X
  refine hK _ _ _ ?_
  clear hK hGc hGh
  clear K Gc Gh
  refine zb ?_
  exact zp (k + 1) [_] hc1 (by omega) (by simp [zt k (by omega), hsn]) rfl (by simp; rfl)
 ·simp at hc1
  obtain rfl : k = v.length := by omega
  rw [List.take_length]
  refine zy ?_
  repeat apply za
  refine zb ?_
  by_cases hk1 : c.kind = 1
  ·rw [if_pos hk1]
   refine zo (by simp [hk1]) ?_
   refine za (zb ?_)
   exact zg ⟨_, S, rfl, ⟨by simp [zq], rfl⟩, yb hd⟩
  ·rw [if_neg hk1]
   have hb := ZdG v n hv
   have hn := VI c (zS v n) hc (Qa _ _)
   have hh := VJ c _ (VX c (zS v n) (Qa _ _))
   generalize yK c (zS v n) = ns at hn hh ⊢
   obtain ⟨nl, ne⟩ := ns
   simp only at hn hh ⊢
   refine zn (by simp [hk1]) ?_
   refine zh (za (zB (some [nx]) (Row.pures [0, 1, 2, 3, 4, 5, 6, 7, 8, 9] .done) mixed trivial ?_))
   refine zI (hb) trivial ?_
   refine zI (hn) trivial ?_
   refine za (zb ?_)
   refine zz hh ?_
   exact zg ⟨_, S, rfl, ⟨by simp [zq], rfl⟩, yb hd⟩
def Ye (c : Cust) (n : Nat) (cap : Int) (price : List Int) : List Visit × Bool :=
 if (vV c n cap).2 = true ∧ ((vn c n cap).2 = false ∨ Qc c n price (yk 0 (vV c n cap).1) ≤ Qc c n price (yk 0 (vn c n cap).1)) then (yk 0 (vV c n cap).1, true)
 else if (vn c n cap).2 = true then (yk 0 (vn c n cap).1, true) else ([], false)
theorem Zen {q : List Int} {n : Nat} (hq : Qs q) (hl : q.length = n) (hn : n ≤ 1000) : VisOk (yk 0 q) := by
 refine ⟨Nat.le_trans (XF _ _) (by omega), fun s hs => ?_, fun s hs => ?_⟩
 ·have := XG q 0 hq s hs; omega
 ·have := XG q 0 hq s hs; unfold z8; omega
theorem ZmF {S : Store} {pl : PV} {price : List Int} (c : Cust) (n : Nat) (cap : Int) (hR : RowOf S pl price) (hc : CustFits c) (hn : n ≤ 1000) :
  Spec Tryz.prog 153 [.agg (zY c), I n, I cap, pl] S (fun q S' => q = .tup [L (Ye c n cap price).1, B (Ye c n cap price).2] ∧ S' = S) := by
 have hD := ZmC c n cap hc hn
 have hL := ZmD c n cap hc hn
 have lD : (vn c n cap).1.length = n := Yb _ _ _
 have lL : (vV c n cap).1.length = n := Yb _ _ _
 have vD : VisOk (yk 0 (vn c n cap).1) := Zen (Yc hc (XJ hc cap) n).2 lD hn
 have vL : VisOk (yk 0 (vV c n cap).1) := Zen (Yc hc (XK hc cap) n).2 lL hn
 unfold Ye
 generalize vn c n cap = rd at *
 generalize vV c n cap = rl at *
 obtain ⟨qd, od⟩ := rd
 obtain ⟨ql, ol⟩ := rl
 simp only at hD hL lD lL vD vL ⊢
 have hVd := Zek qd (by omega)
 have hVl := Zek ql (by omega)
 have hcd := fun S (h : RowOf S pl price) => Zem (S := S) c n (yk 0 qd) h hc vD
 have hcl := fun S (h : RowOf S pl price) => Zem (S := S) c n (yk 0 ql) h hc vL
 generalize yk 0 qd = vd at *
 generalize yk 0 ql = vl at *
 generalize Qc c n price vd = zd at *
 generalize Qc c n price vl = zl at *
 refine yT Tryz.func153 Tryz.ntmps153 Tryz.results153 fun nx hd => ?_
 refine za (zb ?_)
 intro v0
 refine za (zb ?_)
 refine zz hD ?_
 refine za (zb ?_)
 refine zz hVd ?_
 repeat apply za
 refine zb ?_
 refine zz hL ?_
 refine za (zb ?_)
 cases ol with
 | true =>
  refine zo rfl (za (zb ?_))
  refine zz hVl ?_
  cases od with
  | false =>
   rw [if_pos ⟨rfl, .inl rfl⟩]
   refine za (zB (some [nx]) (Row.pures [0, 1, 2, 3, 4, 5, 6, 7, 8, 9, 10, 11, 12, 13, 14] .done) mixed zL ?_)
   refine zo rfl (za (zb ?_))
   exact zg ⟨_, S, (by simp; rfl), ⟨by simp [zq], rfl⟩, yb hd⟩
  | true =>
   by_cases hle : zl ≤ zd
   ·rw [if_pos ⟨rfl, .inr hle⟩]
    refine za (vC (some [nx]) (Row.pures [0, 1, 2, 3, 4, 5, 6, 8, 9, 10, 11] (.alt 7 (.alt 12 (Row.pures [13, 14] .done) .stop) .stop)) mixed (by rfl) (by rfl) (by rfl) fun K Gp Gc Gh hK hGp hGc hGh X hX0 hX1 hX2 hX => ?_)
    simp -implicitDefEqProofs [hX0, hX1, hX2, hX, undef]
    try clear hX0 hX1 hX2 hX X
    refine hGc _ _ _ _ _ _ _ (((hcl _ (hR.ext hd _)).mono ?_).v)
    rintro _ _ ⟨rfl, rfl⟩
    refine ⟨by simp [yE], ?_⟩
    clear hGp hGc hGh
    clear Gp Gc Gh
    refine jY fun Gp Gc Gh hGp hGc hGh X hX0 hX1 hX2 hX => ?_
    simp -implicitDefEqProofs [hX0, hX1, hX2, hX, undef]
    try clear hX0 hX1 hX2 hX X
    refine hGc _ _ _ _ _ _ _ (((hcd _ (hR.ext hd _)).mono ?_).v)
    rintro _ _ ⟨rfl, rfl⟩
    refine ⟨by simp [yE], ?_⟩
    clear hGp hGc hGh
    clear Gp Gc Gh
    refine jY fun Gp Gc Gh hGp hGc hGh X hX0 hX1 hX2 hX => ?_
    simp -implicitDefEqProofs [hX0, hX1, hX2, hX, undef]
    try clear hX0 hX1 hX2 hX X
    refine hK _ _ _ ?_
    clear hK hGp hGc hGh
    clear K Gp Gc Gh
    refine zo (by simp [hle]) ?_
    refine za (zb ?_)
    exact zg ⟨_, S, (by simp; rfl), ⟨by simp [zq], rfl⟩, yb hd⟩
   ·rw [if_neg (by rintro ⟨-, q | q⟩; cases q; exact hle q), if_pos rfl]
    refine za (vC (some [nx]) (Row.pures [0, 1, 2, 3, 4, 5, 6, 8, 9, 10, 11] (.alt 7 (.alt 12 (Row.pures [13, 14] .done) .stop) .stop)) mixed (by rfl) (by rfl) (by rfl) fun K Gp Gc Gh hK hGp hGc hGh X hX0 hX1 hX2 hX => ?_)
    simp -implicitDefEqProofs [hX0, hX1, hX2, hX, undef]
    try clear hX0 hX1 hX2 hX X
    refine hGc _ _ _ _ _ _ _ (((hcl _ (hR.ext hd _)).mono ?_).v)
    rintro _ _ ⟨rfl, rfl⟩
    refine ⟨by simp [yE], ?_⟩
    clear hGp hGc hGh
    clear Gp Gc Gh
    refine jY fun Gp Gc Gh hGp hGc hGh X hX0 hX1 hX2 hX => ?_
    simp -implicitDefEqProofs [hX0, hX1, hX2, hX, undef]
    try clear hX0 hX1 hX2 hX X
    refine hGc _ _ _ _ _ _ _ (((hcd _ (hR.ext hd _)).mono ?_).v)
    rintro _ _ ⟨rfl, rfl⟩
    refine ⟨by simp [yE], ?_⟩
    clear hGp hGc hGh
    clear Gp Gc Gh
    refine jY fun Gp Gc Gh hGp hGc hGh X hX0 hX1 hX2 hX => ?_
    simp -implicitDefEqProofs [hX0, hX1, hX2, hX, undef]
    try clear hX0 hX1 hX2 hX X
    refine hK _ _ _ ?_
    clear hK hGp hGc hGh
    clear K Gp Gc Gh
    refine zn (by simp; omega) ?_
    refine zh ?_
    repeat apply za
    refine zb ?_
    refine zn rfl (zh (za (zb ?_)))
    exact zg ⟨_, S, (by simp; rfl), ⟨by simp [zq], rfl⟩, yb hd⟩
 | false =>
  rw [if_neg (by rintro ⟨q, -⟩; cases q)]
  refine zn rfl (zh ?_)
  repeat apply za
  refine zb ?_
  cases od with
  | false =>
   rw [if_neg (by decide)]
   refine zo rfl (za (zb ?_))
   refine w8 8 rfl ?_
   exact zg ⟨_, S, rfl, ⟨by simp [zq], rfl⟩, yb hd⟩
  | true =>
   rw [if_pos rfl]
   refine zn rfl (zh (za (zb ?_)))
   exact zg ⟨_, S, (by simp; rfl), ⟨by simp [zq], rfl⟩, yb hd⟩
open Go Go.Proofs Hp
def yD (c : Cust) (last d : Int) : Int × Int :=
 ((if last < 0 then c.start else c.size) - c.rate * ((if last < 0 then d else d - last).toNat : Int),
  uv c ((List.range (if last < 0 then d else d - last).toNat).map fun (i : Nat) => (if last < 0 then c.start else c.size) - c.rate * ((i : Int) + 1)))
theorem Zeo (c : Cust) (last d : Int) (hc : CustFits c) (hl : -1 ≤ last ∧ last ≤ 64) (hd0 : 0 ≤ d ∧ d ≤ 64) : Pure Tryz.prog 189 [.agg (zY c), I last, I d] (.tup [I (yD c last d).1, I (yD c last d).2]) := by
 have h1 := hc.rate
 have h2 := hc.size
 have h3 := hc.start
 have w0 : IntKind.i64.wrap (d - last) = d - last := wr _ (by omega) (by omega)
 have key : yD c last d = (let t0 := if last < 0 then c.start else c.size; let m := if last < 0 then d else d - last; (t0 - c.rate * (m.toNat : Int), uv c ((List.range m.toNat).map fun (i : Nat) => t0 - c.rate * ((i : Int) + 1)))) := rfl
 rw [key]
 obtain ⟨t0, ht0⟩ : ∃ t0, t0 = if last < 0 then c.start else c.size := ⟨_, rfl⟩
 obtain ⟨m, hm⟩ : ∃ m, m = if last < 0 then d else d - last := ⟨_, rfl⟩
 have hb0 : 0 ≤ t0 ∧ t0 ≤ 2147483648 := by rw [ht0]; split <;> omega
 have hmb : -64 ≤ m ∧ m ≤ 65 := by rw [hm]; split <;> omega
 rw [← ht0, ← hm]
 clear key
 simp only
 refine zv Tryz.func189 Tryz.ntmps189 Tryz.results189 fun S nx hd => ?_
 refine za (zb ?_)
 intro v0
 refine za (ze [] w0 ?_)
 refine za (qj (nx := nx) (σ := Unit) (fun _ => True) (fun _ => [(3, .ptr nx v0 0), (8, I t0), (9, I m)]) (fun _ => S) (fun _ => [.cells v0 65 (zY c)]) ?_ ?_)
 ·refine za (zb ?_)
  by_cases h : last < 0
  ·rw [if_pos h] at ht0 hm
   refine zo (by simp [h]) ?_
   refine zb ?_
   exact zP () [] trivial (by simp [ht0, hm]) rfl (by simp)
  ·rw [if_neg h] at ht0 hm
   refine zn (by simp; omega) ?_
   exact zh (zP () [] trivial (by simp [ht0, hm]) rfl (by simp))
 intro _ _
 refine za (zb ?_)
 refine za (qV 10 3 1 rfl fun v1 => ?_)
 refine za (zb ?_)
 have hprod : ∀ k : Nat, k ≤ 65 → 0 ≤ c.rate * (k : Int) ∧ c.rate * (k : Int) ≤ 2147483648 * 65 := fun k hk => ⟨Int.mul_nonneg h1.1 (by omega), Int.mul_le_mul h1.2 (by omega) (by omega) (by omega)⟩
 refine zj (zG (fun s : Nat × Nat => s.1 ≤ m.toNat) (fun (k, w) => [(3, .ptr nx v0 0), (8, I (t0 - c.rate * (k : Int))), (10, .sl (nx + 1) w 1 0 ((List.range k).map fun (i : Nat) => t0 - c.rate * ((i : Int) + 1)).length), (21, I m), (22, I k)]) (fun (k, w) => [.cells v0 65 (zY c), .cells w 3 (((List.range k).map fun (i : Nat) => t0 - c.rate * ((i : Int) + 1)).flatMap Enc.enc)]) (fun s => m.toNat - s.1) (0, v1) [] (by simp) (by simp) (by simp) ?_)
 rintro ⟨k, w⟩ hk
 simp only at hk ⊢
 have hp := hprod k (by omega)
 have hp1 := hprod (k + 1)
 have hmul : c.rate * ((k : Int) + 1) = c.rate * (k : Int) + c.rate := by rw [Int.mul_add, Int.mul_one]
 have hrs : ((List.range (k + 1)).map fun (i : Nat) => t0 - c.rate * ((i : Int) + 1)) = ((List.range k).map fun (i : Nat) => t0 - c.rate * ((i : Int) + 1)) ++ [t0 - c.rate * ((k : Int) + 1)] := by simp [List.range_succ]
 have hl0 : ((List.range k).map fun (i : Nat) => t0 - c.rate * ((i : Int) + 1)).length = k := by simp
 generalize hls : ((List.range k).map fun (i : Nat) => t0 - c.rate * ((i : Int) + 1)) = ls at *
 by_cases hc1 : (k : Int) < m
 ·have w1 : IntKind.i64.wrap (t0 - c.rate * (k : Int) - c.rate) = t0 - c.rate * ((k : Int) + 1) := by rw [wr _ (by omega) (by omega)]; omega
  refine za (zb ?_)
  refine za (zo (by simp [hc1]) ?_)
  refine zh (za (zj (za (ze [] w1 ?_))))
  refine zb ?_
  refine ⟨by omega, ?_⟩
  refine zb ?_
  exact zp (k + 1, w + 1) [] (by simp; omega) (by simp; omega) (by simp [zt k (by omega), hrs];) rfl (by simp [hrs])
 ·refine za (zb ?_)
  refine za (zn (by simp; omega) ?_)
  obtain rfl : k = m.toNat := by omega
  refine zy (yc 1 rfl ?_)
  refine za (zb ?_)
  refine zz (VJ c ls (by omega)) ?_
  exact zg (zk hd (by simp; rfl) (by simp [zq, hls]))
def vW (c : Cust) (st : List Visit × Int) (d : Int) : List Visit × Int := (st.1 ++ [⟨d, W (c.size - (yD c st.2 d).1)⟩], d)
def yH (c : Cust) (ds : List Int) : List Visit × Int := ds.foldl (vW c) ([], -1)
theorem Qd (c : Cust) (ds : List Int) (d : Int) : yH c (ds ++ [d]) = vW c (yH c ds) d := by simp [yH]
theorem Zep (c : Cust) : ∀ ds : List Int, (yH c ds).1.length = ds.length := by
 have : ∀ (ds : List Int) (st : List Visit × Int), (ds.foldl (vW c) st).1.length = st.1.length + ds.length := by
  intro ds
  induction ds with
  | nil => intro st; simp
  | cons d ds ih => intro st; rw [List.foldl_cons, ih]; simp [vW]; omega
 intro ds
 unfold yH; rw [this]; simp
theorem ZmG (c : Cust) (p : Nat) (hp : p < 2 ^ 64) (hc : CustFits c) : Pure Tryz.prog 193 [.agg (zY c), U p] (L (yH c (yy p 0 64)).1) := by
 have hall := VZ p hp
 have hln := Q1 p 0 64
 have hds : ∀ d ∈ yy p 0 64, 0 ≤ d ∧ d < 64 := fun d hd => by obtain ⟨i, h, h2, _⟩ := Z9 hd; omega
 generalize yy p 0 64 = ds at hall hln hds ⊢
 refine zv Tryz.func193 Tryz.ntmps193 Tryz.results193 fun S nx hd => ?_
 refine za (zb ?_)
 intro v0
 refine za (zb ?_)
 refine za (qV 5 85 2 rfl fun v1 => ?_)
 refine zb ?_
 repeat apply za
 refine zb ?_
 refine zz hall ?_
 have hlast : ∀ k, -1 ≤ (yH c (ds.take k)).2 ∧ (yH c (ds.take k)).2 ≤ 64 := by
  intro k
  induction k with
  | zero => simp [yH]
  | succ k ih =>
   by_cases h : k < ds.length
   ·rw [List.take_succ_eq_append_getElem h, Qd]
    have := hds ds[k] (List.getElem_mem h)
    simp only [vW]; omega
   ·rw [List.take_of_length_le (by omega)] at ih ⊢
    exact ih
 refine zj (zG (fun s : Nat × Nat => s.1 ≤ ds.length) (fun (k, w) => [(2, .ptr nx v0 0), (5, .sl (nx + 1) w 2 0 (yH c (ds.take k)).1.length), (6, I (yH c (ds.take k)).2), (12, L ds), (13, I ds.length), (14, I k)]) (fun (k, w) => [.cells v0 65 (zY c), .cells w 85 ((yH c (ds.take k)).1.flatMap Enc.enc)]) (fun s => ds.length - s.1) (0, v1) [] (by simp) (by simp [yH]) (by simp [yH]) ?_)
 rintro ⟨k, w⟩ hk
 simp only at hk ⊢
 have hl1 := hlast k
 have hfl : (yH c (ds.take k)).1.length = k := by rw [Zep]; simp; omega
 refine za (zb ?_)
 refine za (zr rfl (fun hc1 => ?_) (fun hc1 => ?_))
 ·simp at hc1
  obtain ⟨d, tl, a1, a2, a3, e0⟩ := zE rfl ds k hc1
  have hd1 := hds d (List.mem_of_getElem? a1)
  have hsn := Qd c (ds.take k) d
  rw [← a3] at hsn
  generalize yH c (ds.take k) = st at *
  obtain ⟨out, last⟩ := st
  simp only [vW] at hl1 hfl hsn ⊢
  have hr := Zeo c last d hc hl1 (by omega)
  generalize yD c last d = r at hr hsn
  obtain ⟨th, he⟩ := r
  simp only at hr hsn
  refine zh (za (zj (za (ze [] (zm e0 hc1) ?_))))
  refine za (zb ?_)
  refine zz hr ?_
  refine za (zb ?_)
  refine ⟨by omega, ?_⟩
  refine zb ?_
  refine zb ?_
  exact zp (k + 1, w + 1) [] hc1 (by simp; omega) (by simp [zt k (by omega), hsn]) rfl (by simp [hsn])
 ·simp at hc1
  obtain rfl : k = ds.length := by omega
  rw [List.take_length]
  refine zy (yc 1 rfl ?_)
  refine za (zb ?_)
  exact zg (zk hd (by simp; rfl) rfl)
structure Stp where
 r : Bool
 k : Int
 l : Int
 deriving DecidableEq
instance : Inhabited Stp := ⟨⟨false, 0, 0⟩⟩
instance : Enc Stp := ⟨fun s => [B s.r, I s.k, I s.l], 3, fun _ => rfl, fun _ => rfl⟩
@[simp] theorem Zry (s : Stp) : Enc.enc s = [B s.r, I s.k, I s.l] := rfl
@[simp high] theorem ZmH (l : List Stp) : (l.flatMap Enc.enc).length = l.length * 3 := jO l
@[simp high] theorem Zrz (l : List Stp) : (l.flatMap Enc.enc).take (l.length * 3) = l.flatMap Enc.enc := uO l
def zs : Stp := ⟨false, 0, 0⟩
def Yf (c : Cust) (n : Nat) (cap : Int) (price : List Int) (tab : List Stp) (d : Nat) (last : Int) : Int :=
 let k1 := if 0 ≤ last then W ((yD c last d).2 + (tab.getD last.toNat zs).k) else (yD c last d).2
 if d < n then W (k1 + Qb price d) else k1
def Zz (c : Cust) (n : Nat) (cap : Int) (tab : List Stp) (d : Nat) (last : Int) : Prop :=
 ¬ (0 ≤ last ∧ tab.getD last.toNat zs = zs) ∧ ¬ ((yD c last d).1 < 0 ∨ (d < n ∧ jT c (yD c last d).1 cap = 0))
instance (c : Cust) (n : Nat) (cap : Int) (tab : List Stp) (d : Nat) (last : Int) : Decidable (Zz c n cap tab d last) := by unfold Zz; exact inferInstance
def Ja (c : Cust) (n : Nat) (cap : Int) (price : List Int) (tab : List Stp) (d : Nat) (best : Stp) (last : Int) : Stp :=
 if Zz c n cap tab d last then (if best = zs ∨ Yf c n cap price tab d last < best.k then ⟨true, Yf c n cap price tab d last, last⟩ else best) else best
def jU (c : Cust) (n : Nat) (cap : Int) (price : List Int) (tab : List Stp) (d : Nat) (j : Nat) : Stp := (List.range j).foldl (fun b (i : Nat) => Ja c n cap price tab d b ((i : Int) - 1)) zs
theorem Zeq (c : Cust) (n : Nat) (cap : Int) (price : List Int) (tab : List Stp) (d : Nat) (j : Nat) : jU c n cap price tab d (j + 1) = Ja c n cap price tab d (jU c n cap price tab d j) ((j : Int) - 1) := by simp [jU, List.range_succ]
def qP (c : Cust) (n : Nat) (cap : Int) (price : List Int) : Nat → List Stp
 | 0 => []
 | k + 1 => qP c n cap price k ++ [jU c n cap price (qP c n cap price k) k (k + 1)]
theorem Jb (c : Cust) (n : Nat) (cap : Int) (price : List Int) : ∀ k, (qP c n cap price k).length = k
 | 0 => rfl
 | k + 1 => by simp [qP, Jb c n cap price k]
def wD (tab : List Stp) : Nat → Nat → Int → Nat
 | 0, s, _ => s
 | f + 1, s, d => if d < 0 then s else wD tab f (jR s d) (tab.getD d.toNat zs).l
def ZA (c : Cust) (n : Nat) (cap : Int) (price : List Int) : List Visit × Bool :=
 if (qP c n cap price (n + 1)).getD n zs = zs then ([], false)
 else ((yH c (yy (wD (qP c n cap price (n + 1)) 65 0 ((qP c n cap price (n + 1)).getD n zs).l) 0 64)).1, true)
def ZmI (tab : List Stp) : Prop := ∀ (d : Nat) (e : Stp), tab[d]? = some e → e = zs ∨ (e.r = true ∧ -1 ≤ e.l ∧ e.l < d ∧ (0 ≤ e.l → tab.getD e.l.toNat zs ≠ zs))
theorem XL (c : Cust) (n : Nat) (cap : Int) (price : List Int) (tab : List Stp) (d : Nat) : ∀ j : Nat, jU c n cap price tab d j = zs ∨ ((jU c n cap price tab d j).r = true ∧ -1 ≤ (jU c n cap price tab d j).l ∧ (jU c n cap price tab d j).l + 1 < j ∧ Zz c n cap tab d (jU c n cap price tab d j).l)
 | 0 => .inl rfl
 | j + 1 => by
  have ih := XL c n cap price tab d j
  rw [Zeq]
  unfold Ja
  split
  ·rename_i hok
   split
   ·exact .inr ⟨rfl, by dsimp only; omega, by dsimp only; omega, hok⟩
   ·rcases ih with ih | ⟨h1, h2, h3, h4⟩
    ·exact .inl ih
    ·exact .inr ⟨h1, h2, by omega, h4⟩
  ·rcases ih with ih | ⟨h1, h2, h3, h4⟩
   ·exact .inl ih
   ·exact .inr ⟨h1, h2, by omega, h4⟩
theorem V3 (c : Cust) (n : Nat) (cap : Int) (price : List Int) : ∀ k, ZmI (qP c n cap price k)
 | 0 => by intro d e h; cases h
 | k + 1 => by
  have ih := V3 c n cap price k
  have hl := Jb c n cap price k
  have he := XL c n cap price (qP c n cap price k) k (k + 1)
  intro d e h
  simp only [qP] at h ⊢
  have hget : ∀ (i : Nat), i < k → (qP c n cap price k ++ [jU c n cap price (qP c n cap price k) k (k + 1)]).getD i zs = (qP c n cap price k).getD i zs := by
   intro i hi
   rw [List.getD_eq_getElem?_getD, List.getD_eq_getElem?_getD, List.getElem?_append_left (by omega)]
  by_cases hd : d < k
  ·rw [List.getElem?_append_left (by omega)] at h
   rcases ih d e h with q | ⟨q1, q2, q3, q4⟩
   ·exact .inl q
   ·refine .inr ⟨q1, q2, q3, fun q => ?_⟩
    rw [hget _ (by omega)]; exact q4 q
  ·rw [List.getElem?_append_right (by omega), hl] at h
   obtain rfl : d = k := by
    rcases Nat.lt_or_ge (d - k) 1 with q | q
    ·omega
    ·rw [List.getElem?_eq_none (by simpa using q)] at h; cases h
   rw [Nat.sub_self] at h
   simp only [List.getElem?_cons_zero, Option.some.injEq] at h
   subst h
   rcases he with q | ⟨q1, q2, q3, q4⟩
   ·exact .inl q
   ·refine .inr ⟨q1, q2, by omega, fun q => ?_⟩
    rw [hget _ (by omega)]
    exact fun hz => q4.1 ⟨q, hz⟩
open Go Go.Proofs Hp
def qc (tab : List Stp) (b : Stp) : List Stp := tab ++ b :: List.replicate (64 - tab.length) zs
theorem Zer (tab : List Stp) (b : Stp) (h : tab.length ≤ 64) : (qc tab b).length = 65 := by simp [qc]; omega
theorem XM (tab : List Stp) (b : Stp) (i : Nat) (h : i < tab.length) : (qc tab b)[i]? = some (tab.getD i zs) := by
 unfold qc
 rw [List.getElem?_append_left h, List.getD_eq_getElem?_getD, List.getElem?_eq_getElem h]; rfl
theorem ZmJ (tab : List Stp) (b : Stp) : (qc tab b)[tab.length]? = some b := by
 unfold qc
 rw [List.getElem?_append_right (Nat.le_refl _)]; simp
theorem ZmK (tab : List Stp) (b e : Stp) : (qc tab b).set tab.length e = qc tab e := by
 unfold qc
 rw [List.set_append_right _ _ (Nat.le_refl _)]; simp
theorem ZmL (tab : List Stp) (b : Stp) (h : tab.length < 64) : qc tab b = qc (tab ++ [b]) zs := by
 unfold qc
 rw [List.append_assoc, List.length_append, List.length_singleton, show 64 - tab.length = (64 - (tab.length + 1)) + 1 from by omega, List.replicate_succ]
 rfl
@[simp] theorem ZrA : Program.zeroOf Tryz.prog 260 = some (.agg #[.bool false, .int .i64 0, .int .i64 0, .bool false, .int .i64 0, .int .i64 0, .bool false, .int .i64 0, .int .i64 0, .bool false, .int .i64 0, .int .i64 0, .bool false, .int .i64 0, .int .i64 0, .bool false, .int .i64 0, .int .i64 0, .bool false, .int .i64 0, .int .i64 0, .bool false, .int .i64 0, .int .i64 0, .bool false, .int .i64 0, .int .i64 0, .bool false, .int .i64 0, .int .i64 0, .bool false, .int .i64 0, .int .i64 0, .bool false, .int .i64 0, .int .i64 0, .bool false, .int .i64 0, .int .i64 0, .bool false, .int .i64 0, .int .i64 0, .bool false, .int .i64 0, .int .i64 0, .bool false, .int .i64 0, .int .i64 0, .bool false, .int .i64 0, .int .i64 0, .bool false, .int .i64 0, .int .i64 0, .bool false, .int .i64 0, .int .i64 0, .bool false, .int .i64 0, .int .i64 0, .bool false, .int .i64 0, .int .i64 0, .bool false, .int .i64 0, .int .i64 0, .bool false, .int .i64 0, .int .i64 0, .bool false, .int .i64 0, .int .i64 0, .bool false, .int .i64 0, .int .i64 0, .bool false, .int .i64 0, .int .i64 0, .bool false, .int .i64 0, .int .i64 0, .bool false, .int .i64 0, .int .i64 0, .bool false, .int .i64 0, .int .i64 0, .bool false, .int .i64 0, .int .i64 0, .bool false, .int .i64 0, .int .i64 0, .bool false, .int .i64 0, .int .i64 0, .bool false, .int .i64 0, .int .i64 0, .bool false, .int .i64 0, .int .i64 0, .bool false, .int .i64 0, .int .i64 0, .bool false, .int .i64 0, .int .i64 0, .bool false, .int .i64 0, .int .i64 0, .bool false, .int .i64 0, .int .i64 0, .bool false, .int .i64 0, .int .i64 0, .bool false, .int .i64 0, .int .i64 0, .bool false, .int .i64 0, .int .i64 0, .bool false, .int .i64 0, .int .i64 0, .bool false, .int .i64 0, .int .i64 0, .bool false, .int .i64 0, .int .i64 0, .bool false, .int .i64 0, .int .i64 0, .bool false, .int .i64 0, .int .i64 0, .bool false, .int .i64 0, .int .i64 0, .bool false, .int .i64 0, .int .i64 0, .bool false, .int .i64 0, .int .i64 0, .bool false, .int .i64 0, .int .i64 0, .bool false, .int .i64 0, .int .i64 0, .bool false, .int .i64 0, .int .i64 0, .bool false, .int .i64 0, .int .i64 0, .bool false, .int .i64 0, .int .i64 0, .bool false, .int .i64 0, .int .i64 0, .bool false, .int .i64 0, .int .i64 0, .bool false, .int .i64 0, .int .i64 0, .bool false, .int .i64 0, .int .i64 0, .bool false, .int .i64 0, .int .i64 0, .bool false, .int .i64 0, .int .i64 0, .bool false, .int .i64 0, .int .i64 0, .bool false, .int .i64 0, .int .i64 0, .bool false, .int .i64 0, .int .i64 0, .bool false, .int .i64 0, .int .i64 0, .bool false, .int .i64 0, .int .i64 0]) := by kernel_rfl
theorem Zes {α : Type} [Enc α] : ∀ (l : List α) (k : Nat), (l.flatMap Enc.enc).take (k * Enc.sz α) = (l.take k).flatMap Enc.enc
 | [], k => by simp
 | a :: l, 0 => by simp
 | a :: l, k + 1 => by
  have ih := Zes l k
  rw [List.flatMap_cons, List.take_succ_cons, List.flatMap_cons, Nat.add_mul, Nat.one_mul, List.take_append, Enc.len, ← ih, Nat.add_sub_cancel, List.take_of_length_le (by rw [Enc.len]; omega)]
theorem ZmM {α : Type} [Enc α] (n : Nat) (hn : Enc.sz α = n) (l : List α) (k : Nat) (v : α) (h : k < l.length) : yd (l.flatMap Enc.enc) (k * n) (Enc.enc v) = (l.set k v).flatMap Enc.enc := by
 subst hn
 have h1 := Wq h
 have h2 : (l.flatMap Enc.enc).drop (k * Enc.sz α + Enc.sz α) = (l.drop (k + 1)).flatMap Enc.enc := by
  rw [← List.drop_drop, h1, List.drop_append, List.drop_of_length_le (by rw [Enc.len]; exact Nat.le_refl _), Enc.len, Nat.sub_self]
  simp
 rw [yd, Enc.len, Zes, h2, List.set_eq_take_append_cons_drop, if_pos h]
 simp
theorem Zet (tab : List Stp) : ∀ (f s : Nat) (d : Int), s < 2 ^ 64 → wD tab f s d < 2 ^ 64
 | 0, _, _, h => h
 | f + 1, s, d, h => by
  unfold wD
  split
  ·exact h
  ·exact Zet tab f _ _ (Zdz _ _ h)
theorem ZmN (tab : List Stp) (f s : Nat) {d : Int} (h : d < 0) : wD tab f s d = s := by
 cases f with
 | zero => rfl
 | succ f => unfold wD; rw [if_pos h]
theorem ZmO {S : Store} {pl : PV} {price : List Int} (c : Cust) (n : Nat) (cap : Int) (hR : RowOf S pl price) (hc : CustFits c) (hn : n ≤ 60) :
  Spec Tryz.prog 152 [.agg (zY c), I n, I cap, pl] S (fun q S' => q = .tup [L (ZA c n cap price).1, B (ZA c n cap price).2] ∧ S' = S) := by
 have hmin : vw (n : Int) 64 = n := by unfold vw; split <;> omega
 have hmax : xz (n : Int) 0 = n := by unfold xz; split <;> omega
 have hpr := fun S (h : RowOf S pl price) d => Zei d h
 have hrest := fun (last d : Int) (h1 : -1 ≤ last ∧ last ≤ 64) (h2 : 0 ≤ d ∧ d ≤ 64) => Zeo c last d hc h1 h2
 have hmost := fun (th : Int) (h : -4611686018427387904 ≤ th ∧ th ≤ 4611686018427387904) => V2 c th cap hc.size h
 unfold ZA
 refine yT Tryz.func152 Tryz.ntmps152 Tryz.results152 fun nx hd => ?_
 refine za (zb ?_)
 intro v0
 refine za (ze [] (zm hmin hmax) ?_)
 refine za (zb ?_)
 intro v1
 have hw : IntKind.i64.wrap ((n : Int) + 1) = ((n + 1 : Nat) : Int) := zt n (by omega)
 repeat apply za
 refine ze [] hw ?_
 refine zj (zG (fun d : Nat => d ≤ n + 1) (fun d => [(1, I n), (2, I cap), (3, pl), (4, .ptr nx v0 0), (10, .ptr (nx + 1) v1 0), (22, I (n + 1 : Nat)), (23, I d)]) (fun d => [.cells v0 65 (zY c), .cells v1 260 ((qc (qP c n cap price d) zs).flatMap Enc.enc)]) (fun d => n + 1 - d) 0 [] (by simp) (by simp) (by simp [qP]; rfl) ?_)
 rintro d hd1
 have htl := Jb c n cap price d
 have htok := V3 c n cap price d
 have htn : qP c n cap price (d + 1) = qP c n cap price d ++ [jU c n cap price (qP c n cap price d) d (d + 1)] := rfl
 by_cases hdn : d < n + 1
 case neg =>
  obtain rfl : d = n + 1 := by omega
  clear htn
  generalize qP c n cap price (n + 1) = tab at *
  have hml := Zer tab zs (by omega)
  obtain ⟨s, tl, a1, -, -, e1, e0⟩ := el 3 rfl (qc tab zs) n (by omega)
  have hs : tab.getD n zs = s := by have := XM tab zs n (by omega); rw [a1] at this; exact (Option.some.inj this).symm
  have hs2 : tab[n]? = some s := by rw [← hs, List.getD_eq_getElem?_getD, List.getElem?_eq_getElem (by omega)]; rfl
  have e12 := e1 2 (by omega)
  have hn65 : (n : Int) < 65 := by omega
  have z1 : 3 ≤ 195 - n * 3 := by omega
  have z2 : 1 ≤ 195 - (n * 3 + 2) := by omega
  rw [hs]
  refine za (zb ?_)
  refine za (zn (by simp) ?_)
  refine zy ?_
  rcases htok n s hs2 with q | ⟨hr, hl1, hl2, hl3⟩
  ·subst q
   rw [if_pos rfl]
   have e0' : ((qc tab zs).flatMap Enc.enc).drop (n * 3) = [B false, I 0, I 0] ++ tl := e0
   repeat apply za
   refine ze [] (yh e0' hn65 hml z1) ?_
   refine zo rfl (za (zb ?_))
   refine w8 8 rfl ?_
   exact zg ⟨_, S, rfl, ⟨by simp [zq], rfl⟩, yb hd⟩
  ·have hne : s ≠ zs := fun e => by rw [e] at hr; cases hr
   rw [if_neg hne]
   obtain ⟨sr, sk, sl⟩ := s
   simp only at hr hl1 hl2 hl3 ⊢
   subst hr
   repeat apply za
   refine ze [] (yh e0 hn65 hml z1) ?_
   refine zn rfl (zh (za (zb ?_)))
   repeat apply za
   refine ze [] (yh e12 hn65 hml z2) ?_
   generalize hres : wD tab 65 0 sl = res
   have hrlt : res < 2 ^ 64 := hres ▸ Zet tab 65 0 sl (by decide)
   have hfil := ZmG c res hrlt hc
   generalize (yH c (yy res 0 64)).1 = vv at hfil ⊢
   refine zj (zG (fun st : Nat × Nat × Int => wD tab st.1 st.2.1 st.2.2 = res ∧ -1 ≤ st.2.2 ∧ st.2.2 < st.1 ∧ st.2.2 < n ∧ st.2.1 < 2 ^ 64 ∧ (0 ≤ st.2.2 → tab.getD st.2.2.toNat zs ≠ zs)) (fun (f, s, l) => [(4, .ptr nx v0 0), (10, .ptr (nx + 1) v1 0), (16, U s), (17, I l)]) (fun _ => [.cells v0 65 (zY c), .cells v1 260 ((qc tab zs).flatMap Enc.enc)]) (fun st => st.1) (65, 0, sl) [] ⟨hres, hl1, by dsimp only; omega, by dsimp only; omega, by show (0 : Nat) < 2 ^ 64; decide, hl3⟩ (by simp) (by simp) ?_)
   rintro ⟨f, s, l⟩ ⟨p1, p2, p3, p4, p5, p6⟩
   simp only at p1 p2 p3 p4 p5 p6 ⊢
   by_cases hl : l < 0
   ·have hl' : ¬ 0 ≤ l := by omega
    rw [ZmN tab f s hl] at p1
    subst p1
    repeat apply za
    refine ze [] hl' ?_
    refine zn rfl (zy (za (zb ?_)))
    refine zz hfil ?_
    exact zg ⟨_, S, (by simp; rfl), ⟨by simp [zq], rfl⟩, yb hd⟩
   ·have hl' : 0 ≤ l := by omega
    obtain ⟨i, rfl⟩ := Int.eq_ofNat_of_zero_le hl'
    obtain ⟨f, rfl⟩ : ∃ g, f = g + 1 := ⟨f - 1, by omega⟩
    have p6 := p6 hl'
    rw [Int.toNat_natCast] at p6
    have hi : i < tab.length := by omega
    obtain ⟨e, tl2, b1, -, -, f1, f0⟩ := el 3 rfl (qc tab zs) i (by omega)
    have he : tab.getD i zs = e := by have := XM tab zs i hi; rw [b1] at this; exact (Option.some.inj this).symm
    have he2 : tab[i]? = some e := by rw [← he, List.getD_eq_getElem?_getD, List.getElem?_eq_getElem hi]; rfl
    have f12 := f1 2 (by omega)
    have hi65 : (i : Int) < 65 := by omega
    have y2 : 1 ≤ 195 - (i * 3 + 2) := by omega
    rw [he] at p6
    rcases htok i e he2 with q | ⟨er, el1', el2', el3'⟩
    ·exact absurd q p6
    have p1' : wD tab f (jR s i) e.l = res := by
     rw [← p1]; unfold wD; rw [if_neg (by omega), Int.toNat_natCast, he]
     cases f <;> rfl
    repeat apply za
    refine ze [] hl' ?_
    refine zo rfl (zh (za (zj (zb ?_))))
    refine zz (Zle s i p5) ?_
    refine ze [] (yh f12 hi65 hml y2) ?_
    exact zp (f, jR s i, e.l) [] ⟨p1', el1', by dsimp only; omega, by dsimp only; omega, Zdz _ _ p5, el3'⟩ (by simp) (by simp) rfl (by simp)
 generalize qP c n cap price d = tab at *
 refine za (zb ?_)
 refine za (zo (by simp; omega) ?_)
 refine zh (za (zj (za (zb ?_))))
 refine za (zb ?_)
 refine zj (zG (fun j : Nat => j ≤ d + 1) (fun j => [(1, I n), (2, I cap), (3, pl), (4, .ptr nx v0 0), (10, .ptr (nx + 1) v1 0), (11, I d), (12, I ((j : Int) - 1)), (22, I (n + 1 : Nat)), (23, I d)]) (fun j => [.cells v0 65 (zY c), .cells v1 260 ((qc tab (jU c n cap price tab d j)).flatMap Enc.enc)]) (fun j => d + 1 - j) 0 [] (by simp) (by simp) (by simp [jU]) ?_)
 rintro j hj
 have hesucc := Zeq c n cap price tab d j
 have heok := XL c n cap price tab d j
 have hdd : jU c n cap price tab d (d + 1) = jU c n cap price tab d (d + 1) := rfl
 by_cases hjd : j < d + 1
 case neg =>
  obtain rfl : j = d + 1 := by omega
  repeat apply za
  refine zb ?_
  refine zn (by simp) ?_
  refine zy (zb ?_)
  exact zp (d + 1) [] hdn (by omega) (by simp [zt d (by omega)]) rfl (by rw [htn, ← ZmL tab _ (by omega)]; simp)
 clear hdd htn
 generalize jU c n cap price tab d j = b at *
 obtain ⟨last, hlast⟩ : ∃ last : Int, last = (j : Int) - 1 := ⟨_, rfl⟩
 rw [← hlast] at hesucc ⊢
 have hwl : IntKind.i64.wrap (last + 1) = ((j + 1 : Nat) : Int) - 1 := by rw [wr _ (by omega) (by omega)]; omega
 have hml := Zer tab b (by omega)
 have hd65 : (d : Int) < 65 := by omega
 have zd3 : 3 ≤ 195 - d * 3 := by omega
 have zd1 : 1 ≤ 195 - (d * 3 + 1) := by omega
 have hr := hrest last d (by omega) (by omega)
 have hrbd : -4611686018427387904 ≤ (yD c last d).1 ∧ (yD c last d).1 ≤ 4611686018427387904 := by
  have h1 := hc.rate
  have h2 := hc.size
  have h3 := hc.start
  unfold yD
  simp only
  have hp : 0 ≤ c.rate * ((if last < 0 then (d : Int) else d - last).toNat : Int) ∧ c.rate * ((if last < 0 then (d : Int) else d - last).toNat : Int) ≤ 2147483648 * 65 :=
   ⟨Int.mul_nonneg h1.1 (by omega), Int.mul_le_mul h1.2 (by split <;> omega) (by omega) (by omega)⟩
  generalize c.rate * ((if last < 0 then (d : Int) else d - last).toNat : Int) = pp at hp ⊢
  split <;> omega
 have hm := hmost _ hrbd
 have hks : ∀ (k1 : Int), k1 = (if 0 ≤ last then W ((yD c last d).2 + (tab.getD last.toNat zs).k) else (yD c last d).2) → Yf c n cap price tab d last = if d < n then W (k1 + Qb price d) else k1 := fun k1 h => by unfold Yf; rw [h]
 have hokd : Zz c n cap tab d last = (¬ (0 ≤ last ∧ tab.getD last.toNat zs = zs) ∧ ¬ ((yD c last d).1 < 0 ∨ (d < n ∧ jT c (yD c last d).1 cap = 0))) := rfl
 have hstay : ¬ Zz c n cap tab d last → jU c n cap price tab d (j + 1) = b := fun h => by rw [hesucc]; unfold Ja; rw [if_neg h]
 have hgo : Zz c n cap tab d last → jU c n cap price tab d (j + 1) = if b = zs ∨ Yf c n cap price tab d last < b.k then ⟨true, Yf c n cap price tab d last, last⟩ else b := fun h => by rw [hesucc]; unfold Ja; rw [if_pos h]
 clear hesucc
 generalize yD c last d = rr at hr hm hks hokd
 obtain ⟨th, he⟩ := rr
 simp only at hr hm hks hokd
 generalize jT c th cap = mo at hm hokd
 generalize Zz c n cap tab d last = OK at hokd hstay hgo
 generalize Yf c n cap price tab d last = kk at hks hgo
 generalize hb'e : jU c n cap price tab d (j + 1) = b' at hstay hgo
 subst hokd
 repeat apply za
 refine zb ?_
 refine zo (by simp; omega) ?_
 refine zh (za (zj (za (qj (nx := nx) (σ := Unit) (fun _ => ¬ (0 ≤ last ∧ tab.getD last.toNat zs = zs)) (fun _ => [(1, I n), (2, I cap), (3, pl), (4, .ptr nx v0 0), (10, .ptr (nx + 1) v1 0), (11, I d), (12, I last), (22, I (n + 1 : Nat)), (23, I d)]) (fun _ => S) (fun _ => [.cells v0 65 (zY c), .cells v1 260 ((qc tab b).flatMap Enc.enc)]) ?_ ?_))))
 ·by_cases hl : 0 ≤ last
  ·obtain ⟨i, hi⟩ := Int.eq_ofNat_of_zero_le hl
   have hit : i < tab.length := by omega
   obtain ⟨e, tl2, b1, -, -, -, f0⟩ := el 3 rfl (qc tab b) i (by omega)
   have hee : tab.getD i zs = e := by have := XM tab b i hit; rw [b1] at this; exact (Option.some.inj this).symm
   have he2 : tab[i]? = some e := by rw [← hee, List.getD_eq_getElem?_getD, List.getElem?_eq_getElem hit]; rfl
   have hi65 : (i : Int) < 65 := by omega
   have y3 : 3 ≤ 195 - i * 3 := by omega
   have hlt : last.toNat = i := by omega
   rcases htok i e he2 with q | ⟨er, -, -, -⟩
   ·subst q
    have f0' : ((qc tab b).flatMap Enc.enc).drop (i * 3) = [B false, I 0, I 0] ++ tl2 := f0
    have hb' := hstay fun h => h.1 ⟨hl, by rw [hlt]; exact hee⟩
    subst hb'
    subst hi
    refine za (ze [(2, 33)] (yZ hl f0' hi65 hml y3) ?_)
    refine zo rfl (zy (ze [] hwl ?_))
    exact zp (j + 1) [] (by omega) (by omega) (by simp) rfl (by simp [hb'e])
   ·obtain ⟨r1, r2, r3⟩ := e
    simp only at er
    subst er
    subst hi
    refine za (ze [(2, 33)] (yZ hl f0 hi65 hml y3) ?_)
    exact zn rfl (zh (zP () [] (by rw [hlt, hee]; rintro ⟨-, q⟩; cases q) (by simp) rfl (by simp)))
  ·refine za (ze [(2, 33)] (zm hl zL) ?_)
   exact zn rfl (zh (zP () [] (fun q => hl q.1) (by simp) rfl (by simp)))
 intro _ hA
 refine za (zb ?_)
 refine zz hr ?_
 refine za (qj (nx := nx) (σ := Unit) (fun _ => ¬ (th < 0 ∨ (d < n ∧ mo = 0))) (fun _ => [(1, I n), (2, I cap), (3, pl), (4, .ptr nx v0 0), (10, .ptr (nx + 1) v1 0), (11, I d), (12, I last), (14, I he), (22, I (n + 1 : Nat)), (23, I d)]) (fun _ => S) (fun _ => [.cells v0 65 (zY c), .cells v1 260 ((qc tab b).flatMap Enc.enc)]) ?_ ?_)
 ·by_cases h1 : th < 0
  ·have hb' := hstay fun h => h.2 (.inl h1)
   subst hb'
   refine za (ze [(2, 49), (6, 53)] (zm h1 zL) ?_)
   refine zo rfl (zy (ze [] hwl ?_))
   exact zp (j + 1) [] (by omega) (by omega) (by simp) rfl (by simp [hb'e])
  ·by_cases h2 : d < n
   ·by_cases h3 : mo = 0
    ·have hb' := hstay fun h => h.2 (.inr ⟨h2, h3⟩)
     subst hb'
     refine za (ze [(2, 49), (6, 53)] (zF h1 h2 h3) ?_)
     refine jP [(2, 49), (6, 53)] hm (zF h1 h2 h3) ?_
     refine zo rfl (zy (ze [] hwl ?_))
     exact zp (j + 1) [] (by omega) (by omega) (by simp) rfl (by simp [hb'e])
    ·refine za (ze [(2, 49), (6, 53)] (zF h1 h2 h3) ?_)
     refine jP [(2, 49), (6, 53)] hm (zF h1 h2 h3) ?_
     exact zn rfl (zh (zP () [] (by omega) (by simp) rfl (by simp)))
   ·refine za (ze [(2, 49), (6, 53)] (zF h1 h2 zL) ?_)
    exact zn rfl (zh (zP () [] (by omega) (by simp) rfl (by simp)))
 intro _ hB
 have hgo := hgo ⟨hA, hB⟩
 clear hstay hm hr
 refine za (zb ?_)
 intro v2
 obtain ⟨k1, hk1⟩ : ∃ k1, k1 = (if 0 ≤ last then W (he + (tab.getD last.toNat zs).k) else he) := ⟨_, rfl⟩
 have hks := hks k1 hk1
 refine za (qj (nx := nx) (σ := Unit) (fun _ => True) (fun _ => [(1, I n), (2, I cap), (3, pl), (4, .ptr nx v0 0), (10, .ptr (nx + 1) v1 0), (11, I d), (12, I last), (15, .ptr (nx + 2) v2 0), (22, I (n + 1 : Nat)), (23, I d)]) (fun _ => S) (fun _ => [.cells v0 65 (zY c), .cells v1 260 ((qc tab b).flatMap Enc.enc), .cells v2 259 [B true, I k1, I last]]) ?_ ?_)
 ·refine za (zb ?_)
  by_cases hl : 0 ≤ last
  ·rw [if_pos hl] at hk1
   obtain ⟨i, hi⟩ := Int.eq_ofNat_of_zero_le hl
   have hit : i < tab.length := by omega
   obtain ⟨e, tl2, b1, -, -, f1, f0⟩ := el 3 rfl (qc tab b) i (by omega)
   have hee : tab.getD i zs = e := by have := XM tab b i hit; rw [b1] at this; exact (Option.some.inj this).symm
   have f11 := f1 1 (by omega)
   have hi65 : (i : Int) < 65 := by omega
   have y1 : 1 ≤ 195 - (i * 3 + 1) := by omega
   have hlt : last.toNat = i := by omega
   rw [hlt, hee] at hk1
   subst hi
   refine zo (by simp) ?_
   refine zB (some [nx + 1]) (Row.pures [0, 2, 3, 4, 5] (.alt 1 (Row.pures [6, 7] (.alt 8 (.done) .stop)) .stop)) mixed (yh f11 hi65 hml y1) ?_
   exact zP () [] trivial (by simp) rfl (by simp [hk1])
  ·rw [if_neg hl] at hk1
   refine zn (by simp; omega) ?_
   exact zh (zP () [] trivial (by simp) rfl (by simp [hk1]))
 intro _ _
 clear hk1
 refine za (qj (nx := nx) (σ := Unit) (fun _ => True) (fun _ => [(1, I n), (2, I cap), (3, pl), (4, .ptr nx v0 0), (10, .ptr (nx + 1) v1 0), (11, I d), (12, I last), (15, .ptr (nx + 2) v2 0), (22, I (n + 1 : Nat)), (23, I d)]) (fun _ => S) (fun _ => [.cells v0 65 (zY c), .cells v1 260 ((qc tab b).flatMap Enc.enc), .cells v2 259 [B true, I kk, I last]]) ?_ ?_)
 ·refine za (zb ?_)
  by_cases h2 : d < n
  ·rw [if_pos h2] at hks
   refine zo (by simp [h2]) ?_
   refine vC (some [nx + 1]) (Row.pures [0, 2, 3] (.alt 1 (.alt 4 (Row.pures [5, 6] (.alt 7 (.done) .stop)) .stop) (.alt 4 (.alt 1 (Row.pures [5, 6] (.alt 7 (.done) .stop)) .stop) .stop))) mixed (by rfl) (by rfl) (by rfl) fun K Gp Gc Gh hK hGp hGc hGh X hX0 hX1 hX2 hX => ?_
   simp -implicitDefEqProofs [hX0, hX1, hX2, hX]
   try clear hX0 hX1 hX2 hX X
   refine ⟨?_, ?_⟩
   ·refine hGc _ _ _ _ _ _ _ (((hpr _ (hR.ext hd _) _).mono ?_).v)
    rintro _ _ ⟨rfl, rfl⟩
    refine ⟨by simp [yE], ?_⟩
    clear hGp hGc hGh
    clear Gp Gc Gh
    refine jY fun Gp Gc Gh hGp hGc hGh X hX0 hX1 hX2 hX => ?_
    simp -implicitDefEqProofs [hX0, hX1, hX2, hX]
    try clear hX0 hX1 hX2 hX X
    refine hK _ _ _ ?_
    clear hK hGp hGc hGh
    clear K Gp Gc Gh
    exact zP () [] trivial (by simp) rfl (by simp [hks])
   ·refine hGc _ _ _ _ _ _ _ (((hpr _ (hR.ext hd _) _).mono ?_).v)
    rintro _ _ ⟨rfl, rfl⟩
    refine ⟨by simp [yE], ?_⟩
    clear hGp hGc hGh
    clear Gp Gc Gh
    refine jY fun Gp Gc Gh hGp hGc hGh X hX0 hX1 hX2 hX => ?_
    simp -implicitDefEqProofs [hX0, hX1, hX2, hX]
    try clear hX0 hX1 hX2 hX X
    refine hK _ _ _ ?_
    clear hK hGp hGc hGh
    clear K Gp Gc Gh
    exact zP () [] trivial (by simp) rfl (by simp [hks])
  ·rw [if_neg h2] at hks
   refine zn (by simp; omega) ?_
   exact zh (zP () [] trivial (by simp) rfl (by simp [hks]))
 intro _ _
 clear hks
 obtain ⟨e, tl2, b1, -, -, f1, f0⟩ := el 3 rfl (qc tab b) d (by omega)
 have hee : b = e := by have := ZmJ tab b; rw [htl, b1] at this; exact (Option.some.inj this).symm
 subst hee
 have f11 := f1 1 (by omega)
 have hsp := ZmM 3 rfl (qc tab b) d ⟨true, kk, last⟩ (by omega)
 have hms := ZmK tab b ⟨true, kk, last⟩
 rw [htl] at hms
 rw [hms] at hsp
 have hsp' : yd ((qc tab b).flatMap Enc.enc) (d * 3) [B true, I kk, I last] = (qc tab ⟨true, kk, last⟩).flatMap Enc.enc := hsp
 clear hsp hms
 have hmf : ((qc tab b).flatMap Enc.enc : List PV).length = 195 := by rw [ZmH, hml]
 rcases heok with q | ⟨hbr, -, -, -⟩
 ·subst q
  rw [if_pos (.inl rfl)] at hgo
  subst hgo
  have f0' : ((qc tab zs).flatMap Enc.enc).drop (d * 3) = [B false, I 0, I 0] ++ tl2 := f0
  refine za (zB none (Row.pures [0, 1, 2, 3, 4, 5, 6, 7, 8, 9, 10, 11, 12, 13] .done) mixed (yZ f0' hd65 hml zd3 zL) ?_)
  refine zo rfl (ze [] (yh hd65 hmf hsp' hml) ?_)
  refine ⟨by omega, ?_⟩
  refine ze [] hwl ?_
  exact zp (j + 1) [_] (by omega) (by omega) (by simp) rfl (by simp [hb'e]; rfl)
 ·obtain ⟨r1, r2, r3⟩ := b
  simp only at hbr
  subst hbr
  have hnz : ¬ ((⟨true, r2, r3⟩ : Stp) = zs) := fun e => by cases e
  by_cases hlt : kk < r2
  ·rw [if_pos (.inr hlt)] at hgo
   subst hgo
   refine za (zB none (Row.pures [0, 1, 2, 3, 4, 5, 6, 7, 8, 9, 10, 11, 12, 13] .done) mixed (yg f0 f11 hd65 hml zd3 (zm zd1 hlt)) ?_)
   refine zo rfl (ze [] (yh hd65 hmf hsp' hml) ?_)
   refine ⟨by omega, ?_⟩
   refine ze [] hwl ?_
   exact zp (j + 1) [_] (by omega) (by omega) (by simp) rfl (by simp [hb'e]; rfl)
  ·rw [if_neg (by rintro (q | q); exact hnz q; exact hlt q)] at hgo
   subst hgo
   refine za (zB none (Row.pures [0, 1, 2, 3, 4, 5, 6, 7, 8, 9, 10, 11, 12, 13] .done) mixed (yg f0 f11 hd65 hml zd3 (zm zd1 hlt)) ?_)
   refine zn rfl (zh (ze [] hwl ?_))
   exact zp (j + 1) [_] (by omega) (by omega) (by simp) rfl (by simp [hb'e]; rfl)
open Go Go.Proofs Hp
section
variable {P : Program} {r : Rd} {n N : Nat} {Q : Exit → (Nat → PV) → Store → Prop} {F : Nat → PV} {c : Code}
theorem ZmP {S : Store} {nx : Nat} {obs : List Ob} (j : Nat) {ver e : Nat} {cs : List PV} (hj : obs[j]? = some (.cells ver e cs)) {id v e2 : Nat} {ds : List PV} (hlt : id < nx) (hs : S id = .cells v e2 ds)
  (h : PW P r n N c Q F (ext (S.set id (.cells v e2 (ds.map (yW (nx + j) ver cs)))) nx (obs.set j .dead))) : PW P r n N c Q F (ext S nx obs) := by
 have hjl : j < obs.length := (List.getElem?_eq_some_iff.1 hj).1
 refine ZlQ (id := nx + j) (ver := ver) (e := e) (cs := cs) (G := F) (by rw [yP, List.getD_eq_getElem?_getD, hj]; rfl) (by rw [yP, List.getD_eq_getElem?_getD, List.getElem?_set_self hjl]; rfl) (fun o => ?_) (fun _ => .inl rfl) h
 by_cases ho : o < nx
 ·rw [zH ho, zH ho]
  by_cases hoi : o = id
  ·subst hoi; rw [Store.set_same, hs]; exact .inr (.inr rfl)
  ·rw [Store.set_other _ _ _ _ hoi]; exact .inr (.inl rfl)
 ·simp only [ext]
  rw [if_neg ho, if_neg ho, List.getD_eq_getElem?_getD, List.getD_eq_getElem?_getD, List.getElem?_set]
  split
  ·simp [hjl]
  ·exact .inr (.inl rfl)
theorem XN {S T : Store} {nx nz : Nat} {obs : List Ob} (hd : zV nx S) (hle : nx ≤ nz) (h : ∀ o, o < nx → T o = S o) (o : Nat) : S o = ext T nz obs o ∨ S o = .dead := by
 by_cases ho : o < nx
 ·rw [zH (by omega), h o ho]; exact .inl rfl
 ·exact .inr (hd o (by omega))
end
def vp (x : Inst) (sol : Cust → List Int → List Visit × Bool) (b : Int) (n : Nat) : Nat → List (List Int) → zx × Int
 | 0, _ => ([], 15)
 | k + 1, pr =>
  if (y8 x sol pr).2 ≠ 0 then ([], 15)
  else if jS (qz x (y8 x sol pr).1 b n) = 0 then (q9 x (y8 x sol pr).1 b n, 0)
  else if (qz x (y8 x sol pr).1 b n).any uA = true then ([], 15)
  else vp x sol b n k (Y9 (qz x (y8 x sol pr).1 b n) pr n)
def Yg (x : Inst) (sol : Cust → List Int → List Visit × Bool) (b : Int) (n : Nat) : zx × Int := vp x sol b n 8 (qO x n 0)
def Zeu (x : Inst) (n : Nat) (sol : Cust → List Int → List Visit × Bool) : Prop := ∀ pr, vk x.cust.length n pr → (y8 x sol pr).2 = 0 → VsOk x.cust.length n (y8 x sol pr).1
theorem ZmQ {x : Inst} {sol : Cust → List Int → List Visit × Bool} {b : Int} {n : Nat} (hx : InstH x) (hn : x.days = n) (hn2 : n ≤ 1000) (hs : VW x n sol) (hv : Zeu x n sol) (hb : b ≤ 9223372036854775807) :
  Pure Tryz.prog 31 [.agg (zA x), I b] (.tup [.agg [L (Yg x sol b n).1], I (Yg x sol b n).2]) := by
 have hm := hx.cust
 unfold Yg
 have hPo := Zea x n
 refine zv Tryz.func31 Tryz.ntmps31 Tryz.results31 fun S nx hd => ?_
 refine za (zb ?_)
 intro v0 v1
 refine za (zB (some [nx]) (Row.pures [0, 1, 2, 3, 4] (.alt 5 (Row.pures [6] (.alt 7 (Row.pures [8] .done) .stop)) .stop)) mixed trivial ?_)
 refine ⟨by omega, ?_⟩
 intro v2 v3
 rw [ZlX]
 refine ZlS (α := Int) (nx + 2) v2 45 (nx + 4) 3 1 x.cust.length (by simp) (jM (obs := [_, _, _, _])) fun T ws hR hT hdT => ?_
 have hT0 : T nx = .cells v0 25 (zA x) := by rw [hT nx (by omega) (by omega)]; simp
 have hT1 : T (nx + 1) = .cells v1 38 [.sc (.slice none 0 0)] := by rw [hT (nx + 1) (by omega) (by omega)]; simp
 have hT3 : T (nx + 3) = .cells v3 89 (jH x (.sc (.slice none 0 0)) b (.sc (.slice none 0 0)) (.sc (.slice none 0 0)) (.sl (nx + 2) v2 1 0 x.cust.length)) := by rw [hT (nx + 3) (by omega) (by omega)]; simp
 have hTS : ∀ o, o < nx → T o = S o := fun o ho => by rw [hT o (by omega) (by omega), zH ho]
 clear hT
 obtain ⟨nz, hnz⟩ : ∃ nz, nz = nx + 4 + x.cust.length := ⟨_, rfl⟩
 rw [← hnz] at hdT
 rw [show List.replicate x.cust.length ([] : List Int) = qO x 0 0 from (List.ext_getElem? fun j => by
  by_cases h : j < x.cust.length
  ·simp [qO, h]
  ·rw [List.getElem?_eq_none (by simp; omega), List.getElem?_eq_none (by rw [uy]; omega)])] at hR
 rw [← qi hdT]
 refine za (zT [] (by rfl) (by rfl) fun K Gc Gh hK hGc hGh X hX0 hX => ?_)
 simp -implicitDefEqProofs [hX0, hX]
 try clear hX0 hX X
 refine hGc _ _ _ _ _ _ _ fun hsuf => (Spec.mono (Zd7 (nx := nz) (by rw [qi hdT]; exact hdT) x _ _ _ _ _ _ _ n hn hn2 (by rw [qi hdT]; exact hT3)
  (fun k T' => (∃ ws', RowsAt T' (nx + 2) v2 45 (nx + 4) 3 1 ws' (qO x k 0)) ∧ (∀ o, o ≠ nx + 2 → (o < nx + 4 ∨ nx + 4 + x.cust.length ≤ o) → T' o = T o)) ⟨⟨ws, by rw [qi hdT]; exact hR⟩, fun o _ _ => by rw [qi hdT]⟩
  (fun k T' h o ho => by rw [h.2 o (by omega) (.inr (by omega))]; exact hdT o ho) (fun k hk T' h => ?_)) ?_).v
 ·obtain ⟨⟨ws', h1⟩, h2⟩ := h
  refine (Zl2 k hm (by omega) (by omega) (by omega) ((h2 (nx + 3) (by omega) (.inl (by omega))).trans hT3) h1).mono ?_
  rintro _ T2 ⟨g1, g2⟩
  exact ⟨g1, fun o o1 o2 => (g2 o o1 o2).trans (h2 o o1 o2)⟩
 rintro _ T' ⟨⟨ws', hR'⟩, hT'⟩
 have hdT' : zV nz T' := fun o ho => by rw [hT' o (by omega) (.inr (by omega))]; exact hdT o ho
 refine ⟨T', [], (qi hdT').symm, ?_⟩
 clear hGc hGh
 clear Gc Gh
 refine zQ hsuf (D := []) (by rfl) fun Gc Gh hGc hGh X hX0 hX => ?_
 simp -implicitDefEqProofs [hX0, hX]
 clear hX0 hX X
 refine hK _ _ _ ?_
 clear hK hGc hGh
 clear K Gc Gh
 replace hT0 := (hT' nx (by omega) (.inl (by omega))).trans hT0
 replace hT1 := (hT' (nx + 1) (by omega) (.inl (by omega))).trans hT1
 replace hT3 := (hT' (nx + 3) (by omega) (.inl (by omega))).trans hT3
 replace hTS : ∀ o, o < nx → T' o = S o := fun o ho => (hT' o (by omega) (.inl (by omega))).trans (hTS o ho)
 clear hT' hR hdT
 generalize qO x n 0 = pr0 at *
 repeat apply za
 refine zb ?_
 refine zj (jl (σ := Nat × Store × List (List Int)) (fun s => s.1 ≤ 8 ∧ vk x.cust.length n s.2.2 ∧ vp x sol b n 8 pr0 = vp x sol b n (8 - s.1) s.2.2 ∧ (∃ ws', RowsAt s.2.1 (nx + 2) v2 45 (nx + 4) 3 1 ws' s.2.2) ∧ s.2.1 nx = .cells v0 25 (zA x) ∧ s.2.1 (nx + 1) = .cells v1 38 [.sc (.slice none 0 0)] ∧
  (∃ vP pP fP, s.2.1 (nx + 3) = .cells v3 89 (jH x vP b pP fP (.sl (nx + 2) v2 1 0 x.cust.length))) ∧ (∀ o, o < nx → s.2.1 o = S o) ∧ zV nz s.2.1)
  (fun s => [(2, .ptr nx v0 0), (4, .ptr (nx + 1) v1 0), (6, .ptr (nx + 3) v3 0), (21, I s.1)]) (fun s => s.2.1) (fun _ => []) (fun s => 8 - s.1) (zP (0, T', pr0) [] ⟨by simp, hPo, rfl, ⟨ws', hR'⟩, hT0, hT1, ⟨_, _, _, hT3⟩, hTS, hdT'⟩ (by simp) rfl (by simp)) ?_)
 clear hR' hT0 hT1 hT3 hTS hdT' hPo T'
 rintro ⟨k, T, pr⟩ ⟨hk, hP, hst, ⟨ws, hR⟩, hT0, hT1, ⟨vP, pP, fP, hT3⟩, hTS, hdT⟩
 simp only at hk hP hst hR hT0 hT1 hT3 hTS hdT ⊢
 have x0 := fun obs => (zH (S := T) (nx := nz) (obs := obs) (i := nx) (by omega)).trans hT0
 have x3 := fun obs => (zH (S := T) (nx := nz) (obs := obs) (i := nx + 3) (by omega)).trans hT3
 have g1 : ¬ nz ≤ nx + 1 := by omega
 have x1 := fun obs => (zH (S := T) (nx := nz) (obs := obs) (i := nx + 1) (by omega)).trans hT1
 refine za (zb ?_)
 refine za (zr rfl (fun hc => ?_) (fun hc => ?_))
 ·simp at hc
  rw [show 8 - k = (7 - k) + 1 from by omega] at hst
  have hvs := hv pr hP
  have hch := Zmc (S := T) hm hP hR hs
  rw [show vp x sol b n (7 - k + 1) pr = (if (y8 x sol pr).2 ≠ 0 then ([], 15) else if jS (qz x (y8 x sol pr).1 b n) = 0 then (q9 x (y8 x sol pr).1 b n, 0) else if (qz x (y8 x sol pr).1 b n).any uA = true then ([], 15) else vp x sol b n (7 - k) (Y9 (qz x (y8 x sol pr).1 b n) pr n)) from rfl] at hst
  generalize y8 x sol pr = cz at hst hvs hch
  obtain ⟨v, e⟩ := cz
  simp only at hst hvs hch
  refine zh (za (zj (za (vC none (Row.pures [0, 1, 2, 3, 4] (.alt 5 (Row.pures [6, 7, 8, 9, 10] .done) .stop)) mixed (by rfl) (by rfl) (by rfl) fun K Gp Gc Gh hK hGp hGc hGh X hX0 hX1 hX2 hX => ?_))))
  simp -implicitDefEqProofs [hX0, hX1, hX2, hX, x0, x3]
  try clear hX0 hX1 hX2 hX X
  refine hGc _ _ _ _ _ _ _ (Spec.mono (by rw [qi hdT]; exact hch) ?_).v
  rintro _ S2 ⟨rfl, hS2⟩
  have hS3 : S2 = ext T nz [] := hS2.trans (qi hdT).symm
  subst hS3
  clear hS2
  refine ⟨by simp [yE], ?_⟩
  clear hGp hGc hGh
  clear Gp Gc Gh
  refine jY fun Gp Gc Gh hGp hGc hGh X hX0 hX1 hX2 hX => ?_
  simp -implicitDefEqProofs [hX0, hX1, hX2, hX]
  try clear hX0 hX1 hX2 hX X
  refine hK _ _ _ ?_
  clear hK hGp hGc hGh
  clear K Gp Gc Gh
  repeat apply za
  refine zb ?_
  by_cases he : e = 0
  case neg =>
   rw [if_pos he] at hst
   rw [hst]
   refine zo (by simp [he]) ?_
   refine za (ze [] (zF x0 x1 g1) ?_)
   show PW _ _ _ _ _ _ _ (ext _ _ _)
   refine Xc (o := nx + 1) 0 (by rw [zH (by omega)]; first | exact Store.set_same _ _ _ | exact hT1) rfl ?_
   rw [jX _ (by omega)]
   try rw [Store.set_set]
   refine zg ⟨_, S, (by simp [zH (show nx + 1 < nz from by omega), Store.set_same]; rfl), ⟨by simp [zq], rfl⟩, ?_⟩
   exact XN hd (by omega) fun o ho => by rw [Store.set_other _ _ _ _ (by omega)]; exact hTS o ho
  rw [if_neg (by simpa using he)] at hst
  have hvs := hvs he
  refine zn (by simp [he]) ?_
  refine zh ?_
  repeat apply za
  refine zT [] (by rfl) (by rfl) fun K Gc Gh hK hGc hGh X hX0 hX => ?_
  simp -implicitDefEqProofs [hX0, hX]
  try clear hX0 hX X
  refine hGc _ _ _ _ _ _ _ fun hsuf => (Spec.mono (ZlW (nx := nz) (n := n) (by rw [qi hdT]; exact hdT) (by rw [qi hdT]; exact hT3) hx hn hn2 hvs hb) ?_).v
  rintro _ _ ⟨rfl, vD, vF, rfl⟩
  rw [qi hdT]
  refine ⟨_, _, rfl, ?_⟩
  clear hGc hGh
  clear Gc Gh
  refine zQ hsuf (D := []) (by rfl) fun Gc Gh hGc hGh X hX0 hX => ?_
  simp -implicitDefEqProofs [hX0, hX]
  clear hX0 hX X
  refine hK _ _ _ ?_
  clear hK hGc hGh
  clear K Gc Gh
  have hfl := ZdW x v b n
  have hpl := Q5 x v b n
  generalize qz x v b n = fs at *
  generalize q9 x v b n = pl at *
  by_cases hf : jS fs = 0
  ·rw [if_pos hf] at hst
   rw [hst]
   refine zo (by simp [hf]) ?_
   show PW _ _ _ _ _ _ _ (ext _ _ _)
   refine ZmP 0 (id := nx + 3) rfl (by omega) (Store.set_same _ _ _) ?_
   rw [Store.set_set]
   have hfz : ([I x.days, I x.veh, I x.cap, I x.len, L x.cust, L x.dist, L v, I b, .sl nz vD 1 0 pl.length, .sl (nz + 1) vF 1 0 fs.length, .sl (nx + 2) v2 1 0 x.cust.length] : List PV).map (yW (nz + 0) vD (pl.flatMap Enc.enc)) = jH x (L v) b (L pl) (.sl (nz + 1) vF 1 0 fs.length) (.sl (nx + 2) v2 1 0 x.cust.length) := by
    simp [yW]
    omega
   rw [hfz]
   have y3 := fun (o : Ob) obs => (zH (S := T.set (nx + 3) o) (nx := nz) (obs := obs) (i := nx + 3) (by omega)).trans (Store.set_same _ _ _)
   have y1 := fun (o : Ob) obs => (zH (S := T.set (nx + 3) o) (nx := nz) (obs := obs) (i := nx + 1) (by omega)).trans ((Store.set_other _ _ _ _ (by omega)).trans hT1)
   refine za (ze [] (zF y3 y1 g1) ?_)
   refine zg ⟨_, S, (by simp [zH (show nx + 1 < nz from by omega), Store.set_same]; rfl), ⟨by simp [zq], rfl⟩, ?_⟩
   exact XN hd (by omega) fun o ho => by rw [Store.set_other _ _ _ _ (by omega), Store.set_other _ _ _ _ (by omega)]; exact hTS o ho
  rw [if_neg hf] at hst
  refine zn (by simp [hf]) ?_
  refine zh ?_
  have y3 := fun (o : Ob) obs => (zH (S := T.set (nx + 3) o) (nx := nz) (obs := obs) (i := nx + 3) (by omega)).trans (Store.set_same _ _ _)
  have y1 := fun (o : Ob) obs => (zH (S := T.set (nx + 3) o) (nx := nz) (obs := obs) (i := nx + 1) (by omega)).trans ((Store.set_other _ _ _ _ (by omega)).trans hT1)
  repeat apply za
  refine zT [] (by rfl) (by rfl) fun K Gc Gh hK hGc hGh X hX0 hX => ?_
  simp -implicitDefEqProofs [hX0, hX, y3]
  try clear hX0 hX X
  refine hGc _ _ _ _ _ _ _ fun hsuf => ((Zma (idF := nz + 1) (vF := vF) fs (by rw [yP]; rfl) (by omega)).mono ?_).v
  rintro _ _ ⟨rfl, rfl⟩
  refine ⟨_, _, rfl, ?_⟩
  clear hGc hGh
  clear Gc Gh
  refine zQ hsuf (D := []) (by rfl) fun Gc Gh hGc hGh X hX0 hX => ?_
  simp -implicitDefEqProofs [hX0, hX]
  clear hX0 hX X
  refine hK _ _ _ ?_
  clear hK hGc hGh
  clear K Gc Gh
  cases hbad : fs.any uA with
  | true =>
   rw [if_pos hbad] at hst
   rw [hst]
   refine zo rfl (za (ze [] (zm y1 g1) ?_))
   show PW _ _ _ _ _ _ _ (ext _ _ _)
   refine Xc (o := nx + 1) 0 (by rw [zH (by omega)]; first | exact Store.set_same _ _ _ | exact (Store.set_other _ _ _ _ (by omega)).trans hT1) rfl ?_
   rw [jX _ (by omega)]
   try rw [Store.set_set]
   refine zg ⟨_, S, (by simp [zH (show nx + 1 < nz from by omega), Store.set_same]; rfl), ⟨by simp [zq], rfl⟩, ?_⟩
   exact XN hd (by omega) fun o ho => by rw [Store.set_other _ _ _ _ (by omega), Store.set_other _ _ _ _ (by omega)]; exact hTS o ho
  | false =>
   rw [if_neg (by rw [hbad]; decide)] at hst
   refine zn rfl (zh ?_)
   generalize hT2 : ext (T.set (nx + 3) (.cells v3 89 (jH x (L v) b (.sl nz vD 1 0 pl.length) (.sl (nz + 1) vF 1 0 fs.length) (.sl (nx + 2) v2 1 0 x.cust.length)))) nz [.cells vD 58 (pl.flatMap Enc.enc), .cells vF 39 (fs.flatMap Enc.enc)] = T2
   have q3 : T2 (nx + 3) = .cells v3 89 (jH x (L v) b (.sl nz vD 1 0 pl.length) (.sl (nz + 1) vF 1 0 fs.length) (.sl (nx + 2) v2 1 0 x.cust.length)) := by rw [← hT2, zH (by omega), Store.set_same]
   have qF : T2 (nz + 1) = .cells vF 39 (fs.flatMap Enc.enc) := by rw [← hT2, yP]; rfl
   have qo : ∀ o, o < nz → o ≠ nx + 3 → T2 o = T o := fun o h1 h2 => by rw [← hT2, zH h1, Store.set_other _ _ _ _ h2]
   have qd : zV (nz + 2) T2 := by rw [← hT2]; exact jM (obs := [_, _])
   have qR : RowsAt T2 (nx + 2) v2 45 (nx + 4) 3 1 ws pr := hR.other fun o ho => by
    rw [hP.1] at ho
    exact qo o (by omega) (by omega)
   clear hT2
   rw [← qi qd]
   refine zT [] (by rfl) (by rfl) fun K Gc Gh hK hGc hGh X hX0 hX => ?_
   simp -implicitDefEqProofs [hX0, hX]
   try clear hX0 hX X
   refine hGc _ _ _ _ _ _ _ fun hsuf => (Spec.mono (Zd7 (nx := nz + 2) (by rw [qi qd]; exact qd) x _ _ _ _ _ _ _ n hn hn2 (by rw [qi qd]; exact q3)
    (fun k T' => RowsAt T' (nx + 2) v2 45 (nx + 4) 3 1 ws (Y9 fs pr k) ∧ (∀ o, (o < nx + 4 ∨ nx + 4 + x.cust.length ≤ o) → T' o = T2 o)) ⟨by rw [qi qd]; exact qR, fun o _ => by rw [qi qd]⟩
    (fun k T' h o ho => by rw [h.2 o (.inr (by omega))]; exact qd o ho) (fun j hj T' h => ?_)) ?_).v
   ·obtain ⟨h1, h2⟩ := h
    refine (Zl7 (n := n) j hm hn2 hj (by omega) (by omega) ((h2 (nz + 1) (.inr (by omega))).trans qF) hfl ((h2 (nx + 3) (.inl (by omega))).trans q3) (Q7 fs hP j) h1).mono ?_
    rintro _ T3 ⟨r1, r2⟩
    exact ⟨r1, fun o o1 => (r2 o o1).trans (h2 o o1)⟩
   rintro _ T3 ⟨hR3, hT3'⟩
   have hd3 : zV (nz + 2) T3 := fun o ho => by rw [hT3' o (.inr (by omega))]; exact qd o ho
   refine ⟨T3, [], (qi hd3).symm, ?_⟩
   clear hGc hGh
   clear Gc Gh
   refine zQ hsuf (D := []) (by rfl) fun Gc Gh hGc hGh X hX0 hX => ?_
   simp -implicitDefEqProofs [hX0, hX]
   clear hX0 hX X
   refine hK _ _ _ ?_
   clear hK hGc hGh
   clear K Gc Gh
   rw [qi hd3]
   refine Za5 (T' := fun o => if o < nz then T3 o else .dead) (fun o => by by_cases ho : o < nz <;> simp [ho]) ?_
   generalize hT4 : (fun o => if o < nz then T3 o else Ob.dead) = T4
   have q4 : ∀ o, o < nz → T4 o = T3 o := fun o ho => by rw [← hT4]; simp [ho]
   have qd4 : zV nz T4 := fun o ho => by rw [← hT4]; simp; omega
   clear hT4
   rw [← qi qd4]
   refine zb ?_
   refine zp (k + 1, T4, Y9 fs pr n) [] ⟨by dsimp only; omega, Q7 fs hP n, by rw [hst, show 8 - (k + 1) = 7 - k from by omega], ⟨ws, hR3.other fun o ho => q4 o (by rw [(Q7 fs hP n).1] at ho; omega)⟩, ?_, ?_, ⟨L v, .sl nz vD 1 0 pl.length, .sl (nz + 1) vF 1 0 fs.length, ?_⟩, fun o ho => ?_, qd4⟩ (by simp; omega) (by simp [zt k (by omega)]) rfl (by simp)
   ·dsimp only; rw [q4 _ (by omega), hT3' _ (.inl (by omega)), qo _ (by omega) (by omega)]; exact hT0
   ·dsimp only; rw [q4 _ (by omega), hT3' _ (.inl (by omega)), qo _ (by omega) (by omega)]; exact hT1
   ·dsimp only; rw [q4 _ (by omega), hT3' _ (.inl (by omega))]; exact q3
   ·dsimp only; rw [q4 _ (by omega), hT3' _ (.inl (by omega)), qo _ (by omega) (by omega)]; exact hTS o ho
 ·simp at hc
  obtain rfl : k = 8 := by omega
  rw [hst]
  refine zy (za (ze [] (zm x1 g1) ?_))
  show PW _ _ _ _ _ _ _ (ext _ _ _)
  refine Xc (o := nx + 1) 0 (by rw [zH (by omega)]; first | exact Store.set_same _ _ _ | exact hT1) rfl ?_
  rw [jX _ (by omega)]
  try rw [Store.set_set]
  refine zg ⟨_, S, (by simp [zH (show nx + 1 < nz from by omega), Store.set_same]; rfl), ⟨by simp [zq, vp], rfl⟩, ?_⟩
  exact XN hd (by omega) fun o ho => by rw [Store.set_other _ _ _ _ (by omega)]; exact hTS o ho
open Go Go.Proofs Hp
def jd : List Int → Int
 | [] => -1
 | d :: ds => (d :: ds).getLast (by simp)
theorem Yh (ds : List Int) (d : Int) : jd (ds ++ [d]) = d := by
 cases ds with
 | nil => rfl
 | cons a ds => show (a :: (ds ++ [d])).getLast _ = d; rw [List.getLast_cons (by simp), List.getLast_append_of_ne_nil _ (by simp)]; rfl
def Zev (c : Cust) (cap : Int) (last d : Int) : Prop := 0 ≤ (yD c last d).1 ∧ jT c (yD c last d).1 cap ≠ 0
inductive FilS (c : Cust) (cap : Int) (n : Nat) : List Int → Prop where
 | nil : FilS c cap n []
 | snoc {ds : List Int} {d : Int} (h : FilS c cap n ds) (h1 : jd ds < d) (h2 : d < n) (h3 : Zev c cap (jd ds) d) : FilS c cap n (ds ++ [d])
theorem FilS.lo {c : Cust} {cap : Int} {n : Nat} {ds : List Int} (h : FilS c cap n ds) : -1 ≤ jd ds ∧ (∀ d ∈ ds, 0 ≤ d ∧ d < n ∧ d ≤ jd ds) := by
 induction h with
 | nil => exact ⟨by decide, by simp⟩
 | snoc h h1 h2 h3 ih =>
  rw [Yh]
  refine ⟨by omega, fun d hd => ?_⟩
  rcases List.mem_append.1 hd with hd | hd
  ·have := ih.2 d hd; omega
  ·rw [List.mem_singleton.1 hd]; omega
theorem FilS.inc {c : Cust} {cap : Int} {n : Nat} {ds : List Int} (h : FilS c cap n ds) : ds.Pairwise (· < ·) := by
 induction h with
 | nil => exact .nil
 | snoc h h1 h2 h3 ih =>
  rw [List.pairwise_append]
  refine ⟨ih, by simp, fun a ha b hb => ?_⟩
  rw [List.mem_singleton.1 hb]
  have := h.lo.2 a ha; omega
theorem V4 (c : Cust) (ds : List Int) : (yH c ds).2 = jd ds := by
 rcases List.eq_nil_or_concat ds with rfl | ⟨l, d, rfl⟩
 ·rfl
 ·rw [List.concat_eq_append, Qd, Yh]; rfl
theorem V5 (c : Cust) : ∀ ds : List Int, (yH c ds).1.map (·.d) = ds := by
 have : ∀ (ds : List Int) (st : List Visit × Int), (ds.foldl (vW c) st).1.map (·.d) = st.1.map (·.d) ++ ds := by
  intro ds
  induction ds with
  | nil => intro st; simp
  | cons d ds ih => intro st; rw [List.foldl_cons, ih]; simp [vW]
 intro ds
 unfold yH; rw [this]; simp
theorem V6 {c : Cust} (hc : CustFits c) {cap last d : Int} (h : Zev c cap last d) : W (c.size - (yD c last d).1) = c.size - (yD c last d).1 ∧ 1 ≤ c.size - (yD c last d).1 ∧ c.size - (yD c last d).1 ≤ 2147483648 ∧ (c.rule = 1 → c.size - (yD c last d).1 ≤ cap) := by
 obtain ⟨h1, h2⟩ := h
 have hs := hc.size
 generalize (yD c last d).1 = th at *
 unfold jT at h2
 split at h2
 ·exact absurd rfl h2
 rename_i h3
 refine ⟨wr _ (by omega) (by omega), by omega, by omega, fun hr => ?_⟩
 split at h2
 ·assumption
 ·first | exact absurd rfl h2 | exact absurd hr (by assumption) | (rw [if_pos hr] at h2; exact absurd rfl h2)
theorem Zew {c : Cust} (hc : CustFits c) {cap : Int} {n : Nat} (hn : n ≤ 60) {ds : List Int} (h : FilS c cap n ds) : GoodV n (yH c ds).1 := by
 have hlen : ds.length ≤ 64 := by
  have h1 := Zeg (m := n) ds (h.inc.imp fun h => Int.ne_of_lt h) (fun d hd => by have := h.lo.2 d hd; omega)
  omega
 refine ⟨by rw [Zep]; exact hlen, ?_, by rw [V5]; exact h.inc.imp fun h => Int.ne_of_lt h⟩
 induction h with
 | nil => intro s hs; cases hs
 | @snoc ds d h h1 h2 h3 ih =>
  intro s hs
  rw [Qd] at hs
  simp only [vW] at hs
  rcases List.mem_append.1 hs with hs | hs
  ·exact ih (by simp at hlen; omega) s hs
  ·rw [List.mem_singleton.1 hs]
   rw [V4]
   obtain ⟨q1, q2, q3, -⟩ := V6 hc h3
   have := h.lo.1
   refine ⟨by dsimp only; omega, ?_⟩
   dsimp only
   rw [q1]; omega
def ZB (tab : List Stp) : Nat → Int → List Int
 | 0, _ => []
 | f + 1, d => if d < 0 then [] else d :: ZB tab f (tab.getD d.toNat zs).l
def XO (c : Cust) (n : Nat) (cap : Int) (tab : List Stp) : Prop := ∀ (d : Nat) (e : Stp), tab[d]? = some e → e ≠ zs → -1 ≤ e.l ∧ e.l < d ∧ (0 ≤ e.l → tab.getD e.l.toNat zs ≠ zs) ∧ 0 ≤ (yD c e.l d).1 ∧ (d < n → jT c (yD c e.l d).1 cap ≠ 0)
theorem Zex (c : Cust) (n : Nat) (cap : Int) (price : List Int) : ∀ k, XO c n cap (qP c n cap price k)
 | 0 => by intro d e h; cases h
 | k + 1 => by
  have ih := Zex c n cap price k
  have hl := Jb c n cap price k
  have he := XL c n cap price (qP c n cap price k) k (k + 1)
  have hok := V3 c n cap price (k + 1)
  intro d e h hne
  have hok := hok d e h
  simp only [qP] at h hok ⊢
  rcases hok with q | ⟨-, q2, q3, q4⟩
  ·exact absurd q hne
  refine ⟨q2, q3, q4, ?_⟩
  by_cases hd : d < k
  ·rw [List.getElem?_append_left (by omega)] at h
   exact (ih d e h hne).2.2.2
  ·rw [List.getElem?_append_right (by omega), hl] at h
   obtain rfl : d = k := by
    rcases Nat.lt_or_ge (d - k) 1 with q | q
    ·omega
    ·rw [List.getElem?_eq_none (by simpa using q)] at h; cases h
   rw [Nat.sub_self] at h
   simp only [List.getElem?_cons_zero, Option.some.injEq] at h
   subst h
   rcases he with q | ⟨-, -, -, p4⟩
   ·exact absurd q hne
   ·have := p4.2
    exact ⟨by omega, fun hdn hm => this (.inr ⟨hdn, hm⟩)⟩
theorem V7 {c : Cust} {n : Nat} {cap : Int} {tab : List Stp} (h : XO c n cap tab) : ∀ (f : Nat) (d : Int), -1 ≤ d → d < f → d < n → (0 ≤ d → tab.getD d.toNat zs ≠ zs) → FilS c cap n (ZB tab f d).reverse ∧ jd (ZB tab f d).reverse = d
 | 0, d, h1, h2, _, _ => by
  obtain rfl : d = -1 := by omega
  exact ⟨.nil, rfl⟩
 | f + 1, d, h1, h2, h3, h4 => by
  unfold ZB
  by_cases hd : d < 0
  ·rw [if_pos hd]
   obtain rfl : d = -1 := by omega
   exact ⟨.nil, rfl⟩
  ·rw [if_neg hd, List.reverse_cons]
   have h4 := h4 (by omega)
   obtain ⟨i, rfl⟩ := Int.eq_ofNat_of_zero_le (show 0 ≤ d by omega)
   rw [Int.toNat_natCast] at h4 ⊢
   have he : ∃ e, tab[i]? = some e ∧ tab.getD i zs = e := by
    cases hq : tab[i]? with
    | none => exfalso; apply h4; rw [List.getD_eq_getElem?_getD, hq]; rfl
    | some e => exact ⟨e, rfl, by rw [List.getD_eq_getElem?_getD, hq]; rfl⟩
   obtain ⟨e, he1, he2⟩ := he
   rw [he2] at h4 ⊢
   obtain ⟨g1, g2, g3, g4, g5⟩ := h i e he1 h4
   obtain ⟨p1, p2⟩ := V7 h f e.l g1 (by omega) (by omega) g3
   exact ⟨.snoc p1 (by rw [p2]; exact g2) h3 (by rw [p2]; exact ⟨g4, g5 (by omega)⟩), Yh _ _⟩
theorem ZmR (s : Nat) (d i : Nat) (hd : d < 64) : yQ (jR s d) i = 1 ↔ yQ s i = 1 ∨ i = d := by
 have h : ((jR s d).testBit i) = (s.testBit i || decide (d = i)) := by
  unfold jR
  rw [if_pos (by omega), Int.toNat_natCast, Nat.testBit_or, Nat.testBit_two_pow]
 rw [Y4, Y4] at h
 have h2 : decide (yQ (jR s d) i = 1) = (decide (yQ s i = 1) || decide (d = i)) := by simpa using h
 constructor
 ·intro q
  rw [decide_eq_true q] at h2
  have := h2.symm
  rw [Bool.or_eq_true, decide_eq_true_eq, decide_eq_true_eq] at this
  omega
 ·intro q
  have : (decide (yQ s i = 1) || decide (d = i)) = true := by
   rw [Bool.or_eq_true, decide_eq_true_eq, decide_eq_true_eq]; omega
  rw [this] at h2
  exact of_decide_eq_true h2
theorem Zey {c : Cust} {n : Nat} {cap : Int} {tab : List Stp} (h : XO c n cap tab) (hn : n ≤ 60) : ∀ (f s : Nat) (d : Int), -1 ≤ d → d < n → (0 ≤ d → tab.getD d.toNat zs ≠ zs) → ∀ i : Nat, yQ (wD tab f s d) i = 1 ↔ yQ s i = 1 ∨ (i : Int) ∈ ZB tab f d
 | 0, s, d, _, _, _ => fun i => by simp [wD, ZB]
 | f + 1, s, d, h1, h3, h4 => fun i => by
  unfold wD ZB
  by_cases hd : d < 0
  ·rw [if_pos hd, if_pos hd]; simp
  ·rw [if_neg hd, if_neg hd]
   have h4 := h4 (by omega)
   obtain ⟨k, rfl⟩ := Int.eq_ofNat_of_zero_le (show 0 ≤ d by omega)
   rw [Int.toNat_natCast] at h4 ⊢
   have he : ∃ e, tab[k]? = some e ∧ tab.getD k zs = e := by
    cases hq : tab[k]? with
    | none => exfalso; apply h4; rw [List.getD_eq_getElem?_getD, hq]; rfl
    | some e => exact ⟨e, rfl, by rw [List.getD_eq_getElem?_getD, hq]; rfl⟩
   obtain ⟨e, he1, he2⟩ := he
   rw [he2] at h4 ⊢
   obtain ⟨g1, g2, g3, -⟩ := h k e he1 h4
   rw [Zey h hn f _ e.l g1 (by omega) g3 i, ZmR s k i (by omega), List.mem_cons, Int.natCast_inj, or_assoc]
theorem ZmS : ∀ {a b : List Int}, a.Pairwise (· < ·) → b.Pairwise (· < ·) → (∀ z, z ∈ a ↔ z ∈ b) → a = b := by
 intro a b ha hb h
 have hp : a.Perm b := (List.perm_ext_iff_of_nodup (ha.imp fun h => Int.ne_of_lt h) (hb.imp fun h => Int.ne_of_lt h)).2 h
 exact ZcJ hp (ha.imp fun h => Int.le_of_lt h) (hb.imp fun h => Int.le_of_lt h)
theorem Zez (s a k : Nat) : (yy s a k).Pairwise (· < ·) := by
 unfold yy
 rw [List.pairwise_map]
 have h : (List.range k).Pairwise (· < ·) := List.pairwise_lt_range
 exact (h.sublist List.filter_sublist).imp fun h => by omega
theorem ZmT {c : Cust} {n : Nat} {cap : Int} {tab : List Stp} (h : XO c n cap tab) (hn : n ≤ 60) {d : Int} (h1 : -1 ≤ d) (h3 : d < n) (h4 : 0 ≤ d → tab.getD d.toNat zs ≠ zs) : yy (wD tab 65 0 d) 0 64 = (ZB tab 65 d).reverse := by
 obtain ⟨hf, -⟩ := V7 h 65 d h1 (by omega) h3 h4
 refine ZmS (Zez _ _ _) hf.inc fun z => ?_
 have hb := Zey h hn 65 0 d h1 h3 h4
 have h0 : ∀ i, ¬ yQ 0 i = 1 := by intro i; simp [yQ]
 rw [List.mem_reverse]
 constructor
 ·intro hz
  obtain ⟨i, rfl, _, hi⟩ := Z9 hz
  exact ((hb i).1 hi).resolve_left (h0 i)
 ·intro hz
  have hlo := hf.lo.2 z (List.mem_reverse.2 hz)
  obtain ⟨i, rfl⟩ := Int.eq_ofNat_of_zero_le hlo.1
  simp only [yy, List.mem_map, List.mem_filter, List.mem_range, Bool.and_eq_true, decide_eq_true_eq]
  exact ⟨i, ⟨by omega, by omega, (hb i).2 (.inr hz)⟩, rfl⟩
theorem ZeA {c : Cust} {n : Nat} (hn : n ≤ 60) {cap : Int} {price : List Int} (h : (ZA c n cap price).2 = true) : ∃ ds, FilS c cap n ds ∧ 0 ≤ (yD c (jd ds) n).1 ∧ (ZA c n cap price).1 = (yH c ds).1 := by
 have hfit := Zex c n cap price (n + 1)
 have hl := Jb c n cap price (n + 1)
 unfold ZA at h ⊢
 generalize qP c n cap price (n + 1) = tab at *
 split at h
 ·cases h
 rename_i hne
 rw [if_neg hne]
 have he : ∃ e, tab[n]? = some e ∧ tab.getD n zs = e := ⟨_, List.getElem?_eq_getElem (by omega), by rw [List.getD_eq_getElem?_getD, List.getElem?_eq_getElem (by omega)]; rfl⟩
 obtain ⟨e, he1, he2⟩ := he
 rw [he2] at hne ⊢
 obtain ⟨g1, g2, g3, g4, -⟩ := hfit n e he1 hne
 obtain ⟨p1, p2⟩ := V7 hfit 65 e.l g1 (by omega) g2 g3
 exact ⟨_, p1, by rw [p2]; exact g4, by rw [ZmT hfit hn g1 g2 g3]⟩
def y9 (n : Nat) (cap : Int) (c : Cust) (price : List Int) : List Visit × Bool :=
 if c.kind = 1 then we c cap price else if c.rule = 1 then ZA c n cap price else Ye c n cap price
theorem ZeB {S : Store} {pl : PV} {price : List Int} (c : Cust) (n : Nat) (cap : Int) (hR : RowOf S pl price) (hp : ∀ z ∈ price, z8 z) (hpl : price.length ≤ 1000) (hm : CustMade c n) (hpc : c.pats.length ≤ 1000) (hn : n ≤ 60) :
  Spec Tryz.prog 111 [.agg (zY c), I n, I cap, pl] S (fun q S' => q = .tup [L (y9 n cap c price).1, B (y9 n cap c price).2] ∧ S' = S) := by
 unfold y9
 by_cases hk : c.kind = 1
 ·rw [if_pos hk]
  exact Zmz c n cap hk hR hp hpl hpc hm.pats
 rw [if_neg hk]
 by_cases hr : c.rule = 1
 ·rw [if_pos hr]
  have hs := fun S (hR : RowOf S pl price) => ZmO c n cap hR hm.fits hn
  generalize ZA c n cap price = r at *
  obtain ⟨v, ok⟩ := r
  simp only at hs ⊢
  refine yT Tryz.func111 Tryz.ntmps111 Tryz.results111 fun nx hd => ?_
  refine za (zb ?_)
  intro v0
  refine za (zj (za (ze [] hk ?_)))
  refine zn (by simp [hk]) ?_
  refine za (ze [] hr ?_)
  refine zo (by simp [hr]) ?_
  refine za (zT [] (by rfl) (by rfl) fun K Gc Gh hK hGc hGh X hX0 hX => ?_)
  simp -implicitDefEqProofs [hX0, hX]
  try clear hX0 hX X
  refine hGc _ _ _ _ _ _ _ fun hsuf => ((hs _ (hR.ext hd _)).mono ?_).v
  rintro _ _ ⟨rfl, rfl⟩
  refine ⟨_, _, rfl, ?_⟩
  clear hGc hGh
  clear Gc Gh
  refine zQ hsuf (D := []) (by rfl) fun Gc Gh hGc hGh X hX0 hX => ?_
  simp -implicitDefEqProofs [hX0, hX]
  clear hX0 hX X
  refine hK _ _ _ ?_
  clear hK hGc hGh
  clear K Gc Gh
  exact zg ⟨_, S, (by simp; rfl), ⟨by simp [zq], rfl⟩, yb hd⟩
 ·rw [if_neg hr]
  have hs := fun S (hR : RowOf S pl price) => ZmF c n cap hR hm.fits (by omega)
  generalize Ye c n cap price = r at *
  obtain ⟨v, ok⟩ := r
  simp only at hs ⊢
  refine yT Tryz.func111 Tryz.ntmps111 Tryz.results111 fun nx hd => ?_
  refine za (zb ?_)
  intro v0
  refine za (zj (za (ze [] hk ?_)))
  refine zn (by simp [hk]) ?_
  refine za (ze [] hr ?_)
  refine zn (by simp [hr]) ?_
  refine zh (za (zT [] (by rfl) (by rfl) fun K Gc Gh hK hGc hGh X hX0 hX => ?_))
  simp -implicitDefEqProofs [hX0, hX]
  try clear hX0 hX X
  refine hGc _ _ _ _ _ _ _ fun hsuf => ((hs _ (hR.ext hd _)).mono ?_).v
  rintro _ _ ⟨rfl, rfl⟩
  refine ⟨_, _, rfl, ?_⟩
  clear hGc hGh
  clear Gc Gh
  refine zQ hsuf (D := []) (by rfl) fun Gc Gh hGc hGh X hX0 hX => ?_
  simp -implicitDefEqProofs [hX0, hX]
  clear hX0 hX X
  refine hK _ _ _ ?_
  clear hK hGc hGh
  clear K Gc Gh
  exact zg ⟨_, S, (by simp; rfl), ⟨by simp [zq], rfl⟩, yb hd⟩
theorem ZmU {c : Cust} {n : Nat} (hm : CustMade c n) (hk : c.kind = 1) {p : Nat} (hp : p ∈ c.pats) : GoodV n (jI c p) := by
 obtain ⟨h1, h2⟩ := hm.per hk
 refine ⟨by simp only [jI, List.length_map]; exact Q1 _ _ _, fun s hs => ?_, by simp only [jI, List.map_map]; exact (by simpa [Function.comp_def] using ZlY p 0 64)⟩
 simp only [jI, List.mem_map] at hs
 obtain ⟨d, hd, rfl⟩ := hs
 have h0 : 0 ≤ d := by
  simp only [yy, List.mem_map] at hd
  obtain ⟨i, _, rfl⟩ := hd; omega
 exact ⟨⟨h0, h1 p hp d hd⟩, h2⟩
theorem ZeC {c : Cust} {cap : Int} {price : List Int} (h : (we c cap price).2 = true) : ∃ p ∈ c.pats, (p = 0 ∨ c.demand ≤ cap) ∧ (we c cap price).1 = jI c p := by
 unfold we at h ⊢
 split at h
 ·cases h
 rename_i hn
 rw [if_neg hn]
 have hb := V1 price (jJ c cap) (jJ c cap).length
 have hlt : (qE price (jJ c cap) (jJ c cap).length).1.toNat < (jJ c cap).length := by omega
 have hm : (jJ c cap).getD (qE price (jJ c cap) (jJ c cap).length).1.toNat 0 ∈ jJ c cap := by
  rw [List.getD_eq_getElem?_getD, List.getElem?_eq_getElem hlt]; exact List.getElem_mem hlt
 obtain ⟨h1, h2⟩ := List.mem_filter.1 hm
 exact ⟨_, h1, by simpa using h2, rfl⟩
theorem XP {c : Cust} {n : Nat} (hm : CustMade c n) (hn : n ≤ 60) (cap : Int) (price : List Int) (h : (y9 n cap c price).2 = true) : GoodV n (y9 n cap c price).1 := by
 unfold y9 at h ⊢
 by_cases hk : c.kind = 1
 ·rw [if_pos hk] at h ⊢
  obtain ⟨p, hp, -, e⟩ := ZeC h
  rw [e]; exact ZmU hm hk hp
 rw [if_neg hk] at h ⊢
 by_cases hr : c.rule = 1
 ·rw [if_pos hr] at h ⊢
  obtain ⟨ds, h1, -, e⟩ := ZeA hn h
  rw [e]; exact Zew hm.fits hn h1
 ·rw [if_neg hr] at h ⊢
  have hD : GoodV n (yk 0 (vn c n cap).1) := Zd2 (Yc hm.fits (XJ hm.fits cap) n).2 (Nat.le_of_eq (Yb _ _ _)) (by omega)
  have hL : GoodV n (yk 0 (vV c n cap).1) := Zd2 (Yc hm.fits (XK hm.fits cap) n).2 (Nat.le_of_eq (Yb _ _ _)) (by omega)
  unfold Ye at h ⊢
  split
  ·exact hL
  ·rename_i h1
   rw [if_neg h1] at h
   split
   ·exact hD
   ·rename_i h2; rw [if_neg h2] at h; cases h
structure InstA (x : Inst) (n : Nat) : Prop where
 h : InstH x
 days : x.days = n
 n60 : n ≤ 60
 made : ∀ c ∈ x.cust, CustMade c n
 pats : ∀ c ∈ x.cust, c.pats.length ≤ 1000
theorem ZmV {x : Inst} {n : Nat} (h : InstA x n) : VW x n (y9 n x.cap) := by
 intro c hc l hl hi S pl hR
 rw [h.days]
 have := h.n60
 exact ZeB c n x.cap hR hi (by omega) (h.made c hc) (h.pats c hc) h.n60
theorem ZeD {x : Inst} {sol : Cust → List Int → List Visit × Bool} {pr : List (List Int)} (h : (y8 x sol pr).2 = 0) : (y8 x sol pr).1.length = x.cust.length ∧ ∀ i c, x.cust[i]? = some c → (y8 x sol pr).1[i]? = some (sol c (pr.getD i [])).1 ∧ (sol c (pr.getD i [])).2 = true := by
 unfold y8 at h ⊢
 split at h
 ·rename_i hall
  rw [if_pos hall]
  refine ⟨by simp [wU], fun i c hc => ?_⟩
  have hi := (List.getElem?_eq_some_iff.1 hc).1
  have hg : x.cust.getD i default = c := by rw [List.getD_eq_getElem?_getD, hc]; rfl
  refine ⟨by simp only [wU, List.map_map, List.getElem?_map, List.getElem?_range hi, Option.map_some, Function.comp_apply, hg], ?_⟩
  have := List.all_eq_true.1 hall _ (Zeb x sol pr hi)
  rw [hg] at this; exact this
 ·cases h
theorem ZeE {x : Inst} {n : Nat} (h : InstA x n) : Zeu x n (y9 n x.cap) := by
 intro pr hP h0
 obtain ⟨h1, h2⟩ := ZeD h0
 have key : ∀ l ∈ (y8 x (y9 n x.cap) pr).1, GoodV n l := by
  intro l hl
  obtain ⟨i, hi, rfl⟩ := List.getElem_of_mem hl
  have hic : i < x.cust.length := by omega
  obtain ⟨e1, e2⟩ := h2 i _ (List.getElem?_eq_getElem hic)
  rw [List.getElem?_eq_getElem hi] at e1
  rw [Option.some.inj e1]
  exact XP (h.made _ (List.getElem_mem hic)) h.n60 _ _ e2
 exact ⟨h1, fun l hl w hw => (key l hl).ok w hw, fun l hl => (key l hl).nd, fun l hl => by have := (key l hl).len; omega⟩
def yr (x : Inst) (b : Int) : zx × Int := Yg x (y9 x.days.toNat x.cap) b x.days.toNat
theorem ZmW {x : Inst} {n : Nat} (h : InstA x n) {b : Int} (hb : b ≤ 9223372036854775807) : Pure Tryz.prog 31 [.agg (zA x), I b] (.tup [.agg [L (yr x b).1], I (yr x b).2]) := by
 have hd : x.days.toNat = n := by rw [h.days]; rfl
 unfold yr
 rw [hd]
 exact ZmQ h.h h.days (by have := h.n60; omega) (ZmV h) (ZeE h) hb
theorem ZmX (x : Inst) (c l : Int) : InstA (Zmq x 6 c l) (zN x).days.toNat := by
 have hd := Ya x
 refine ⟨⟨Nat.le_trans (W8 x) (by decide), Zdr x, Zdk x, by show (0 : Int) ≤ 6; decide⟩, ?_, by omega, fun c hc => ?_, fun c hc => ?_⟩
 ·show (zN x).days = _; omega
 ·obtain ⟨c0, rfl⟩ := Q8 x hc
  exact Zef c0 _ hd.1 hd.2
 ·obtain ⟨c0, rfl⟩ := Q8 x hc
  unfold qC
  split
  ·simp
  ·simp only [vG]; split
   ·simp
   ·simp; omega
theorem XT (x : Inst) : InstA (zN x) (zN x).days.toNat := by
 have hd := Ya x
 have h := ZmX x (zN x).cap (zN x).len
 exact ⟨⟨Nat.le_trans (W8 x) (by decide), Zdr x, Zdk x, Zk0 x⟩, by omega, h.n60, h.made, h.pats⟩
open Go Go.Proofs Hp
def Yi (c : Int) (p : zx) : zx := p.map (jr c)
theorem ZmY (p : zx) (c : Int) (hp : p.length ≤ 1000) (hd0 : ∀ d ∈ p, d.length ≤ 1048576) (ht : ∀ d ∈ p, ∀ t ∈ d, t.length ≤ 1048576) : Pure Tryz.prog 23 [.agg [L p], I c] (.agg [L (Yi c p)]) := by
 unfold Yi
 refine zv Tryz.func23 Tryz.ntmps23 Tryz.results23 fun S nx hd => ?_
 refine za (zb ?_)
 intro v0 v1
 refine za (zb ?_)
 intro v2
 refine qM 2 0 58 1 rfl rfl fun v3 => ?_
 repeat apply za
 refine zb ?_
 refine zj (zG (fun s : Nat × zx × Nat => s.1 ≤ p.length ∧ s.2.1 = (p.take s.1).map (jr c)) (fun (k, q, w) => [(1, I c), (4, .ptr (nx + 1) v1 0), (5, .ptr (nx + 2) v2 0), (11, L p), (12, I p.length), (13, I k)]) (fun (k, q, w) => [.cells v0 38 [L p], .cells v1 38 [yF], .cells v2 38 [.sl (nx + 3) w 1 0 q.length], .cells w 58 (q.flatMap Enc.enc)]) (fun s => p.length - s.1) (0, [], v3) [] (by simp) (by simp) (by simp) ?_)
 rintro ⟨k, q, w⟩ ⟨hk, hq⟩
 simp only at hk hq ⊢
 have hql : q.length = k := by rw [hq]; simp; omega
 refine za (zb ?_)
 refine za (zr rfl (fun hc => ?_) (fun hc => ?_))
 ·simp at hc
  obtain ⟨d, tl, a1, a2, a3, e0⟩ := zE rfl p k hc
  have hdm := List.mem_of_getElem? a1
  have hr := Zkb d c (hd0 d hdm) (ht d hdm)
  generalize hrd : jr c d = rd at hr
  have hk1 : 1 ≤ p.length - k := by omega
  have hqf : (q.flatMap Enc.enc : List PV).length = q.length := jm q
  have hqt : (q.flatMap Enc.enc : List PV).take q.length = q.flatMap Enc.enc := List.take_of_length_le (by omega)
  refine zh (za (zj (za (ze [] (zF hc e0 hk1) ?_))))
  intro v4
  refine za (zb ?_)
  refine zz hr ?_
  intro v5
  refine ze [] (zm hqf hqt) ?_
  refine ⟨by omega, ?_⟩
  refine zb ?_
  exact zp (k + 1, q ++ [rd], w + 1) [_, _] ⟨hc, by rw [a3, List.map_append, hq, ← hrd]; rfl⟩ (by simp; omega) (by simp [zt k (by omega)]) rfl (by simp; exact ⟨rfl, rfl⟩)
 ·simp at hc
  obtain rfl : k = p.length := by omega
  rw [List.take_length] at hq
  refine zy (yc 3 rfl ?_)
  refine za (zb ?_)
  exact zg (zk hd (by simp; rfl) (by simp [zq, hq]))
open Go Go.Proofs Hp
def xR (x : Inst) (c : Nat) : Stop := ⟨c, if (x.cust.getD c default).kind = 1 then (x.cust.getD c default).demand else 1⟩
def xq (x : Inst) (s : Stop) (d : zi) : Int := if (yC x d s).2 = true then max 0 (W (W (zU x (yC x d s).1) - W (zU x d))) else 4294967296
theorem ZeF (x : Inst) (c : Int) : Pure Tryz.prog 56 [.agg (zA x), I c] (B (decide (0 ≤ c) && decide (c < x.cust.length))) := by
 refine zv Tryz.func56 Tryz.ntmps56 Tryz.results56 fun S nx hd => ?_
 refine za (zb ?_)
 intro v0
 by_cases h : 0 ≤ c
 ·by_cases h2 : c < x.cust.length
  ·refine za (ze [(2, 7)] (zm h h2) ?_)
   exact zg (zk hd rfl (by simp [zq, h, h2]))
  ·refine za (ze [(2, 7)] (zm h h2) ?_)
   exact zg (zk hd rfl (by simp [zq, h, h2]))
 ·refine za (ze [(2, 7)] (zm h zL) ?_)
  exact zg (zk hd rfl (by simp [zq, h]))
open Go Go.Proofs Hp
theorem ZmZ {x : Inst} {p : zx} (h : Q4 x p = 0) : Q3 x = true ∧ (p.length : Int) = x.days ∧ (∀ d ∈ p, yv x d = 0) ∧ ∀ i, i < x.cust.length → XC x p i = 0 := by
 unfold Q4 at h
 split at h
 ·cases h
 split at h
 ·cases h
 rename_i h1 h2
 split at h
 ·rename_i h3; exact absurd h h3
 rename_i h3
 refine ⟨by simpa using h1, Classical.not_not.1 h2, fun d hd => (VP _).1 (Classical.not_not.1 h3) _ (List.mem_map.2 ⟨d, hd, rfl⟩), fun i hi => (VP _).1 h _ (List.mem_map.2 ⟨i, List.mem_range.2 hi, rfl⟩)⟩
theorem Zm0 {x : Inst} {p : zx} (h1 : Q3 x = true) (h2 : (p.length : Int) = x.days) (h3 : ∀ d ∈ p, yv x d = 0) (h4 : ∀ i, i < x.cust.length → XC x p i = 0) : Q4 x p = 0 := by
 unfold Q4
 rw [if_neg (by simp [h1]), if_neg (by simp [h2])]
 have e : jS (p.map (yv x)) = 0 := XE fun e he => by obtain ⟨d, hd, rfl⟩ := List.mem_map.1 he; exact h3 d hd
 rw [if_neg (by simp [e])]
 exact XE fun e he => by obtain ⟨i, hi, rfl⟩ := List.mem_map.1 he; exact h4 i (List.mem_range.1 hi)
theorem XU {x : Inst} (hx : x.cust.length ≤ 900) {d : zi} (h : yv x d = 0) : d.flatten.length ≤ x.cust.length ∧ d.length ≤ x.cust.length ∧ RgOk x d [⟨0, 0⟩] := by
 obtain ⟨h1, h2, h3⟩ := (xL x d).1 h
 have hg := ZdR h
 have hl := Zeg (m := x.cust.length) _ h2 (fun c hc => by
  obtain ⟨s, hs, rfl⟩ := List.mem_map.1 hc
  have := hg s hs
  simp [qY] at this
  omega)
 rw [List.length_map] at hl
 have hn := Xl h
 have hd := Zed d hn
 refine ⟨hl, by omega, ⟨by omega, fun t ht => ?_, fun t ht s hs => ?_⟩, h, by rw [List.length_singleton]; omega⟩
 ·have := XI d t ht; omega
 ·have := hg s (Zmr ht hs)
  simp [qY] at this
  unfold small; omega
theorem ZeG {x : Inst} (hx : x.cust.length ≤ 900) (ha : jh x) (hv : 0 ≤ x.veh) {d : zi} (h : yv x d = 0) : SOk x d.flatten ∧ SG x d.flatten d := by
 obtain ⟨h1, h2, h3⟩ := (xL x d).1 h
 obtain ⟨g1, g2, g3⟩ := XU hx h
 refine ⟨⟨by omega, ha, hv, by omega, fun s hs => ?_, h2⟩, ⟨h1, .refl _⟩⟩
 obtain ⟨t, ht, hst⟩ := List.mem_flatten.1 hs
 exact g3.ok.s t ht s hst
theorem Zm1 (c : Int) (d : zi) : (jr c d).flatten = d.flatten.filter fun s => decide (s.c ≠ c) := by
 unfold jr
 have : ∀ l : zi, (l.filter fun t => !t.isEmpty).flatten = l.flatten := by
  intro l
  induction l with
  | nil => rfl
  | cons t l ih => cases t <;> simp [List.filter_cons, ih]
 rw [this]
 induction d with
 | nil => rfl
 | cons t d ih => simp only [List.map_cons, List.flatten_cons, List.filter_append, ih]; rfl
open Go Go.Proofs Hp
theorem V8 {α : Type} [Enc α] (id v : Nat) (cs : List PV) (l : List (List α)) : (l.flatMap Enc.enc).map (yW id v cs) = (l.flatMap Enc.enc : List PV) := by
 refine (List.map_congr_left fun p hp => ?_).trans (List.map_id _)
 obtain ⟨t, _, ht⟩ := List.mem_flatMap.1 hp
 rw [Zgr, List.mem_singleton] at ht
 subst ht
 rfl
theorem V9 (p : zx) (hp : p.length ≤ 1000) (hd0 : ∀ d ∈ p, d.length ≤ 1000) (ht : ∀ d ∈ p, ∀ t ∈ d, t.length ≤ 1000) {S : Store} {nx : Nat} (hd : zV nx S) :
  Spec Tryz.prog 61 [.agg [L p]] S (fun q S' => ∃ v, q = .agg [.sl (nx + 3) v 1 0 p.length] ∧ S' = S.set (nx + 3) (.cells v 58 (p.flatMap Enc.enc))) := by
 refine uh hd Tryz.func61 Tryz.ntmps61 Tryz.results61 ?_
 refine za (zb ?_)
 intro v0 v1
 refine za (zb ?_)
 intro v2
 refine qM 2 0 58 1 rfl rfl fun v3 => ?_
 repeat apply za
 refine zb ?_
 refine zj (zG (fun s : Nat × Nat => s.1 ≤ p.length) (fun (k, w) => [(2, .ptr (nx + 1) v1 0), (3, .ptr (nx + 2) v2 0), (10, L p), (11, I p.length), (12, I k)]) (fun (k, w) => [.cells v0 38 [L p], .cells v1 38 [yF], .cells v2 38 [.sl (nx + 3) w 1 0 k], .cells w 58 ((p.take k).flatMap Enc.enc)]) (fun s => p.length - s.1) (0, v3) [] (by simp) (by simp) (by simp) ?_)
 rintro ⟨k, w⟩ hk
 simp only at hk ⊢
 refine za (zb ?_)
 refine za (zr rfl (fun hc => ?_) (fun hc => ?_))
 ·simp at hc
  obtain ⟨d, tl, a1, a2, a3, e0⟩ := zE rfl p k hc
  have hdm := List.mem_of_getElem? a1
  have hdl := hd0 d hdm
  have hk1 : 1 ≤ p.length - k := by omega
  have htk : (p.take k).length = k := by rw [List.length_take]; omega
  generalize hpk : p.take k = pk at *
  have hqf : (pk.flatMap Enc.enc : List PV).length = k := (jm pk).trans htk
  have hqt : (pk.flatMap Enc.enc : List PV).take k = pk.flatMap Enc.enc := List.take_of_length_le (by omega)
  have hfp : ∀ id v cs, (pk.flatMap Enc.enc).map (yW id v cs) = (pk.flatMap Enc.enc : List PV) := fun id v cs => V8 id v cs pk
  refine zh (za (zj (za (ze [] (zF hc e0 hk1) ?_))))
  intro v4
  refine za (zb ?_)
  intro v5
  refine qM 5 0 72 1 rfl rfl fun v6 => ?_
  repeat apply za
  refine zb ?_
  refine zj (zG (fun s : Nat × Nat => s.1 ≤ d.length) (fun (j, w6) => [(2, .ptr (nx + 1) v1 0), (3, .ptr (nx + 2) v2 0), (6, .ptr (nx + 5) v5 0), (10, L p), (11, I p.length), (12, I k), (17, L d), (18, I d.length), (19, I j)])
   (fun (j, w6) => [.cells v0 38 [L p], .cells v1 38 [yF], .cells v2 38 [.sl (nx + 3) w 1 0 k], .cells w 58 (pk.flatMap Enc.enc), .cells v4 58 [L d], .cells v5 58 [.sl (nx + 6) w6 1 0 j], .cells w6 72 ((d.take j).flatMap Enc.enc)]) (fun s => d.length - s.1) (0, v6) [] (by simp) (by simp) (by simp) ?_)
  rintro ⟨j, w6⟩ hj
  simp only at hj ⊢
  refine za (zb ?_)
  refine za (zr rfl (fun hcj => ?_) (fun hcj => ?_))
  ·simp at hcj
   obtain ⟨t, tl2, b1, b2, b3, f0⟩ := zE rfl d j hcj
   have htl := ht d hdm t (List.mem_of_getElem? b1)
   have hj1 : 1 ≤ d.length - j := by omega
   have htj : (d.take j).length = j := by rw [List.length_take]; omega
   generalize hdj : d.take j = dj at *
   have hrf : (dj.flatMap Enc.enc : List PV).length = j := (jm dj).trans htj
   have hrt : (dj.flatMap Enc.enc : List PV).take j = dj.flatMap Enc.enc := List.take_of_length_le (by omega)
   have hfd : ∀ id v cs, (dj.flatMap Enc.enc).map (yW id v cs) = (dj.flatMap Enc.enc : List PV) := fun id v cs => V8 id v cs dj
   have htf : (t.flatMap Enc.enc : List PV).length = t.length * 2 := Zf t
   refine zh (za (zj (za (ze [] (zF hcj f0 hj1) ?_))))
   intro v7
   refine zB (some [nx + 7]) (Row.pures [0, 2, 3] (.alt 1 (.alt 4 (Row.pures [5, 6] (.alt 7 (Row.pures [8] (.alt 9 (.done) .stop)) .stop)) .stop) (.alt 4 (Row.pures [5, 6] (.alt 1 (.alt 7 (Row.pures [8] (.alt 9 (.done) .stop)) .stop) .stop)) .stop))) mixed (zm hrf hrt) ?_
   refine ⟨⟨by omega, fun v8 => ⟨⟨by omega, by omega⟩, ?_⟩⟩, ⟨by omega, fun v8 => ⟨⟨by omega, by omega⟩, ?_⟩⟩⟩
   all_goals
    refine yc 8 rfl ?_
    simp only [List.map_cons, List.map_nil, List.set_cons_succ, List.set_cons_zero, jN, hfp, hfd, List.map_append]
    refine zb ?_
    exact zp (j + 1, w6 + 1) [_, _] (by simp; omega) (by simp; omega) (by simp [zt j (by omega)]) rfl (by simp [b3, yW, htf]; exact ⟨rfl, rfl⟩)
  ·simp at hcj
   obtain rfl : j = d.length := by omega
   rw [List.take_length]
   have hfd : ∀ id v cs, (d.flatMap Enc.enc).map (yW id v cs) = (d.flatMap Enc.enc : List PV) := fun id v cs => V8 id v cs d
   refine zy (yc 6 rfl ?_)
   simp only [List.map_cons, List.map_nil, List.set_cons_succ, List.set_cons_zero, jN, hfp, hfd]
   refine ze [] (zm hqf hqt) ?_
   refine ⟨by omega, ?_⟩
   refine zb ?_
   exact zp (k + 1, w + 1) [_, _, _] (by simp; omega) (by simp; omega) (by simp [zt k (by omega)]) rfl (by simp [a3]; exact ⟨rfl, rfl, rfl⟩)
 ·simp at hc
  obtain rfl : k = p.length := by omega
  rw [List.take_length]
  refine zy (za (zb ?_))
  exact zg ⟨_, _, (by simp; rfl), ⟨w, by simp [zq], rfl⟩, YB (j := 3) hd (by simp)⟩
theorem Zm2 (p : zx) (hp : p.length ≤ 1000) (hd0 : ∀ d ∈ p, d.length ≤ 1000) (ht : ∀ d ∈ p, ∀ t ∈ d, t.length ≤ 1000) : Pure Tryz.prog 61 [.agg [L p]] (.agg [L p]) :=
 Zbc (sz := 1) 3 (fun S nx hd => V9 p hp hd0 ht hd) (by rw [jm, Nat.mul_one])
def xu (x : Inst) (p : zx) (day b : Int) : zx × Bool :=
 if day < 0 ∨ (p.length : Int) ≤ day then (p, false)
 else if W (zU x (p.getD day.toNat [])) ≤ W (zU x (j7 x b (p.getD day.toNat []))) then (p, false)
 else (p.set day.toNat (j7 x b (p.getD day.toNat [])), true)
structure PlanM (x : Inst) (p : zx) : Prop where
 cust : x.cust.length ≤ 900
 inst : InstH x
 len : p.length ≤ 1000
 may : ∀ d ∈ p, yv x d = 0
theorem PlanM.sizes {x : Inst} {p : zx} (h : PlanM x p) : ∀ d ∈ p, d.length ≤ 1000 ∧ (∀ t ∈ d, t.length ≤ 1000) ∧ DayOk d ∧ d.flatten.length ≤ 1000 := by
 intro d hd
 obtain ⟨h1, h2, h3⟩ := XU h.cust (h.may d hd)
 have := h.cust
 exact ⟨by omega, fun t ht => by have := XI d t ht; omega, h3.ok, by omega⟩
theorem ZeH {x : Inst} (hx : x.cust.length ≤ 900) (hi : InstH x) {d : zi} (h : yv x d = 0) (b : Int) : yv x (j7 x b d) = 0 ∧ (j7 x b d).flatten.Perm d.flatten ∧ zU x (j7 x b d) ≤ zU x d := by
 obtain ⟨hs, hg⟩ := ZeG hx hi.arc hi.veh h
 obtain ⟨h1, h2, h3⟩ := Xs hs hi.diag b.toNat d hg
 obtain ⟨m1, m2, m3⟩ := (xL x d).1 h
 change SG x d.flatten (j7 x b d) at h1
 change zU x (j7 x b d) ≤ zU x d at h2
 change (j7 x b d).length ≤ d.length at h3
 exact ⟨(xL x _).2 ⟨h1.may, (h1.perm.map _).nodup_iff.2 m2, by omega⟩, h1.perm, h2⟩
theorem Zm3 {x : Inst} (hx : x.cust.length ≤ 900) (hi : InstH x) {d : zi} (h : yv x d = 0) {b : Int} (hb : b ≤ 9223372036854775807) : ∃ k : Int, Pure Tryz.prog 62 [.agg (zA x), .agg [L d], I b] (.tup [.agg [L (j7 x b d)], I k]) := by
 obtain ⟨hs, hg⟩ := ZeG hx hi.arc hi.veh h
 have o := hg.ok hs
 exact ⟨_, ZcW x d b (wA x) (SG x d.flatten) hb o.n o.t (fun _ => hg) (Zdq hs hi.diag)⟩
theorem Zm4 {x : Inst} {p : zx} (h : PlanM x p) (day b : Int) (hb : b ≤ 9223372036854775807) :
  Pure Tryz.prog 28 [.agg (zA x), .agg [L p], I day, I b] (.tup [.agg [L (xu x p day b).1], B (xu x p day b).2]) := by
 have hsz := h.sizes
 have hpl := h.len
 refine zv Tryz.func28 Tryz.ntmps28 Tryz.results28 fun S nx hd => ?_
 refine za (zb ?_)
 intro v0 v1 v2
 refine za (zT [] (by rfl) (by rfl) fun K Gc Gh hK hGc hGh X hX0 hX => ?_)
 simp -implicitDefEqProofs [hX0, hX]
 try clear hX0 hX X
 refine hGc _ _ _ _ _ _ _ fun hsuf => ((V9 p h.len (fun d hd => (hsz d hd).1) (fun d hd => (hsz d hd).2.1) jM).mono ?_).v
 rintro _ _ ⟨v3, rfl, rfl⟩
 refine ⟨_, _, JV 3 _, ?_⟩
 clear hGc hGh
 clear Gc Gh
 refine zQ hsuf (D := []) (by rfl) fun Gc Gh hGc hGh X hX0 hX => ?_
 simp -implicitDefEqProofs [hX0, hX, Nat.add_assoc]
 clear hX0 hX X
 intro v4
 refine hK _ _ _ ?_
 clear hK hGc hGh
 clear K Gc Gh
 by_cases h0 : day < 0
 ·have hz : xu x p day b = (p, false) := by unfold xu; rw [if_pos (.inl h0)]
  rw [hz]
  repeat apply za
  refine ze [(2, 17)] (zm h0 zL) ?_
  refine zo rfl (yc 6 rfl ?_)
  refine za (zb ?_)
  exact zg (zk hd (by simp; rfl) rfl)
 by_cases h1 : (p.length : Int) ≤ day
 ·have hz : xu x p day b = (p, false) := by unfold xu; rw [if_pos (.inr h1)]
  rw [hz]
  repeat apply za
  refine ze [(2, 17)] (zm h0 h1) ?_
  refine zo rfl (yc 6 rfl ?_)
  refine za (zb ?_)
  exact zg (zk hd (by simp; rfl) rfl)
 obtain ⟨k, rfl⟩ := Int.eq_ofNat_of_zero_le (show 0 ≤ day by omega)
 have hk : k < p.length := by omega
 obtain ⟨d, tl, a1, a2, a3, e0⟩ := zE rfl p k hk
 have hdm := List.mem_of_getElem? a1
 have hgd : p.getD (k : Int).toNat [] = d := by rw [Int.toNat_natCast, List.getD_eq_getElem?_getD, a1]; rfl
 have hz : xu x p k b = if W (zU x d) ≤ W (zU x (j7 x b d)) then (p, false) else (p.set k (j7 x b d), true) := by
  unfold xu
  rw [if_neg (by omega), hgd, Int.toNat_natCast]
 obtain ⟨m, hI⟩ := Zm3 h.cust h.inst (h.may d hdm) hb
 have him := ZeH h.cust h.inst (h.may d hdm) b
 have hc1 := YL x d (hsz d hdm).2.2.1
 have hc2 := YL x (j7 x b d) (XU h.cust him.1).2.2.ok
 rw [hz]
 generalize j7 x b d = e at *
 generalize W (zU x d) = z1 at *
 generalize W (zU x e) = z2 at *
 have hk1 : 1 ≤ p.length - k := by omega
 have hpf : (p.flatMap Enc.enc : List PV).length = p.length := jm p
 have hsp := VT (α := zi) rfl p k e hk
 have hsp' : yd (p.flatMap Enc.enc) k [L e] = (p.set k e).flatMap Enc.enc := by simpa using hsp
 repeat apply za
 refine ze [(2, 17)] (zm h0 h1) ?_
 refine zn rfl (zh (za (zB (some [nx, nx + 6, nx + 7]) (Row.pures [0, 1, 2, 3, 4, 5, 6, 7, 8, 9, 10] (.alt 11 (.alt 12 (Row.pures [13] .done) .stop) .stop)) mixed (zF e0 hk hk1) ?_)))
 refine zI (hI) (zF e0 hk hk1) ?_
 intro v5
 by_cases hle : z1 ≤ z2
 ·rw [if_pos hle]
  repeat apply za
  refine zB (some [nx, nx + 6, nx + 7, nx + 8]) (Row.pures [0, 1, 2, 3, 4, 5, 6, 7, 8, 9, 10] .done) mixed (yh e0 hk hk1 hle) ?_
  refine zI (hc2) (yh e0 hk hk1 hle) ?_
  refine zI (hc1) (yh e0 hk hk1 hle) ?_
  refine zo rfl (yc 6 rfl ?_)
  refine za (zb ?_)
  exact zg (zk hd (by simp; rfl) rfl)
 ·rw [if_neg hle]
  repeat apply za
  refine zB (some [nx, nx + 6, nx + 7, nx + 8]) (Row.pures [0, 1, 2, 3, 4, 5, 6, 7, 8, 9, 10] .done) mixed (yh e0 hk hk1 hle) ?_
  refine zI (hc2) (yh e0 hk hk1 hle) ?_
  refine zI (hc1) (yh e0 hk hk1 hle) ?_
  refine zn rfl (zh (za (ze [] (zF hk hsp' hpf) ?_)))
  refine ⟨by omega, ?_⟩
  refine yc 6 rfl ?_
  refine za (zb ?_)
  exact zg (zk hd (by simp; rfl) (by simp [zq]))
open Go Go.Proofs Hp
structure PlanS (n K : Nat) (p : zx) : Prop where
 len : p.length = n
 ok : ∀ d ∈ p, DayOk d ∧ d.flatten.length ≤ K ∧ d.length ≤ K
theorem Zaa {x : Inst} {d : zi} {s : Stop} {K : Nat} (hx : x.cust.length ≤ 1048576) (h1 : DayOk d) (h2 : d.flatten.length ≤ K) (h3 : d.length ≤ K) (hK : K ≤ 100000) : DayOk (yC x d s).1 ∧ (yC x d s).1.flatten.length ≤ K + 1 ∧ (yC x d s).1.length ≤ K + 1 := by
 refine ⟨ZcT hx h1 (by omega) (by omega), ?_, ?_⟩
 ·cases hi : (yC x d s).2 with
  | true => rw [(Xi hi).length_eq, List.length_cons]; omega
  | false => rw [Zct hi]; omega
 ·unfold yC
  cases (xZ (yN x d s)).2 with
  | false => show d.length ≤ K + 1; omega
  | true =>
   show (qN d (xZ (yN x d s)).1 s).length ≤ K + 1
   unfold qN; split <;> simp <;> omega
theorem Zm5 (x : Inst) (p : zx) (c : Nat) {n K : Nat} (hn1 : n ≤ 1000) (hK : K ≤ 100000) (hx : x.cust.length ≤ 1000) (hc : c < x.cust.length) (hp : PlanS n K p) : Pure Tryz.prog 26 [.agg (zA x), .agg [L p], I c] (L (p.map (xq x (xR x c)))) := by
 have hth := ZeF x c
 rw [show (decide (0 ≤ (c : Int)) && decide ((c : Int) < x.cust.length)) = true from by simp; omega] at hth
 obtain ⟨cu, tlc, a1, -, -, e1, e0⟩ := el 8 rfl x.cust c hc
 have e11 := e1 1 (by omega)
 have hq : xR x c = ⟨c, if cu.kind = 1 then cu.demand else 1⟩ := by unfold xR; rw [List.getD_eq_getElem?_getD, a1]; rfl
 have hplen : p.length ≤ 1000 := by have := hp.len; omega
 refine zv Tryz.func26 Tryz.ntmps26 Tryz.results26 fun S nx hd => ?_
 refine za (zb ?_)
 intro v0 v1
 refine za (zb ?_)
 intro v2
 refine za (qj (nx := nx) (σ := Unit) (fun _ => True) (fun _ => [(3, .ptr nx v0 0), (4, .ptr (nx + 1) v1 0), (7, .ptr (nx + 2) v2 0)]) (fun _ => S) (fun _ => [.cells v0 25 (zA x), .cells v1 38 [L p], .cells v2 35 [I c, I (xR x c).q]]) ?_ ?_)
 ·by_cases hk : cu.kind = 1
  ·rw [if_pos hk] at hq
   refine za (ze [(3, 19)] (zF e0 hc hk) ?_)
   refine jP [(3, 19)] hth (zF e0 hc hk) ?_
   refine zo (by simp [hk]) ?_
   refine ze [] (zm e11 hc) ?_
   exact zP () [] trivial (by simp) rfl (by simp [hq])
  ·rw [if_neg hk] at hq
   refine za (ze [(3, 19)] (zF e0 hc hk) ?_)
   refine jP [(3, 19)] hth (zF e0 hc hk) ?_
   refine zn (by simp [hk]) ?_
   exact zh (zP () [] trivial (by simp) rfl (by simp [hq]))
 intro _ _
 have hsc : (xR x c).c = c := rfl
 generalize hst : xR x c = s at hsc
 clear hq
 refine za (zb ?_)
 refine za (qV 8 3 1 rfl fun v3 => ?_)
 refine za (zb ?_)
 refine zj (zG (fun st : Nat × List Int × Nat => st.1 ≤ p.length ∧ st.2.1 = (p.take st.1).map (xq x s)) (fun (k, out, w) => [(3, .ptr nx v0 0), (7, .ptr (nx + 2) v2 0), (8, .sl (nx + 3) w 1 0 out.length), (36, L p), (37, I p.length), (38, I k)]) (fun (k, out, w) => [.cells v0 25 (zA x), .cells v1 38 [L p], .cells v2 35 [I c, I s.q], .cells w 3 (out.flatMap Enc.enc)]) (fun st => p.length - st.1) (0, [], v3) [] (by simp) (by simp) (by simp) ?_)
 rintro ⟨k, out, w⟩ ⟨hk, ho⟩
 simp only at hk ho ⊢
 have hol : out.length = k := by rw [ho]; simp; omega
 refine za (zb ?_)
 refine za (zr rfl (fun hc1 => ?_) (fun hc1 => ?_))
 ·simp at hc1
  obtain ⟨d, tl, b1, b2, b3, f0⟩ := zE rfl p k hc1
  obtain ⟨g1, g3, g4⟩ := hp.ok d (List.mem_of_getElem? b1)
  have g5 := (Zaa (x := x) (s := s) (by omega) g1 g3 g4 hK).1
  have hins := Vh x d s (by omega) g1 (by omega)
  have hc2 := YL x d g1
  have hc3 := YL x _ g5
  have hpr : xq x s d = if (yC x d s).2 = true then max 0 (W (W (zU x (yC x d s).1) - W (zU x d))) else 4294967296 := rfl
  rw [hsc] at hins
  generalize yC x d s = r at *
  obtain ⟨e, ok⟩ := r
  simp only at hins hc3 hpr
  generalize W (zU x d) = z1 at *
  generalize W (zU x e) = z2 at *
  have h1p : 1 ≤ p.length - k := by omega
  refine zh (za (zj (za (ze [] (zF f0 hc1 h1p) ?_))))
  intro v4
  refine za (zb ?_)
  repeat apply za
  refine zb ?_
  refine zz hins ?_
  intro v5
  refine za (zb ?_)
  cases ok with
  | true =>
   rw [if_pos rfl] at hpr
   have hmax : xz (0 : Int) (W (z2 - z1)) = xq x s d := by rw [hpr]; unfold xz; split <;> omega
   refine zo rfl (zB (some [nx, nx + 4, nx + 5]) (Row.pures [0, 1, 2, 3, 4, 5, 6, 7, 8] .done) mixed trivial ?_)
   refine zI (hc3) hmax ?_
   refine zI (hc2) hmax ?_
   refine zb ?_
   refine ⟨by omega, ?_⟩
   refine zb ?_
   exact zp (k + 1, out ++ [xq x s d], w + 1) [_, _] ⟨hc1, by rw [b3, List.map_append, ho]; rfl⟩ (by simp; omega) (by simp [zt k (by omega)]) rfl (by simp [hpr]; exact ⟨rfl, rfl⟩)
  | false =>
   rw [if_neg (by decide)] at hpr
   refine zn rfl (zh (zb ?_))
   refine ⟨by omega, ?_⟩
   refine zb ?_
   exact zp (k + 1, out ++ [xq x s d], w + 1) [_, _] ⟨hc1, by rw [b3, List.map_append, ho]; rfl⟩ (by simp; omega) (by simp [zt k (by omega)]) rfl (by simp [hpr]; exact ⟨rfl, rfl⟩)
 ·simp at hc1
  obtain rfl : k = p.length := by omega
  rw [List.take_length] at ho
  refine zy (yc 3 rfl ?_)
  refine za (zb ?_)
  exact zg (zk hd (by simp; rfl) (by simp [zq, ho]))
def uD (x : Inst) (p : zx) : Bool := p.all fun d => decide (yv x d = 0)
theorem Zm6 (x : Inst) (p : zx) {n K : Nat} (hn1 : n ≤ 1000) (hK : K ≤ 100000) (hx : x.cust.length ≤ 1000) (hp : PlanS n K p) : Pure Tryz.prog 119 [.agg (zA x), .agg [L p]] (B (uD x p)) := by
 have hplen : p.length ≤ 1000 := by have := hp.len; omega
 refine zv Tryz.func119 Tryz.ntmps119 Tryz.results119 fun S nx hd => ?_
 refine za (zb ?_)
 intro v0 v1
 repeat apply za
 refine zb ?_
 refine zj (zG (fun k : Nat => k ≤ p.length ∧ ∀ d ∈ p.take k, yv x d = 0) (fun k => [(2, .ptr nx v0 0), (8, L p), (9, I p.length), (10, I k)]) (fun _ => [.cells v0 25 (zA x), .cells v1 38 [L p]]) (fun k => p.length - k) 0 [] (by simp) (by simp) (by simp) ?_)
 rintro k ⟨hk, hE⟩
 refine za (zb ?_)
 refine za (zr rfl (fun hc => ?_) (fun hc => ?_))
 ·simp at hc
  obtain ⟨d, tl, a1, a2, a3, e0⟩ := zE rfl p k hc
  obtain ⟨g1, g2, g3⟩ := hp.ok d (List.mem_of_getElem? a1)
  have hD := ZbM x d (by omega) g1.n g1.t (by omega)
  have hk1 : 1 ≤ p.length - k := by omega
  refine zh (za (zj (za (ze [] (zF e0 hc hk1) ?_))))
  intro v2
  by_cases h0 : yv x d = 0
  ·rw [h0] at hD
   refine za (zb ?_)
   refine zz hD ?_
   refine zn (by simp) ?_
   refine zh (zb ?_)
   exact zp (k + 1) [_] ⟨hc, fun e he => by rw [a3] at he; rcases List.mem_append.1 he with q | q; exact hE e q; rw [List.mem_singleton.1 q]; exact h0⟩ (by omega) (by simp [zt k (by omega)]) rfl (by simp; rfl)
  ·have ho : uD x p = false := by
    unfold uD; rw [List.all_eq_false]; exact ⟨d, List.mem_of_getElem? a1, by simpa using h0⟩
   rw [ho]
   generalize yv x d = z at *
   refine za (zb ?_)
   refine zz hD ?_
   refine zo (by simp [h0]) ?_
   refine za (zb ?_)
   exact zg (zk hd rfl rfl)
 ·simp at hc
  obtain rfl : k = p.length := by omega
  rw [List.take_length] at hE
  have ho : uD x p = true := by
   unfold uD; rw [List.all_eq_true]; intro d hd; simpa using hE d hd
  rw [ho]
  refine zy (za (zb ?_))
  exact zg (zk hd rfl rfl)
def wg (x : Inst) (c : Nat) (st : zx × Bool) (w : Visit) : zx × Bool :=
 if st.2 = true then (if (yC x (st.1.getD w.d.toNat []) ⟨c, w.q⟩).2 = true then (st.1.set w.d.toNat (yC x (st.1.getD w.d.toNat []) ⟨c, w.q⟩).1, true) else ([], false)) else st
def jK (x : Inst) (n : Nat) (p : zx) (c : Nat) : zx × Bool :=
 if (y9 n x.cap (x.cust.getD c default) (p.map (xq x (xR x c)))).2 = true then (y9 n x.cap (x.cust.getD c default) (p.map (xq x (xR x c)))).1.foldl (wg x c) (p, true) else ([], false)
theorem Zab (x : Inst) (c : Nat) : ∀ v : List Visit, v.foldl (wg x c) ([], false) = ([], false)
 | [] => rfl
 | w :: v => by rw [List.foldl_cons]; exact Zab x c v
theorem Zm7 (x : Inst) (s : Stop) (p : zx) : ∀ z ∈ p.map (xq x s), z8 z := by
 intro z hz
 obtain ⟨d, -, rfl⟩ := List.mem_map.1 hz
 unfold xq
 split
 ·have := VV (W (zU x (yC x d s).1) - W (zU x d))
  unfold z8 at *; omega
 ·unfold z8; omega
theorem PlanS.sizes {n K : Nat} {p : zx} (h : PlanS n K p) (hn1 : n ≤ 1000) (hK : K ≤ 1000) : p.length ≤ 1000 ∧ (∀ d ∈ p, d.length ≤ 1000) ∧ ∀ d ∈ p, ∀ t ∈ d, t.length ≤ 1000 := by
 refine ⟨by have := h.len; omega, fun d hd => by have := (h.ok d hd).2.2; omega, fun d hd t ht => ?_⟩
 have := XI d t ht
 have := (h.ok d hd).2.1
 omega
theorem PlanS.set {n K : Nat} {p : zx} (h : PlanS n K p) {k : Nat} {e : zi} (he : DayOk e ∧ e.flatten.length ≤ K + 1 ∧ e.length ≤ K + 1) : PlanS n (K + 1) (p.set k e) := by
 refine ⟨by rw [List.length_set]; exact h.len, fun d hd => ?_⟩
 rcases List.mem_or_eq_of_mem_set hd with q | q
 ·obtain ⟨g1, g2, g3⟩ := h.ok d q; exact ⟨g1, by omega, by omega⟩
 ·rw [q]; exact he
theorem ZeI {x : Inst} {n : Nat} (h : InstA x n) {p : zx} {K : Nat} (hK : K ≤ 10000) (hp : PlanS n K p) {c : Nat} (hc : c < x.cust.length) (h0 : (jK x n p c).2 = true) : PlanS n (K + 64) (jK x n p c).1 := by
 have hx := h.h.cust
 unfold jK at h0 ⊢
 split at h0
 ·rename_i h1
  rw [if_pos h1]
  have hcm : x.cust.getD c default ∈ x.cust := by rw [List.getD_eq_getElem?_getD, List.getElem?_eq_getElem hc]; exact List.getElem_mem hc
  have hg := XP (h.made _ hcm) h.n60 x.cap _ h1
  have hl := hg.len
  generalize (y9 n x.cap (x.cust.getD c default) (p.map (xq x (xR x c)))).1 = v at *
  clear hg h1
  have key : ∀ (v : List Visit) (q : zx) (K : Nat), K + v.length ≤ 10100 → PlanS n K q → (v.foldl (wg x c) (q, true)).2 = true → PlanS n (K + v.length) (v.foldl (wg x c) (q, true)).1 := by
   intro v
   induction v with
   | nil => intro q K _ hq _; exact hq
   | cons w v ih =>
    intro q K hKl hq hz
    rw [List.length_cons] at hKl ⊢
    rw [List.foldl_cons] at hz ⊢
    have hs : wg x c (q, true) w = if (yC x (q.getD w.d.toNat []) ⟨c, w.q⟩).2 = true then (q.set w.d.toNat (yC x (q.getD w.d.toNat []) ⟨c, w.q⟩).1, true) else ([], false) := rfl
    rw [hs] at hz ⊢
    split at hz
    ·rename_i hi
     rw [if_pos hi]
     rw [show K + (v.length + 1) = (K + 1) + v.length by omega]
     refine ih _ _ (by omega) (hq.set ?_) hz
     have hd : DayOk (q.getD w.d.toNat []) ∧ (q.getD w.d.toNat []).flatten.length ≤ K ∧ (q.getD w.d.toNat []).length ≤ K := by
      rw [List.getD_eq_getElem?_getD]
      cases e : q[w.d.toNat]? with
      | none => exact ⟨⟨by simp, by simp, by simp⟩, by simp, by simp⟩
      | some d => exact hq.ok d (List.mem_of_getElem? e)
     exact Zaa (by omega) hd.1 hd.2.1 hd.2.2 (by omega)
    ·rw [Zab] at hz; cases hz
  have := key v p K (by omega) hp h0
  exact ⟨this.len, fun d hd => by obtain ⟨g1, g2, g3⟩ := this.ok d hd; exact ⟨g1, by omega, by omega⟩⟩
 ·cases h0
theorem Zm8 {x : Inst} {n : Nat} (h : InstA x n) {p : zx} {K : Nat} (hK : K ≤ 900) (hp : PlanS n K p) (c : Nat) (hc : c < x.cust.length) : Pure Tryz.prog 118 [.agg (zA x), .agg [L p], I c] (.tup [.agg [L (jK x n p c).1], B (jK x n p c).2]) := by
 have hx := h.h.cust
 have hn60 := h.n60
 have hxd := h.days
 have hpl := hp.len
 obtain ⟨hs1, hs2, hs3⟩ := hp.sizes (by omega) (by omega)
 obtain ⟨cu, tlc, a1, -, -, e1, e0⟩ := el 8 rfl x.cust c hc
 have hcm := List.mem_of_getElem? a1
 have hgc : x.cust.getD c default = cu := by rw [List.getD_eq_getElem?_getD, a1]; rfl
 have hPr := Zm5 x p c (n := n) (K := K) (by omega) (by omega) hx hc hp
 have hI := Zm7 x (xR x c) p
 have hlen : (p.map (xq x (xR x c))).length ≤ 1000 := by rw [List.length_map]; omega
 have hput : jK x n p c = if (y9 n x.cap cu (p.map (xq x (xR x c)))).2 = true then (y9 n x.cap cu (p.map (xq x (xR x c)))).1.foldl (wg x c) (p, true) else ([], false) := by unfold jK; rw [hgc]
 have hgood := XP (h.made cu hcm) hn60 x.cap (p.map (xq x (xR x c)))
 rw [hput]
 generalize p.map (xq x (xR x c)) = pr at *
 have hSo : Pure Tryz.prog 111 [.agg (zY cu), I x.days, I x.cap, L pr] (.tup [L (y9 n x.cap cu pr).1, B (y9 n x.cap cu pr).2]) := by
  rw [hxd]
  exact fun S => ZeB cu n x.cap (.inl rfl) hI hlen (h.made cu hcm) (h.pats cu hcm) hn60
 clear hput
 generalize y9 n x.cap cu pr = r at *
 obtain ⟨v, ok⟩ := r
 simp only at hSo hgood ⊢
 refine zv Tryz.func118 Tryz.ntmps118 Tryz.results118 fun S nx hd => ?_
 refine za (zb ?_)
 intro v0 v1 v2
 refine za (zB (some [nx, nx + 1]) (Row.pures [0, 1, 2, 3, 4, 5, 6, 7, 8, 9, 10, 11, 12, 13, 14, 15, 16, 17, 18] .done) mixed (zm e0 hc) ?_)
 refine zI (hPr) (zm e0 hc) ?_
 refine zI (hSo) (zm e0 hc) ?_
 cases ok with
 | false =>
  rw [if_neg (by decide)]
  repeat apply za
  refine zb ?_
  refine zo rfl (za (zb ?_))
  refine uP 2 0 rfl rfl ?_
  exact zg (zk hd (by simp; rfl) rfl)
 | true =>
  have hg := hgood rfl
  have hvl := hg.len
  rw [if_pos rfl]
  repeat apply za
  refine zb ?_
  refine zn rfl (zh (za (zT [] (by rfl) (by rfl) fun K Gc Gh hK hGc hGh X hX0 hX => ?_)))
  simp -implicitDefEqProofs [hX0, hX]
  try clear hX0 hX X
  refine hGc _ _ _ _ _ _ _ fun hsuf => ((V9 p hs1 hs2 hs3 jM).mono ?_).v
  rintro _ _ ⟨v3, rfl, rfl⟩
  refine ⟨_, _, JV 3 _, ?_⟩
  clear hGc hGh
  clear Gc Gh
  refine zQ hsuf (D := []) (by rfl) fun Gc Gh hGc hGh X hX0 hX => ?_
  simp -implicitDefEqProofs [hX0, hX, Nat.add_assoc]
  clear hX0 hX X
  intro v4
  refine hK _ _ _ ?_
  clear hK hGc hGh
  clear K Gc Gh
  repeat apply za
  refine zb ?_
  refine zj (zG (fun s : Nat × zx × Nat => s.1 ≤ v.length ∧ (v.take s.1).foldl (wg x c) (p, true) = (s.2.1, true) ∧ PlanS n (K + s.1) s.2.1) (fun (k, q, w) => [(2, I c), (3, .ptr nx v0 0), (6, .ptr (nx + 2) v2 0), (10, .ptr (nx + 7) v4 0), (38, L v), (39, I v.length), (40, I k)]) (fun (k, q, w) => [.cells v0 25 (zA x), .cells v1 38 [L p], .cells v2 38 [yF], .dead, .dead, .dead, .cells w 58 (q.flatMap Enc.enc), .cells v4 38 [.sl (nx + 6) w 1 0 q.length]]) (fun s => v.length - s.1) (0, p, v3) [] ⟨by simp, by simp, hp⟩ (by simp) (by simp) ?_)
  rintro ⟨k, q, w⟩ ⟨hk, hq, hqs⟩
  simp only at hk hq hqs ⊢
  have hql := hqs.len
  refine za (zb ?_)
  refine za (zr rfl (fun hc1 => ?_) (fun hc1 => ?_))
  ·simp at hc1
   obtain ⟨u, tl, b1, b2, b3, f1, f0⟩ := el 2 rfl v k hc1
   have hu := hg.ok u (List.mem_of_getElem? b1)
   obtain ⟨z, hz⟩ : ∃ z : Nat, u.d = z := ⟨u.d.toNat, by omega⟩
   have hzl : z < q.length := by omega
   obtain ⟨d, tld, d1, d2, d3, d0⟩ := zE rfl q z hzl
   obtain ⟨g1, g2, g3⟩ := hqs.ok d (List.mem_of_getElem? d1)
   have hins := Vh x d ⟨c, u.q⟩ (by omega) g1 (by omega)
   have hsz := Zaa (x := x) (s := ⟨c, u.q⟩) (by omega) g1 g2 g3 (by omega)
   have hst : (v.take (k + 1)).foldl (wg x c) (p, true) = if (yC x d ⟨c, u.q⟩).2 = true then (q.set z (yC x d ⟨c, u.q⟩).1, true) else ([], false) := by
    rw [b3, List.foldl_append, hq]
    have e9 : q.getD u.d.toNat [] = d := by rw [hz, Int.toNat_natCast, List.getD_eq_getElem?_getD, d1]; rfl
    show wg x c (q, true) u = _
    unfold wg
    rw [if_pos rfl, e9, hz, Int.toNat_natCast]
   generalize yC x d ⟨c, u.q⟩ = e at *
   obtain ⟨d', ok'⟩ := e
   simp only at hins hst hsz
   have hz1 : 1 ≤ q.length - z := by omega
   have hqf : (q.flatMap Enc.enc : List PV).length = q.length := jm q
   have hsp := VT (α := zi) rfl q z d' hzl
   have hsp' : yd (q.flatMap Enc.enc) z [L d'] = (q.set z d').flatMap Enc.enc := by simpa using hsp
   refine zh (za (zj (za (ze [] (zF f0 hc1 hz) ?_))))
   intro v5
   refine za (zb ?_)
   intro v6
   refine za (zB (some [nx, nx + 6, nx + 7, nx + 8, nx + 9]) (Row.pures [0, 1, 2, 3, 4, 5, 6, 7, 8, 9, 10, 11] (.alt 12 (.alt 13 (Row.pures [14] .done) .stop) .stop)) mixed (yh d0 hzl hz1 hz) ?_)
   refine zI (hins) (yh d0 hzl hz1 hz) ?_
   intro v7
   cases ok' with
   | false =>
    rw [if_neg (by decide)] at hst
    have hall : v.foldl (wg x c) (p, true) = ([], false) := by
     conv => lhs; rw [← List.take_append_drop (k + 1) v, List.foldl_append, hst, Zab]
    rw [hall]
    repeat apply za
    refine zb ?_
    refine zo rfl (za (zb ?_))
    refine uP 2 0 rfl rfl ?_
    exact zg (zk hd (by simp; rfl) rfl)
   | true =>
    rw [if_pos rfl] at hst
    repeat apply za
    refine zb ?_
    refine zn rfl (zh (ze [] (yh hzl hsp' hqf hz) ?_))
    refine ⟨by omega, ?_⟩
    refine zb ?_
    exact zp (k + 1, q.set z d', w) [_, _, _] ⟨hc1, hst, hqs.set hsz⟩ (by simp; omega) (by simp [zt k (by omega)]) rfl (by simp; exact ⟨rfl, rfl, rfl⟩)
  ·simp at hc1
   obtain rfl : k = v.length := by omega
   rw [List.take_length] at hq
   rw [hq]
   refine zy (yc 6 rfl ?_)
   refine za (zb ?_)
   exact zg (zk hd (by simp; rfl) rfl)
open Go Go.Proofs Hp
theorem PlanS.wo {n K : Nat} {p : zx} (h : PlanS n K p) (c : Int) : PlanS n K (Yi c p) := by
 refine ⟨by unfold Yi; rw [List.length_map]; exact h.len, fun e he => ?_⟩
 obtain ⟨d, hd, rfl⟩ := List.mem_map.1 he
 obtain ⟨g1, g2, g3⟩ := h.ok d hd
 have hl := ZcR c d
 have hm : ∀ t ∈ jr c d, ∃ u ∈ d, t = j5 c u := fun t ht => by
  obtain ⟨u, hu, e⟩ := List.mem_map.1 (List.mem_filter.1 ht).1
  exact ⟨u, hu, e.symm⟩
 refine ⟨⟨by have := g1.n; omega, fun t ht => ?_, fun t ht s hs => ?_⟩, ?_, by omega⟩
 ·obtain ⟨u, hu, rfl⟩ := hm t ht
  exact Nat.le_trans (Vj c u) (g1.t u hu)
 ·obtain ⟨u, hu, rfl⟩ := hm t ht
  exact g1.s u hu s (List.mem_filter.1 hs).1
 ·rw [Zm1]; exact Nat.le_trans (List.length_filter_le _ _) g2
structure PlanG (x : Inst) (n : Nat) (p : zx) : Prop where
 a : InstA x n
 six : x.cust.length ≤ 6
 len : p.length = n
 may : ∀ d ∈ p, yv x d = 0
theorem PlanG.m {x : Inst} {n : Nat} {p : zx} (h : PlanG x n p) : PlanM x p := ⟨by have := h.six; omega, h.a.h, by have := h.len; have := h.a.n60; omega, h.may⟩
theorem PlanG.s {x : Inst} {n : Nat} {p : zx} (h : PlanG x n p) : PlanS n 6 p := by
 refine ⟨h.len, fun d hd => ?_⟩
 obtain ⟨h1, h2, h3⟩ := XU (by have := h.six; omega) (h.may d hd)
 have := h.six
 exact ⟨h3.ok, by omega, by omega⟩
theorem PlanG.serves {x : Inst} {n : Nat} {p : zx} (h : PlanG x n p) : Serves x p := by
 have hs := h.s
 have hn := h.a.n60
 have hl := hs.len
 have hcn : uZ p ≤ 1000 * p.length := by
  have : ∀ p : zx, (∀ d ∈ p, d.flatten.length ≤ 1000) → uZ p ≤ 1000 * p.length := by
   intro p
   induction p with
   | nil => intro _; simp [uZ]
   | cons d p ih =>
    intro h
    have := ih fun e he => h e (by simp [he])
    have := h d (by simp)
    simp only [uZ, List.map_cons, List.sum_cons, List.length_cons] at *
    omega
  exact this p fun d hd => by have := (hs.ok d hd).2.1; omega
 refine ⟨⟨by omega, fun d hd => by have := (hs.ok d hd).2.2; omega, fun d hd => (hs.ok d hd).1.t, by rw [VY]; omega⟩, fun s hst => ?_, by omega⟩
 obtain ⟨d, hd, hsd⟩ := ZdQ p 0 s hst
 have := ZdR (h.may d hd) s.1 hsd
 simp [qY] at this
 omega
theorem PlanG.cost {x : Inst} {n : Nat} {p : zx} (h : PlanG x n p) : Pure Tryz.prog 84 [.agg (zA x), .agg [L p]] (I (qq x p)) :=
 Zmj x p h.serves (by have := h.six; omega) (fun c hc => (h.a.made c hc).fits) fun d hd => (h.s.ok d hd).1
theorem PlanG.clone {x : Inst} {n : Nat} {p : zx} (h : PlanG x n p) : Pure Tryz.prog 61 [.agg [L p]] (.agg [L p]) := by
 obtain ⟨h1, h2, h3⟩ := h.s.sizes (by have := h.a.n60; omega) (by omega)
 exact Zm2 p h1 h2 h3
theorem PlanS.open {x : Inst} {n K : Nat} (h : InstA x n) (h6 : x.cust.length ≤ 6) {p : zx} (hp : PlanS n K p) (ho : uD x p = true) : PlanG x n p :=
 ⟨h, h6, hp.len, fun d hd => by unfold uD at ho; have := List.all_eq_true.1 ho d hd; simpa using this⟩
def wE (cs : List Nat) (p : zx) : zx := cs.foldl (fun q (c : Nat) => Yi c q) p
def Jc (x : Inst) (n : Nat) (st : zx × Bool) (c : Nat) : zx × Bool := if st.2 = true then jK x n st.1 c else st
def wh (x : Inst) (n : Nat) (cs : List Nat) (q : zx) : zx × Bool := cs.foldl (Jc x n) (q, true)
def jV (x : Inst) (n : Nat) (p : zx) (cs : List Nat) : zx × Bool :=
 if (wh x n cs (wE cs p)).2 = true then
  (if uD x (wh x n cs (wE cs p)).1 = true ∧ ¬ qq x p ≤ qq x (wh x n cs (wE cs p)).1 then ((wh x n cs (wE cs p)).1, true) else (p, false))
 else (p, false)
theorem Zac (x : Inst) (n : Nat) (q : zx) : ∀ cs : List Nat, cs.foldl (Jc x n) (q, false) = (q, false)
 | [] => rfl
 | c :: cs => by rw [List.foldl_cons]; exact Zac x n q cs
theorem ZeJ {x : Inst} {n : Nat} {p : zx} (h : PlanG x n p) (cs : List Nat) (hl : cs.length ≤ 10) (hcs : ∀ c ∈ cs, c < x.cust.length) : Pure Tryz.prog 78 [.agg (zA x), .agg [L p], L (cs.map fun (c : Nat) => (c : Int))] (.tup [.agg [L (jV x n p cs).1], B (jV x n p cs).2]) := by
 have hA := h.a
 have h6 := h.six
 have hn60 := hA.n60
 have hcl := h.clone
 have hps := h.s
 have hcost := h.cost
 obtain ⟨zs, hzs⟩ : ∃ zs, zs = cs.map fun (c : Nat) => (c : Int) := ⟨_, rfl⟩
 have hzl : zs.length = cs.length := by rw [hzs, List.length_map]
 have hat : ∀ (k c : Nat), cs[k]? = some c → zs[k]? = some (c : Int) := fun k c e => by rw [hzs, List.getElem?_map, e]; rfl
 have hanew : jV x n p cs = if (wh x n cs (wE cs p)).2 = true then (if uD x (wh x n cs (wE cs p)).1 = true ∧ ¬ qq x p ≤ qq x (wh x n cs (wE cs p)).1 then ((wh x n cs (wE cs p)).1, true) else (p, false)) else (p, false) := rfl
 rw [← hzs]
 clear hzs
 refine zv Tryz.func78 Tryz.ntmps78 Tryz.results78 fun S nx hd => ?_
 refine za (zb ?_)
 intro v0 v1 v2
 refine za (zb ?_)
 intro v3
 repeat apply za
 refine zb ?_
 refine zj (zG (fun s : Nat × zx => s.1 ≤ zs.length ∧ s.2 = wE (cs.take s.1) p ∧ PlanS n 6 s.2) (fun (k, q) => [(2, L zs), (3, .ptr nx v0 0), (4, .ptr (nx + 1) v1 0), (6, .ptr (nx + 2) v2 0), (8, .ptr (nx + 3) v3 0), (9, B true), (15, L zs), (16, I zs.length), (17, I k)]) (fun (k, q) => [.cells v0 25 (zA x), .cells v1 38 [L p], .cells v2 38 [yF], .cells v3 38 [L q]]) (fun s => zs.length - s.1) (0, p) [] ⟨by simp, by simp [wE], hps⟩ (by simp) (by simp) ?_)
 ·rintro ⟨k, q⟩ ⟨hk, hq, hqs⟩
  simp only at hk hq hqs ⊢
  refine za (zb ?_)
  refine za (zr rfl (fun hc1 => ?_) (fun hc1 => ?_))
  ·simp at hc1
   obtain ⟨c, hc⟩ : ∃ c, cs[k]? = some c := ⟨_, List.getElem?_eq_getElem (by omega)⟩
   have hcx := hcs c (List.mem_of_getElem? hc)
   obtain ⟨z, tl, b1, b2, b3, f0⟩ := zE rfl zs k hc1
   obtain rfl : z = (c : Int) := by have := hat k c hc; rw [b1] at this; exact Option.some.inj this
   have hth := ZeF x c
   rw [show (decide (0 ≤ (c : Int)) && decide ((c : Int) < x.cust.length)) = true from by simp; omega] at hth
   obtain ⟨s1, s2, s3⟩ := hqs.sizes (by omega) (by omega)
   have hwo := ZmY q c s1 (fun d hd => by have := s2 d hd; omega) (fun d hd t ht => by have := s3 d hd t ht; omega)
   have hnext : Yi c q = wE (cs.take (k + 1)) p := by
    rw [hq, List.take_add_one, hc]; simp [wE]
   have hqs2 := hqs.wo c
   have hqs2 := hqs.wo c
   generalize Yi c q = q2 at *
   refine zh (za (zj (za (ze [] (zm f0 hc1) ?_))))
   repeat apply za
   refine zb ?_
   refine zz hth ?_
   refine zn (by simp) ?_
   refine zh (zb ?_)
   refine zz hwo ?_
   refine zb ?_
   exact zp (k + 1, q2) [] ⟨hc1, hnext, hqs2⟩ (by simp; omega) (by simp [zt k (by omega)]) rfl (by simp)
  ·simp at hc1
   obtain rfl : k = zs.length := by omega
   rw [hzl, List.take_length] at hq
   refine zy ?_
   repeat apply za
   refine zb ?_
   refine zj (zG (fun s : Nat × zx => s.1 ≤ zs.length ∧ (cs.take s.1).foldl (Jc x n) (q, true) = (s.2, true) ∧ PlanS n (6 + 64 * s.1) s.2) (fun (k, q) => [(2, L zs), (3, .ptr nx v0 0), (4, .ptr (nx + 1) v1 0), (6, .ptr (nx + 2) v2 0), (8, .ptr (nx + 3) v3 0), (31, L zs), (32, I zs.length), (33, I k)]) (fun (k, q) => [.cells v0 25 (zA x), .cells v1 38 [L p], .cells v2 38 [yF], .cells v3 38 [L q]]) (fun s => zs.length - s.1) (0, q) [] ⟨by simp, by simp, hqs⟩ (by simp) (by simp) ?_)
   rw [← hq] at hanew
   clear hqs hq hk hc1
   rintro ⟨k, r⟩ ⟨hk, hr, hrs⟩
   simp only at hk hr hrs ⊢
   refine za (zb ?_)
   refine za (zr rfl (fun hc1 => ?_) (fun hc1 => ?_))
   ·simp at hc1
    obtain ⟨c, hc⟩ : ∃ c, cs[k]? = some c := ⟨_, List.getElem?_eq_getElem (by omega)⟩
    have hcx := hcs c (List.mem_of_getElem? hc)
    obtain ⟨z, tl, b1, b2, b3, f0⟩ := zE rfl zs k hc1
    obtain rfl : z = (c : Int) := by have := hat k c hc; rw [b1] at this; exact Option.some.inj this
    have hput := Zm8 hA (K := 6 + 64 * k) (by omega) hrs c hcx
    have hsz := ZeI hA (K := 6 + 64 * k) (by omega) hrs hcx
    have hst : (cs.take (k + 1)).foldl (Jc x n) (q, true) = jK x n r c := by
     rw [List.take_add_one, hc, List.foldl_append, hr]; rfl
    generalize jK x n r c = e at *
    obtain ⟨r2, ok⟩ := e
    simp only at hput hsz
    refine zh (za (zj (za (ze [] (zm f0 hc1) ?_))))
    refine za (zb ?_)
    refine zz hput ?_
    cases ok with
    | false =>
     have hall : wh x n cs q = (r2, false) := by
      unfold wh
      conv => lhs; rw [← List.take_append_drop (k + 1) cs, List.foldl_append, hst, Zac]
     rw [hall, if_neg (by simp)] at hanew
     rw [hanew]
     refine za (zb ?_)
     refine zo rfl (za (zb ?_))
     refine zz hcl ?_
     exact zg (zk hd (by simp; rfl) rfl)
    | true =>
     refine za (zb ?_)
     refine zn rfl (zh (zb ?_))
     exact zp (k + 1, r2) [] ⟨hc1, hst, by have := hsz rfl; rw [show 6 + 64 * (k + 1) = 6 + 64 * k + 64 by omega]; exact this⟩ (by simp; omega) (by simp [zt k (by omega)]) rfl (by simp)
   ·simp at hc1
    obtain rfl : k = zs.length := by omega
    rw [hzl, List.take_length] at hr
    have hall : wh x n cs q = (r, true) := hr
    rw [hall, if_pos rfl] at hanew
    have hop := Zm6 x r (n := n) (K := 6 + 64 * zs.length) (by omega) (by omega) (by omega) hrs
    refine zy ?_
    cases ho : uD x r with
    | false =>
     rw [ho] at hop
     rw [ho, if_neg (by simp)] at hanew
     rw [hanew]
     repeat apply za
     refine zB (some [nx, nx + 1, nx + 3]) (Row.pures [0, 1, 2, 3, 4, 5, 6, 7, 8, 9, 10, 11, 12] .done) mixed zL ?_
     refine zI (hop) zL ?_
     refine zo rfl (za (zb ?_))
     refine zz hcl ?_
     exact zg (zk hd (by simp; rfl) rfl)
    | true =>
     rw [ho] at hop
     have hcr := (hrs.open hA h6 ho).cost
     generalize qq x r = z2 at *
     generalize qq x p = z1 at *
     by_cases hle : z1 ≤ z2
     ·rw [if_neg (fun q => q.2 hle)] at hanew
      rw [hanew]
      repeat apply za
      refine zB (some [nx, nx + 1, nx + 3]) (Row.pures [0, 1, 2, 3, 4, 5, 6, 7, 8, 9, 10, 11, 12] .done) mixed hle ?_
      refine zI (hop) hle ?_
      refine zI (hcr) hle ?_
      refine zI (hcost) hle ?_
      refine zo rfl (za (zb ?_))
      refine zz hcl ?_
      exact zg (zk hd (by simp; rfl) rfl)
     ·rw [if_pos ⟨ho, hle⟩] at hanew
      rw [hanew]
      repeat apply za
      refine zB (some [nx, nx + 1, nx + 3]) (Row.pures [0, 1, 2, 3, 4, 5, 6, 7, 8, 9, 10, 11, 12] .done) mixed hle ?_
      refine zI (hop) hle ?_
      refine zI (hcr) hle ?_
      refine zI (hcost) hle ?_
      refine zn rfl (zh (za (zb ?_)))
      exact zg (zk hd (by simp; rfl) rfl)
theorem Zm9 {x : Inst} {n : Nat} {p : zx} (h : PlanG x n p) (c : Nat) (hc : c < x.cust.length) : Pure Tryz.prog 37 [.agg (zA x), .agg [L p], I c] (.tup [.agg [L (jV x n p [c]).1], B (jV x n p [c]).2]) := by
 have ha := ZeJ h [c] (by simp) (by simpa using hc)
 simp only [List.map_cons, List.map_nil] at ha
 refine zv Tryz.func37 Tryz.ntmps37 Tryz.results37 fun S nx hd => ?_
 refine za (zb ?_)
 intro v0 v1 v2
 refine za (zb ?_)
 refine zz ha ?_
 exact zg (zk hd (by simp; rfl) rfl)
def wV (x : Inst) (n : Nat) (p : zx) (a b : Nat) : zx × Bool := if a = b then (p, false) else jV x n p [a, b]
theorem Zna {x : Inst} {n : Nat} {p : zx} (h : PlanG x n p) (a b : Nat) (ha : a < x.cust.length) (hb : b < x.cust.length) : Pure Tryz.prog 204 [.agg (zA x), .agg [L p], I a, I b] (.tup [.agg [L (wV x n p a b).1], B (wV x n p a b).2]) := by
 have hcl := h.clone
 unfold wV
 by_cases hab : a = b
 ·rw [if_pos hab]
  refine zv Tryz.func204 Tryz.ntmps204 Tryz.results204 fun S nx hd => ?_
  refine za (zb ?_)
  intro v0 v1 v2
  repeat apply za
  refine zb ?_
  refine zo (by simp [hab]) ?_
  refine za (zb ?_)
  refine zz hcl ?_
  exact zg (zk hd (by simp; rfl) rfl)
 ·rw [if_neg hab]
  have hn := ZeJ h [a, b] (by simp) (by simpa using ⟨ha, hb⟩)
  simp only [List.map_cons, List.map_nil] at hn
  refine zv Tryz.func204 Tryz.ntmps204 Tryz.results204 fun S nx hd => ?_
  refine za (zb ?_)
  intro v0 v1 v2
  repeat apply za
  refine zb ?_
  refine zn (by simp; omega) ?_
  refine zh (za (zb ?_))
  refine zz hn ?_
  exact zg (zk hd (by simp; rfl) rfl)
theorem ZeK {x : Inst} {n : Nat} (h : InstA x n) : ∀ (cs : List Nat) (K : Nat) (q : zx), (∀ c ∈ cs, c < x.cust.length) → K + 64 * cs.length ≤ 1000 → PlanS n K q → (wh x n cs q).2 = true → PlanS n (K + 64 * cs.length) (wh x n cs q).1
 | [], K, q, _, _, hq, _ => hq
 | c :: cs, K, q, hc, hK, hq, hz => by
  rw [List.length_cons] at hK ⊢
  have e : wh x n (c :: cs) q = cs.foldl (Jc x n) (jK x n q c) := rfl
  rw [e] at hz ⊢
  cases ho : (jK x n q c).2 with
  | false =>
   have : jK x n q c = ((jK x n q c).1, false) := by rw [← ho]
   rw [this, Zac] at hz; cases hz
  | true =>
   have h1 := ZeI h (by omega) hq (hc c (by simp)) ho
   have : jK x n q c = ((jK x n q c).1, true) := by rw [← ho]
   rw [this] at hz ⊢
   have := ZeK h cs (K + 64) _ (fun c hc' => hc c (by simp [hc'])) (by omega) h1 hz
   rw [show K + 64 * (cs.length + 1) = K + 64 + 64 * cs.length by omega]
   exact this
theorem ZeL {n K : Nat} : ∀ (cs : List Nat) (p : zx), PlanS n K p → PlanS n K (wE cs p)
 | [], _, h => h
 | c :: cs, p, h => ZeL cs _ (h.wo c)
theorem Zad {x : Inst} {n : Nat} {p : zx} (h : PlanG x n p) (cs : List Nat) (hl : cs.length ≤ 10) (hcs : ∀ c ∈ cs, c < x.cust.length) : PlanG x n (jV x n p cs).1 ∧ qq x (jV x n p cs).1 ≤ qq x p := by
 unfold jV
 split
 ·rename_i h1
  split
  ·rename_i h2
   exact ⟨(ZeK h.a cs 6 _ hcs (by omega) (ZeL cs p h.s) h1).open h.a h.six h2.1, by have := h2.2; dsimp only; omega⟩
  ·exact ⟨h, Int.le_refl _⟩
 ·exact ⟨h, Int.le_refl _⟩
theorem ZeM {x : Inst} {n : Nat} {p : zx} (h : PlanG x n p) (a b : Nat) (ha : a < x.cust.length) (hb : b < x.cust.length) : PlanG x n (wV x n p a b).1 ∧ qq x (wV x n p a b).1 ≤ qq x p := by
 unfold wV
 split
 ·exact ⟨h, Int.le_refl _⟩
 ·exact Zad h [a, b] (by simp) (by simpa using ⟨ha, hb⟩)
open Go Go.Proofs Hp
theorem Znb (op : BinOp) (x y : Int) : 0 ≤ bits op .u64 x y ∧ bits op .u64 x y < 18446744073709551616 := by
 have h := wf_bits op .u64 x y
 simp [Lit.wf, IntKind.min, IntKind.max, IntKind.signed, IntKind.bits] at h
 omega
abbrev jy (s : Int) : List PV := [.sc (.int .u64 s)]
def qe (s : Int) : Int := IntKind.u64.wrap (s + 11400714819323198485)
def ZC (s : Int) : Int :=
 let a := qe s
 let b := IntKind.u64.wrap (bits .xor .u64 a (a.fdiv (2 ^ 30)) * 13787848793156543929)
 let c := IntKind.u64.wrap (bits .xor .u64 b (b.fdiv (2 ^ 27)) * 10723151780598845931)
 bits .xor .u64 c (c.fdiv (2 ^ 31))
theorem Znc (s : Int) : 0 ≤ ZC s ∧ ZC s < 18446744073709551616 := by unfold ZC; exact Znb _ _ _
theorem wF {S : Store} {nx id : Nat} (hd : zV nx S) (hlt : id < nx) (o : Ob) : zV nx (S.set id o) := fun i hi => by rw [Store.set_other _ _ _ _ (by omega)]; exact hd i hi
theorem Znd : IntKind.u64.bits = 64 := rfl
theorem Zne (s : Int) {S : Store} {id v : Nat} (hS : S id = .cells v 209 (jy s)) : Spec Tryz.prog 203 [.ptr id v 0] S (fun q S' => q = .sc (.int .u64 (ZC s)) ∧ S' = S.set id (.cells v 209 (jy (qe s)))) := by
 refine yT Tryz.func203 Tryz.ntmps203 Tryz.results203 fun nx hd => ?_
 have hlt : id < nx := yA hd hS (by simp)
 have xw := fun obs => (zH (S := S) (obs := obs) hlt).trans hS
 have yw := fun (o : Ob) obs => (zH (S := S.set id o) (obs := obs) hlt).trans (Store.set_same _ _ _)
 have g1 : ¬ nx ≤ id := by omega
 refine za (zb ?_)
 refine za (ze [] (zm xw g1) ?_)
 refine za (ze [] (zm yw g1) ?_)
 refine za (zb ?_)
 refine za (zb ?_)
 refine za (zb ?_)
 exact zg ⟨_, _, rfl, ⟨by simp [zq, ZC, qe, Znd], rfl⟩, yb (wF hd hlt _)⟩
def jz (s : Int) (n : Nat) : Nat := (ZC s).toNat % n
theorem ZD (s : Int) {n : Nat} (h : 0 < n) : jz s n < n := Nat.mod_lt _ h
theorem Zae (s : Int) (n : Nat) (h0 : 0 < n) (hn : n ≤ 1048576) {S : Store} {id v : Nat} (hS : S id = .cells v 209 (jy s)) : Spec Tryz.prog 160 [.ptr id v 0, I n] S (fun q S' => q = I (jz s n) ∧ S' = S.set id (.cells v 209 (jy (qe s)))) := by
 have hb := Znc s
 have hbl := ZD s h0
 have e1 : (ZC s).tmod (n : Int) = (jz s n : Int) := by
  unfold jz
  obtain ⟨m, hm⟩ := Int.eq_ofNat_of_zero_le hb.1
  rw [hm, Int.toNat_natCast, Int.tmod_eq_emod_of_nonneg (by omega)]; omega
 have w1 : IntKind.u64.wrap (n : Int) = n := by rw [IntWalk.u64_in _ (by omega)]
 have w2 : IntKind.i64.wrap (jz s n : Int) = jz s n := wr _ (by omega) (by omega)
 have hw := fun (S : Store) hS => Zne s (S := S) (id := id) (v := v) hS
 generalize ZC s = r at *
 generalize jz s n = k at *
 refine yT Tryz.func160 Tryz.ntmps160 Tryz.results160 fun nx hd => ?_
 have hlt : id < nx := yA hd hS (by simp)
 have xw := fun obs => (zH (S := S) (obs := obs) hlt).trans hS
 refine za (zb ?_)
 repeat apply za
 refine zb ?_
 refine zn (by simp; omega) ?_
 refine zh (za (zT [] (by rfl) (by rfl) fun K Gc Gh hK hGc hGh X hX0 hX => ?_))
 simp -implicitDefEqProofs [hX0, hX, w1, e1, w2]
 try clear hX0 hX X
 refine hGc _ _ _ _ _ _ _ fun hsuf => ((hw _ (xw _)).mono ?_).v
 rintro _ _ ⟨rfl, rfl⟩
 refine ⟨S.set id (.cells v 209 (jy (qe s))), [], jX _ hlt, ?_⟩
 have g2 : ¬ n = 0 := by omega
 clear hGc hGh
 clear Gc Gh
 refine zQ hsuf (D := []) (by rfl) fun Gc Gh hGc hGh X hX0 hX => ?_
 simp -implicitDefEqProofs [hX0, hX, w1, e1, w2, g2]
 clear hX0 hX X
 refine hK _ _ _ ?_
 clear hK hGc hGh
 clear K Gc Gh
 exact zg ⟨_, _, rfl, ⟨by simp [zq], rfl⟩, yb (wF hd hlt _)⟩
theorem Znf (s : Int) {S : Store} {nx : Nat} (hd : zV nx S) : Spec Tryz.prog 120 [I s] S (fun q S' => ∃ v, q = .ptr nx v 0 ∧ S' = S.set nx (.cells v 209 (jy (IntKind.u64.wrap s)))) := by
 refine uh hd Tryz.func120 Tryz.ntmps120 Tryz.results120 ?_
 refine za (zb ?_)
 refine za (zb ?_)
 intro v0
 exact zg ⟨_, _, rfl, ⟨v0, by simp [zq], rfl⟩, YB (j := 0) hd (by simp)⟩
open Go Go.Proofs Hp
abbrev Yj (x : Inst) (p : zx) (a o d : Nat) (b : Int) : List PV := [I x.days, I x.veh, I x.cap, I x.len, L x.cust, L x.dist, L p, I a, I o, I d, I b]
theorem Zng {x : Inst} {n : Nat} {p : zx} (h : PlanG x n p) (d : Nat) (b : Int) : PlanG x n (xu x p d b).1 := by
 unfold xu
 split
 ·exact h
 ·split
  ·exact h
  ·refine ⟨h.a, h.six, by rw [List.length_set]; exact h.len, fun e he => ?_⟩
   rcases List.mem_or_eq_of_mem_set he with q | q
   ·exact h.may e q
   ·rw [q]
    rename_i h1 h2
    have hlt : (d : Int).toNat < p.length := by omega
    refine (ZeH (by have := h.six; omega) h.a.h (h.may _ ?_) b).1
    rw [List.getD_eq_getElem?_getD, List.getElem?_eq_getElem hlt]; exact List.getElem_mem hlt
theorem Znh {x : Inst} {n : Nat} {p : zx} (h : PlanG x n p) (a o d : Nat) (b : Int) (ha : a < x.cust.length) {S : Store} {id v : Nat} (hS : S id = .cells v 212 (Yj x p a o d b)) :
  Spec Tryz.prog 161 [.ptr id v 0] S (fun _ S' => S' = S.set id (.cells v 212 (Yj x (jV x n p [a]).1 a o d b))) := by
 have hr := Zm9 h a ha
 generalize jV x n p [a] = r at *
 obtain ⟨q, ok⟩ := r
 simp only at hr ⊢
 refine yT Tryz.func161 Tryz.ntmps161 Tryz.results161 fun nx hd => ?_
 have hlt : id < nx := yA hd hS (by simp)
 have xw := fun obs => (zH (S := S) (obs := obs) hlt).trans hS
 have g1 : ¬ nx ≤ id := by omega
 refine zB (some []) (Row.pures [0, 1, 2, 3, 5, 6, 7, 9, 10, 11] (.alt 4 (.alt 8 (.alt 12 (Row.pures [13, 14, 15, 16, 17, 18] (.alt 19 (.done) .stop)) .stop) (.alt 12 (.alt 8 (Row.pures [13, 14, 15, 16, 17, 18] (.alt 19 (.done) .stop)) .stop) .stop)) (.alt 8 (.alt 4 (.alt 12 (Row.pures [13, 14, 15, 16, 17, 18] (.alt 19 (.done) .stop)) .stop) (.alt 12 (.alt 4 (Row.pures [13, 14, 15, 16, 17, 18] (.alt 19 (.done) .stop)) .stop) .stop)) (.alt 12 (.alt 4 (.alt 8 (Row.pures [13, 14, 15, 16, 17, 18] (.alt 19 (.done) .stop)) .stop) (.alt 8 (.alt 4 (Row.pures [13, 14, 15, 16, 17, 18] (.alt 19 (.done) .stop)) .stop) .stop)) .stop)))) mixed (zm xw g1) ?_
 repeat' refine And.intro ?_ ?_
 all_goals
  refine zI (hr) (zm xw g1) ?_
  exact ⟨_, _, rfl, by simp, yb (wF hd hlt _)⟩
theorem Zni {x : Inst} {n : Nat} {p : zx} (h : PlanG x n p) (a o d : Nat) (b : Int) (ha : a < x.cust.length) (ho : o < x.cust.length) {S : Store} {id v : Nat} (hS : S id = .cells v 212 (Yj x p a o d b)) :
  Spec Tryz.prog 162 [.ptr id v 0] S (fun _ S' => S' = S.set id (.cells v 212 (Yj x (wV x n p a o).1 a o d b))) := by
 have hr := Zna h a o ha ho
 generalize wV x n p a o = r at *
 obtain ⟨q, ok⟩ := r
 simp only at hr ⊢
 refine yT Tryz.func162 Tryz.ntmps162 Tryz.results162 fun nx hd => ?_
 have hlt : id < nx := yA hd hS (by simp)
 have xw := fun obs => (zH (S := S) (obs := obs) hlt).trans hS
 have g1 : ¬ nx ≤ id := by omega
 refine zB (some []) (Row.pures [0, 1, 2, 3, 5, 6, 7, 9, 10, 11, 13, 14, 15] (.alt 4 (.alt 8 (.alt 12 (.alt 16 (Row.pures [17, 18, 19, 20, 21, 22] (.alt 23 (.done) .stop)) .stop) (.alt 16 (.alt 12 (Row.pures [17, 18, 19, 20, 21, 22] (.alt 23 (.done) .stop)) .stop) .stop)) (.alt 12 (.alt 8 (.alt 16 (Row.pures [17, 18, 19, 20, 21, 22] (.alt 23 (.done) .stop)) .stop) (.alt 16 (.alt 8 (Row.pures [17, 18, 19, 20, 21, 22] (.alt 23 (.done) .stop)) .stop) .stop)) (.alt 16 (.alt 8 (.alt 12 (Row.pures [17, 18, 19, 20, 21, 22] (.alt 23 (.done) .stop)) .stop) (.alt 12 (.alt 8 (Row.pures [17, 18, 19, 20, 21, 22] (.alt 23 (.done) .stop)) .stop) .stop)) .stop))) (.alt 8 (.alt 4 (.alt 12 (.alt 16 (Row.pures [17, 18, 19, 20, 21, 22] (.alt 23 (.done) .stop)) .stop) (.alt 16 (.alt 12 (Row.pures [17, 18, 19, 20, 21, 22] (.alt 23 (.done) .stop)) .stop) .stop)) (.alt 12 (.alt 4 (.alt 16 (Row.pures [17, 18, 19, 20, 21, 22] (.alt 23 (.done) .stop)) .stop) (.alt 16 (.alt 4 (Row.pures [17, 18, 19, 20, 21, 22] (.alt 23 (.done) .stop)) .stop) .stop)) (.alt 16 (.alt 4 (.alt 12 (Row.pures [17, 18, 19, 20, 21, 22] (.alt 23 (.done) .stop)) .stop) (.alt 12 (.alt 4 (Row.pures [17, 18, 19, 20, 21, 22] (.alt 23 (.done) .stop)) .stop) .stop)) .stop))) (.alt 12 (.alt 4 (.alt 8 (.alt 16 (Row.pures [17, 18, 19, 20, 21, 22] (.alt 23 (.done) .stop)) .stop) (.alt 16 (.alt 8 (Row.pures [17, 18, 19, 20, 21, 22] (.alt 23 (.done) .stop)) .stop) .stop)) (.alt 8 (.alt 4 (.alt 16 (Row.pures [17, 18, 19, 20, 21, 22] (.alt 23 (.done) .stop)) .stop) (.alt 16 (.alt 4 (Row.pures [17, 18, 19, 20, 21, 22] (.alt 23 (.done) .stop)) .stop) .stop)) (.alt 16 (.alt 4 (.alt 8 (Row.pures [17, 18, 19, 20, 21, 22] (.alt 23 (.done) .stop)) .stop) (.alt 8 (.alt 4 (Row.pures [17, 18, 19, 20, 21, 22] (.alt 23 (.done) .stop)) .stop) .stop)) .stop))) (.alt 16 (.alt 4 (.alt 8 (.alt 12 (Row.pures [17, 18, 19, 20, 21, 22] (.alt 23 (.done) .stop)) .stop) (.alt 12 (.alt 8 (Row.pures [17, 18, 19, 20, 21, 22] (.alt 23 (.done) .stop)) .stop) .stop)) (.alt 8 (.alt 4 (.alt 12 (Row.pures [17, 18, 19, 20, 21, 22] (.alt 23 (.done) .stop)) .stop) (.alt 12 (.alt 4 (Row.pures [17, 18, 19, 20, 21, 22] (.alt 23 (.done) .stop)) .stop) .stop)) (.alt 12 (.alt 4 (.alt 8 (Row.pures [17, 18, 19, 20, 21, 22] (.alt 23 (.done) .stop)) .stop) (.alt 8 (.alt 4 (Row.pures [17, 18, 19, 20, 21, 22] (.alt 23 (.done) .stop)) .stop) .stop)) .stop))) .stop))))) mixed (zm xw g1) ?_
 repeat' refine And.intro ?_ ?_
 all_goals
  refine zI (hr) (zm xw g1) ?_
  exact ⟨_, _, rfl, by simp, yb (wF hd hlt _)⟩
theorem Znj {x : Inst} {n : Nat} {p : zx} (h : PlanG x n p) (a o d : Nat) (b : Int) (hb : b ≤ 9223372036854775807) {S : Store} {id v : Nat} (hS : S id = .cells v 212 (Yj x p a o d b)) :
  Spec Tryz.prog 163 [.ptr id v 0] S (fun _ S' => S' = S.set id (.cells v 212 (Yj x (xu x p d b).1 a o d b))) := by
 have hr := Zm4 h.m d b hb
 generalize xu x p d b = r at *
 obtain ⟨q, ok⟩ := r
 simp only at hr ⊢
 refine yT Tryz.func163 Tryz.ntmps163 Tryz.results163 fun nx hd => ?_
 have hlt : id < nx := yA hd hS (by simp)
 have xw := fun obs => (zH (S := S) (obs := obs) hlt).trans hS
 have g1 : ¬ nx ≤ id := by omega
 refine zB (some []) (Row.pures [0, 1, 2, 3, 5, 6, 7, 9, 10, 11, 13, 14, 15] (.alt 4 (.alt 8 (.alt 12 (.alt 16 (Row.pures [17, 18, 19, 20, 21, 22] (.alt 23 (.done) .stop)) .stop) (.alt 16 (.alt 12 (Row.pures [17, 18, 19, 20, 21, 22] (.alt 23 (.done) .stop)) .stop) .stop)) (.alt 12 (.alt 8 (.alt 16 (Row.pures [17, 18, 19, 20, 21, 22] (.alt 23 (.done) .stop)) .stop) (.alt 16 (.alt 8 (Row.pures [17, 18, 19, 20, 21, 22] (.alt 23 (.done) .stop)) .stop) .stop)) (.alt 16 (.alt 8 (.alt 12 (Row.pures [17, 18, 19, 20, 21, 22] (.alt 23 (.done) .stop)) .stop) (.alt 12 (.alt 8 (Row.pures [17, 18, 19, 20, 21, 22] (.alt 23 (.done) .stop)) .stop) .stop)) .stop))) (.alt 8 (.alt 4 (.alt 12 (.alt 16 (Row.pures [17, 18, 19, 20, 21, 22] (.alt 23 (.done) .stop)) .stop) (.alt 16 (.alt 12 (Row.pures [17, 18, 19, 20, 21, 22] (.alt 23 (.done) .stop)) .stop) .stop)) (.alt 12 (.alt 4 (.alt 16 (Row.pures [17, 18, 19, 20, 21, 22] (.alt 23 (.done) .stop)) .stop) (.alt 16 (.alt 4 (Row.pures [17, 18, 19, 20, 21, 22] (.alt 23 (.done) .stop)) .stop) .stop)) (.alt 16 (.alt 4 (.alt 12 (Row.pures [17, 18, 19, 20, 21, 22] (.alt 23 (.done) .stop)) .stop) (.alt 12 (.alt 4 (Row.pures [17, 18, 19, 20, 21, 22] (.alt 23 (.done) .stop)) .stop) .stop)) .stop))) (.alt 12 (.alt 4 (.alt 8 (.alt 16 (Row.pures [17, 18, 19, 20, 21, 22] (.alt 23 (.done) .stop)) .stop) (.alt 16 (.alt 8 (Row.pures [17, 18, 19, 20, 21, 22] (.alt 23 (.done) .stop)) .stop) .stop)) (.alt 8 (.alt 4 (.alt 16 (Row.pures [17, 18, 19, 20, 21, 22] (.alt 23 (.done) .stop)) .stop) (.alt 16 (.alt 4 (Row.pures [17, 18, 19, 20, 21, 22] (.alt 23 (.done) .stop)) .stop) .stop)) (.alt 16 (.alt 4 (.alt 8 (Row.pures [17, 18, 19, 20, 21, 22] (.alt 23 (.done) .stop)) .stop) (.alt 8 (.alt 4 (Row.pures [17, 18, 19, 20, 21, 22] (.alt 23 (.done) .stop)) .stop) .stop)) .stop))) (.alt 16 (.alt 4 (.alt 8 (.alt 12 (Row.pures [17, 18, 19, 20, 21, 22] (.alt 23 (.done) .stop)) .stop) (.alt 12 (.alt 8 (Row.pures [17, 18, 19, 20, 21, 22] (.alt 23 (.done) .stop)) .stop) .stop)) (.alt 8 (.alt 4 (.alt 12 (Row.pures [17, 18, 19, 20, 21, 22] (.alt 23 (.done) .stop)) .stop) (.alt 12 (.alt 4 (Row.pures [17, 18, 19, 20, 21, 22] (.alt 23 (.done) .stop)) .stop) .stop)) (.alt 12 (.alt 4 (.alt 8 (Row.pures [17, 18, 19, 20, 21, 22] (.alt 23 (.done) .stop)) .stop) (.alt 8 (.alt 4 (Row.pures [17, 18, 19, 20, 21, 22] (.alt 23 (.done) .stop)) .stop) .stop)) .stop))) .stop))))) mixed (zm xw g1) ?_
 repeat' refine And.intro ?_ ?_
 all_goals
  refine zI (hr) (zm xw g1) ?_
  exact ⟨_, _, rfl, by simp, yb (wF hd hlt _)⟩
open Go Go.Proofs Hp
def vq (x : Inst) (n : Nat) (p : zx) (s b : Int) : zx :=
 if x.cust.length = 0 then p else
  (xu x (wV x n (jV x n p [jz s x.cust.length]).1 (jz s x.cust.length) (jz (qe s) x.cust.length)).1 (jz (qe (qe s)) n) b).1
def Yk (x : Inst) (s : Int) : Int := if x.cust.length = 0 then s else qe (qe (qe s))
theorem Znk {x : Inst} {n : Nat} {p : zx} (h : PlanG x n p) (s b : Int) : PlanG x n (vq x n p s b) := by
 unfold vq
 split
 ·exact h
 ·rename_i h0
  have ha := ZD s (n := x.cust.length) (by omega)
  have ho := ZD (qe s) (n := x.cust.length) (by omega)
  exact Zng (ZeM (Zad h _ (by simp) (by simpa using ha)).1 _ _ ha ho).1 _ _
def ZE (p q1 q2 q3 : zx) (k : Nat) : zx := if k = 0 then p else if k = 1 then q1 else if k = 2 then q2 else q3
theorem ZeN (p q1 q2 q3 : zx) : ZE p q1 q2 q3 0 = p := if_pos rfl
theorem ZeO (p q1 q2 q3 : zx) : ZE p q1 q2 q3 1 = q1 := by unfold ZE; rw [if_neg (by decide), if_pos rfl]
theorem ZeP (p q1 q2 q3 : zx) : ZE p q1 q2 q3 2 = q2 := by unfold ZE; rw [if_neg (by decide), if_neg (by decide), if_pos rfl]
theorem ZeQ (p q1 q2 q3 : zx) : ZE p q1 q2 q3 3 = q3 := by unfold ZE; rw [if_neg (by decide), if_neg (by decide), if_neg (by decide)]
theorem Znl {x : Inst} {n : Nat} {p : zx} (h : PlanG x n p) (hn0 : 0 < n) (s b : Int) (hb : b ≤ 9223372036854775807) {S : Store} {id v : Nat} (hS : S id = .cells v 209 (jy s)) :
  Spec Tryz.prog 121 [.agg (zA x), .agg [L p], .ptr id v 0, I b] S (fun q S' => q = .agg [L (vq x n p s b)] ∧ S' = S.set id (.cells v 209 (jy (Yk x s)))) := by
 have hcl := h.clone
 have h6 := h.six
 have hxd := h.a.days
 have hn60 := h.a.n60
 by_cases hm : x.cust.length = 0
 ·have e1 : vq x n p s b = p := by unfold vq; rw [if_pos hm]
  have e2 : Yk x s = s := by unfold Yk; rw [if_pos hm]
  rw [e1, e2]
  refine yT Tryz.func121 Tryz.ntmps121 Tryz.results121 fun nx hd => ?_
  have hlt : id < nx := yA hd hS (by simp)
  refine za (zb ?_)
  intro v0 v1 v2
  refine za (zB (some [nx, nx + 1]) (Row.pures [0, 1, 2, 3, 4] (.alt 5 (Row.pures [6] .done) .stop)) mixed trivial ?_)
  refine zI (hcl) trivial ?_
  intro v3
  refine za (zb ?_)
  repeat apply za
  refine zb ?_
  refine zo (by simp [List.length_eq_zero_iff.1 hm]) ?_
  refine za (zb ?_)
  have eS : S.set id (.cells v 209 (jy s)) = S := by
   rw [← hS]
   funext i
   by_cases hi : i = id
   ·subst hi; exact Store.set_same _ _ _
   ·exact Store.set_other _ _ _ _ hi
  rw [eS]
  exact zg ⟨_, S, (by simp; rfl), ⟨by simp [zq], rfl⟩, yb hd⟩
 have e1 : vq x n p s b = (xu x (wV x n (jV x n p [jz s x.cust.length]).1 (jz s x.cust.length) (jz (qe s) x.cust.length)).1 (jz (qe (qe s)) n) b).1 := by unfold vq; rw [if_neg hm]
 have e2 : Yk x s = qe (qe (qe s)) := by unfold Yk; rw [if_neg hm]
 rw [e1, e2]
 have ha := ZD s (n := x.cust.length) (by omega)
 have ho := ZD (qe s) (n := x.cust.length) (by omega)
 have hdd := ZD (qe (qe s)) hn0
 have b1 := fun (S : Store) hS => Zae s x.cust.length (by omega) (by omega) (S := S) (id := id) (v := v) hS
 have b2 := fun (S : Store) hS => Zae (qe s) x.cust.length (by omega) (by omega) (S := S) (id := id) (v := v) hS
 have b3 := fun (S : Store) hS => Zae (qe (qe s)) n (by omega) (by omega) (S := S) (id := id) (v := v) hS
 rw [← hxd] at b3
 have hp1 : PlanG x n (jV x n p [jz s x.cust.length]).1 := (Zad h _ (by simp) (by simpa using ha)).1
 have hp2 := (ZeM hp1 _ _ ha ho).1
 generalize jz s x.cust.length = a at *
 generalize jz (qe s) x.cust.length = o at *
 generalize jz (qe (qe s)) n = d at *
 generalize qe (qe s) = s2 at *
 generalize qe s = s1 at *
 generalize qe s2 = s3 at *
 have r1 := fun (S : Store) (i w : Nat) hS => Znh h a o d b ha (S := S) (id := i) (v := w) hS
 have r2 := fun (S : Store) (i w : Nat) hS => Zni hp1 a o d b ha ho (S := S) (id := i) (v := w) hS
 have r3 := fun (S : Store) (i w : Nat) hS => Znj hp2 a o d b hb (S := S) (id := i) (v := w) hS
 clear hp1 hp2
 generalize (xu x (wV x n (jV x n p [a]).1 a o).1 d b).1 = q3 at *
 generalize (wV x n (jV x n p [a]).1 a o).1 = q2 at *
 generalize (jV x n p [a]).1 = q1 at *
 clear e1 e2
 refine yT Tryz.func121 Tryz.ntmps121 Tryz.results121 fun nx hd => ?_
 have hlt : id < nx := yA hd hS (by simp)
 have xw := fun obs => (zH (S := S) (obs := obs) hlt).trans hS
 refine za (zb ?_)
 intro v0 v1 v2
 refine za (zB (some [nx, nx + 1]) (Row.pures [0, 1, 2, 3, 4] (.alt 5 (Row.pures [6] .done) .stop)) mixed trivial ?_)
 refine zI (hcl) trivial ?_
 intro v3
 refine za (zb ?_)
 repeat apply za
 refine zb ?_
 have hm2 : ¬ x.cust = [] := fun e => hm (by rw [e]; rfl)
 refine zn (by simp [hm2]) ?_
 refine zh (za (zT [] (by rfl) (by rfl) fun K Gc Gh hK hGc hGh X hX0 hX => ?_))
 simp -implicitDefEqProofs [hX0, hX]
 try clear hX0 hX X
 refine hGc _ _ _ _ _ _ _ fun hsuf => ((b1 _ (xw _)).mono ?_).v
 rintro _ _ ⟨rfl, rfl⟩
 refine ⟨_, _, jX _ hlt, ?_⟩
 clear hGc hGh
 clear Gc Gh
 refine zQ hsuf (D := []) (by rfl) fun Gc Gh hGc hGh X hX0 hX => ?_
 simp -implicitDefEqProofs [hX0, hX]
 clear hX0 hX X
 have hS1 : (S.set id (.cells v 209 (jy s1))) id = .cells v 209 (jy s1) := Store.set_same _ _ _
 have hd1 := wF hd hlt (.cells v 209 (jy s1))
 obtain ⟨S1, hS1e⟩ : ∃ S1, S1 = S.set id (.cells v 209 (jy s1)) := ⟨_, rfl⟩
 rw [← hS1e] at hS1 hd1 ⊢
 have xw1 := fun obs => (zH (S := S1) (obs := obs) hlt).trans hS1
 refine hK _ _ _ ?_
 clear hK hGc hGh
 clear K Gc Gh
 refine za (zT [] (by rfl) (by rfl) fun K Gc Gh hK hGc hGh X hX0 hX => ?_)
 simp -implicitDefEqProofs [hX0, hX]
 try clear hX0 hX X
 refine hGc _ _ _ _ _ _ _ fun hsuf => ((b2 _ (xw1 _)).mono ?_).v
 rintro _ _ ⟨rfl, rfl⟩
 refine ⟨_, _, jX _ hlt, ?_⟩
 clear hGc hGh
 clear Gc Gh
 refine zQ hsuf (D := []) (by rfl) fun Gc Gh hGc hGh X hX0 hX => ?_
 simp -implicitDefEqProofs [hX0, hX]
 clear hX0 hX X
 have hS2 : (S1.set id (.cells v 209 (jy s2))) id = .cells v 209 (jy s2) := Store.set_same _ _ _
 have hd2 := wF hd1 hlt (.cells v 209 (jy s2))
 obtain ⟨S2, hS2e⟩ : ∃ S2, S2 = S1.set id (.cells v 209 (jy s2)) := ⟨_, rfl⟩
 rw [← hS2e] at hS2 hd2 ⊢
 have xw2 := fun obs => (zH (S := S2) (obs := obs) hlt).trans hS2
 refine hK _ _ _ ?_
 clear hK hGc hGh
 clear K Gc Gh
 refine za (zT [] (by rfl) (by rfl) fun K Gc Gh hK hGc hGh X hX0 hX => ?_)
 simp -implicitDefEqProofs [hX0, hX]
 try clear hX0 hX X
 refine hGc _ _ _ _ _ _ _ fun hsuf => ((b3 _ (xw2 _)).mono ?_).v
 rintro _ _ ⟨rfl, rfl⟩
 refine ⟨_, _, jX _ hlt, ?_⟩
 clear hGc hGh
 clear Gc Gh
 refine zQ hsuf (D := []) (by rfl) fun Gc Gh hGc hGh X hX0 hX => ?_
 simp -implicitDefEqProofs [hX0, hX]
 clear hX0 hX X
 have hd3 := wF hd2 hlt (.cells v 209 (jy s3))
 obtain ⟨S3, hS3e⟩ : ∃ S3, S3 = S2.set id (.cells v 209 (jy s3)) := ⟨_, rfl⟩
 rw [← hS3e] at hd3 ⊢
 refine hK _ _ _ ?_
 clear hK hGc hGh
 clear K Gc Gh
 repeat apply za
 refine zb ?_
 refine zj (zG (fun k : Nat => k ≤ 3) (fun k => [(8, .ptr (nx + 2) v2 0), (9, .ptr (nx + 3) v3 0), (53, .lst 3 [.fn (.func 161) [.ptr (nx + 3) v3 0] [], .fn (.func 162) [.ptr (nx + 3) v3 0] [], .fn (.func 163) [.ptr (nx + 3) v3 0] []]), (54, I 3), (55, I k)]) (fun k => [.cells v0 25 (zA x), .cells v1 38 [L p], .cells v2 38 [yF], .cells v3 212 (Yj x (ZE p q1 q2 q3 k) a o d b)]) (fun k => 3 - k) 0 [] (by simp) (by simp) (by simp [ZeN]) ?_)
 rintro k hk
 refine za (zb ?_)
 refine za (zr rfl (fun hc => ?_) (fun hc => ?_))
 ·simp at hc
  refine zh (za (zj ?_))
  obtain rfl | rfl | rfl : k = 0 ∨ k = 1 ∨ k = 2 := by omega
  ·refine za (zb ?_)
   refine zT [] (by rfl) (by rfl) fun K Gc Gh hK hGc hGh X hX0 hX => ?_
   simp -implicitDefEqProofs [hX0, hX]
   try clear hX0 hX X
   refine hGc _ _ _ _ _ _ _ fun hsuf => ((r1 _ (nx + 3) v3 (by rw [yP]; simp [ZeN])).mono ?_).v
   rintro _ _ rfl
   refine ⟨S3, _, (by rw [yY _ (by omega) (by simp), Nat.add_sub_cancel_left]), ?_⟩
   clear hGc hGh
   clear Gc Gh
   refine zQ hsuf (D := []) (by rfl) fun Gc Gh hGc hGh X hX0 hX => ?_
   simp -implicitDefEqProofs [hX0, hX]
   clear hX0 hX X
   refine hK _ _ _ ?_
   clear hK hGc hGh
   clear K Gc Gh
   refine zb ?_
   exact zp 1 [] (by omega) (by omega) (by simp; exact wr 1 (by omega) (by omega)) rfl (by simp [ZeO])
  ·refine za (zb ?_)
   refine zT [] (by rfl) (by rfl) fun K Gc Gh hK hGc hGh X hX0 hX => ?_
   simp -implicitDefEqProofs [hX0, hX]
   try clear hX0 hX X
   refine hGc _ _ _ _ _ _ _ fun hsuf => ((r2 _ (nx + 3) v3 (by rw [yP]; simp [ZeO])).mono ?_).v
   rintro _ _ rfl
   refine ⟨S3, _, (by rw [yY _ (by omega) (by simp), Nat.add_sub_cancel_left]), ?_⟩
   clear hGc hGh
   clear Gc Gh
   refine zQ hsuf (D := []) (by rfl) fun Gc Gh hGc hGh X hX0 hX => ?_
   simp -implicitDefEqProofs [hX0, hX]
   clear hX0 hX X
   refine hK _ _ _ ?_
   clear hK hGc hGh
   clear K Gc Gh
   refine zb ?_
   exact zp 2 [] (by omega) (by omega) (by simp; exact wr 2 (by omega) (by omega)) rfl (by simp [ZeP])
  ·refine za (zb ?_)
   refine zT [] (by rfl) (by rfl) fun K Gc Gh hK hGc hGh X hX0 hX => ?_
   simp -implicitDefEqProofs [hX0, hX]
   try clear hX0 hX X
   refine hGc _ _ _ _ _ _ _ fun hsuf => ((r3 _ (nx + 3) v3 (by rw [yP]; simp [ZeP])).mono ?_).v
   rintro _ _ rfl
   refine ⟨S3, _, (by rw [yY _ (by omega) (by simp), Nat.add_sub_cancel_left]), ?_⟩
   clear hGc hGh
   clear Gc Gh
   refine zQ hsuf (D := []) (by rfl) fun Gc Gh hGc hGh X hX0 hX => ?_
   simp -implicitDefEqProofs [hX0, hX]
   clear hX0 hX X
   refine hK _ _ _ ?_
   clear hK hGc hGh
   clear K Gc Gh
   refine zb ?_
   exact zp 3 [] (by omega) (by omega) (by simp; exact wr 3 (by omega) (by omega)) rfl (by simp [ZeQ])
 ·simp at hc
  obtain rfl : k = 3 := by omega
  refine zy ?_
  rw [ZeQ]
  refine za (zb ?_)
  have eS : S.set id (.cells v 209 (jy s3)) = S3 := by rw [hS3e, hS2e, hS1e, Store.set_set, Store.set_set]
  rw [eS]
  exact zg ⟨_, S3, (by simp; rfl), ⟨by simp [zq], rfl⟩, yb hd3⟩
open Go Go.Proofs Hp
def vX : Cust := ⟨1, 1, [1], 0, 0, 0, 0, 0⟩
def yu : Inst := ⟨1, 1, 9, 9, [vX], [[0, 3], [4, 0]]⟩
theorem Zaf : InstH yu := by
 refine ⟨by decide, by decide, ZcS fun row hr d hd => ?_, by decide⟩
 simp only [yu, List.mem_cons, List.not_mem_nil, or_false] at hr
 rcases hr with rfl | rfl <;> simp only [List.mem_cons, List.not_mem_nil, or_false] at hd <;> rcases hd with rfl | rfl <;> decide
theorem ZeR (l : List Int) : we vX 9 l = ([⟨0, 1⟩], true) := by
 have h1 : jJ vX 9 = [1] := by decide
 have h2 : jI vX 1 = [⟨0, 1⟩] := by decide
 unfold we
 rw [h1]
 have h3 : (qE l [1] 1).1 = 0 := by
  unfold qE
  rw [if_pos (.inl (by simp [qE]))]; rfl
 simp only [List.length_cons, List.length_nil, Nat.zero_add, h3]
 rw [if_neg (by decide)]
 show (jI vX 1, true) = _
 rw [h2]
theorem Znm : VsOk 1 1 [[⟨0, 1⟩]] := by
 refine ⟨rfl, fun l hl w hw => ?_, fun l hl => ?_, fun l hl => ?_⟩
 ·simp at hl; subst hl; simp at hw; subst hw; decide
 ·simp at hl; subst hl; simp
 ·simp at hl; subst hl; simp
theorem ZeS {d : zi} {s : Stop} (h : d.flatten.Perm [s]) (hn : ∀ t ∈ d, t ≠ []) : d = [[s]] := by
 have h1 : d.flatten = [s] := List.perm_singleton.1 h
 match d, h1, hn with
 | [], h1, _ => simp at h1
 | [t], h1, _ => simpa using h1
 | t :: u :: r, h1, hn =>
  exfalso
  have a := hn t (by simp)
  have b := hn u (by simp)
  have := congrArg List.length h1
  simp only [List.flatten_cons, List.length_append, List.length_cons, List.length_nil] at this
  have := List.length_pos_iff.2 a
  have := List.length_pos_iff.2 b
  omega
theorem Znn {x : Inst} {s : Stop} (h : SOk x [s]) (h0 : arc x 0 0 = 0) (hf : jB x [s] = 0) (hv : 1 ≤ x.veh) (b : Int) : qL x b [s] = ([[s]], 0) := by
 have he : (qL x b [s]).2 = 0 := by
  apply Classical.byContradiction
  intro hne
  rcases (Zk9 h b hne).2 with q | q
  ·exact q hf
  ·simp at q; omega
 obtain ⟨-, h2, h3, -⟩ := Xt h h0 b he
 have := ZeS h3 (Xl h2)
 exact Prod.ext this he
open Go Go.Proofs Hp
theorem Zno {x : Inst} (hx : InstH x) {v : List (List Visit)} {n : Nat} (hv : VsOk x.cust.length n v) (b : Int) : ∀ d ∈ q9 x v b n, DayOk d ∧ d.length ≤ 1000 ∧ d.flatten.length ≤ 1000 := by
 intro d hd
 obtain ⟨r, hr, rfl⟩ := List.mem_map.1 hd
 obtain ⟨k, -, rfl⟩ := List.mem_map.1 hr
 exact Zk8 (Y5 hx hv k) hx.diag b
open Go Go.Proofs Hp
structure SuitsP (c : Cust) (n : Nat) (cap : Int) (v : List Visit) : Prop where
 cap : ∀ w ∈ v, w.q ≤ cap
 per : c.kind = 1 → ∃ p ∈ c.pats, v = jI c p
 tank : c.kind ≠ 1 → v = yk 0 (zS v n) ∧ x6 c (zS v n) = 0
open Go Go.Proofs Hp
theorem ZeT {x : Inst} {sol : Cust → List Int → List Visit × Bool} {b : Int} {n : Nat} : ∀ (k : Nat) (pr : List (List Int)), vk x.cust.length n pr → (vp x sol b n k pr).2 = 0 → ∃ pr', vk x.cust.length n pr' ∧ (y8 x sol pr').2 = 0 ∧ jS (qz x (y8 x sol pr').1 b n) = 0 ∧ (vp x sol b n k pr).1 = q9 x (y8 x sol pr').1 b n
 | 0, _, _, h => by simp [vp] at h
 | k + 1, pr, hp, h => by
  unfold vp at h ⊢
  by_cases h1 : (y8 x sol pr).2 ≠ 0
  ·rw [if_pos h1] at h; cases h
  rw [if_neg h1] at h ⊢
  by_cases h2 : jS (qz x (y8 x sol pr).1 b n) = 0
  ·rw [if_pos h2] at h ⊢
   exact ⟨pr, hp, by simpa using h1, h2, rfl⟩
  rw [if_neg h2] at h ⊢
  by_cases h3 : (qz x (y8 x sol pr).1 b n).any uA = true
  ·rw [if_pos h3] at h; cases h
  rw [if_neg h3] at h ⊢
  exact ZeT k _ (Q7 _ hp n) h
def j9 (v : List Visit) : Prop := (v.map (·.d)).Pairwise (· < ·)
theorem ZeU : ∀ (v : List Visit), j9 v → ∀ k : Nat, (v.filter fun w => decide (w.d < ((k + 1 : Nat) : Int))) = (v.filter fun w => decide (w.d < (k : Int))) ++ (v.filter fun w => decide (w.d = (k : Int)))
 | [], _, _ => rfl
 | w :: v, h, k => by
  have h' : j9 v := by unfold j9 at h ⊢; rw [List.map_cons, List.pairwise_cons] at h; exact h.2
  have h1 : ∀ u ∈ v, w.d < u.d := by
   unfold j9 at h; rw [List.map_cons, List.pairwise_cons] at h
   exact fun u hu => h.1 _ (List.mem_map_of_mem hu)
  have ih := ZeU v h' k
  by_cases c1 : w.d < (k : Int)
  ·have c2 : w.d < ((k + 1 : Nat) : Int) := by omega
   have c3 : ¬ w.d = (k : Int) := by omega
   rw [List.filter_cons_of_pos (by simpa using c2), List.filter_cons_of_pos (by simpa using c1), List.filter_cons_of_neg (by simpa using c3), ih]
   rfl
  ·have e0 : (v.filter fun w => decide (w.d < (k : Int))) = [] := by
    rw [List.filter_eq_nil_iff]; intro u hu; have := h1 u hu; simp; omega
   rw [e0] at ih
   by_cases c3 : w.d = (k : Int)
   ·have c2 : w.d < ((k + 1 : Nat) : Int) := by omega
    rw [List.filter_cons_of_pos (by simpa using c2), List.filter_cons_of_neg (by simpa using c1), List.filter_cons_of_pos (by simpa using c3), ih, e0]
    rfl
   ·have c2 : ¬ w.d < ((k + 1 : Nat) : Int) := by omega
    rw [List.filter_cons_of_neg (by simpa using c2), List.filter_cons_of_neg (by simpa using c1), List.filter_cons_of_neg (by simpa using c3), ih, e0]
theorem ZeV {v : List Visit} (h : j9 v) (h0 : ∀ w ∈ v, 0 ≤ w.d) : ∀ k : Nat, (List.range k).flatMap (fun d : Nat => v.filter fun w => decide (w.d = (d : Int))) = v.filter fun w => decide (w.d < (k : Int))
 | 0 => by
  symm
  rw [List.range_zero, List.flatMap_nil, List.filter_eq_nil_iff]; intro u hu; have := h0 u hu; simp; omega
 | k + 1 => by rw [List.range_succ, List.flatMap_append, ZeV h h0 k, ZeU v h k]; simp
theorem ZeW {v : List Visit} {n : Nat} (h : j9 v) (h0 : ∀ w ∈ v, 0 ≤ w.d ∧ w.d < n) : (List.range n).flatMap (fun d : Nat => v.filter fun w => decide (w.d = (d : Int))) = v := by
 rw [ZeV h fun w hw => (h0 w hw).1]
 rw [List.filter_eq_self]; intro w hw; simpa using (h0 w hw).2
theorem ZeX {v : List Visit} (h : j9 v) (d : Int) : (v.filter fun w => decide (w.d = d)) = [] ∨ ∃ w, w.d = d ∧ (v.filter fun w => decide (w.d = d)) = [w] := by
 have h1 := ZdT (l := v) (h.imp fun h => Int.ne_of_lt h) d
 generalize he : (v.filter fun w => decide (w.d = d)) = m at *
 match m, h1, he with
 | [], _, _ => exact .inl rfl
 | [w], _, he =>
  refine .inr ⟨w, ?_, rfl⟩
  have : w ∈ v.filter fun w => decide (w.d = d) := by rw [he]; simp
  simpa using (List.mem_filter.1 this).2
 | _ :: _ :: _, h1, _ => simp at h1
theorem ZeY (f : Nat → Int) : ∀ (k i : Nat), yk i ((List.range' i k).map f) = (List.range' i k).flatMap fun d => if 0 < f d then [⟨(d : Int), f d⟩] else []
 | 0, i => by simp [yk]
 | k + 1, i => by
  rw [List.range'_succ, List.map_cons, List.flatMap_cons, ← ZeY f k (i + 1)]
  simp only [yk]
  split <;> rfl
theorem Znp (f : Nat → Int) (k : Nat) : yk 0 ((List.range k).map f) = (List.range k).flatMap fun d => if 0 < f d then [⟨(d : Int), f d⟩] else [] := by
 rw [List.range_eq_range']; exact ZeY f k 0
theorem Znq {v : List Visit} {n : Nat} (hg : GoodV n v) (hn : n ≤ 60) (h : j9 v) : yk 0 (zS v n) = v := by
 unfold zS
 have e : (min (max (n : Int) 0) 64).toNat = n := by omega
 rw [e, Znp]
 conv => rhs; rw [← ZeW h fun w hw => (hg.ok w hw).1]
 have key : ∀ d : Nat, (if 0 < ((v.filter fun s => decide (s.d = (d : Int))).map (·.q)).sum then [(⟨(d : Int), ((v.filter fun s => decide (s.d = (d : Int))).map (·.q)).sum⟩ : Visit)] else []) = v.filter fun w => decide (w.d = (d : Int)) := by
  intro d
  rcases ZeX h d with q | ⟨w, q1, q2⟩
  ·rw [q]; rfl
  ·have hw : w ∈ v := by
    have : w ∈ v.filter fun w => decide (w.d = (d : Int)) := by rw [q2]; simp
    exact (List.mem_filter.1 this).1
   have := (hg.ok w hw).2
   rw [q2]
   simp only [List.map_cons, List.map_nil, List.sum_cons, List.sum_nil, Int.add_zero]
   rw [if_pos (by omega), ← q1]
 have ef : (fun d : Nat => if 0 < ((v.filter fun s => decide (s.d = (d : Int))).map (·.q)).sum then [(⟨(d : Int), ((v.filter fun s => decide (s.d = (d : Int))).map (·.q)).sum⟩ : Visit)] else []) = fun d : Nat => v.filter fun w => decide (w.d = (d : Int)) := funext key
 rw [ef]
theorem Zag : ∀ (l : List Int) (i : Nat), j9 (yk i l)
 | [], _ => .nil
 | z :: l, i => by
  have ih := Zag l (i + 1)
  simp only [yk]
  split
  ·unfold j9 at ih ⊢
   rw [List.map_cons, List.pairwise_cons]
   refine ⟨fun d hd => ?_, ih⟩
   obtain ⟨s, hs, rfl⟩ := List.mem_map.1 hd
   have := XH l (i + 1) s hs
   show (i : Int) < s.d
   omega
  ·exact ih
theorem ZeZ : ∀ (l : List Int) (i d : Nat), Qs l → (((yk i l).filter fun s => decide (s.d = ((i + d : Nat) : Int))).map (·.q)).sum = l.getD d 0
 | [], i, d, _ => by simp [yk]
 | z :: l, i, d, h => by
  have hz := h z (by simp)
  have hge := XH l (i + 1)
  have ih := fun d => ZeZ l (i + 1) d fun x hx => h x (by simp [hx])
  cases d with
  | zero =>
   have e : ((yk (i + 1) l).filter fun s => decide (s.d = ((i + 0 : Nat) : Int))) = [] := by
    rw [List.filter_eq_nil_iff]; intro s hs; have := hge s hs; simp; omega
   simp only [yk]
   split
   ·rw [List.filter_cons_of_pos (by simp), e]; simp
   ·rw [e]; simp; omega
  | succ d =>
   have ih := ih d
   rw [show i + 1 + d = i + (d + 1) by omega] at ih
   simp only [yk]
   split
   ·rw [List.filter_cons_of_neg (by simp; omega), ih]; simp
   ·rw [ih]; simp
theorem Znr {l : List Int} {n : Nat} (hl : l.length = n) (hn : n ≤ 60) (h : Qs l) : zS (yk 0 l) n = l := by
 apply List.ext_getElem?
 intro d
 have e : (min (max (n : Int) 0) 64).toNat = n := by omega
 by_cases hd : d < n
 ·have := ZeZ l 0 d h
  rw [Nat.zero_add] at this
  unfold zS
  rw [List.getElem?_map, e, List.getElem?_range hd, Option.map_some, this, List.getD_eq_getElem?_getD, List.getElem?_eq_getElem (by omega)]; rfl
 ·rw [List.getElem?_eq_none (by rw [Xv]; omega), List.getElem?_eq_none (by omega)]
theorem Ze0 : ∀ (p : zx) (i : Nat) (d : zi), told i (p ++ [d]) = told i p ++ d.flatten.map (·, i + p.length)
 | [], i, d => by simp [told]
 | e :: p, i, d => by
  rw [List.cons_append, told, Ze0 p (i + 1) d, told, List.append_assoc, List.length_cons, show i + 1 + p.length = i + (p.length + 1) by omega]
theorem Ze1 {m n : Nat} {v : List (List Visit)} (h : VsOk m n v) (day : Int) (i : Nat) : ∀ k : Nat, (qp v day k).filter (fun s => decide (s.c = (i : Int))) = if i < k then wB v day i else []
 | 0 => by simp [qp]
 | k + 1 => by
  rw [VQ, List.filter_append, Ze1 h day i k]
  have hm : ∀ s ∈ wB v day k, s.c = k := fun s hs => (ZdV h hs).1
  by_cases hik : i = k
  ·subst hik
   rw [if_neg (by omega), if_pos (by omega), List.nil_append, List.filter_eq_self]
   intro s hs; simpa using hm s hs
  ·have : (wB v day k).filter (fun s => decide (s.c = (i : Int))) = [] := by
    rw [List.filter_eq_nil_iff]; intro s hs; have := hm s hs; simp; omega
   rw [this, List.append_nil]
   by_cases h1 : i < k
   ·rw [if_pos h1, if_pos (by omega)]
   ·rw [if_neg h1, if_neg (by omega)]
theorem Zns {α : Type} {a b : List α} (h : a.Perm b) (hb : b.length ≤ 1) : a = b := by
 match b, hb, h with
 | [], _, h => exact List.perm_nil.1 h
 | [s], _, h => exact List.perm_singleton.1 h
 | _ :: _ :: _, hb, _ => simp at hb
theorem Znt {m n : Nat} {v : List (List Visit)} (h : VsOk m n v) {d : zi} {k i : Nat} (hd : d.flatten.Perm (qp v k m)) (hi : i < m) : yq i (d.flatten.map (·, k)) = (v.getD i []).filter fun w => decide (w.d = (k : Int)) := by
 have h1 : (d.flatten.filter fun s => decide (s.c = (i : Int))) = wB v k i := by
  have := hd.filter fun s => decide (s.c = (i : Int))
  rw [Ze1 h k i m, if_pos hi] at this
  exact Zns this (ZdU h k i)
 unfold yq
 rw [List.filter_map, List.map_map]
 have e2 : ((fun x : Stop × Nat => decide (x.1.c = (i : Int))) ∘ fun x : Stop => (x, k)) = fun s : Stop => decide (s.c = (i : Int)) := rfl
 rw [e2, h1]
 unfold wB
 rw [List.map_map]
 conv => rhs; rw [← List.map_id (List.filter _ _)]
 apply List.map_congr_left
 intro w hw
 have := (List.mem_filter.1 hw).2
 simp only [decide_eq_true_eq] at this
 show (⟨(k : Int), w.q⟩ : Visit) = w
 rw [← this]
theorem Ze2 {x : Inst} (hx : InstH x) {v : List (List Visit)} {b : Int} {n : Nat} (h : VsOk x.cust.length n v) {i : Nat} (hi : i < x.cust.length) : ∀ k : Nat, (∀ d < k, (qL x b (qp v (d : Nat) x.cust.length)).2 = 0) → yq i (told 0 (q9 x v b k)) = (List.range k).flatMap fun d : Nat => (v.getD i []).filter fun w => decide (w.d = (d : Int))
 | 0, _ => rfl
 | k + 1, h0 => by
  have hk := h0 k (by omega)
  obtain ⟨-, -, hp, -⟩ := Xt (Y5 hx h k) hx.diag b hk
  rw [ZdX, Ze0, Z5, Ze2 hx h hi k fun d hd => h0 d (by omega), Nat.zero_add, Q5, Znt h hp hi, List.range_succ, List.flatMap_append]
  simp
open Go Go.Proofs Hp
theorem u5 (r : Int) (k : Nat) : r * ((k + 1 : Nat) : Int) = r * (k : Int) + r := by rw [Int.natCast_add, Int.mul_add]; simp
theorem Zah (size rate : Int) : ∀ (a b : List Int) (there : Int), yt size rate there (a ++ b) = (yt size rate there a).bind fun l => (yt size rate (there + a.sum - rate * a.length) b).map (l ++ ·)
 | [], b, there => by
  have e : there + ([] : List Int).sum - rate * (([] : List Int).length : Int) = there := by simp
  show yt size rate there b = (yt size rate (there + ([] : List Int).sum - rate * (([] : List Int).length : Int)) b).map ([] ++ ·)
  rw [e]
  cases yt size rate there b <;> rfl
 | q :: a, b, there => by
  rw [List.cons_append, yt, yt]
  split
  ·rfl
  ·rw [Zah size rate a b]
   have e : there + q - rate + a.sum - rate * (a.length : Int) = there + (q :: a).sum - rate * ((q :: a).length : Int) := by
    rw [List.sum_cons, List.length_cons, u5]; omega
   rw [e]
   cases yt size rate (there + q - rate) a with
   | none => rfl
   | some l =>
    simp only [Option.bind_some, Option.map_some]
    cases yt size rate (there + (q :: a).sum - rate * ((q :: a).length : Int)) b <;> simp
theorem Zai {size rate : Int} (hr : 0 ≤ rate) : ∀ (k : Nat) (t : Int), t ≤ size → 0 ≤ t - rate * k → ∃ l, yt size rate t (List.replicate k 0) = some l
 | 0, t, _, _ => ⟨[], rfl⟩
 | k + 1, t, h1, h2 => by
  rw [u5] at h2
  have hk : 0 ≤ rate * (k : Int) := Int.mul_nonneg hr (by omega)
  obtain ⟨l, hl⟩ := Zai (size := size) hr k (t + 0 - rate) (by omega) (by omega)
  rw [List.replicate_succ, yt, if_neg (by omega), hl]
  exact ⟨_, rfl⟩
theorem Ze3 : ∀ k : Nat, (List.replicate k (0 : Int)).sum = 0
 | 0 => rfl
 | k + 1 => by rw [List.replicate_succ, List.sum_cons, Ze3 k]; rfl
theorem Ze4 (rate size : Int) : ∀ (a b : List Int) (n m : List Int), a.length = n.length → j8 rate size (a ++ b) (n ++ m) = (j8 rate size a n || j8 rate size b m)
 | [], b, [], m, _ => by simp [j8]
 | z :: a, b, x :: n, m, h => by
  rw [List.cons_append, List.cons_append, j8, j8, Ze4 rate size a b n m (by simpa using h), Bool.or_assoc]
 | [], b, _ :: _, m, h => by simp at h
 | _ :: _, b, [], m, h => by simp at h
theorem Zaj (rate size : Int) : ∀ (k : Nat) (l : List Int), j8 rate size (List.replicate k 0) l = false
 | 0, l => rfl
 | k + 1, [] => by simp [List.replicate_succ, j8]
 | k + 1, x :: l => by simp [List.replicate_succ, j8, Zaj rate size k l]
theorem Ze5 {size rate : Int} : ∀ (q : List Int) (there : Int) (l : List Int), yt size rate there q = some l → l.length = q.length
 | [], _, l, h => by simp only [yt, Option.some.injEq] at h; subst h; rfl
 | q :: qs, there, l, h => by
  rw [yt] at h
  split at h
  ·cases h
  ·obtain ⟨m, hm, rfl⟩ := Option.map_eq_some_iff.1 h
   rw [List.length_cons, List.length_cons, Ze5 qs _ m hm]
theorem ZF (v : List Visit) {n : Nat} (hn : n ≤ 60) : (zS v n).length = n := by rw [Xv]; omega
theorem Znu (v : List Visit) {w : Visit} {d m : Nat} (hw : w.d = d) (hv : ∀ u ∈ v, u.d < d) (hdm : d < m) (hm : m ≤ 60) : zS (v ++ [w]) m = zS v d ++ w.q :: List.replicate (m - d - 1) 0 := by
 apply List.ext_getElem?
 intro i
 have em : (min (max (m : Int) 0) 64).toNat = m := by omega
 have ed : (min (max (d : Int) 0) 64).toNat = d := by omega
 by_cases hi : i < m
 ·have hL : (zS (v ++ [w]) m)[i]? = some ((((v ++ [w]).filter fun s => decide (s.d = (i : Int))).map (·.q)).sum) := by
   unfold zS; rw [List.getElem?_map, em, List.getElem?_range hi]; rfl
  rw [hL, List.filter_append]
  rcases Nat.lt_trichotomy i d with h | h | h
  ·rw [List.getElem?_append_left (by rw [ZF v (by omega)]; exact h)]
   have : (zS v d)[i]? = some ((((v.filter fun s => decide (s.d = (i : Int))).map (·.q)).sum)) := by
    unfold zS; rw [List.getElem?_map, ed, List.getElem?_range h]; rfl
   rw [this, List.filter_cons_of_neg (by simp; omega)]; simp
  ·subst h
   have e0 : (v.filter fun s => decide (s.d = (i : Int))) = [] := by
    rw [List.filter_eq_nil_iff]; intro u hu; have := hv u hu; simp; omega
   rw [e0, List.getElem?_append_right (by rw [ZF v (by omega)]; exact Nat.le_refl _), ZF v (by omega), Nat.sub_self, List.filter_cons_of_pos (by simpa using hw)]
   simp
  ·have e0 : (v.filter fun s => decide (s.d = (i : Int))) = [] := by
    rw [List.filter_eq_nil_iff]; intro u hu; have := hv u hu; simp; omega
   rw [e0, List.getElem?_append_right (by rw [ZF v (by omega)]; omega), ZF v (by omega), List.filter_cons_of_neg (by simp; omega)]
   obtain ⟨j, hj⟩ : ∃ j, i - d = j + 1 := ⟨i - d - 1, by omega⟩
   rw [hj, List.getElem?_cons_succ, List.getElem?_replicate, if_pos (by omega)]; simp
 ·rw [List.getElem?_eq_none (by rw [ZF _ hm]; omega), List.getElem?_eq_none (by simp [ZF v (show d ≤ 60 by omega)]; omega)]
theorem Qe (c : Cust) (last d : Int) : (yD c last d).1 = (if last < 0 then c.start else c.size) - c.rate * ((if last < 0 then d else d - last).toNat : Int) := rfl
theorem Znv {c : Cust} (hc : CustFits c) (hst : c.start ≤ c.size) {cap : Int} {n : Nat} (hn : n ≤ 60) {ds : List Int} (h : FilS c cap n ds) : ∀ m : Nat, jd ds < m → m ≤ n → 0 ≤ (yD c (jd ds) m).1 → ∃ l, yt c.size c.rate c.start (zS (yH c ds).1 m) = some l ∧ j8 c.rate c.size (zS (yH c ds).1 m) l = false ∧ c.start + (zS (yH c ds).1 m).sum - c.rate * (m : Int) = (yD c (jd ds) m).1 := by
 have hr := hc.rate.1
 induction h with
 | nil =>
  intro m _ hm h0
  have e : zS (yH c []).1 m = List.replicate m 0 := by
   show zS [] m = _
   rw [ZdE, show (min (max (m : Int) 0) 64).toNat = m by omega]
  have e9 : (yD c (jd []) m).1 = c.start - c.rate * (m : Int) := by rw [Qe]; simp [jd]
  rw [e9] at h0 ⊢
  obtain ⟨l, hl⟩ := Zai (size := c.size) hr m c.start hst (by omega)
  refine ⟨l, by rw [e, hl], by rw [e]; exact Zaj _ _ _ _, by rw [e]; simp⟩
 | @snoc ds d h h1 h2 h3 ih =>
  intro m hm hmn h0
  rw [Yh] at hm h0 ⊢
  have hlo := h.lo
  obtain ⟨k, rfl⟩ := Int.eq_ofNat_of_zero_le (show 0 ≤ d by omega)
  obtain ⟨l, e1, e2, e3⟩ := ih k h1 (by omega) h3.1
  obtain ⟨q1, q2, q3, q4⟩ := V6 hc h3
  have hb : zS (yH c (ds ++ [(k : Int)])).1 m = zS (yH c ds).1 k ++ (c.size - (yD c (jd ds) k).1) :: List.replicate (m - k - 1) 0 := by
   have hf : (yH c (ds ++ [(k : Int)])).1 = (yH c ds).1 ++ [⟨k, c.size - (yD c (jd ds) k).1⟩] := by
    rw [Qd]; simp only [vW]; rw [V4, q1]
   rw [hf]
   refine Znu _ rfl (fun u hu => ?_) (by omega) (by omega)
   have : u.d ∈ (yH c ds).1.map (·.d) := List.mem_map_of_mem hu
   rw [V5] at this
   have := hlo.2 _ this
   show u.d < (k : Int)
   omega
  have hbl := ZF (yH c ds).1 (n := k) (by omega)
  rw [Qe c k m] at h0 ⊢
  rw [if_neg (by omega), if_neg (by omega)] at h0 ⊢
  have ek : ((m : Int) - (k : Int)).toNat = (m - k - 1) + 1 := by omega
  rw [ek, u5] at h0 ⊢
  obtain ⟨l2, hl2⟩ := Zai (size := c.size) hr (m - k - 1) (c.size - c.rate) (by omega) (by omega)
  have hthere : c.start + (zS (yH c ds).1 k).sum - c.rate * ((zS (yH c ds).1 k).length : Int) + (c.size - (yD c (jd ds) k).1) = c.size := by rw [hbl, e3]; omega
  have hk0 : 0 ≤ c.rate * ((m - k - 1 : Nat) : Int) := Int.mul_nonneg hr (by omega)
  have hrun : yt c.size c.rate c.start (zS (yH c (ds ++ [(k : Int)])).1 m) = some (l ++ (c.size - c.rate) :: l2) := by
   rw [hb, Zah, e1, Option.bind_some, yt, hthere, if_neg (by omega), hl2]; rfl
  refine ⟨_, hrun, ?_, ?_⟩
  ·rw [hb, Ze4 _ _ _ _ _ _ (Ze5 _ _ _ e1).symm, e2, j8, Zaj]
   simp
  ·rw [hb, List.sum_append, List.sum_cons]
   have : (m : Int) = (k : Int) + ((m - k - 1 + 1 : Nat) : Int) := by omega
   have e4 : c.rate * (m : Int) = c.rate * (k : Int) + (c.rate * ((m - k - 1 : Nat) : Int) + c.rate) := by rw [this, Int.mul_add, u5]
   rw [e4, Ze3]
   omega
end Go.Proofs.YtcnbiofjmioaiaaGreat.Pv
