/- Part of a proof, packed. -/
import Derived.Test.YtcnbiofjmioaiaaGreatS5
set_option maxRecDepth 100000
set_option maxHeartbeats 3200000
namespace Go.Proofs.YtcnbiofjmioaiaaGreat.Pv
open Go Go.Proofs Hp
abbrev jJ (x : Inst) (v : PV) (b : Int) (p f pr : PV) : List PV := [I x.days, I x.veh, I x.cap, I x.len, L x.cust, L x.dist, v, I b, p, f, pr]
theorem Zl3 {S : Store} {id ver idF vF : Nat} (x : Inst) (v p pr : PV) (b : Int) (fs : List Int) (hS : S id = .cells ver 89 (jJ x v b p (.sl idF vF 1 0 fs.length) pr)) (hF : S idF = .cells vF 39 (fs.flatMap Enc.enc)) (hl : fs.length ≤ 1000) :
  Spec Tryz.prog 88 [.ptr id ver 0] S (fun q S' => q = I (jU fs) ∧ S' = S) := by
 refine yU Tryz.func88 Tryz.ntmps88 Tryz.results88 fun nx hd => ?_
 have hlt : id < nx := yA hd hS (by simp)
 have hltF : idF < nx := yA hd hF (by simp)
 have xw := fun obs => zH (S := S) (obs := obs) hlt
 have xf := fun obs => zH (S := S) (obs := obs) hltF
 refine za (zb ?_)
 repeat apply za
 refine ze [] (zm xw hS) ?_
 refine zj (zG (fun k : Nat => k ≤ fs.length ∧ ∀ e ∈ fs.take k, e = 0) (fun k => [(8, .sl idF vF 1 0 fs.length), (9, I fs.length), (10, I k)]) (fun _ => []) (fun k => fs.length - k) 0 [] (by simp) (by simp) (by simp) ?_)
 rintro k ⟨hk, h0⟩
 refine za (zb ?_)
 refine za (zr rfl (fun hc => ?_) (fun hc => ?_))
 ·simp at hc
  obtain ⟨e, tl, a1, a2, a3, e0⟩ := zE rfl fs k hc
  refine zh (za (zj (za (ze [] (yi xf hF e0 hc) ?_))))
  refine za (zb ?_)
  by_cases he : e = 0
  ·repeat apply za
   refine zn (by simp [he]) ?_
   refine zh (zb ?_)
   exact zp (k + 1) [] ⟨hc, fun y hy => by rw [a3] at hy; rcases List.mem_append.1 hy with h | h; exact h0 y h; rw [List.mem_singleton.1 h]; exact he⟩ (by omega) (by simp [zt k (by omega)]) rfl (by simp)
  ·repeat apply za
   refine zo (by simp [he]) ?_
   refine za (zb ?_)
   exact zg ⟨_, S, rfl, ⟨by simp [zq, ZlU h0 a1 he], rfl⟩, yb hd⟩
 ·simp at hc
  obtain rfl : k = fs.length := by omega
  rw [List.take_length] at h0
  refine zy (za (zb ?_))
  exact zg ⟨_, S, rfl, ⟨by simp [zq, XF h0], rfl⟩, yb hd⟩
theorem Zl4 {S : Store} {id ver idD vD idF vF : Nat} {x : Inst} {v : List (List Visit)} {b : Int} {pr : PV} {ds : zu} {fs : List Int} {n : Nat} (k : Nat) (hS : S id = .cells ver 89 (jJ x (L v) b (.sl idD vD 1 0 ds.length) (.sl idF vF 1 0 fs.length) pr))
  (hD : S idD = .cells vD 58 (ds.flatMap Enc.enc)) (hF : S idF = .cells vF 39 (fs.flatMap Enc.enc)) (d1 : id ≠ idD) (d2 : id ≠ idF) (d3 : idD ≠ idF) (hx : InstH x) (hv : VsOk x.cust.length n v) (hb : b ≤ 9223372036854775807) (hdl : ds.length ≤ 1000) (hfl : fs.length ≤ 1000) :
  Spec Tryz.prog 87 [.ptr id ver 0, I k] S (fun _ S' => S' = ((S.set id (.cells ver 89 (jJ x (L v) b (.sl idD (vD + 1) 1 0 (ds.length + 1)) (.sl idF (vF + 1) 1 0 (fs.length + 1)) pr))).set idD (.cells (vD + 1) 58 ((ds ++ [(qP x b (qr v k x.cust.length)).1]).flatMap Enc.enc))).set idF
   (.cells (vF + 1) 39 ((fs ++ [(qP x b (qr v k x.cust.length)).2]).flatMap Enc.enc))) := by
 have hst := ZlY x v k n hx.cust hv
 have hso := Zlg (Y7 hx hv k) hx.diag hb
 generalize qr v k x.cust.length = st at hst hso ⊢
 generalize qP x b st = r at hso ⊢
 obtain ⟨d, e⟩ := r
 simp only at hso ⊢
 refine yU Tryz.func87 Tryz.ntmps87 Tryz.results87 fun nx hd => ?_
 have hlt : id < nx := yA hd hS (by simp)
 have hltD : idD < nx := yA hd hD (by simp)
 have hltF : idF < nx := yA hd hF (by simp)
 have xw := fun obs => (zH (S := S) (obs := obs) hlt).trans hS
 have xd := fun obs => (zH (S := S) (obs := obs) hltD).trans hD
 have xf := fun obs => (zH (S := S) (obs := obs) hltF).trans hF
 have g1 : ¬ nx ≤ id := by omega
 have g2 : ¬ nx ≤ idD := by omega
 have g3 : ¬ nx ≤ idF := by omega
 have yw := fun (o : Ob) obs => (zH (S := S.set idD o) (obs := obs) hlt).trans ((Store.set_other _ _ _ _ d1).trans hS)
 have zw := fun (o o' : Ob) obs => (zH (S := (S.set idD o).set id o') (obs := obs) hlt).trans (Store.set_same _ _ _)
 have zf := fun (o o' : Ob) obs => (zH (S := (S.set idD o).set id o') (obs := obs) hltF).trans ((Store.set_other _ _ _ _ d2.symm).trans ((Store.set_other _ _ _ _ d3.symm).trans hF))
 have uw := fun (o o' o'' : Ob) obs => (zH (S := ((S.set idD o).set id o').set idF o'') (obs := obs) hlt).trans ((Store.set_other _ _ _ _ d2).trans (Store.set_same _ _ _))
 refine za (zC (some [id]) (Row.pures [0, 1, 2, 3, 4, 5, 6, 7, 8, 9, 10, 11, 12, 13, 14, 15, 16, 17, 18, 19, 20, 21] (.alt 22 (.alt 23 (Row.pures [24] .done) .stop) .stop)) mixed xw ?_)
 refine zI (hst) xw ?_
 refine zI (hso) xw ?_
 intro v2
 refine za (zC (some [nx]) (Row.pures [0, 1, 2, 3, 4, 6, 7] (.alt 5 (.alt 8 (Row.pures [9, 10, 11] (.alt 12 (.done) .stop)) .stop) .stop)) mixed (qm xw xd yw g1 g2) ?_)
 refine ⟨by omega, ?_⟩
 refine ze [] (qm zw zf uw g1 g3) ?_
 refine ⟨by omega, ?_⟩
 have e1 : ∀ (a b c d : Ob), (((S.set idD a).set id b).set idF c).set id d = ((S.set id d).set idD a).set idF c := by
  intro a b c d
  funext i
  simp only [Store.set]
  by_cases h1 : i = id
  ·subst h1; simp [d1, d2]
  ·simp only [h1, if_false]
 have hdd : ∀ (a b c : Ob), zW nx (((S.set id a).set idD b).set idF c) := by
  intro a b c i hi
  rw [Store.set_other _ _ _ _ (by omega), Store.set_other _ _ _ _ (by omega), Store.set_other _ _ _ _ (by omega)]
  exact hd i hi
 rw [e1]
 exact ⟨_, _, rfl, by simp, yb (hdd _ _ _)⟩
theorem Zl5 {S : Store} {id ver : Nat} (x : Inst) (v p f pr : PV) (b : Int) (fn : FuncId) (fs : List PV) (n : Nat) (hn : x.days = n) (hn2 : n ≤ 1000) (hS : S id = .cells ver 89 (jJ x v b p f pr)) (St : Nat → Store) (h0 : St 0 = S)
  (hSt : ∀ nx, zW nx S → ∀ k, k ≤ n → zW nx (St k)) (hstep : ∀ k, k < n → Spec Tryz.prog fn (fs ++ [I k]) (St k) (fun _ S' => S' = St (k + 1))) :
  Spec Tryz.prog 64 [.ptr id ver 0, .fn (.func fn) fs []] S (fun _ S' => S' = St n) := by
 refine yU Tryz.func64 Tryz.ntmps64 Tryz.results64 fun nx hd => ?_
 have hlt : id < nx := yA hd hS (by simp)
 have xw := fun obs => (zH (S := S) (obs := obs) hlt).trans hS
 have hSt := hSt nx hd
 refine za (ze [] (zm xw hn) ?_)
 refine zj (jo (σ := Nat) (fun k => k ≤ n) (fun k => [(1, .fn (.func fn) fs []), (9, I n), (10, I k)]) (fun k => St k) (fun _ => []) (fun k => n - k) (zP 0 [] (by simp) (by simp) h0 (by simp)) ?_)
 rintro k hk
 refine za (zb ?_)
 refine za (zr rfl (fun hc => ?_) (fun hc => ?_))
 ·simp at hc
  refine zh (za (zj (za (zb ?_))))
  refine zV [] (by rfl) (by rfl) fun K Gc Gh hK hGc hGh X hX0 hX => ?_
  simp -implicitDefEqProofs [hX0, hX]
  try clear hX0 hX X
  refine hGc _ _ _ _ _ _ _ fun hsuf => (Spec.mono (by rw [qk (hSt k hk)]; simpa using hstep k hc) ?_).v
  rintro _ _ rfl
  refine ⟨St (k + 1), [], (qk (hSt (k + 1) hc)).symm, ?_⟩
  clear hGc hGh
  clear Gc Gh
  refine zR hsuf (D := []) (by rfl) fun Gc Gh hGc hGh X hX0 hX => ?_
  simp -implicitDefEqProofs [hX0, hX]
  clear hX0 hX X
  refine hK _ _ _ ?_
  clear hK hGc hGh
  clear K Gc Gh
  refine zb ?_
  exact zp (k + 1) [] hc (by omega) (by simp [zt k (by omega)]) rfl (by simp)
 ·simp at hc
  obtain rfl : k = n := by omega
  refine zy ?_
  exact ⟨_, _, rfl, rfl, yb (hSt k (Nat.le_refl _))⟩
theorem Zl6 {S : Store} {nx id ver : Nat} (hd : zW nx S) {x : Inst} {v : List (List Visit)} {v0 p0 f0 pr : PV} {b : Int} {n : Nat} (hS : S id = .cells ver 89 (jJ x v0 b p0 f0 pr)) (hx : InstH x) (hn : x.days = n) (hn2 : n ≤ 1000) (hv : VsOk x.cust.length n v) (hb : b ≤ 9223372036854775807) :
  Spec Tryz.prog 47 [.ptr id ver 0, L v] S (fun q S' => q = I (jU (qC x v b n)) ∧ ∃ vD vF, S' = ext (S.set id (.cells ver 89 (jJ x (L v) b (.sl nx vD 1 0 (jf x v b n).length) (.sl (nx + 1) vF 1 0 (qC x v b n).length) pr))) nx
   [.cells vD 58 ((jf x v b n).flatMap Enc.enc), .cells vF 39 ((qC x v b n).flatMap Enc.enc)]) := by
 have hpl := Q8 x v b
 have hfl := Zd3 x v b
 refine ui hd Tryz.func47 Tryz.ntmps47 Tryz.results47 ?_
 have hlt : id < nx := yA hd hS (by simp)
 have g1 : ¬ nx ≤ id := by omega
 have xw := fun obs => (zH (S := S) (obs := obs) hlt).trans hS
 have yw := fun (o : Ob) obs => (zH (S := S.set id o) (obs := obs) hlt).trans (Store.set_same _ _ _)
 refine za (zb ?_)
 refine za (ze [] (yi xw yw g1 Store.set_set) ?_)
 refine Zd6 (id := id) 8 58 1 hlt (Store.set_same _ _ _) rfl fun vD => ?_
 rw [Store.set_set]
 refine Zd6 (id := id) 9 39 1 hlt (Store.set_same _ _ _) rfl fun vF => ?_
 rw [Store.set_set]
 simp only [List.set_cons_succ, List.set_cons_zero, List.length_cons, List.length_nil, List.cons_append, List.nil_append, Nat.add_zero, Nat.zero_add]
 generalize hSt : (fun k : Nat => ext (S.set id (.cells ver 89 (jJ x (L v) b (.sl nx (vD + k) 1 0 (jf x v b k).length) (.sl (nx + 1) (vF + k) 1 0 (qC x v b k).length) pr))) nx
   [.cells (vD + k) 58 ((jf x v b k).flatMap Enc.enc), .cells (vF + k) 39 ((qC x v b k).flatMap Enc.enc)]) = St
 have hSk : ∀ k, St k = ext (S.set id (.cells ver 89 (jJ x (L v) b (.sl nx (vD + k) 1 0 (jf x v b k).length) (.sl (nx + 1) (vF + k) 1 0 (qC x v b k).length) pr))) nx
   [.cells (vD + k) 58 ((jf x v b k).flatMap Enc.enc), .cells (vF + k) 39 ((qC x v b k).flatMap Enc.enc)] := fun k => by rw [← hSt]
 have h0 : St 0 = ext (S.set id (.cells ver 89 (jJ x (L v) b (.sl nx vD 1 0 0) (.sl (nx + 1) vF 1 0 0) pr))) nx [.cells vD 58 [], .cells vF 39 []] := hSk 0
 have hid : ∀ k, St k id = .cells ver 89 (jJ x (L v) b (.sl nx (vD + k) 1 0 (jf x v b k).length) (.sl (nx + 1) (vF + k) 1 0 (qC x v b k).length) pr) := fun k => by rw [hSk k, zH hlt, Store.set_same]
 have hstep : ∀ k, k < n → Spec Tryz.prog 87 ([.ptr id ver 0] ++ [I k]) (St k) (fun _ S' => S' = St (k + 1)) := by
  intro k hk
  have h1 := hpl k
  have h2 := hfl k
  refine (Zl4 (idD := nx) (idF := nx + 1) (n := n) k (hid k) (by rw [hSk k]; simp) (by rw [hSk k]; simp) (by omega) (by omega) (by omega) hx hv hb (by omega) (by omega)).mono ?_
  rintro _ _ rfl
  rw [hSk k, hSk (k + 1), jZ _ hlt, Store.set_set, y9 _ (by omega) (by simp), y9 _ (by omega) (by simp), Zd4, ZlX]
  simp [Nat.add_assoc]
 have hdead : ∀ m, zW m (St 0) → ∀ k, k ≤ n → zW m (St k) := by
  intro m hm k _ i hi
  have hge : nx + 1 < m := by
   rcases Nat.lt_or_ge (nx + 1) m with q | q
   ·exact q
   ·have := hm (nx + 1) q; rw [hSk 0] at this; simp at this
  rw [hSk k]
  simp only [ext]
  rw [if_neg (by omega), List.getD_eq_getElem?_getD, List.getElem?_eq_none (by simp; omega)]; rfl
 rw [← h0]
 have hn0 := hid 0
 have hnx2 : nx + 2 = nx + [Ob.cells (vD + 0) 58 ((jf x v b 0).flatMap Enc.enc), .cells (vF + 0) 39 ((qC x v b 0).flatMap Enc.enc)].length := rfl
 have hb0 : ∀ k, St k = ext (St k) (nx + 2) [] := fun k => by
  refine (qk ?_).symm
  rw [hSk k]; exact jO (obs := [_, _])
 rw [hb0 0]
 refine za (zV [] (by rfl) (by rfl) fun K Gc Gh hK hGc hGh X hX0 hX => ?_)
 simp -implicitDefEqProofs [hX0, hX]
 try clear hX0 hX X
 refine hGc _ _ _ _ _ _ _ fun hsuf => ((Zl5 x (L v) _ _ pr b _ _ n hn hn2 (by rw [← hb0 0]; exact hn0) St (hb0 0) (fun m hm k hk => hdead m (by rw [hb0 0]; exact hm) k hk) hstep).mono ?_).v
 rintro _ _ rfl
 refine ⟨_, _, hb0 n, ?_⟩
 clear hGc hGh
 clear Gc Gh
 refine zR hsuf (D := []) (by rfl) fun Gc Gh hGc hGh X hX0 hX => ?_
 simp -implicitDefEqProofs [hX0, hX]
 clear hX0 hX X
 refine hK _ _ _ ?_
 clear hK hGc hGh
 clear K Gc Gh
 refine za (zV [] (by rfl) (by rfl) fun K Gc Gh hK hGc hGh X hX0 hX => ?_)
 simp -implicitDefEqProofs [hX0, hX]
 try clear hX0 hX X
 refine hGc _ _ _ _ _ _ _ fun hsuf => ((Zl3 (idF := nx + 1) x _ _ _ _ (qC x v b n) (by rw [← hb0 n]; exact hid n) (by rw [← hb0 n, hSk n]; simp) (by rw [hfl]; exact hn2)).mono ?_).v
 rintro _ _ ⟨rfl, rfl⟩
 refine ⟨_, _, rfl, ?_⟩
 clear hGc hGh
 clear Gc Gh
 refine zR hsuf (D := []) (by rfl) fun Gc Gh hGc hGh X hX0 hX => ?_
 simp -implicitDefEqProofs [hX0, hX]
 clear hX0 hX X
 refine hK _ _ _ ?_
 clear hK hGc hGh
 clear K Gc Gh
 refine zg ⟨_, St n, rfl, ⟨by simp [zq], vD + n, vF + n, hSk n⟩, fun o => .inl ?_⟩
 rw [← hb0 n]
open Go Go.Proofs Hp
theorem Zl7 (n : Nat) : ji n (.slice none 0 0) = List.replicate n (.sc (.slice none 0 0)) := by
 induction n with
 | zero => simp
 | succ n ih => rw [Za, ih]; rfl
structure RowsV (m n i : Nat) (v : List (List Visit)) : Prop where
 len : v.length = m
 ok : ∀ l ∈ v, ∀ w ∈ l, (0 ≤ w.d ∧ w.d < n) ∧ 1 ≤ w.q ∧ w.q ≤ 12
 nd : ∀ l ∈ v, (l.map (·.d)).Nodup
 few : ∀ l ∈ v, l.length ≤ i
theorem RowsV.vs {m n i : Nat} {v : List (List Visit)} (h : RowsV m n i v) (hi : i ≤ 12) : VsOk m n v :=
 ⟨h.len, fun l hl w hw => by have := h.ok l hl w hw; omega, h.nd, fun l hl => by have := h.few l hl; omega⟩
theorem RowsV.more {m n i : Nat} {v : List (List Visit)} (h : RowsV m n i v) : RowsV m n (i + 1) v := ⟨h.len, h.ok, h.nd, fun l hl => Nat.le_succ_of_le (h.few l hl)⟩
theorem RowsV.put {m n i : Nat} {v : List (List Visit)} (h : RowsV m n i v) {c : Nat} {l : List Visit} (hc : v[c]? = some l) (w : Visit) (hw : (0 ≤ w.d ∧ w.d < n) ∧ 1 ≤ w.q ∧ w.q ≤ 12) (hno : w.d ∉ l.map (·.d)) : RowsV m n (i + 1) (v.set c (l ++ [w])) := by
 have hlm := List.mem_of_getElem? hc
 refine ⟨by simp [h.len], fun k hk u hu => ?_, fun k hk => ?_, fun k hk => ?_⟩
 ·rcases List.mem_or_eq_of_mem_set hk with hk | rfl
  ·exact h.ok k hk u hu
  ·rcases List.mem_append.1 hu with hu | hu
   ·exact h.ok l hlm u hu
   ·rw [List.mem_singleton.1 hu]; exact hw
 ·rcases List.mem_or_eq_of_mem_set hk with hk | rfl
  ·exact h.nd k hk
  ·rw [List.map_append]; exact J9 _ _ (h.nd l hlm) hno
 ·rcases List.mem_or_eq_of_mem_set hk with hk | rfl
  ·exact Nat.le_succ_of_le (h.few k hk)
  ·have := h.few l hlm; simp; omega
open Go
def Qs (q : List Int) : Prop := ∀ z ∈ q, 0 ≤ z ∧ z ≤ 2147483648
structure GoodV (n : Nat) (v : List Visit) : Prop where
 len : v.length ≤ 64
 ok : ∀ s ∈ v, (0 ≤ s.d ∧ s.d < n) ∧ 1 ≤ s.q ∧ s.q ≤ 2147483648
 nd : (v.map (·.d)).Nodup
def yn : Nat → List Int → List Visit
 | _, [] => []
 | i, z :: l => if 0 < z then ⟨i, z⟩ :: yn (i + 1) l else yn (i + 1) l
theorem XG : ∀ (l : List Int) (i : Nat), (yn i l).length ≤ l.length
 | [], _ => by simp [yn]
 | z :: l, i => by
  have := XG l (i + 1)
  simp only [yn]; split <;> simp <;> omega
theorem XH : ∀ (l : List Int) (i : Nat), Qs l → ∀ s ∈ yn i l, ((i : Int) ≤ s.d ∧ s.d < (i + l.length : Nat)) ∧ 1 ≤ s.q ∧ s.q ≤ 2147483648
 | [], _, _ => by intro s hs; cases hs
 | z :: l, i, h => by
  have ih := XH l (i + 1) fun x hx => h x (by simp [hx])
  have hz := h z (by simp)
  intro s hs
  simp only [yn] at hs
  split at hs
  ·rcases List.mem_cons.1 hs with rfl | hs
   ·simp only [List.length_cons]; omega
   ·have := ih s hs; simp only [List.length_cons]; omega
  ·have := ih s hs; simp only [List.length_cons]; omega
theorem XI : ∀ (l : List Int) (i : Nat), ∀ s ∈ yn i l, (i : Int) ≤ s.d
 | [], _ => by intro s hs; cases hs
 | z :: l, i => by
  have ih := XI l (i + 1)
  intro s hs
  simp only [yn] at hs
  split at hs
  ·rcases List.mem_cons.1 hs with rfl | hs
   ·exact Int.le_refl _
   ·have := ih s hs; omega
  ·have := ih s hs; omega
theorem Zd7 : ∀ (l : List Int) (i : Nat), ((yn i l).map (·.d)).Nodup
 | [], _ => by simp [yn]
 | z :: l, i => by
  have ih := Zd7 l (i + 1)
  simp only [yn]
  split
  ·rw [List.map_cons, List.nodup_cons]
   refine ⟨fun h => ?_, ih⟩
   obtain ⟨s, hs, e⟩ := List.mem_map.1 h
   have := XI l (i + 1) s hs
   simp only at e; omega
  ·exact ih
theorem Zl8 (n a k : Nat) : (yy n a k).Nodup := by
 unfold yy
 refine List.Pairwise.map _ (fun x y (h : x ≠ y) => ?_) (List.Pairwise.filter _ List.nodup_range)
 intro e; apply h; omega
theorem Zd8 {q : List Int} {n : Nat} (hq : Qs q) (hl : q.length ≤ n) (hn : n ≤ 64) : GoodV n (yn 0 q) := by
 refine ⟨Nat.le_trans (XG q 0) (by omega), fun s hs => ?_, Zd7 q 0⟩
 have := XH q 0 hq s hs
 omega
def jK (c : Cust) (p : Nat) : List Visit := (yy p 0 64).map fun d => ⟨d, c.demand⟩
open Go
structure CustMade (c : Cust) (n : Nat) : Prop where
 fits : CustFits c
 pats : ∀ p ∈ c.pats, p < 2 ^ 64
 npats : c.pats.length ≤ 1048576
 per : c.kind = 1 → (∀ p ∈ c.pats, ∀ d ∈ yy p 0 64, d < n) ∧ 1 ≤ c.demand ∧ c.demand ≤ 2147483648
open Go
theorem Zd9 {α : Type} (l : List α) : l = [] ∨ ∃ m x, l = m ++ [x] := by
 rcases List.eq_nil_or_concat l with h | ⟨m, x, h⟩
 ·exact .inl h
 ·exact .inr ⟨m, x, by rw [h, List.concat_eq_append]⟩
def Y9 (x : Inst) (d : zi) (s : Stop) (join : Bool) : zi :=
 match d.reverse with
 | t :: r => if join = true ∧ zJ x (t ++ [s]) = 0 then r.reverse ++ [t ++ [s]] else d ++ [[s]]
 | [] => [[s]]
theorem Zea (x : Inst) (s : Stop) (j : Bool) : Y9 x [] s j = [[s]] := rfl
theorem Zeb (x : Inst) (d : zi) (t : zD) (s : Stop) (j : Bool) : Y9 x (d ++ [t]) s j = if j = true ∧ zJ x (t ++ [s]) = 0 then d ++ [t ++ [s]] else (d ++ [t]) ++ [[s]] := by simp [Y9]
theorem Zec (x : Inst) (d : zi) (s : Stop) (j : Bool) : (Y9 x d s j).flatten = d.flatten ++ [s] := by
 rcases Zd9 d with rfl | ⟨d', t, rfl⟩
 ·simp [Zea]
 ·rw [Zeb]; split <;> simp
theorem Zl9 (x : Inst) (d : zi) (s : Stop) (j : Bool) (h : ∀ t ∈ d, t ≠ []) : ∀ t ∈ Y9 x d s j, t ≠ [] := by
 rcases Zd9 d with rfl | ⟨d', t, rfl⟩
 ·simp [Zea]
 ·rw [Zeb]
  split
  ·intro u hu
   rcases List.mem_append.1 hu with hu | hu
   ·exact h u (by simp [hu])
   ·rw [List.mem_singleton.1 hu]; simp
  ·intro u hu
   rcases List.mem_append.1 hu with hu | hu
   ·exact h u hu
   ·rw [List.mem_singleton.1 hu]; simp
theorem VW {α : Type} [Enc α] (h1 : Enc.sz α = 1) (l : List α) (k : Nat) (v : α) (h : k < l.length) : ye (l.flatMap Enc.enc) k (Enc.enc v) = (l.set k v).flatMap Enc.enc := by
 have e1 : (l.flatMap Enc.enc).take k = (l.take k).flatMap Enc.enc := by
  have := Zb (α := α) Enc.enc (Enc.sz α) Enc.len l k; rwa [h1, Nat.mul_one] at this
 have e2 : (l.flatMap Enc.enc).drop (k + 1) = (l.drop (k + 1)).flatMap Enc.enc := by
  have := Yt (α := α) Enc.enc (Enc.sz α) Enc.len l (k + 1); rwa [h1, Nat.mul_one] at this
 rw [ye, Enc.len, h1, e1, e2, List.set_eq_take_append_cons_drop, if_pos h]
 simp
open Go Go.Proofs Hp
def RowOf (S : Store) (pl : PV) (l : List Int) : Prop := pl = L l ∨ ∃ id ver, pl = .sl id ver 1 0 l.length ∧ S id = .cells ver 3 (l.flatMap Enc.enc)
theorem RowOf.ext {S : Store} {pl : PV} {l : List Int} (h : RowOf S pl l) {nx : Nat} (hd : zW nx S) (obs : List Ob) : RowOf (ext S nx obs) pl l := by
 rcases h with h | ⟨id, ver, h1, h2⟩
 ·exact .inl h
 ·exact .inr ⟨id, ver, h1, (zH (yA hd h2 (by simp))).trans h2⟩
theorem Zed {S : Store} {nx id ver : Nat} (hd : zW nx S) (x : Inst) (v p f pr : PV) (b : Int) (fn : FuncId) (fs : List PV) (n : Nat) (hn : x.days = n) (hn2 : n ≤ 1000) (hS : S id = .cells ver 89 (jJ x v b p f pr)) (Pk : Nat → Store → Prop) (h0 : Pk 0 S)
  (hPd : ∀ k T, Pk k T → zW nx T) (hstep : ∀ k, k < n → ∀ T, Pk k T → Spec Tryz.prog fn (fs ++ [I k]) T (fun _ S' => Pk (k + 1) S')) :
  Spec Tryz.prog 64 [.ptr id ver 0, .fn (.func fn) fs []] S (fun _ S' => Pk n S') := by
 refine ui hd Tryz.func64 Tryz.ntmps64 Tryz.results64 ?_
 have hlt : id < nx := yA hd hS (by simp)
 have xw := fun obs => (zH (S := S) (obs := obs) hlt).trans hS
 refine za (ze [] (zm xw hn) ?_)
 refine zj (jo (σ := Nat × Store) (fun s => s.1 ≤ n ∧ Pk s.1 s.2) (fun s => [(1, .fn (.func fn) fs []), (9, I n), (10, I s.1)]) (fun s => s.2) (fun _ => []) (fun s => n - s.1) (zP (0, S) [] ⟨by simp, h0⟩ (by simp) rfl (by simp)) ?_)
 rintro ⟨k, T⟩ ⟨hk, hP⟩
 simp only at hk hP ⊢
 refine za (zb ?_)
 refine za (zr rfl (fun hc => ?_) (fun hc => ?_))
 ·simp at hc
  refine zh (za (zj (za (zb ?_))))
  refine zV [] (by rfl) (by rfl) fun K Gc Gh hK hGc hGh X hX0 hX => ?_
  simp -implicitDefEqProofs [hX0, hX]
  try clear hX0 hX X
  refine hGc _ _ _ _ _ _ _ fun hsuf => (Spec.mono (by rw [qk (hPd k T hP)]; simpa using hstep k hc T hP) ?_).v
  rintro _ T' hP'
  refine ⟨T', [], (qk (hPd _ _ hP')).symm, ?_⟩
  clear hGc hGh
  clear Gc Gh
  refine zR hsuf (D := []) (by rfl) fun Gc Gh hGc hGh X hX0 hX => ?_
  simp -implicitDefEqProofs [hX0, hX]
  clear hX0 hX X
  refine hK _ _ _ ?_
  clear hK hGc hGh
  clear K Gc Gh
  refine zb ?_
  exact zp (k + 1, T') [] ⟨hc, hP'⟩ (by simp; omega) (by simp [zt k (by omega)]) rfl (by simp)
 ·simp at hc
  obtain rfl : k = n := by omega
  refine zy ?_
  exact ⟨_, T, rfl, hP, yb (hPd _ _ hP)⟩
def vV (x : Inst) (j : Nat) : Int := W (zX x [(j : Int)])
def qT (x : Inst) (k i : Nat) : List (List Int) := (List.range x.cust.length).map fun j => List.replicate (if j < i then k + 1 else k) (vV x j)
theorem uz (x : Inst) (k i : Nat) : (qT x k i).length = x.cust.length := by simp [qT]
theorem Zee (x : Inst) (k i j : Nat) (h : j < x.cust.length) : (qT x k i).getD j [] = List.replicate (if j < i then k + 1 else k) (vV x j) := by
 rw [List.getD_eq_getElem?_getD]; simp [qT, h]
theorem Zma (x : Inst) (k : Nat) : qT x k x.cust.length = qT x (k + 1) 0 := by
 unfold qT
 refine List.map_congr_left fun j hj => ?_
 rw [if_pos (List.mem_range.1 hj), if_neg (by omega)]
theorem Zmb (x : Inst) (k i : Nat) (h : i < x.cust.length) : (qT x k i).set i (List.replicate (k + 1) (vV x i)) = qT x k (i + 1) := by
 apply List.ext_getElem?
 intro j
 rw [List.getElem?_set, uz]
 by_cases hij : i = j
 ·subst hij; rw [if_pos rfl, if_pos h]; simp [qT, h]
 ·rw [if_neg hij]
  by_cases hj : j < x.cust.length
  ·simp only [qT, List.getElem?_map, List.getElem?_range hj, Option.map_some]
   congr 2
   by_cases h1 : j < i
   ·rw [if_pos h1, if_pos (by omega)]
   ·rw [if_neg h1, if_neg (by omega)]
  ·rw [List.getElem?_eq_none (by rw [uz]; omega), List.getElem?_eq_none (by rw [uz]; omega)]
theorem Zmc {S : Store} {id ver A va base : Nat} {ws : Nat → Nat} {x : Inst} {v p f : PV} {b : Int} (k : Nat) (hx : x.cust.length ≤ 1000) (hk : k ≤ 1000) (hid : id < base) (hidA : id ≠ A) (hS : S id = .cells ver 89 (jJ x v b p f (.sl A va 1 0 x.cust.length)))
  (hR : RowsAt S A va 45 base 3 1 ws (qT x k 0)) :
  Spec Tryz.prog 65 [.ptr id ver 0, I k] S (fun _ S' => (∃ ws', RowsAt S' A va 45 base 3 1 ws' (qT x (k + 1) 0)) ∧ ∀ o, o ≠ A → (o < base ∨ base + x.cust.length ≤ o) → S' o = S o) := by
 refine yU Tryz.func65 Tryz.ntmps65 Tryz.results65 fun nx hd => ?_
 have hlt : id < nx := yA hd hS (by simp)
 have hltA : A < nx := yA hd hR.arr (by simp)
 have hltR : ∀ i, i < x.cust.length → base + i < nx := fun i hi => yA hd (hR.row i (by rw [uz]; exact hi)) (by simp)
 have xw := fun obs => (zH (S := S) (obs := obs) hlt).trans hS
 refine za (ze [] xw ?_)
 refine zj (jo (σ := Nat × Store × (Nat → Nat)) (fun s => s.1 ≤ x.cust.length ∧ RowsAt s.2.1 A va 45 base 3 1 s.2.2 (qT x k s.1) ∧ ∀ o, o ≠ A → (o < base ∨ base + x.cust.length ≤ o) → s.2.1 o = S o)
  (fun s => [(0, .ptr id ver 0), (10, I x.cust.length), (11, I s.1)]) (fun s => s.2.1) (fun _ => []) (fun s => x.cust.length - s.1) (zP (0, S, ws) [] ⟨by simp, hR, fun _ _ _ => rfl⟩ (by simp) rfl (by simp)) ?_)
 clear hR
 rintro ⟨i, T, ws⟩ ⟨hi, hR, hT⟩
 simp only at hi hR hT ⊢
 refine za (zb ?_)
 refine za (zr rfl (fun hc => ?_) (fun hc => ?_))
 ·simp at hc
  have hTw : T id = .cells ver 89 (jJ x v b p f (.sl A va 1 0 x.cust.length)) := (hT id hidA (.inl hid)).trans hS
  have hAb := hR.out
  have hri := hR.row i (by rw [uz]; exact hc)
  rw [Zee x k i i hc, if_neg (Nat.lt_irrefl i)] at hri
  have hlti := hltR i hc
  have xw := fun obs => (zH (S := T) (obs := obs) hlt).trans hTw
  have xa := fun obs => (zH (S := T) (obs := obs) hltA).trans hR.arr
  have xr := fun obs => (zH (S := T) (obs := obs) hlti).trans hri
  have ya := fun (o : Ob) obs => (zH (S := T.set (base + i) o) (obs := obs) hltA).trans ((Store.set_other _ _ _ _ (by omega)).trans hR.arr)
  have yw := fun (o : Ob) obs => (zH (S := T.set (base + i) o) (obs := obs) hlt).trans ((Store.set_other _ _ _ _ (by omega)).trans hTw)
  have zw := fun (o o' : Ob) obs => (zH (S := (T.set (base + i) o).set A o') (obs := obs) hlt).trans ((Store.set_other _ _ _ _ hidA).trans ((Store.set_other _ _ _ _ (by omega)).trans hTw))
  have g1 : ¬ nx ≤ base + i := by omega
  have g2 : ¬ nx ≤ A := by omega
  obtain ⟨tl, hdr⟩ := VV base 1 ws (qT x k i) i (by rw [uz]; exact hc)
  rw [Zee x k i i hc, if_neg (Nat.lt_irrefl i), List.length_replicate] at hdr
  have hcl : (x8 base 1 ws (qT x k i)).length = x.cust.length := by rw [Y8, uz]
  have hsp := W3 (x8 base 1 ws (qT x k i)) i (.sl (base + i) (ws i + 1) 1 0 (k + 1)) (by omega)
  have hway := ZbB x [(i : Int)] (by simp) (fun c hc => by rw [List.mem_singleton.1 hc]; unfold small; omega)
  have hfe : ∀ m : Nat, ((List.replicate m (vV x i)).flatMap Enc.enc).length = m := fun m => by rw [jQ]; simp [Enc.sz]
  refine zh (za (zj (za (zb ?_))))
  refine zC (some [id]) (Row.pures [0, 1, 2, 3, 4, 5, 6, 7, 8, 9, 10, 12, 13, 14, 15, 16, 17, 18, 19] (.alt 11 (.alt 20 (Row.pures [21] (.alt 22 (.done) .stop)) .stop) .stop)) mixed (yh xw xa xr ya yw (zm (yh zw hdr g1 g2 hsp hcl) hc)) ?_
  refine zI (hway) (yh xw xa xr ya yw (zm (yh zw hdr g1 g2 hsp hcl) hc)) ?_
  refine ⟨by omega, by omega, ?_⟩
  obtain ⟨T', hT'⟩ : ∃ T', T' = (T.set (base + i) (.cells (ws i + 1) 3 ((List.replicate (k + 1) (vV x i)).flatMap Enc.enc))).set A (.cells va 45 ((x8 base 1 ws (qT x k i)).set i (.sl (base + i) (ws i + 1) 1 0 (List.replicate (k + 1) (vV x i)).length))) := ⟨_, rfl⟩
  have hnew := hR.turn (i := i) (by rw [uz]; exact hc) (T' := T') (ws i + 1) (List.replicate (k + 1) (vV x i)) (by rw [hT']; exact Store.set_same _ _ _) (by rw [hT', Store.set_other _ _ _ _ (by omega), Store.set_same]) (fun o o1 o2 => by rw [hT', Store.set_other _ _ _ _ o1, Store.set_other _ _ _ _ o2])
  rw [Zmb x k i hc] at hnew
  refine zb ?_
  refine zp (i + 1, T', _) [] ⟨hc, hnew, fun o ho hob => ?_⟩ (by simp; omega) (by simp [zt i (by omega)]) ?_ (by simp)
  ·dsimp only; rw [hT', Store.set_other _ _ _ _ ho, Store.set_other _ _ _ _ (by omega)]; exact hT o ho hob
  ·dsimp only; rw [hT']
   have htk : ((List.replicate k (vV x i)).flatMap Enc.enc).take k = (List.replicate k (vV x i)).flatMap Enc.enc := List.take_of_length_le (by rw [hfe]; exact Nat.le_refl _)
   simp only [List.length_replicate, List.replicate_succ', List.flatMap_append]
   unfold vV at htk
   simp [vV, htk]
 ·simp at hc
  obtain rfl : i = x.cust.length := by omega
  rw [Zma] at hR
  refine zy ?_
  have hdT : zW nx T := fun o ho => by
   have h1 : o ≠ A := by omega
   by_cases h2 : o < base ∨ base + x.cust.length ≤ o
   ·rw [hT o h1 h2]; exact hd o ho
   ·have := hltR (o - base) (by omega); omega
  exact ⟨_, T, rfl, ⟨⟨ws, hR⟩, hT⟩, yb hdT⟩
def uA (k : Nat) (l : List Int) : List Int := l.set k (W (W (2 * l.getD k 0) + 1))
def x9 (pr : List (List Int)) (k i : Nat) : List (List Int) := (List.range pr.length).map fun j => if j < i then uA k (pr.getD j []) else pr.getD j []
def Qa (fs : List Int) (pr : List (List Int)) (k : Nat) : List (List Int) := if fs.getD k 0 = 14 then pr.map (uA k) else pr
def Qb (fs : List Int) (pr : List (List Int)) : Nat → List (List Int)
 | 0 => pr
 | k + 1 => Qa fs (Qb fs pr k) k
theorem Zef (k : Nat) (l : List Int) : (uA k l).length = l.length := by simp [uA]
theorem Zx (pr : List (List Int)) (k i : Nat) : (x9 pr k i).length = pr.length := by simp [x9]
theorem VX (pr : List (List Int)) (k i j : Nat) (h : j < pr.length) : (x9 pr k i).getD j [] = if j < i then uA k (pr.getD j []) else pr.getD j [] := by
 rw [List.getD_eq_getElem?_getD, x9]; simp [h]
theorem Zmd (pr : List (List Int)) (k : Nat) : x9 pr k 0 = pr := by
 apply List.ext_getElem?
 intro j
 simp only [x9, Nat.not_lt_zero, if_false, List.getElem?_map]
 by_cases h : j < pr.length
 ·rw [List.getElem?_range h]; simp [h]
 ·rw [List.getElem?_eq_none (by simp; omega), List.getElem?_eq_none (by omega)]; rfl
theorem Zme (pr : List (List Int)) (k : Nat) : x9 pr k pr.length = pr.map (uA k) := by
 apply List.ext_getElem?
 intro j
 simp only [x9, List.getElem?_map]
 by_cases h : j < pr.length
 ·rw [List.getElem?_range h]; simp [h]
 ·rw [List.getElem?_eq_none (by simp; omega), List.getElem?_eq_none (by omega)]; rfl
theorem Zmf (pr : List (List Int)) (k i : Nat) (h : i < pr.length) : (x9 pr k i).set i (uA k (pr.getD i [])) = x9 pr k (i + 1) := by
 apply List.ext_getElem?
 intro j
 rw [List.getElem?_set, Zx]
 by_cases hij : i = j
 ·subst hij; rw [if_pos rfl, if_pos h]; simp [x9, h]
 ·rw [if_neg hij]
  by_cases hj : j < pr.length
  ·simp only [x9, List.getElem?_map, List.getElem?_range hj, Option.map_some]
   congr 1
   by_cases h1 : j < i
   ·rw [if_pos h1, if_pos (by omega)]
   ·rw [if_neg h1, if_neg (by omega)]
  ·rw [List.getElem?_eq_none (by rw [Zx]; omega), List.getElem?_eq_none (by rw [Zx]; omega)]
def vp (m n : Nat) (pr : List (List Int)) : Prop := pr.length = m ∧ ∀ l ∈ pr, l.length = n ∧ ∀ z ∈ l, zU z
theorem VY (x : Int) : zU (W x) := by
 have key : ∀ m : Int, 0 ≤ m → m < 2 ^ 64 → zU (if (true && decide (m ≥ 2 ^ (64 - 1))) = true then m - 2 ^ 64 else m) := by
  intro m h1 h2
  unfold zU
  by_cases h : m ≥ 2 ^ (64 - 1)
  ·simp [h]; omega
  ·simp [h]; omega
 exact key _ (Int.emod_nonneg x (by decide)) (Int.emod_lt_of_pos x (by decide))
theorem Zmg {m n : Nat} {pr : List (List Int)} (fs : List Int) (k : Nat) (h : vp m n pr) : vp m n (Qa fs pr k) := by
 unfold Qa
 split
 ·refine ⟨by simp [h.1], fun l hl => ?_⟩
  obtain ⟨l', hl', rfl⟩ := List.mem_map.1 hl
  rw [Zef]
  refine ⟨(h.2 l' hl').1, fun z hz => ?_⟩
  rcases List.mem_or_eq_of_mem_set hz with hz | rfl
  ·exact (h.2 l' hl').2 z hz
  ·exact VY _
 ·exact h
theorem Ja {m n : Nat} {pr : List (List Int)} (fs : List Int) (h : vp m n pr) : ∀ k, vp m n (Qb fs pr k)
 | 0 => h
 | k + 1 => Zmg fs k (Ja fs h k)
theorem Zeg (x : Inst) (n : Nat) : vp x.cust.length n (qT x n 0) := by
 refine ⟨uz x n 0, fun l hl => ?_⟩
 obtain ⟨j, _, rfl⟩ := List.mem_map.1 hl
 refine ⟨by simp, fun z hz => ?_⟩
 rw [(List.mem_replicate.1 hz).2]; exact VY _
theorem Zmh {S : Store} {id ver A va base idF vF : Nat} {ws : Nat → Nat} {x : Inst} {v p : PV} {b : Int} {m n : Nat} {pr : List (List Int)} {fs : List Int} (k : Nat) (hm : m ≤ 1000) (hn : n ≤ 1000) (hkn : k < n) (hid : id < base) (hidA : id ≠ A) (hF : S idF = .cells vF 39 (fs.flatMap Enc.enc)) (hfl : fs.length = n)
  (hS : S id = .cells ver 89 (jJ x v b p (.sl idF vF 1 0 fs.length) (.sl A va 1 0 m))) (hP : vp m n pr) (hR : RowsAt S A va 45 base 3 1 ws pr) :
  Spec Tryz.prog 69 [.ptr id ver 0, I k] S (fun _ S' => RowsAt S' A va 45 base 3 1 ws (Qa fs pr k) ∧ ∀ o, (o < base ∨ base + m ≤ o) → S' o = S o) := by
 obtain ⟨hPl, hPr⟩ := hP
 refine yU Tryz.func69 Tryz.ntmps69 Tryz.results69 fun nx hd => ?_
 have hlt : id < nx := yA hd hS (by simp)
 have hltF : idF < nx := yA hd hF (by simp)
 have hltA : A < nx := yA hd hR.arr (by simp)
 have hltR : ∀ i, i < m → base + i < nx := fun i hi => yA hd (hR.row i (by omega)) (by simp)
 have xw := fun obs => (zH (S := S) (obs := obs) hlt).trans hS
 have xf := fun obs => (zH (S := S) (obs := obs) hltF).trans hF
 obtain ⟨e, tl0, e1, -, -, e0⟩ := zE rfl fs k (by omega)
 have hkf : k < fs.length := by omega
 have hge : fs.getD k 0 = e := by rw [List.getD_eq_getElem?_getD, e1]; rfl
 repeat apply za
 refine ze [] (yi xw xf e0 hkf) ?_
 by_cases he : e = 14
 case neg =>
  refine zo (by simp [he]) ?_
  exact zg ⟨_, S, rfl, ⟨by unfold Qa; rw [hge, if_neg he]; exact hR, fun _ _ => rfl⟩, yb hd⟩
 refine zn (by simp [he]) ?_
 refine zh (za (ze [] xw ?_))
 have hkill : ∀ T : Store, (∀ o, (o < base ∨ base + m ≤ o) → T o = S o) → zW nx T := fun T hT o ho => by
  by_cases h2 : o < base ∨ base + m ≤ o
  ·rw [hT o h2]; exact hd o ho
  ·have := hltR (o - base) (by omega); omega
 refine zj (jo (σ := Nat × Store) (fun s => s.1 ≤ m ∧ RowsAt s.2 A va 45 base 3 1 ws (x9 pr k s.1) ∧ ∀ o, (o < base ∨ base + m ≤ o) → s.2 o = S o)
  (fun s => [(0, .ptr id ver 0), (1, I k), (17, I m), (18, I s.1)]) (fun s => s.2) (fun _ => []) (fun s => m - s.1) (zP (0, S) [] ⟨by simp, by simpa only [Zmd] using hR, fun _ _ => rfl⟩ (by simp) rfl (by simp)) ?_)
 have hAb0 := hR.out
 clear hR
 rintro ⟨i, T⟩ ⟨hi, hR, hT⟩
 simp only at hi hR hT ⊢
 refine za (zb ?_)
 refine za (zr rfl (fun hc => ?_) (fun hc => ?_))
 ·simp at hc
  have hil : i < pr.length := by omega
  have hTw : T id = .cells ver 89 (jJ x v b p (.sl idF vF 1 0 fs.length) (.sl A va 1 0 m)) := (hT id (.inl hid)).trans hS
  have hri := hR.row i (by rw [Zx]; exact hil)
  rw [VX pr k i i hil, if_neg (Nat.lt_irrefl i)] at hri
  obtain ⟨tl, hdr⟩ := VV base 1 ws (x9 pr k i) i (by rw [Zx]; exact hil)
  rw [VX pr k i i hil, if_neg (Nat.lt_irrefl i)] at hdr
  have hcl : (x8 base 1 ws (x9 pr k i)).length = m := by rw [Y8, Zx, hPl]
  have hgl : (pr.getD i []).length = n := by
   rw [List.getD_eq_getElem?_getD, List.getElem?_eq_getElem hil]; exact (hPr _ (List.getElem_mem hil)).1
  generalize hrow : pr.getD i [] = row at hri hdr hgl
  obtain ⟨z, tl2, z1, -, -, z0⟩ := zE rfl row k (by omega)
  have hgz : row.getD k 0 = z := by rw [List.getD_eq_getElem?_getD, z1]; rfl
  have hkr : k < row.length := by omega
  have hlti := hltR i hc
  have xw := fun obs => (zH (S := T) (obs := obs) hlt).trans hTw
  have xa := fun obs => (zH (S := T) (obs := obs) hltA).trans hR.arr
  have xr := fun obs => (zH (S := T) (obs := obs) hlti).trans hri
  have yw := fun (o : Ob) obs => (zH (S := T.set (base + i) o) (obs := obs) hlt).trans ((Store.set_other _ _ _ _ (by omega)).trans hTw)
  have ya := fun (o : Ob) obs => (zH (S := T.set (base + i) o) (obs := obs) hltA).trans ((Store.set_other _ _ _ _ (by omega)).trans hR.arr)
  have g1 : ¬ nx ≤ base + i := by omega
  have hsp := VW (α := Int) rfl row k (W (W (2 * z) + 1)) hkr
  have hsp' : ye (row.flatMap Enc.enc) k [I (W (W (2 * z) + 1))] = (row.set k (W (W (2 * z) + 1))).flatMap Enc.enc := by simpa using hsp
  have hrl : (row.flatMap Enc.enc).length = n := by rw [jQ, hgl]; simp [Enc.sz]
  refine zh (za (zj (za (zb ?_))))
  refine zC (some [id, A]) (Row.pures [0, 1, 2, 3, 4, 5, 6, 7, 8, 9, 10, 11, 12, 13, 15] (.alt 14 (Row.pures [16] (.alt 17 (Row.pures [18, 19, 20] (.alt 21 (.done) .stop)) .stop)) .stop)) mixed (yh xw xa xr yw ya (zm (yh hdr g1 hcl hc z0 hkr) (yi hsp' hrl hgl hkn))) ?_
  refine ⟨by omega, ?_⟩
  obtain ⟨T', hT'⟩ : ∃ T', T' = T.set (base + i) (.cells (ws i) 3 ((uA k row).flatMap Enc.enc)) := ⟨_, rfl⟩
  have hnew := hR.turn (i := i) (by rw [Zx]; exact hil) (T' := T') (ws i) (uA k row) (by
   rw [hT', Store.set_other _ _ _ _ (by omega), hR.arr]
   congr 1
   refine (List.ext_getElem? fun j => ?_).symm
   rw [List.getElem?_set]
   split
   ·rename_i hij
    subst hij
    rw [if_pos (by omega), Q9 _ _ _ _ _ (by rw [Zx]; exact hil), VX pr k i i hil, if_neg (Nat.lt_irrefl i), hrow, Zef]
   ·rfl) (by rw [hT']; exact Store.set_same _ _ _) (fun o o1 o2 => by rw [hT']; exact Store.set_other _ _ _ _ o2)
  have hws : (fun k => if k = i then ws i else ws k) = ws := by funext j; split <;> simp_all
  rw [hws, ← hrow, Zmf pr k i hil] at hnew
  refine zb ?_
  refine zp (i + 1, T') [] ⟨hc, hnew, fun o hob => ?_⟩ (by simp; omega) (by simp [zt i (by omega)]) ?_ (by simp)
  ·dsimp only; rw [hT', Store.set_other _ _ _ _ (by omega)]; exact hT o hob
  ·dsimp only; rw [hT']
   simp only [uA, hgz]
 ·simp at hc
  obtain rfl : i = m := by omega
  rw [← hPl, Zme] at hR
  refine zy ?_
  exact ⟨_, T, rfl, ⟨by unfold Qa; rw [hge, if_pos he]; exact hR, hT⟩, yb (hkill T hT)⟩
def uB (e : Int) : Bool := decide (e ≠ 0) && decide (e ≠ 14)
theorem Zmi (e : Int) : Pure Tryz.prog 68 [I e] (B (uB e)) := by
 unfold uB
 refine zx Tryz.func68 Tryz.ntmps68 Tryz.results68 fun S nx hd => ?_
 refine za (zb ?_)
 by_cases h1 : e = 0
 ·refine za (ze [(2, 5)] (zm h1 zL) ?_)
  exact zg (zk hd rfl (by simp [zq, h1]))
 ·by_cases h2 : e = 14
  ·refine za (ze [(2, 5)] (zF h1 h2 zL) ?_)
   exact zg (zk hd rfl (by simp [zq, h2]))
  ·refine za (ze [(2, 5)] (zF h1 h2 zL) ?_)
   exact zg (zk hd rfl (by simp [zq, h1, h2]))
theorem Zmj {S : Store} {idF vF : Nat} (fs : List Int) (hF : S idF = .cells vF 39 (fs.flatMap Enc.enc)) (hl : fs.length ≤ 1000) :
  Spec Tryz.prog 112 [.sl idF vF 1 0 fs.length, .fn (.func 68) [] []] S (fun q S' => (∃ z : Int, q = I z ∧ (fs.any uB = decide (0 ≤ z))) ∧ S' = S) := by
 refine yU Tryz.func112 Tryz.ntmps112 Tryz.results112 fun nx hd => ?_
 have hltF : idF < nx := yA hd hF (by simp)
 have xf := fun obs => (zH (S := S) (obs := obs) hltF).trans hF
 refine za (zb ?_)
 repeat apply za
 refine zb ?_
 refine zj (zG (fun k : Nat => k ≤ fs.length ∧ ∀ e ∈ fs.take k, uB e = false) (fun k => [(0, .sl idF vF 1 0 fs.length), (1, .fn (.func 68) [] []), (7, I fs.length), (8, I k)]) (fun _ => []) (fun k => fs.length - k) 0 [] (by simp) (by simp) (by simp) ?_)
 rintro k ⟨hk, h0⟩
 refine za (zb ?_)
 refine za (zr rfl (fun hc => ?_) (fun hc => ?_))
 ·simp at hc
  obtain ⟨e, tl, a1, a2, a3, e0⟩ := zE rfl fs k hc
  refine zh (za (zj (za (zb ?_))))
  refine za (ze [] (zF xf e0 hc) ?_)
  refine zz (Zmi e) ?_
  cases hb : uB e with
  | true =>
   refine zo rfl (za (zb ?_))
   exact zg ⟨_, S, rfl, ⟨⟨k, by simp [zq], by rw [List.any_eq_true.2 ⟨e, List.mem_of_getElem? a1, hb⟩]; simp⟩, rfl⟩, yb hd⟩
  | false =>
   refine zn rfl (zh (zb ?_))
   exact zp (k + 1) [] ⟨hc, fun y hy => by rw [a3] at hy; rcases List.mem_append.1 hy with h | h; exact h0 y h; rw [List.mem_singleton.1 h]; exact hb⟩ (by omega) (by simp [zt k (by omega)]) rfl (by simp)
 ·simp at hc
  obtain rfl : k = fs.length := by omega
  rw [List.take_length] at h0
  refine zy (za (zb ?_))
  exact zg ⟨_, S, rfl, ⟨⟨-1, by simp [zq], by rw [List.any_eq_false.2 fun e he => by rw [h0 e he]; simp]; rfl⟩, rfl⟩, yb hd⟩
theorem Zmk {S : Store} {idF vF : Nat} (fs : List Int) (hF : S idF = .cells vF 39 (fs.flatMap Enc.enc)) (hl : fs.length ≤ 1000) :
  Spec Tryz.prog 67 [.sl idF vF 1 0 fs.length, .fn (.func 68) [] []] S (fun q S' => q = B (fs.any uB) ∧ S' = S) := by
 refine yU Tryz.func67 Tryz.ntmps67 Tryz.results67 fun nx hd => ?_
 have hltF : idF < nx := yA hd hF (by simp)
 refine za (zb ?_)
 refine za (zV [] (by rfl) (by rfl) fun K Gc Gh hK hGc hGh X hX0 hX => ?_)
 simp -implicitDefEqProofs [hX0, hX]
 try clear hX0 hX X
 refine hGc _ _ _ _ _ _ _ fun hsuf => ((Zmj fs ((zH hltF).trans hF) hl).mono ?_).v
 rintro _ _ ⟨⟨z, rfl, hz⟩, rfl⟩
 refine ⟨_, _, rfl, ?_⟩
 clear hGc hGh
 clear Gc Gh
 refine zR hsuf (D := []) (by rfl) fun Gc Gh hGc hGh X hX0 hX => ?_
 simp -implicitDefEqProofs [hX0, hX]
 clear hX0 hX X
 refine hK _ _ _ ?_
 clear hK hGc hGh
 clear K Gc Gh
 exact zg ⟨_, S, rfl, ⟨by simp [zq, hz], rfl⟩, yb hd⟩
def wX (x : Inst) (sol : Cust → List Int → List Visit × Bool) (pr : List (List Int)) (k : Nat) : List (List Visit × Bool) := (List.range k).map fun i => sol (x.cust.getD i default) (pr.getD i [])
def qa (x : Inst) (sol : Cust → List Int → List Visit × Bool) (pr : List (List Int)) : List (List Visit) × Int := if (wX x sol pr x.cust.length).all (·.2) = true then ((wX x sol pr x.cust.length).map (·.1), 0) else ([], 15)
theorem Zml (x : Inst) (sol : Cust → List Int → List Visit × Bool) (pr : List (List Int)) (k : Nat) : wX x sol pr (k + 1) = wX x sol pr k ++ [sol (x.cust.getD k default) (pr.getD k [])] := by simp [wX, List.range_succ]
theorem Zeh (x : Inst) (sol : Cust → List Int → List Visit × Bool) (pr : List (List Int)) {k m : Nat} (h : k < m) : sol (x.cust.getD k default) (pr.getD k []) ∈ wX x sol pr m := List.mem_map.2 ⟨k, List.mem_range.2 h, rfl⟩
def VZ (x : Inst) (n : Nat) (sol : Cust → List Int → List Visit × Bool) : Prop :=
 ∀ c ∈ x.cust, ∀ (l : List Int), l.length = n → (∀ z ∈ l, zU z) → ∀ (S : Store) (pl : PV), RowOf S pl l → Spec Tryz.prog 111 [.agg (zZ c), I x.days, I x.cap, pl] S (fun q S' => q = .tup [L (sol c l).1, B (sol c l).2] ∧ S' = S)
theorem Zmm {S : Store} {A va base : Nat} {ws : Nat → Nat} {x : Inst} {n : Nat} {pr : List (List Int)} {sol : Cust → List Int → List Visit × Bool} (hx : x.cust.length ≤ 1000) (hP : vp x.cust.length n pr) (hR : RowsAt S A va 45 base 3 1 ws pr) (hs : VZ x n sol) :
  Spec Tryz.prog 66 [.agg (zA x), .sl A va 1 0 x.cust.length] S (fun q S' => q = .tup [L (qa x sol pr).1, I (qa x sol pr).2] ∧ S' = S) := by
 obtain ⟨hPl, hPr⟩ := hP
 refine yU Tryz.func66 Tryz.ntmps66 Tryz.results66 fun nx hd => ?_
 have hltA : A < nx := yA hd hR.arr (by simp)
 have xa := fun obs => (zH (S := S) (obs := obs) hltA).trans hR.arr
 refine za (zb ?_)
 intro v0
 refine za (zb ?_)
 refine za (qZ 6 26 1 rfl fun v1 => ?_)
 refine za (zb ?_)
 refine zj (zG (fun s : Nat × List (List Visit) × Nat => s.1 ≤ x.cust.length ∧ s.2.1 = (wX x sol pr s.1).map (·.1) ∧ (wX x sol pr s.1).all (·.2) = true) (fun (i, out, w) => [(1, .sl A va 1 0 x.cust.length), (2, .ptr nx v0 0), (4, .sc (.slice none 0 0)), (6, .sl (nx + 1) w 1 0 out.length), (13, L x.cust), (14, I x.cust.length), (15, I i)]) (fun (i, out, w) => [.cells v0 25 (zA x), .cells w 26 (out.flatMap Enc.enc)]) (fun s => x.cust.length - s.1) (0, [], v1) [] (by simp [wX]) (by simp) (by simp) ?_)
 rintro ⟨i, out, w⟩ ⟨hi, ho, hall⟩
 simp only at hi ho hall ⊢
 have hol : out.length = i := by rw [ho]; simp [wX]
 refine za (zb ?_)
 refine za (zr rfl (fun hc => ?_) (fun hc => ?_))
 ·simp at hc
  obtain ⟨c, tl, a1, a2, a3, e1, e0⟩ := el 8 rfl x.cust i hc
  have hcm := List.mem_of_getElem? a1
  have hgc : x.cust.getD i default = c := by rw [List.getD_eq_getElem?_getD, a1]; rfl
  have hil : i < pr.length := by omega
  obtain ⟨tl2, hdr⟩ := VV base 1 ws pr i hil
  obtain ⟨hgl, hgi⟩ : (pr.getD i []).length = n ∧ ∀ z ∈ pr.getD i [], zU z := by
   rw [List.getD_eq_getElem?_getD, List.getElem?_eq_getElem hil]; exact hPr _ (List.getElem_mem hil)
  have hrow : RowOf S (.sl (base + i) (ws i) 1 0 (pr.getD i []).length) (pr.getD i []) := .inr ⟨_, _, rfl, hR.row i hil⟩
  have hsol := hs c hcm (pr.getD i []) hgl hgi
  have hch := Zml x sol pr i
  have hcm2 := Zeh x sol pr (k := i) hc
  rw [hgc] at hch hcm2
  generalize pr.getD i [] = row at hdr hgl hgi hrow hsol hch hcm2
  generalize hr : sol c row = r at hsol hch hcm2
  obtain ⟨vv, ok⟩ := r
  simp only at hsol hch
  refine zh (za (zj (za (ze [] (zm e0 hc) ?_))))
  intro v2
  refine za (zb ?_)
  repeat apply za
  refine zb ?_
  refine zo (by simp [hc]) ?_
  refine ze [] (zF xa hdr hc) ?_
  refine za (zV [] (by rfl) (by rfl) fun K Gc Gh hK hGc hGh X hX0 hX => ?_)
  simp -implicitDefEqProofs [hX0, hX]
  try clear hX0 hX X
  refine hGc _ _ _ _ _ _ _ fun hsuf => ((hsol _ _ (hrow.ext hd _)).mono ?_).v
  rintro _ _ ⟨rfl, rfl⟩
  refine ⟨_, _, rfl, ?_⟩
  clear hGc hGh
  clear Gc Gh
  refine zR hsuf (D := []) (by rfl) fun Gc Gh hGc hGh X hX0 hX => ?_
  simp -implicitDefEqProofs [hX0, hX]
  clear hX0 hX X
  refine hK _ _ _ ?_
  clear hK hGc hGh
  clear K Gc Gh
  repeat apply za
  refine zb ?_
  cases ok with
  | false =>
   have hno : qa x sol pr = ([], 15) := by
    unfold qa
    rw [if_neg]
    intro q
    have := List.all_eq_true.1 q _ hcm2
    cases this
   rw [hno]
   refine zo rfl (za (zb ?_))
   refine ve 4 rfl ?_
   exact zg ⟨_, S, rfl, ⟨by simp [zq], rfl⟩, yb hd⟩
  | true =>
   refine zn rfl (zh (zb ?_))
   refine ⟨by omega, ?_⟩
   refine zb ?_
   exact zp (i + 1, out ++ [vv], w + 1) [_] ⟨hc, by rw [hch, List.map_append, ho]; rfl, by rw [hch, List.all_append, hall]; rfl⟩ (by simp; omega) (by simp [zt i (by omega)]) rfl (by simp; rfl)
 ·simp at hc
  obtain rfl : i = x.cust.length := by omega
  have hyes : qa x sol pr = (out, 0) := by unfold qa; rw [if_pos hall, ← ho]
  rw [hyes]
  refine zy (yc 1 rfl ?_)
  refine za (zb ?_)
  exact zg ⟨_, S, (by simp; rfl), ⟨by simp [zq], rfl⟩, yb hd⟩
open Go
def wF (x : Inst) (p : zu) (i : Nat) : Int :=
 match x.cust[i]? with
 | none => 0
 | some c => if c.kind = 2 then x6 c (yD c (zT (yd i (told 0 p)) x.days)).1 else 0
def qx (x : Inst) (p : zu) (k : Nat) : Int := ((List.range k).map (wF x p)).sum
theorem V1 (x : Inst) (p : zu) (k : Nat) : qx x p (k + 1) = qx x p k + wF x p k := by simp [qx, List.range_succ]
theorem V2 (c : Cust) (q : List Int) (hq : q.length ≤ 1048576) : (yD c q).1.length ≤ 1048576 := by
 unfold yD
 split
 ·simp
 ·cases h : yl c.size c.rate c.start q with
  | none => simp
  | some l => simp [ZlJ h]; exact hq
theorem Qc (v : List Visit) (n : Int) : (zT v n).length ≤ 1048576 := by rw [Q3]; omega
theorem Zmn (x : Inst) (p : zu) (h : Serves x p) (hx : x.cust.length ≤ 1048576) (hf : ∀ c ∈ x.cust, CustFits c) : Pure Tryz.prog 122 [.agg (zA x), .agg [L p]] (I (W (qx x p x.cust.length))) := by
 refine zx Tryz.func122 Tryz.ntmps122 Tryz.results122 fun S nx hd => ?_
 refine za (zb ?_)
 intro v0 v1
 refine za (zb ?_)
 repeat apply za
 refine zb ?_
 refine zj (zG (fun s : Nat => s ≤ x.cust.length) (fun k => [(2, .ptr nx v0 0), (3, .ptr (nx + 1) v1 0), (5, I (W (qx x p k))), (11, L x.cust), (12, I x.cust.length), (13, I k)]) (fun _ => [.cells v0 25 (zA x), .cells v1 38 [L p]]) (fun s => x.cust.length - s) 0 [] (by simp) (by simp [qx]) (by simp) ?_)
 rintro k hk
 refine za (zb ?_)
 refine za (zr rfl (fun hc => ?_) (fun hc => ?_))
 ·simp at hc
  obtain ⟨c, tl, a1, a2, a3, _, e0⟩ := el 8 rfl x.cust k hc
  have hfc := hf c (List.mem_of_getElem? a1)
  have hs := V1 x p k
  refine zh (za (zj (za (ze [] (zm hc e0) ?_))))
  intro v2
  refine za (zb ?_)
  by_cases hk2 : c.kind = 2
  ·have hb := ZlS x p k h
   have hn := VL c (zT (yd k (told 0 p)) x.days) hfc (Qc _ _)
   have hh := VM c (yD c (zT (yd k (told 0 p)) x.days)).1 (V2 _ _ (Qc _ _))
   have hC : wF x p k = x6 c (yD c (zT (yd k (told 0 p)) x.days)).1 := by simp only [wF, a1, if_pos hk2]
   rw [hC] at hs
   generalize x6 c (yD c (zT (yd k (told 0 p)) x.days)).1 = z at *
   generalize yD c (zT (yd k (told 0 p)) x.days) = ne at *
   generalize zT (yd k (told 0 p)) x.days = q at *
   obtain ⟨ns, er⟩ := ne
   simp only at hn hh
   refine zo (by simp [hk2]) ?_
   refine za (zC (some [nx, nx + 1, nx + 2]) (Row.pures [0, 1, 2, 3, 4, 5, 6, 7, 8, 9, 10, 11] .done) mixed trivial ?_)
   refine zI (hb) trivial ?_
   refine zI (hn) trivial ?_
   refine zb ?_
   refine zz hh ?_
   have hw : W (W (qx x p k) + z) = W (qx x p (k + 1)) := by rw [hs, xE]
   refine zb ?_
   exact zp (k + 1) [_] hc (by omega) (by simp [zt k (by omega)]; exact hw) rfl rfl
  ·have hC : wF x p k = 0 := by simp only [wF, a1, if_neg hk2]
   rw [hC, Int.add_zero] at hs
   refine zn (by simp [hk2]) ?_
   refine zh (zb ?_)
   exact zp (k + 1) [_] hc (by omega) (by simp [zt k (by omega), hs]) rfl rfl
 ·simp at hc
  obtain rfl : k = x.cust.length := by omega
  refine zy (za (zb ?_))
  exact zg (zk hd (by simp; rfl) rfl)
theorem Zmo (x : Inst) (p : zu) (h : Serves x p) (hx : x.cust.length ≤ 1048576) (hf : ∀ c ∈ x.cust, CustFits c) : Pure Tryz.prog 63 [.agg (zA x), .agg [L p]] (I (W (qx x p x.cust.length))) := by
 refine zx Tryz.func63 Tryz.ntmps63 Tryz.results63 fun S nx hd => ?_
 refine za (zb ?_)
 intro v0 v1
 refine za (zb ?_)
 repeat apply za
 refine zb ?_
 refine zj (zG (fun s : Nat => s ≤ x.cust.length) (fun k => [(2, .ptr nx v0 0), (3, .ptr (nx + 1) v1 0), (5, I (W (qx x p k))), (6, I k)]) (fun _ => [.cells v0 25 (zA x), .cells v1 38 [L p]]) (fun s => x.cust.length - s) 0 [] (by simp) (by simp [qx]) (by simp) ?_)
 rintro k hk
 repeat apply za
 refine zb ?_
 refine zr rfl (fun hc => ?_) (fun hc => ?_)
 ·simp at hc
  obtain ⟨c, tl, a1, a2, a3, _, e0⟩ := el 8 rfl x.cust k hc
  have hfc := hf c (List.mem_of_getElem? a1)
  have hs := V1 x p k
  refine zh (za (zj (za (ze [] (zm hc e0) ?_))))
  intro v2
  refine za (zb ?_)
  by_cases hk2 : c.kind = 2
  ·have hvi := ZlL p k h.sz
   have hb := ZlK (yd k (told 0 p)) x.days (ZdV h k).1
   have hn := ZlI c (zT (yd k (told 0 p)) x.days) hfc (Qc _ _)
   have hh := ZlH c (yD c (zT (yd k (told 0 p)) x.days)).1 (V2 _ _ (Qc _ _))
   have hC : wF x p k = x6 c (yD c (zT (yd k (told 0 p)) x.days)).1 := by simp only [wF, a1, if_pos hk2]
   rw [hC] at hs
   generalize x6 c (yD c (zT (yd k (told 0 p)) x.days)).1 = z at *
   generalize yD c (zT (yd k (told 0 p)) x.days) = ne at *
   generalize zT (yd k (told 0 p)) x.days = q at *
   generalize yd (k : Int) (told 0 p) = v at *
   obtain ⟨ns, er⟩ := ne
   simp only at hn hh
   refine zo (by simp [hk2]) ?_
   refine za (zC (some [nx, nx + 1, nx + 2]) (Row.pures [0, 1, 2, 3, 4, 5, 6, 7, 8, 9, 10, 11, 12] .done) mixed trivial ?_)
   refine zI (hvi) trivial ?_
   refine zI (hb) trivial ?_
   refine zI (hn) trivial ?_
   refine zb ?_
   refine zz hh ?_
   have hw : W (W (qx x p k) + z) = W (qx x p (k + 1)) := by rw [hs, xE]
   refine zb ?_
   exact zp (k + 1) [_] hc (by omega) (by simp [zt k (by omega)]; exact hw) rfl rfl
  ·have hC : wF x p k = 0 := by simp only [wF, a1, if_neg hk2]
   rw [hC, Int.add_zero] at hs
   refine zn (by simp [hk2]) ?_
   refine zh (zb ?_)
   exact zp (k + 1) [_] hc (by omega) (by simp [zt k (by omega), hs]) rfl rfl
 ·simp at hc
  obtain rfl : k = x.cust.length := by omega
  refine zy (za (zb ?_))
  exact zg (zk hd (by simp; rfl) rfl)
def wG (x : Inst) (p : zu) : List Int := p.map fun d => W (zM x d)
theorem Zmp (x : Inst) (p : zu) (hp : p.length ≤ 1048576) (hd' : ∀ d ∈ p, DayOk d) (S : Store) (nx : Nat) (hd : zW nx S) :
  Spec Tryz.prog 123 [.agg (zA x), .agg [L p]] S (fun q S' => ∃ v, q = .sl (nx + 2) v 1 0 p.length ∧ S' = S.set (nx + 2) (.cells v 3 ((wG x p).flatMap Enc.enc))) := by
 refine ui hd Tryz.func123 Tryz.ntmps123 Tryz.results123 ?_
 refine za (zb ?_)
 intro v0 v1
 refine za (zb ?_)
 refine za (qZ 5 3 1 rfl fun v2 => ?_)
 refine za (zb ?_)
 refine zj (zG (fun s : Nat × List Int × Nat => s.1 ≤ p.length ∧ s.2.1 = wG x (p.take s.1)) (fun (k, out, v2) => [(2, .ptr nx v0 0), (3, .ptr (nx + 1) v1 0), (5, .sl (nx + 2) v2 1 0 out.length), (9, L p), (10, I p.length), (11, I k)]) (fun (k, out, v2) => [.cells v0 25 (zA x), .cells v1 38 [L p], .cells v2 3 (out.flatMap Enc.enc)]) (fun s => p.length - s.1) (0, [], v2) [] (by simp [wG]) (by simp) (by simp) ?_)
 rintro ⟨k, out, v2⟩ ⟨hk, ho⟩
 simp only at hk ho ⊢
 have hol : out.length = k := by rw [ho]; simp [wG]; omega
 refine za (zb ?_)
 refine za (zr rfl (fun hc => ?_) (fun hc => ?_))
 ·simp at hc
  obtain ⟨d, tl, a1, a2, a3, e0⟩ := zE rfl p k hc
  refine zh (za (zj (za (ze [] (zm hc e0) ?_))))
  intro v3
  refine zb ?_
  refine zz (YM x d (hd' d (List.mem_of_getElem? a1))) ?_
  refine ⟨by omega, ?_⟩
  refine zb ?_
  exact zp (k + 1, out ++ [W (zM x d)], v2 + 1) [_] ⟨hc, by rw [a3, ho]; simp [wG]⟩ (by simp; omega) (by simp [zt k (by omega)]) rfl (by simp; rfl)
 ·simp at hc
  obtain rfl : k = p.length := by omega
  rw [List.take_length] at ho
  refine zy (za (zb ?_))
  refine zg ⟨_, _, rfl, ⟨v2, by simp [zq, hol], rfl⟩, YC (j := 2) hd (by simp [ho])⟩
theorem Zmq (x : Inst) (p : zu) (hp : p.length ≤ 1048576) (hd' : ∀ d ∈ p, DayOk d) : Pure Tryz.prog 123 [.agg (zA x), .agg [L p]] (L (wG x p)) := by
 have hl : (wG x p).length = p.length := by simp [wG]
 have := JU 2 (fun S nx hd => Zmp x p hp hd' S nx hd) (by rw [q8, hl]; omega)
 rw [← hl] at this
 exact this
def yI (x : Inst) (p : zu) : Int := W (qx x p x.cust.length + (p.map (zM x)).sum)
theorem Zmr (a : Int) (l : List Int) : W (a + (l.map W).sum) = W (a + l.sum) := by
 induction l generalizing a with
 | nil => rfl
 | cons b l ih =>
  simp only [List.map_cons, List.sum_cons]
  have e1 : a + (W b + (l.map W).sum) = (a + W b) + (l.map W).sum := by omega
  rw [e1, ih, show a + W b + l.sum = (a + l.sum) + W b by omega, QA, show a + l.sum + b = a + (b + l.sum) by omega]
theorem Zms (x : Inst) (p : zu) : W (W (qx x p x.cust.length) + (wG x p).sum) = yI x p := by
 have : wG x p = (p.map (zM x)).map W := by simp [wG]
 rw [this, xE, Zmr, yI]
theorem Zmt (x : Inst) (p : zu) (h : Serves x p) (hx : x.cust.length ≤ 1048576) (hf : ∀ c ∈ x.cust, CustFits c) (hd' : ∀ d ∈ p, DayOk d) : Pure Tryz.prog 84 [.agg (zA x), .agg [L p]] (I (yI x p)) := by
 have hres := Zms x p
 have hl : (wG x p).length = p.length := by simp [wG]
 have hpn := h.sz.n
 have hdy := Zmq x p hpn hd'
 rw [← hres]
 generalize wG x p = ds at hl hdy
 refine zx Tryz.func84 Tryz.ntmps84 Tryz.results84 fun S nx hd => ?_
 refine za (zb ?_)
 intro v0 v1
 refine za (zb ?_)
 refine zz (Zmn x p h hx hf) ?_
 repeat apply za
 refine zb ?_
 refine zz hdy ?_
 refine zj (zG (fun s : Nat => s ≤ ds.length) (fun k => [(5, I (W (W (qx x p x.cust.length) + (ds.take k).sum))), (13, L ds), (14, I ds.length), (15, I k)]) (fun _ => []) (fun s => ds.length - s) 0 [_, _] (by simp) (by simp [W_W]) rfl ?_)
 rintro k hk
 refine za (zb ?_)
 refine za (zr rfl (fun hc => ?_) (fun hc => ?_))
 ·simp at hc
  obtain ⟨z, tl, a1, a2, a3, e0⟩ := zE rfl ds k hc
  have hw : W (W (W (qx x p x.cust.length) + (ds.take k).sum) + z) = W (W (qx x p x.cust.length) + (ds.take (k + 1)).sum) := by rw [a3, Y5, xE]; congr 1; omega
  refine zh (za (zj (za (ze [] (zm hc e0) ?_))))
  refine zb ?_
  refine zb ?_
  exact zp (k + 1) [] hc (by omega) (by simp [zt k (by omega)]; exact hw) rfl (by simp)
 ·simp at hc
  obtain rfl : k = ds.length := by omega
  rw [List.take_length]
  refine zy (za (zb ?_))
  exact zg (zk hd (by simp; rfl) rfl)
theorem Zmu (x : Inst) (p : zu) (h : Serves x p) (hx : x.cust.length ≤ 1048576) (hf : ∀ c ∈ x.cust, CustFits c) (hd' : ∀ d ∈ p, DayOk d) : Pure Tryz.prog 30 [.agg (zA x), .agg [L p]] (I (yI x p)) := by
 have hpn := h.sz.n
 refine zx Tryz.func30 Tryz.ntmps30 Tryz.results30 fun S nx hd => ?_
 refine za (zb ?_)
 intro v0 v1
 refine za (zb ?_)
 refine zz (Zmo x p h hx hf) ?_
 repeat apply za
 refine zb ?_
 refine zj (zG (fun s : Nat => s ≤ p.length) (fun k => [(2, .ptr nx v0 0), (3, .ptr (nx + 1) v1 0), (5, I (W (qx x p x.cust.length + ((p.take k).map (zM x)).sum))), (6, I k)]) (fun _ => [.cells v0 25 (zA x), .cells v1 38 [L p]]) (fun s => p.length - s) 0 [] (by simp) (by simp) (by simp) ?_)
 rintro k hk
 repeat apply za
 refine zb ?_
 refine zr rfl (fun hc => ?_) (fun hc => ?_)
 ·simp at hc
  obtain ⟨d, tl, a1, a2, a3, e0⟩ := zE rfl p k hc
  have hw : W (W (qx x p x.cust.length + ((p.take k).map (zM x)).sum) + W (zM x d)) = W (qx x p x.cust.length + ((p.take (k + 1)).map (zM x)).sum) := by rw [a3, List.map_append, List.sum_append, xE, QA]; simp; congr 1; omega
  refine zh (za (zj (zC (some [nx, nx + 1]) (Row.pures [0, 1, 2, 3, 4, 5, 6, 7, 8, 9] .done) mixed (zm hc e0) ?_)))
  refine zI (ZhC x d (hd' d (List.mem_of_getElem? a1))) trivial ?_
  refine zb ?_
  exact zp (k + 1) [] hc (by omega) (by rw [← hw]; simp [zt k (by omega)]) rfl (by simp)
 ·simp at hc
  obtain rfl : k = p.length := by omega
  have htl : (p.map (zM x)).take p.length = p.map (zM x) := List.take_of_length_le (by simp)
  refine zy (za (zb ?_))
  exact zg (zk hd (by simp; rfl) (by simp [htl, yI, zq]))
open Go
def uZ (p : zu) : Nat := (p.map fun d => d.flatten.length).sum
theorem V3 : ∀ (p : zu) (i : Nat), (told i p).length = uZ p
 | [], _ => rfl
 | d :: p, i => by
  have := V3 p (i + 1)
  simp only [told, List.length_append, List.length_map, uZ, List.map_cons, List.sum_cons] at this ⊢; omega
structure MadeP (m : Nat) (n : Nat) (p : zu) : Prop where
 len : p.length = n
 ne : ∀ d ∈ p, ∀ t ∈ d, t ≠ []
 ok : ∀ d ∈ p, ∀ s ∈ d.flatten, (0 ≤ s.c ∧ s.c < m) ∧ 1 ≤ s.q ∧ s.q ≤ 2147483648
 nd : ∀ d ∈ p, (d.flatten.map (·.c)).Nodup
theorem Zei : ∀ (d : zi), (∀ t ∈ d, t ≠ []) → d.length ≤ d.flatten.length
 | [], _ => by simp
 | t :: d, h => by
  have h1 := Zei d fun u hu => h u (by simp [hu])
  have h2 := List.length_pos_iff.2 (h t (by simp))
  simp only [List.flatten_cons, List.length_cons, List.length_append]; omega
theorem XJ : ∀ (d : zi) (t : zD), t ∈ d → t.length ≤ d.flatten.length
 | [], _, h => by cases h
 | u :: d, t, h => by
  simp only [List.flatten_cons, List.length_append]
  rcases List.mem_cons.1 h with rfl | h
  ·omega
  ·have := XJ d t h; omega
theorem MadeP.set {m n : Nat} {p : zu} (h : MadeP m n p) {k : Nat} {d : zi} (hd : p[k]? = some d) (x : Inst) (s : Stop) (j : Bool) (hs : (0 ≤ s.c ∧ s.c < m) ∧ 1 ≤ s.q ∧ s.q ≤ 2147483648) (hno : ∀ u ∈ d.flatten, u.c ≠ s.c) : MadeP m n (p.set k (Y9 x d s j)) := by
 have hdm := List.mem_of_getElem? hd
 refine ⟨by simp [h.len], fun e he t ht => ?_, fun e he u hu => ?_, fun e he => ?_⟩
 ·rcases List.mem_or_eq_of_mem_set he with he | rfl
  ·exact h.ne e he t ht
  ·exact Zl9 x d s j (h.ne d hdm) t ht
 ·rcases List.mem_or_eq_of_mem_set he with he | rfl
  ·exact h.ok e he u hu
  ·rw [Zec] at hu
   rcases List.mem_append.1 hu with hu | hu
   ·exact h.ok d hdm u hu
   ·rw [List.mem_singleton.1 hu]; exact hs
 ·rcases List.mem_or_eq_of_mem_set he with he | rfl
  ·exact h.nd e he
  ·rw [Zec, List.map_append]
   exact J9 _ _ (h.nd d hdm) (fun hm => by obtain ⟨u, hu, e⟩ := List.mem_map.1 hm; exact hno u hu e)
open Go
def lx : Inst := ⟨1, 1, 9, 9, [], [[0]]⟩
def ly : Inst := ⟨1, 1, 9, 9, [⟨1, 1, [1], 0, 0, 0, 0, 0⟩], [[0, 3], [4, 0]]⟩
def lp : zu := [[]]
theorem Zmv : ∀ i : Nat, yR 1 i = 1 ↔ i = 0 := by
 intro i
 cases i with
 | zero => simp [yR]
 | succ i => simp [yR, Nat.div_eq_of_lt (show 1 < 2 ^ (i + 1) from Nat.one_lt_two_pow (by omega))]
open Go
theorem Zej (p : Nat) : ∀ k : Nat, k ≤ 64 → ∀ i : Nat, yR (jr p k) i = 1 → i < k
 | 0, _, i, h => by simp [jr, yR] at h
 | k + 1, hk, i, h => by
  have ih := Zej p k (by omega) i
  unfold jr at h
  split at h
  ·rw [ZlT _ _ (J1 p k) (by omega)] at h
   have h2 : ((jr p k ||| 2 ^ k).testBit i) = true := by
    rw [Y6]; unfold jT at h; rw [if_pos (by omega), Int.toNat_natCast] at h; simp [h]
   rw [Nat.testBit_or, Nat.testBit_two_pow, Bool.or_eq_true] at h2
   rcases h2 with h2 | h2
   ·rw [Y6] at h2
    have := ih (by simpa using h2); omega
   ·have : k = i := by simpa using h2
    omega
  ·have := ih h; omega
theorem Z7 {p a k : Nat} {d : Int} (h : d ∈ yy p a k) : ∃ i : Nat, d = i ∧ i < k ∧ yR p i = 1 := by
 simp only [yy, List.mem_map, List.mem_filter, List.mem_range, Bool.and_eq_true, decide_eq_true_eq] at h
 obtain ⟨i, ⟨h1, _, h3⟩, rfl⟩ := h
 exact ⟨i, rfl, h1, h3⟩
theorem Zek (c : Cust) (days : Int) (h1 : 1 ≤ days) (h7 : days ≤ 7) : CustMade (qz c days) days.toNat := by
 unfold qz
 split
 ·have a := qG c.rate 0 9 (by omega)
  have b := qG c.size 1 30 (by omega)
  have d := qG c.start 0 (yo c.size 1 30) (by omega)
  exact ⟨⟨by dsimp only; omega, by dsimp only; omega, by dsimp only; omega⟩, by simp, by simp, fun h => by simp at h⟩
 ·have a := qG c.demand 1 15 (by omega)
  refine ⟨⟨by simp, by simp, by simp⟩, ?_, ?_, fun _ => ⟨?_, by dsimp only; omega, by dsimp only; omega⟩⟩
  ·intro p hp
   simp only [vH] at hp
   split at hp
   ·simp only [List.mem_singleton] at hp; omega
   ·obtain ⟨q, _, rfl⟩ := List.mem_map.1 hp; exact J1 q _
  ·simp only [vH]; split
   ·simp
   ·simp; omega
  ·intro p hp d hd
   obtain ⟨i, rfl, _, hb⟩ := Z7 hd
   simp only [vH] at hp
   split at hp
   ·simp only [List.mem_singleton] at hp; subst hp
    have := (Zmv i).1 hb; omega
   ·obtain ⟨q, _, rfl⟩ := List.mem_map.1 hp
    have := Zej q days.toNat (by omega) i hb; omega
theorem Z8 (x : Inst) : 1 ≤ (zO x).days ∧ (zO x).days ≤ 7 := qG x.days 1 7 (by omega)
theorem Zmw (x : Inst) : 0 ≤ (zO x).cap ∧ (zO x).cap ≤ 40 := qG x.cap 0 40 (by omega)
theorem Zmx (x : Inst) : 0 ≤ (zO x).veh ∧ (zO x).veh ≤ 5 := qG x.veh 0 5 (by omega)
theorem Zmy (x : Inst) : 0 ≤ (zO x).len ∧ (zO x).len ≤ 300 := qG x.len 0 300 (by omega)
theorem Zmz (x : Inst) : (zO x).cust.length ≤ 6 := by simp [zO]; omega
theorem Qd (x : Inst) {c : Cust} (h : c ∈ (zO x).cust) : ∃ c0, c = qz c0 (zO x).days := by
 simp only [zO, List.mem_map] at h
 obtain ⟨c0, _, rfl⟩ := h
 exact ⟨c0, rfl⟩
def ZmA (x : Inst) (v c l : Int) : Inst := ⟨(zO x).days, v, c, l, (zO x).cust, (zO x).dist⟩
theorem ZmB {d : zi} {t : zD} (ht : t ∈ d) {s : Stop} (hs : s ∈ t) : s ∈ d.flatten := List.mem_flatten.2 ⟨t, ht, hs⟩
theorem Zel {m : Nat} : ∀ (l : List Int), l.Nodup → (∀ c ∈ l, 0 ≤ c ∧ c < m) → l.length ≤ m := by
 intro l hn hl
 have h1 : (l.map Int.toNat).Nodup := by
  refine List.Pairwise.map _ ?_ (List.Pairwise.and_mem.1 hn)
  rintro a b ⟨ha, hb, hab⟩ e
  have := hl a ha; have := hl b hb
  exact hab (by omega)
 have h2 : ∀ c ∈ l.map Int.toNat, c ∈ List.range m := by
  intro c hc
  obtain ⟨z, hz, rfl⟩ := List.mem_map.1 hc
  have := hl z hz
  exact List.mem_range.2 (by omega)
 have := h1.length_le_of_subset h2
 simpa using this
open Go Go.Proofs Hp
theorem V4 (p : Nat) (hp : p < 2 ^ 64) : Pure Tryz.prog 233 [U p] (L (yy p 0 64)) := by
 have h := ZlP p 0 hp (by decide)
 refine zx Tryz.func233 Tryz.ntmps233 Tryz.results233 fun S nx hd => ?_
 refine za (zb ?_)
 refine za (zb ?_)
 refine zz h ?_
 exact zg (zk hd rfl rfl)
theorem ZmC (c : Cust) (p : Nat) (hp : p < 2 ^ 64) : Pure Tryz.prog 188 [.agg (zZ c), U p] (L (jK c p)) := by
 have hall := V4 p hp
 have hln := Q5 p 0 64
 unfold jK
 generalize yy p 0 64 = l at hall hln
 refine zx Tryz.func188 Tryz.ntmps188 Tryz.results188 fun S nx hd => ?_
 refine za (zb ?_)
 intro v0
 refine za (zb ?_)
 refine za (qZ 5 85 2 rfl fun v1 => ?_)
 refine za (zb ?_)
 refine zz hall ?_
 refine zj (zG (fun s : Nat × List Visit × Nat => s.1 ≤ l.length ∧ s.2.1 = (l.take s.1).map fun d => ⟨d, c.demand⟩) (fun (k, out, v1) => [(2, .ptr nx v0 0), (5, .sl (nx + 1) v1 2 0 out.length), (9, L l), (10, I l.length), (11, I k)]) (fun (k, out, v1) => [.cells v0 65 (zZ c), .cells v1 85 (out.flatMap Enc.enc)]) (fun s => l.length - s.1) (0, [], v1) [] (by simp) (by simp) (by simp) ?_)
 rintro ⟨k, out, v1⟩ ⟨hk, ho⟩
 simp only at hk ho ⊢
 have hol : out.length = k := by rw [ho]; simp; omega
 refine za (zb ?_)
 refine za (zr rfl (fun hc => ?_) (fun hc => ?_))
 ·simp at hc
  obtain ⟨d, tl, a1, a2, a3, e0⟩ := zE rfl l k hc
  refine zh (za (zj (za (ze [] (zm e0 hc) ?_))))
  refine zb ?_
  refine ⟨by omega, ?_⟩
  refine zb ?_
  exact zp (k + 1, out ++ [⟨d, c.demand⟩], v1 + 1) [] ⟨hc, by rw [a3, ho]; simp⟩ (by simp; omega) (by simp [zt k (by omega)]) rfl (by simp)
 ·simp at hc
  obtain rfl : k = l.length := by omega
  rw [List.take_length] at ho
  refine zy (yc 1 rfl ?_)
  refine za (zb ?_)
  exact zg (zk hd (by simp; rfl) (by simp [zq, ho]))
def wd (price : List Int) (ds : List Int) : Int := ds.foldl (fun (s d : Int) => if d < price.length then vU s (price.getD d.toNat 0) else s) 0
def Jb (price : List Int) (p : Nat) : Int := wd price (yy p 0 64)
def qJ (price : List Int) (l : List Nat) : Nat → Int × Int
 | 0 => (-1, 0)
 | k + 1 => if (qJ price l k).1 < 0 ∨ Jb price (l.getD k 0) < (qJ price l k).2 then (k, Jb price (l.getD k 0)) else qJ price l k
theorem V5 (price : List Int) (l : List Nat) : ∀ k : Nat, (qJ price l k).1 < k ∧ -1 ≤ (qJ price l k).1 ∧ (0 < k → 0 ≤ (qJ price l k).1)
 | 0 => by simp [qJ]
 | k + 1 => by
  have := V5 price l k
  unfold qJ
  split
  ·dsimp only; omega
  ·rename_i h; omega
theorem ZmD (a b : Int) (ha : zU a) (hb : zU b) : zU (vU a b) := by
 unfold zU vU at *
 split
 ·omega
 ·split <;> omega
theorem ZmE (price ds : List Int) (d : Int) : wd price (ds ++ [d]) = if d < price.length then vU (wd price ds) (price.getD d.toNat 0) else wd price ds := by simp [wd]
theorem ZmF (price : List Int) (hp : ∀ z ∈ price, zU z) (ds : List Int) : zU (wd price ds) := by
 unfold wd
 have : ∀ (ds : List Int) (s : Int), zU s → zU (ds.foldl (fun (s d : Int) => if d < price.length then vU s (price.getD d.toNat 0) else s) s) := by
  intro ds
  induction ds with
  | nil => intro s h; exact h
  | cons d ds ih =>
   intro s h
   rw [List.foldl_cons]
   apply ih
   split
   ·refine ZmD _ _ h ?_
    rw [List.getD_eq_getElem?_getD]
    cases hq : price[d.toNat]? with
    | none => unfold zU; simp
    | some z => exact hp z (List.mem_of_getElem? hq)
   ·exact h
 exact this ds 0 (by unfold zU; omega)
theorem ZmG {S : Store} {pl : PV} {price : List Int} (l : List Nat) (hR : RowOf S pl price) (hp : ∀ z ∈ price, zU z) (hpl : price.length ≤ 1000) (hl : l.length ≤ 1000) (h64 : ∀ p ∈ l, p < 2 ^ 64) :
  Spec Tryz.prog 187 [L l, pl] S (fun q S' => q = .tup [I (qJ price l l.length).1, I (qJ price l l.length).2] ∧ S' = S) := by
 refine yU Tryz.func187 Tryz.ntmps187 Tryz.results187 fun nx hd => ?_
 refine za (zb ?_)
 refine za (zb ?_)
 repeat apply za
 refine zb ?_
 refine zj (zG (fun k : Nat => k ≤ l.length) (fun k => [(1, pl), (6, I (qJ price l k).1), (7, I (qJ price l k).2), (13, L l), (14, I l.length), (15, I k)]) (fun _ => []) (fun k => l.length - k) 0 [] (by simp) (by simp [qJ]) (by simp) ?_)
 rintro k hk
 have hb : qJ price l (k + 1) = if (qJ price l k).1 < 0 ∨ Jb price (l.getD k 0) < (qJ price l k).2 then (↑k, Jb price (l.getD k 0)) else qJ price l k := rfl
 generalize hst : qJ price l k = st at hb ⊢
 obtain ⟨place, least⟩ := st
 simp only at hb ⊢
 refine za (zb ?_)
 refine za (zr rfl (fun hc => ?_) (fun hc => ?_))
 ·simp at hc
  obtain ⟨p, tl, a1, a2, a3, e0⟩ := zE rfl l k hc
  have hall := V4 p (h64 p (List.mem_of_getElem? a1))
  have hgp : l.getD k 0 = p := by rw [List.getD_eq_getElem?_getD, a1]; rfl
  rw [hgp] at hb
  have hds : ∀ d ∈ yy p 0 64, ∃ i : Nat, d = i := fun d hd => by obtain ⟨i, h, _⟩ := Z7 hd; exact ⟨i, h⟩
  have hdl := Q5 p 0 64
  rw [show Jb price p = wd price (yy p 0 64) from rfl] at hb
  generalize yy p 0 64 = ds at hall hds hdl hb
  refine zh (za (zj (za (ze [] (zm e0 hc) ?_))))
  refine za (zb ?_)
  repeat apply za
  refine zb ?_
  refine zz hall ?_
  refine zj (zG (fun j : Nat => j ≤ ds.length) (fun j => [(1, pl), (6, I place), (7, I least), (8, I k), (10, I (wd price (ds.take j))), (13, L l), (14, I l.length), (15, I k), (21, L ds), (22, I ds.length), (23, I j)]) (fun _ => []) (fun j => ds.length - j) 0 [] (by simp) (by simp [wd]) (by simp) ?_)
  rintro j hj
  refine za (zb ?_)
  refine za (zr rfl (fun hc2 => ?_) (fun hc2 => ?_))
  ·simp at hc2
   obtain ⟨d, tl2, b1, b2, b3, f0⟩ := zE rfl ds j hc2
   obtain ⟨i, rfl⟩ := hds d (List.mem_of_getElem? b1)
   have hsn := ZmE price (ds.take j) (i : Int)
   rw [← b3, Int.toNat_natCast] at hsn
   have hsi := ZmF price hp (ds.take j)
   refine zh (za (zj (za (ze [] (zm f0 hc2) ?_))))
   by_cases hi : i < price.length
   ·obtain ⟨z, tl3, c1, -, -, g0⟩ := zE rfl price i hi
    have hgz : price.getD i 0 = z := by rw [List.getD_eq_getElem?_getD, c1]; rfl
    rw [if_pos (by omega), hgz] at hsn
    have hsat := ZdK (wd price (ds.take j)) z hsi (hp z (List.mem_of_getElem? c1))
    rw [← hsn] at hsat
    rcases hR with rfl | ⟨id, ver, rfl, hS⟩
    ·refine za (ze [] hi ?_)
     refine zo rfl (ze [] (zm g0 hi) ?_)
     refine zz hsat ?_
     refine zb ?_
     exact zp (j + 1) [] hc2 (by omega) (by simp [zt j (by omega)]) rfl (by simp)
    ·have hlt : id < nx := yA hd hS (by simp)
     have xr := fun obs => (zH (S := S) (obs := obs) hlt).trans hS
     refine za (ze [] hi ?_)
     refine zo rfl (ze [] (zF xr g0 hi) ?_)
     refine zz hsat ?_
     refine zb ?_
     exact zp (j + 1) [] hc2 (by omega) (by simp [zt j (by omega)]) rfl (by simp)
   ·rw [if_neg (by omega)] at hsn
    rcases hR with rfl | ⟨id, ver, rfl, hS⟩
    ·refine za (ze [] hi ?_)
     refine zn rfl (zh (zb ?_))
     exact zp (j + 1) [] hc2 (by omega) (by simp [zt j (by omega), hsn]) rfl (by simp)
    ·refine za (ze [] hi ?_)
     refine zn rfl (zh (zb ?_))
     exact zp (j + 1) [] hc2 (by omega) (by simp [zt j (by omega), hsn]) rfl (by simp)
  ·simp at hc2
   obtain rfl : j = ds.length := by omega
   rw [List.take_length]
   refine zy (za (qh (nx := nx) (σ := Bool) (fun t => t = decide (place < 0 ∨ wd price ds < least)) (fun t => [(1, pl), (6, I place), (7, I least), (8, I k), (10, I (wd price ds)), (13, L l), (14, I l.length), (15, I k), (44, B t)]) (fun _ => S) (fun _ => []) ?_ ?_))
   ·by_cases h1 : place < 0
    ·repeat apply za
     refine ze [(2, 40)] (zm h1 zL) ?_
     exact zP true [] (by simp [h1]) (by simp) rfl (by simp)
    ·repeat apply za
     refine ze [(2, 40)] h1 ?_
     exact zP (decide (wd price ds < least)) [] (by simp [h1]) (by simp) rfl (by simp)
   rintro t rfl
   by_cases h : place < 0 ∨ wd price ds < least
   ·rw [decide_eq_true h]
    rw [if_pos h] at hb
    refine zo rfl (zb ?_)
    refine zb ?_
    exact zp (k + 1) [] hc (by omega) (by simp [zt k (by omega), hb]) rfl (by simp)
   ·rw [decide_eq_false h]
    rw [if_neg h] at hb
    refine zn rfl (zh (zb ?_))
    exact zp (k + 1) [] hc (by omega) (by simp [zt k (by omega), hb]) rfl (by simp)
 ·simp at hc
  obtain rfl : k = l.length := by omega
  refine zy (za (zb ?_))
  exact zg ⟨_, S, rfl, ⟨by simp [zq, hst], rfl⟩, yb hd⟩
def jL (c : Cust) (cap : Int) : List Nat := c.pats.filter fun p => decide (p = 0) || decide (c.demand ≤ cap)
theorem ZmH (c : Cust) (cap : Int) (hl : c.pats.length ≤ 1000) : Pure Tryz.prog 186 [.agg (zZ c), I cap] (L (jL c cap)) := by
 unfold jL
 refine zx Tryz.func186 Tryz.ntmps186 Tryz.results186 fun S nx hd => ?_
 refine za (zb ?_)
 intro v0
 refine za (zb ?_)
 refine za (qZ 5 93 1 rfl fun v1 => ?_)
 refine za (zb ?_)
 refine zj (zG (fun s : Nat × List Nat × Nat => s.1 ≤ c.pats.length ∧ s.2.1 = (c.pats.take s.1).filter (fun p => decide (p = 0) || decide (c.demand ≤ cap)) ∧ s.2.1.length ≤ s.1) (fun (k, out, w) => [(1, I cap), (2, .ptr nx v0 0), (5, .sl (nx + 1) w 1 0 out.length), (9, L c.pats), (10, I c.pats.length), (11, I k)]) (fun (k, out, w) => [.cells v0 65 (zZ c), .cells w 93 (out.flatMap Enc.enc)]) (fun s => c.pats.length - s.1) (0, [], v1) [] (by simp) (by simp) (by simp) ?_)
 rintro ⟨k, out, w⟩ ⟨hk, ho, hol⟩
 simp only at hk ho hol ⊢
 refine za (zb ?_)
 refine za (zr rfl (fun hc => ?_) (fun hc => ?_))
 ·simp at hc
  obtain ⟨p, tl, a1, a2, a3, e0⟩ := zE rfl c.pats k hc
  refine zh (za (zj (za (ze [] (zm e0 hc) ?_))))
  refine za (qh (nx := nx) (σ := Bool × Nat) (fun s => s.1 = (decide (p = 0) || decide (c.demand ≤ cap))) (fun (t, w) => [(1, I cap), (2, .ptr nx v0 0), (5, .sl (nx + 1) w 1 0 out.length), (7, U p), (9, L c.pats), (10, I c.pats.length), (11, I k), (22, B t)]) (fun _ => S) (fun (t, w) => [.cells v0 65 (zZ c), .cells w 93 (out.flatMap Enc.enc)]) ?_ ?_)
  ·by_cases h1 : p = 0
   ·repeat apply za
    refine ze [(2, 17)] (zm h1 zL) ?_
    exact zP (true, w) [] (by simp [h1]) (by simp [h1]) rfl (by simp)
   ·repeat apply za
    refine ze [(2, 17)] h1 ?_
    exact zP (decide (c.demand ≤ cap), w) [] (by simp [h1]) (by simp) rfl (by simp)
  rintro ⟨t, w⟩ ht
  simp only at ht ⊢
  subst ht
  have hstep : (c.pats.take (k + 1)).filter (fun p => decide (p = 0) || decide (c.demand ≤ cap)) = out ++ (if (decide (p = 0) || decide (c.demand ≤ cap)) = true then [p] else []) := by
   rw [a3, List.filter_append, ho]
   congr 1
   simp only [List.filter_cons, List.filter_nil]
  cases ht : (decide (p = 0) || decide (c.demand ≤ cap)) with
  | true =>
   rw [ht, if_pos rfl] at hstep
   refine zo rfl (zb ?_)
   refine ⟨by omega, ?_⟩
   refine zb ?_
   exact zp (k + 1, out ++ [p], w + 1) [] ⟨hc, hstep.symm, by simp; omega⟩ (by simp; omega) (by simp [zt k (by omega)]) rfl (by simp)
  | false =>
   rw [ht, if_neg (by decide), List.append_nil] at hstep
   refine zn rfl (zh (zb ?_))
   exact zp (k + 1, out, w) [] ⟨hc, hstep.symm, by dsimp only; omega⟩ (by simp; omega) (by simp [zt k (by omega)]) rfl (by simp)
 ·simp at hc
  obtain rfl : k = c.pats.length := by omega
  rw [List.take_length] at ho
  refine zy (yc 1 rfl ?_)
  refine za (zb ?_)
  exact zg (zk hd (by simp; rfl) (by simp [zq, ho]))
def we (c : Cust) (cap : Int) (price : List Int) : List Visit × Bool :=
 if (qJ price (jL c cap) (jL c cap).length).1 < 0 then ([], false) else (jK c ((jL c cap).getD (qJ price (jL c cap) (jL c cap).length).1.toNat 0), true)
theorem ZmI {S : Store} {pl : PV} {price : List Int} (c : Cust) (cap : Int) (hR : RowOf S pl price) (hp : ∀ z ∈ price, zU z) (hpl : price.length ≤ 1000) (hl : c.pats.length ≤ 1000) (h64 : ∀ p ∈ c.pats, p < 2 ^ 64) :
  Spec Tryz.prog 151 [.agg (zZ c), I cap, pl] S (fun q S' => q = .tup [L (we c cap price).1, B (we c cap price).2] ∧ S' = S) := by
 have hca := ZmH c cap hl
 have hsub : ∀ p ∈ jL c cap, p < 2 ^ 64 := fun p hp => h64 p (List.mem_filter.1 hp).1
 have hcl : (jL c cap).length ≤ 1000 := Nat.le_trans (List.length_filter_le _ _) hl
 unfold we
 generalize jL c cap = l at *
 have hb := fun S (hR : RowOf S pl price) => ZmG l hR hp hpl hcl hsub
 obtain ⟨b1, b2, b3⟩ := V5 price l l.length
 generalize qJ price l l.length = r at *
 obtain ⟨place, least⟩ := r
 simp only at hb b1 b2 b3 ⊢
 refine yU Tryz.func151 Tryz.ntmps151 Tryz.results151 fun nx hd => ?_
 refine za (zb ?_)
 intro v0
 refine za (zb ?_)
 refine zz hca ?_
 refine za (zV [] (by rfl) (by rfl) fun K Gc Gh hK hGc hGh X hX0 hX => ?_)
 simp -implicitDefEqProofs [hX0, hX]
 try clear hX0 hX X
 refine hGc _ _ _ _ _ _ _ fun hsuf => ((hb _ (hR.ext hd _)).mono ?_).v
 rintro _ _ ⟨rfl, rfl⟩
 refine ⟨_, _, rfl, ?_⟩
 clear hGc hGh
 clear Gc Gh
 refine zR hsuf (D := []) (by rfl) fun Gc Gh hGc hGh X hX0 hX => ?_
 simp -implicitDefEqProofs [hX0, hX]
 clear hX0 hX X
 refine hK _ _ _ ?_
 clear hK hGc hGh
 clear K Gc Gh
 repeat apply za
 refine zb ?_
 by_cases h : place < 0
 ·rw [if_pos h]
  refine zo (by simp [h]) ?_
  refine za (zb ?_)
  refine ve 6 rfl ?_
  exact zg ⟨_, S, rfl, ⟨by simp [zq], rfl⟩, yb hd⟩
 ·rw [if_neg h]
  obtain ⟨i, rfl⟩ := Int.eq_ofNat_of_zero_le (show 0 ≤ place by omega)
  have hil : i < l.length := by omega
  obtain ⟨p, tl, a1, a2, a3, e0⟩ := zE rfl l i hil
  have hgp : l.getD (i : Int).toNat 0 = p := by rw [Int.toNat_natCast, List.getD_eq_getElem?_getD, a1]; rfl
  rw [hgp]
  have hon := ZmC c p (hsub p (List.mem_of_getElem? a1))
  refine zn (by simp) ?_
  refine zh (za (zC (some [nx]) (Row.pures [0, 1, 2, 3, 4, 5, 6, 7] .done) mixed (zm e0 hil) ?_))
  refine zI (hon) (zm e0 hil) ?_
  exact zg ⟨_, S, (by simp; rfl), ⟨by simp [zq], rfl⟩, yb hd⟩
theorem ZmJ {S : Store} {pl : PV} {price : List Int} (c : Cust) (n cap : Int) (hk : c.kind = 1) (hR : RowOf S pl price) (hp : ∀ z ∈ price, zU z) (hpl : price.length ≤ 1000) (hl : c.pats.length ≤ 1000) (h64 : ∀ p ∈ c.pats, p < 2 ^ 64) :
  Spec Tryz.prog 111 [.agg (zZ c), I n, I cap, pl] S (fun q S' => q = .tup [L (we c cap price).1, B (we c cap price).2] ∧ S' = S) := by
 have hs := fun S (hR : RowOf S pl price) => ZmI c cap hR hp hpl hl h64
 generalize we c cap price = r at *
 obtain ⟨v, ok⟩ := r
 simp only at hs ⊢
 refine yU Tryz.func111 Tryz.ntmps111 Tryz.results111 fun nx hd => ?_
 refine za (zb ?_)
 intro v0
 refine za (zj (za (ze [] hk ?_)))
 refine zo rfl (za (zV [] (by rfl) (by rfl) fun K Gc Gh hK hGc hGh X hX0 hX => ?_))
 simp -implicitDefEqProofs [hX0, hX]
 try clear hX0 hX X
 refine hGc _ _ _ _ _ _ _ fun hsuf => ((hs _ (hR.ext hd _)).mono ?_).v
 rintro _ _ ⟨rfl, rfl⟩
 refine ⟨_, _, rfl, ?_⟩
 clear hGc hGh
 clear Gc Gh
 refine zR hsuf (D := []) (by rfl) fun Gc Gh hGc hGh X hX0 hX => ?_
 simp -implicitDefEqProofs [hX0, hX]
 clear hX0 hX X
 refine hK _ _ _ ?_
 clear hK hGc hGh
 clear K Gc Gh
 exact zg ⟨_, S, (by simp; rfl), ⟨by simp [zq], rfl⟩, yb hd⟩
open Go Go.Proofs Hp
def jV (c : Cust) (there cap : Int) : Int := if c.size - there < 1 ∨ cap < 0 then 0 else if c.size - there ≤ cap then c.size - there else if c.rule = 1 then 0 else cap
theorem Zem {c : Cust} {there cap : Int} (hc : 0 ≤ c.size ∧ c.size ≤ 2147483648) (ht : 0 ≤ there) : 0 ≤ jV c there cap ∧ jV c there cap ≤ 2147483648 := by
 unfold jV
 split
 ·omega
 ·split
  ·omega
  ·split <;> omega
theorem V6 (c : Cust) (there cap : Int) (hc : 0 ≤ c.size ∧ c.size ≤ 2147483648) (ht : -4611686018427387904 ≤ there ∧ there ≤ 4611686018427387904) : Pure Tryz.prog 190 [.agg (zZ c), I there, I cap] (I (jV c there cap)) := by
 have w1 : IntKind.i64.wrap (c.size - there) = c.size - there := wr _ (by omega) (by omega)
 unfold jV
 generalize hf : c.size - there = f at w1 ⊢
 refine zx Tryz.func190 Tryz.ntmps190 Tryz.results190 fun S nx hd => ?_
 refine za (zb ?_)
 intro v0
 refine za (ze [] (zm hf w1) ?_)
 refine za (zj ?_)
 by_cases h : f < 1 ∨ cap < 0
 ·rw [if_pos h]
  by_cases h1 : f < 1
  ·refine za (ze [(2, 15)] (zm h1 zL) ?_)
   refine zo rfl (za (zb ?_))
   exact zg (zk hd rfl rfl)
  ·have h2 : cap < 0 := by omega
   refine za (ze [(2, 15)] (zm h1 h2) ?_)
   refine zo rfl (za (zb ?_))
   exact zg (zk hd rfl rfl)
 ·rw [if_neg h]
  have h1 : ¬ f < 1 := by omega
  have h2 : ¬ cap < 0 := by omega
  refine za (ze [(2, 15)] (zm h1 h2) ?_)
  refine zn rfl (za (zb ?_))
  by_cases h3 : f ≤ cap
  ·rw [if_pos h3]
   refine zo (by simp [h3]) ?_
   refine za (zb ?_)
   exact zg (zk hd rfl rfl)
  ·rw [if_neg h3]
   refine zn (by simp; omega) ?_
   refine za (zb ?_)
   by_cases h4 : c.rule = 1
   ·rw [if_pos h4]
    refine zo (by simp [h4]) ?_
    refine za (zb ?_)
    exact zg (zk hd rfl rfl)
   ·rw [if_neg h4]
    refine zn (by simp [h4]) ?_
    refine zh (za (zb ?_))
    exact zg (zk hd rfl rfl)
def Qe (price : List Int) (d : Int) : Int := if d < 0 ∨ (price.length : Int) ≤ d then 0 else price.getD d.toNat 0
theorem Zen {S : Store} {pl : PV} {price : List Int} (d : Int) (hR : RowOf S pl price) :
  Spec Tryz.prog 191 [pl, I d] S (fun q S' => q = I (Qe price d) ∧ S' = S) := by
 unfold Qe
 rcases hR with rfl | ⟨id, ver, rfl, hS⟩
 ·refine yU Tryz.func191 Tryz.ntmps191 Tryz.results191 fun nx hd => ?_
  refine za (zb ?_)
  by_cases h : d < 0
  ·rw [if_pos (.inl h)]
   repeat apply za
   refine ze [(2, 7)] (zm h zL) ?_
   refine zo rfl (za (zb ?_))
   exact zg ⟨_, S, rfl, ⟨by simp [zq], rfl⟩, yb hd⟩
  by_cases h2 : (price.length : Int) ≤ d
  ·rw [if_pos (.inr h2)]
   repeat apply za
   refine ze [(2, 7)] (zm h h2) ?_
   refine zo rfl (za (zb ?_))
   exact zg ⟨_, S, rfl, ⟨by simp [zq], rfl⟩, yb hd⟩
  rw [if_neg (by omega)]
  obtain ⟨i, rfl⟩ := Int.eq_ofNat_of_zero_le (show 0 ≤ d by omega)
  have hi : i < price.length := by omega
  obtain ⟨z, tl, a1, -, -, e0⟩ := zE rfl price i hi
  have hg : price.getD (i : Int).toNat 0 = z := by rw [Int.toNat_natCast, List.getD_eq_getElem?_getD, a1]; rfl
  rw [hg]
  have h2' : ¬ price.length ≤ i := by omega
  repeat apply za
  refine ze [(2, 7)] (zF h h2 h2') ?_
  refine zn rfl (zh (za (ze [] (zm e0 hi) ?_)))
  exact zg ⟨_, S, rfl, ⟨by simp [zq], rfl⟩, yb hd⟩
 ·refine yU Tryz.func191 Tryz.ntmps191 Tryz.results191 fun nx hd => ?_
  have hlt : id < nx := yA hd hS (by simp)
  have xr := fun obs => (zH (S := S) (obs := obs) hlt).trans hS
  refine za (zb ?_)
  by_cases h : d < 0
  ·rw [if_pos (.inl h)]
   repeat apply za
   refine ze [(2, 7)] (zm h zL) ?_
   refine zo rfl (za (zb ?_))
   exact zg ⟨_, S, rfl, ⟨by simp [zq], rfl⟩, yb hd⟩
  by_cases h2 : (price.length : Int) ≤ d
  ·rw [if_pos (.inr h2)]
   repeat apply za
   refine ze [(2, 7)] (zm h h2) ?_
   refine zo rfl (za (zb ?_))
   exact zg ⟨_, S, rfl, ⟨by simp [zq], rfl⟩, yb hd⟩
  rw [if_neg (by omega)]
  obtain ⟨i, rfl⟩ := Int.eq_ofNat_of_zero_le (show 0 ≤ d by omega)
  have hi : i < price.length := by omega
  obtain ⟨z, tl, a1, -, -, e0⟩ := zE rfl price i hi
  have hg : price.getD (i : Int).toNat 0 = z := by rw [Int.toNat_natCast, List.getD_eq_getElem?_getD, a1]; rfl
  rw [hg]
  have h2' : ¬ price.length ≤ i := by omega
  repeat apply za
  refine ze [(2, 7)] (zF h h2 h2') ?_
  refine zn rfl (zh (za (ze [] (zF xr e0 hi) ?_)))
  exact zg ⟨_, S, rfl, ⟨by simp [zq], rfl⟩, yb hd⟩
theorem Zeo : ∀ (l m : List Int) (i : Nat), yn i (l ++ m) = yn i l ++ yn (i + l.length) m
 | [], m, i => by simp [yn]
 | z :: l, m, i => by
  have ih := Zeo l m (i + 1)
  simp only [List.cons_append, yn, List.length_cons, ih, show i + 1 + l.length = i + (l.length + 1) from by omega]
  split <;> simp
theorem Zep (q : List Int) (hq : q.length ≤ 1048576) : Pure Tryz.prog 195 [L q] (L (yn 0 q)) := by
 refine zx Tryz.func195 Tryz.ntmps195 Tryz.results195 fun S nx hd => ?_
 refine za (zb ?_)
 refine za (zb ?_)
 refine za (qZ 3 85 2 rfl fun v1 => ?_)
 refine za (zb ?_)
 refine zj (zG (fun s : Nat × List Visit × Nat => s.1 ≤ q.length ∧ s.2.1 = yn 0 (q.take s.1)) (fun (k, out, w) => [(3, .sl nx w 2 0 out.length), (6, L q), (7, I q.length), (8, I k)]) (fun (k, out, w) => [.cells w 85 (out.flatMap Enc.enc)]) (fun s => q.length - s.1) (0, [], v1) [] (by simp [yn]) (by simp) (by simp) ?_)
 rintro ⟨k, out, w⟩ ⟨hk, ho⟩
 simp only at hk ho ⊢
 have hol : out.length ≤ k := by rw [ho]; exact Nat.le_trans (XG _ _) (by simp; omega)
 refine za (zb ?_)
 refine za (zr rfl (fun hc => ?_) (fun hc => ?_))
 ·simp at hc
  obtain ⟨z, tl, a1, a2, a3, e0⟩ := zE rfl q k hc
  have hst : yn 0 (q.take (k + 1)) = out ++ (if 0 < z then [⟨k, z⟩] else []) := by
   rw [a3, Zeo, ← ho, List.length_take, Nat.min_eq_left hk]
   simp only [yn, Nat.zero_add]
  refine zh (za (zj (za (ze [] (zm e0 hc) ?_))))
  refine za (zb ?_)
  by_cases h : 0 < z
  ·rw [if_pos h] at hst
   refine zo (by simp [h]) ?_
   refine zb ?_
   refine ⟨by omega, ?_⟩
   refine zb ?_
   exact zp (k + 1, out ++ [⟨k, z⟩], w + 1) [] ⟨hc, hst.symm⟩ (by simp; omega) (by simp [zt k (by omega)]) rfl (by simp)
  ·rw [if_neg h, List.append_nil] at hst
   refine zn (by simp; omega) ?_
   refine zh (zb ?_)
   exact zp (k + 1, out, w) [] ⟨hc, hst.symm⟩ (by simp; omega) (by simp [zt k (by omega)]) rfl (by simp)
 ·simp at hc
  obtain rfl : k = q.length := by omega
  rw [List.take_length] at ho
  refine zy (yc 0 rfl ?_)
  refine za (zb ?_)
  exact zg (zk hd (by simp; rfl) (by simp [zq, ho]))
def yT (c : Cust) (f : Int → Int) : Nat → List Int × Int
 | 0 => ([], c.start)
 | k + 1 => ((yT c f k).1 ++ [f (yT c f k).2], (yT c f k).2 + (f (yT c f k).2 - c.rate))
def Zy (c : Cust) (cap : Int) (t : Int) : Int := jV c (max t 0) cap
def uC (c : Cust) (cap : Int) (t : Int) : Int := if c.rate ≤ t then 0 else jV c (max t 0) cap
theorem Z9 (c : Cust) (f : Int → Int) : ∀ k, (yT c f k).1.length = k
 | 0 => rfl
 | k + 1 => by simp [yT, Z9 c f k]
theorem XK {c : Cust} (hc : CustFits c) (cap t : Int) : 0 ≤ Zy c cap t ∧ Zy c cap t ≤ 2147483648 := Zem hc.size (by omega)
theorem XL {c : Cust} (hc : CustFits c) (cap t : Int) : 0 ≤ uC c cap t ∧ uC c cap t ≤ 2147483648 := by
 unfold uC
 split
 ·omega
 ·exact Zem hc.size (by omega)
theorem Ya {c : Cust} (hc : CustFits c) {f : Int → Int} (hf : ∀ t, 0 ≤ f t ∧ f t ≤ 2147483648) : ∀ k : Nat, (-4294967296 * ((k : Int) + 1) ≤ (yT c f k).2 ∧ (yT c f k).2 ≤ 4294967296 * ((k : Int) + 1)) ∧ Qs (yT c f k).1
 | 0 => by
  have := hc.start
  refine ⟨by simp only [yT]; omega, by intro z hz; cases hz⟩
 | k + 1 => by
  obtain ⟨h1, h2⟩ := Ya hc hf k
  have h3 := hf (yT c f k).2
  have h4 := hc.rate
  refine ⟨by simp only [yT]; push_cast; omega, fun z hz => ?_⟩
  simp only [yT] at hz
  rcases List.mem_append.1 hz with hz | hz
  ·exact h2 z hz
  ·rw [List.mem_singleton.1 hz]; exact h3
theorem ZmK (c : Cust) (cap t : Int) (hc : CustFits c) (ht : -4611686018427387904 ≤ t ∧ t ≤ 4611686018427387904) : Pure Tryz.prog 237 [I t, .ip (zZ c), .ip [I cap]] (I (Zy c cap t)) := by
 have hm : xA t 0 = max t 0 := by unfold xA; split <;> omega
 have hmo := V6 c (max t 0) cap hc.size (by omega)
 unfold Zy
 generalize max t 0 = m at hm hmo ⊢
 generalize jV c m cap = z at hmo ⊢
 refine zx Tryz.func237 Tryz.ntmps237 Tryz.results237 fun S nx hd => ?_
 refine za (zb ?_)
 refine za (ze [] hm ?_)
 refine jB [] hmo hm ?_
 exact zg (zk hd rfl rfl)
theorem ZmL (c : Cust) (cap t : Int) (hc : CustFits c) (ht : -4611686018427387904 ≤ t ∧ t ≤ 4611686018427387904) : Pure Tryz.prog 238 [I t, .ip (zZ c), .ip [I cap]] (I (uC c cap t)) := by
 have hm : xA t 0 = max t 0 := by unfold xA; split <;> omega
 have hmo := V6 c (max t 0) cap hc.size (by omega)
 unfold uC
 generalize max t 0 = m at hm hmo ⊢
 generalize jV c m cap = z at hmo ⊢
 refine zx Tryz.func238 Tryz.ntmps238 Tryz.results238 fun S nx hd => ?_
 refine za (zb ?_)
 repeat apply za
 refine zb ?_
 by_cases h : c.rate ≤ t
 ·rw [if_pos h]
  refine zo (by simp [h]) ?_
  refine za (zb ?_)
  exact zg (zk hd rfl rfl)
 ·rw [if_neg h]
  refine zn (by simp; omega) ?_
  refine zh (za (ze [] hm ?_))
  refine jB [] hmo hm ?_
  exact zg (zk hd rfl rfl)
theorem Zeq (c : Cust) (n : Nat) (fn : FuncId) (caps : List PV) (f : Int → Int) (hc : CustFits c) (hn : n ≤ 1000) (hf : ∀ t, 0 ≤ f t ∧ f t ≤ 2147483648) (hfn : ∀ t, (-4611686018427387904 ≤ t ∧ t ≤ 4611686018427387904) → Pure Tryz.prog fn ([I t] ++ caps) (I (f t))) :
  Pure Tryz.prog 236 [.agg (zZ c), I n, .fn (.func fn) [] caps] (.tup [L (yT c f n).1, B (decide (x5 c (yT c f n).1 = 0))]) := by
 have hr := hc.rate
 refine zx Tryz.func236 Tryz.ntmps236 Tryz.results236 fun S nx hd => ?_
 refine za (zb ?_)
 intro v0
 refine za (zb ?_)
 refine za (qZ 8 3 1 rfl fun v1 => ?_)
 refine zb ?_
 repeat apply za
 refine zb ?_
 refine zj (zG (fun s : Nat × Nat => s.1 ≤ n) (fun (k, w) => [(2, .fn (.func fn) [] caps), (3, .ptr nx v0 0), (8, .sl (nx + 1) w 1 0 (yT c f k).1.length), (9, I (yT c f k).2), (13, I n), (14, I k)]) (fun (k, w) => [.cells v0 65 (zZ c), .cells w 3 ((yT c f k).1.flatMap Enc.enc)]) (fun s => n - s.1) (0, v1) [] (by simp) (by simp [yT]) (by simp [yT]) ?_)
 rintro ⟨k, w⟩ hk
 simp only at hk ⊢
 obtain ⟨hbd, -⟩ := Ya hc hf k
 have hl := Z9 c f k
 have hsucc : yT c f (k + 1) = ((yT c f k).1 ++ [f (yT c f k).2], (yT c f k).2 + (f (yT c f k).2 - c.rate)) := rfl
 generalize hst : yT c f k = st at hbd hl hsucc ⊢
 obtain ⟨q, t⟩ := st
 simp only at hbd hl hsucc ⊢
 refine za (zb ?_)
 refine za (zr rfl (fun hc1 => ?_) (fun hc1 => ?_))
 ·simp at hc1
  have hft := hf t
  have hcall := hfn t (by omega)
  have w1 : IntKind.i64.wrap (f t - c.rate) = f t - c.rate := wr _ (by omega) (by omega)
  have w2 : IntKind.i64.wrap (t + (f t - c.rate)) = t + (f t - c.rate) := wr _ (by omega) (by omega)
  generalize f t = z at *
  refine zh (za (zj (za (zb ?_))))
  refine zz hcall ?_
  refine za (zb ?_)
  refine ⟨by omega, ?_⟩
  refine ze [] (zm w1 w2) ?_
  refine zb ?_
  exact zp (k + 1, w + 1) [] (by omega) (by simp; omega) (by simp [zt k (by omega), hsucc]) rfl (by simp [hsucc])
 ·simp at hc1
  obtain rfl : k = n := by omega
  refine zy (yc 1 rfl ?_)
  have hh := Zlo c q hc (by omega)
  refine za (zb ?_)
  refine zz hh ?_
  exact zg (zk hd (by simp; rfl) (by simp [zq, hst]))
def vq (c : Cust) (n : Nat) (cap : Int) : List Int × Bool := ((yT c (Zy c cap) n).1, decide (x5 c (yT c (Zy c cap) n).1 = 0))
def vW (c : Cust) (n : Nat) (cap : Int) : List Int × Bool := ((yT c (uC c cap) n).1, decide (x5 c (yT c (uC c cap) n).1 = 0))
theorem ZmM (c : Cust) (n : Nat) (cap : Int) (hc : CustFits c) (hn : n ≤ 1000) : Pure Tryz.prog 194 [.agg (zZ c), I n, I cap] (.tup [L (vq c n cap).1, B (vq c n cap).2]) := by
 have h := Zeq c n 237 [.ip (zZ c), .ip [I cap]] (Zy c cap) hc hn (XK hc cap) (fun t ht => ZmK c cap t hc ht)
 unfold vq
 generalize yT c (Zy c cap) n = r at h ⊢
 refine zx Tryz.func194 Tryz.ntmps194 Tryz.results194 fun S nx hd => ?_
 refine za (zb ?_)
 intro v0 v1
 refine j4 0 rfl ?_
 refine j4 1 rfl ?_
 refine za (zb ?_)
 refine zz h ?_
 exact zg (zk hd (by simp; rfl) rfl)
theorem ZmN (c : Cust) (n : Nat) (cap : Int) (hc : CustFits c) (hn : n ≤ 1000) : Pure Tryz.prog 196 [.agg (zZ c), I n, I cap] (.tup [L (vW c n cap).1, B (vW c n cap).2]) := by
 have h := Zeq c n 238 [.ip (zZ c), .ip [I cap]] (uC c cap) hc hn (XL hc cap) (fun t ht => ZmL c cap t hc ht)
 unfold vW
 generalize yT c (uC c cap) n = r at h ⊢
 refine zx Tryz.func196 Tryz.ntmps196 Tryz.results196 fun S nx hd => ?_
 refine za (zb ?_)
 intro v0 v1
 refine j4 0 rfl ?_
 refine j4 1 rfl ?_
 refine za (zb ?_)
 refine zz h ?_
 exact zg (zk hd (by simp; rfl) rfl)
def Yb (price : List Int) (v : List Visit) : Int := v.foldl (fun s w => W (s + Qe price w.d)) 0
theorem ZmO (price : List Int) (v : List Visit) (w : Visit) : Yb price (v ++ [w]) = W (Yb price v + Qe price w.d) := by simp [Yb]
def Qf (c : Cust) (n : Int) (price : List Int) (v : List Visit) : Int := if c.kind = 1 then Yb price v else W (Yb price v + x6 c (yD c (zT v n)).1)
theorem Zer {S : Store} {pl : PV} {price : List Int} (c : Cust) (n : Int) (v : List Visit) (hR : RowOf S pl price) (hc : CustFits c) (hv : VisOk v) :
  Spec Tryz.prog 197 [.agg (zZ c), I n, pl, L v] S (fun q S' => q = I (Qf c n price v) ∧ S' = S) := by
 have hvn := hv.n
 have hp := fun S (h : RowOf S pl price) d => Zen d h
 unfold Qf
 refine yU Tryz.func197 Tryz.ntmps197 Tryz.results197 fun nx hd => ?_
 refine za (zb ?_)
 intro v0
 refine za (zb ?_)
 repeat apply za
 refine zb ?_
 refine zj (zG (fun k : Nat => k ≤ v.length) (fun k => [(1, I n), (3, L v), (4, .ptr nx v0 0), (9, I (Yb price (v.take k))), (2, pl), (14, L v), (15, I v.length), (16, I k)]) (fun _ => [.cells v0 65 (zZ c)]) (fun k => v.length - k) 0 [] (by simp) (by simp [Yb]) (by simp) ?_)
 rintro k hk
 refine za (zb ?_)
 refine za (zr rfl (fun hc1 => ?_) (fun hc1 => ?_))
 ·simp at hc1
  obtain ⟨w, tl, a1, a2, a3, e1, e0⟩ := el 2 rfl v k hc1
  have hsn := ZmO price (v.take k) w
  rw [← a3] at hsn
  refine zh (za (zj (za (ze [] (zm e0 hc1) ?_))))
  intro v2
  refine zV [] (by rfl) (by rfl) fun K Gc Gh hK hGc hGh X hX0 hX => ?_
  simp -implicitDefEqProofs [hX0, hX]
  try clear hX0 hX X
  refine hGc _ _ _ _ _ _ _ fun hsuf => ((hp _ (hR.ext hd _) _).mono ?_).v
  rintro _ _ ⟨rfl, rfl⟩
  refine ⟨_, _, rfl, ?_⟩
  clear hGc hGh
  clear Gc Gh
  refine zR hsuf (D := []) (by rfl) fun Gc Gh hGc hGh X hX0 hX => ?_
  simp -implicitDefEqProofs [hX0, hX]
  clear hX0 hX X
  refine hK _ _ _ ?_
  clear hK hGc hGh
  clear K Gc Gh
  refine zb ?_
  exact zp (k + 1) [_] hc1 (by omega) (by simp [zt k (by omega), hsn]) rfl (by simp; rfl)
 ·simp at hc1
  obtain rfl : k = v.length := by omega
  rw [List.take_length]
  refine zy ?_
  repeat apply za
  refine zb ?_
  by_cases hk1 : c.kind = 1
  ·rw [if_pos hk1]
   refine zo (by simp [hk1]) ?_
   refine za (zb ?_)
   exact zg ⟨_, S, rfl, ⟨by simp [zq], rfl⟩, yb hd⟩
  ·rw [if_neg hk1]
   have hb := ZdN v n hv
   have hn := VL c (zT v n) hc (Qc _ _)
   have hh := VM c _ (V2 c (zT v n) (Qc _ _))
   generalize yD c (zT v n) = ns at hn hh ⊢
   obtain ⟨nl, ne⟩ := ns
   simp only at hn hh ⊢
   refine zn (by simp [hk1]) ?_
   refine zh (za (zC (some [nx]) (Row.pures [0, 1, 2, 3, 4, 5, 6, 7, 8, 9] .done) mixed trivial ?_))
   refine zI (hb) trivial ?_
   refine zI (hn) trivial ?_
   refine za (zb ?_)
   refine zz hh ?_
   exact zg ⟨_, S, rfl, ⟨by simp [zq], rfl⟩, yb hd⟩
def Yc (c : Cust) (n : Nat) (cap : Int) (price : List Int) : List Visit × Bool :=
 if (vW c n cap).2 = true ∧ ((vq c n cap).2 = false ∨ Qf c n price (yn 0 (vW c n cap).1) ≤ Qf c n price (yn 0 (vq c n cap).1)) then (yn 0 (vW c n cap).1, true)
 else if (vq c n cap).2 = true then (yn 0 (vq c n cap).1, true) else ([], false)
theorem Zes {q : List Int} {n : Nat} (hq : Qs q) (hl : q.length = n) (hn : n ≤ 1000) : VisOk (yn 0 q) := by
 refine ⟨Nat.le_trans (XG _ _) (by omega), fun s hs => ?_, fun s hs => ?_⟩
 ·have := XH q 0 hq s hs; omega
 ·have := XH q 0 hq s hs; unfold zU; omega
theorem ZmP {S : Store} {pl : PV} {price : List Int} (c : Cust) (n : Nat) (cap : Int) (hR : RowOf S pl price) (hc : CustFits c) (hn : n ≤ 1000) :
  Spec Tryz.prog 153 [.agg (zZ c), I n, I cap, pl] S (fun q S' => q = .tup [L (Yc c n cap price).1, B (Yc c n cap price).2] ∧ S' = S) := by
 have hD := ZmM c n cap hc hn
 have hL := ZmN c n cap hc hn
 have lD : (vq c n cap).1.length = n := Z9 _ _ _
 have lL : (vW c n cap).1.length = n := Z9 _ _ _
 have vD : VisOk (yn 0 (vq c n cap).1) := Zes (Ya hc (XK hc cap) n).2 lD hn
 have vL : VisOk (yn 0 (vW c n cap).1) := Zes (Ya hc (XL hc cap) n).2 lL hn
 unfold Yc
 generalize vq c n cap = rd at *
 generalize vW c n cap = rl at *
 obtain ⟨qd, od⟩ := rd
 obtain ⟨ql, ol⟩ := rl
 simp only at hD hL lD lL vD vL ⊢
 have hVd := Zep qd (by omega)
 have hVl := Zep ql (by omega)
 have hcd := fun S (h : RowOf S pl price) => Zer (S := S) c n (yn 0 qd) h hc vD
 have hcl := fun S (h : RowOf S pl price) => Zer (S := S) c n (yn 0 ql) h hc vL
 generalize yn 0 qd = vd at *
 generalize yn 0 ql = vl at *
 generalize Qf c n price vd = zd at *
 generalize Qf c n price vl = zl at *
 refine yU Tryz.func153 Tryz.ntmps153 Tryz.results153 fun nx hd => ?_
 refine za (zb ?_)
 intro v0
 refine za (zb ?_)
 refine zz hD ?_
 refine za (zb ?_)
 refine zz hVd ?_
 repeat apply za
 refine zb ?_
 refine zz hL ?_
 refine za (zb ?_)
 cases ol with
 | true =>
  refine zo rfl (za (zb ?_))
  refine zz hVl ?_
  cases od with
  | false =>
   rw [if_pos ⟨rfl, .inl rfl⟩]
   refine za (zC (some [nx]) (Row.pures [0, 1, 2, 3, 4, 5, 6, 7, 8, 9, 10, 11, 12, 13, 14] .done) mixed zL ?_)
   refine zo rfl (za (zb ?_))
   exact zg ⟨_, S, (by simp; rfl), ⟨by simp [zq], rfl⟩, yb hd⟩
  | true =>
   by_cases hle : zl ≤ zd
   ·rw [if_pos ⟨rfl, .inr hle⟩]
    refine za (vE (some [nx]) (Row.pures [0, 1, 2, 3, 4, 5, 6, 8, 9, 10, 11] (.alt 7 (.alt 12 (Row.pures [13, 14] .done) .stop) .stop)) mixed (by rfl) (by rfl) (by rfl) fun K Gp Gc Gh hK hGp hGc hGh X hX0 hX1 hX2 hX => ?_)
    simp -implicitDefEqProofs [hX0, hX1, hX2, hX, undef]
    try clear hX0 hX1 hX2 hX X
    refine hGc _ _ _ _ _ _ _ (((hcl _ (hR.ext hd _)).mono ?_).v)
    rintro _ _ ⟨rfl, rfl⟩
    refine ⟨by simp [yF], ?_⟩
    clear hGp hGc hGh
    clear Gp Gc Gh
    refine j3 fun Gp Gc Gh hGp hGc hGh X hX0 hX1 hX2 hX => ?_
    simp -implicitDefEqProofs [hX0, hX1, hX2, hX, undef]
    try clear hX0 hX1 hX2 hX X
    refine hGc _ _ _ _ _ _ _ (((hcd _ (hR.ext hd _)).mono ?_).v)
    rintro _ _ ⟨rfl, rfl⟩
    refine ⟨by simp [yF], ?_⟩
    clear hGp hGc hGh
    clear Gp Gc Gh
    refine j3 fun Gp Gc Gh hGp hGc hGh X hX0 hX1 hX2 hX => ?_
    simp -implicitDefEqProofs [hX0, hX1, hX2, hX, undef]
    try clear hX0 hX1 hX2 hX X
    refine hK _ _ _ ?_
    clear hK hGp hGc hGh
    clear K Gp Gc Gh
    refine zo (by simp [hle]) ?_
    refine za (zb ?_)
    exact zg ⟨_, S, (by simp; rfl), ⟨by simp [zq], rfl⟩, yb hd⟩
   ·rw [if_neg (by rintro ⟨-, q | q⟩; cases q; exact hle q), if_pos rfl]
    refine za (vE (some [nx]) (Row.pures [0, 1, 2, 3, 4, 5, 6, 8, 9, 10, 11] (.alt 7 (.alt 12 (Row.pures [13, 14] .done) .stop) .stop)) mixed (by rfl) (by rfl) (by rfl) fun K Gp Gc Gh hK hGp hGc hGh X hX0 hX1 hX2 hX => ?_)
    simp -implicitDefEqProofs [hX0, hX1, hX2, hX, undef]
    try clear hX0 hX1 hX2 hX X
    refine hGc _ _ _ _ _ _ _ (((hcl _ (hR.ext hd _)).mono ?_).v)
    rintro _ _ ⟨rfl, rfl⟩
    refine ⟨by simp [yF], ?_⟩
    clear hGp hGc hGh
    clear Gp Gc Gh
    refine j3 fun Gp Gc Gh hGp hGc hGh X hX0 hX1 hX2 hX => ?_
    simp -implicitDefEqProofs [hX0, hX1, hX2, hX, undef]
    try clear hX0 hX1 hX2 hX X
    refine hGc _ _ _ _ _ _ _ (((hcd _ (hR.ext hd _)).mono ?_).v)
    rintro _ _ ⟨rfl, rfl⟩
    refine ⟨by simp [yF], ?_⟩
    clear hGp hGc hGh
    clear Gp Gc Gh
    refine j3 fun Gp Gc Gh hGp hGc hGh X hX0 hX1 hX2 hX => ?_
    simp -implicitDefEqProofs [hX0, hX1, hX2, hX, undef]
    try clear hX0 hX1 hX2 hX X
    refine hK _ _ _ ?_
    clear hK hGp hGc hGh
    clear K Gp Gc Gh
    refine zn (by simp; omega) ?_
    refine zh ?_
    repeat apply za
    refine zb ?_
    refine zn rfl (zh (za (zb ?_)))
    exact zg ⟨_, S, (by simp; rfl), ⟨by simp [zq], rfl⟩, yb hd⟩
 | false =>
  rw [if_neg (by rintro ⟨q, -⟩; cases q)]
  refine zn rfl (zh ?_)
  repeat apply za
  refine zb ?_
  cases od with
  | false =>
   rw [if_neg (by decide)]
   refine zo rfl (za (zb ?_))
   refine ve 8 rfl ?_
   exact zg ⟨_, S, rfl, ⟨by simp [zq], rfl⟩, yb hd⟩
  | true =>
   rw [if_pos rfl]
   refine zn rfl (zh (za (zb ?_)))
   exact zg ⟨_, S, (by simp; rfl), ⟨by simp [zq], rfl⟩, yb hd⟩
open Go Go.Proofs Hp
def yE (c : Cust) (last d : Int) : Int × Int :=
 ((if last < 0 then c.start else c.size) - c.rate * ((if last < 0 then d else d - last).toNat : Int),
  x6 c ((List.range (if last < 0 then d else d - last).toNat).map fun (i : Nat) => (if last < 0 then c.start else c.size) - c.rate * ((i : Int) + 1)))
theorem Zet (c : Cust) (last d : Int) (hc : CustFits c) (hl : -1 ≤ last ∧ last ≤ 64) (hd0 : 0 ≤ d ∧ d ≤ 64) : Pure Tryz.prog 189 [.agg (zZ c), I last, I d] (.tup [I (yE c last d).1, I (yE c last d).2]) := by
 have h1 := hc.rate
 have h2 := hc.size
 have h3 := hc.start
 have w0 : IntKind.i64.wrap (d - last) = d - last := wr _ (by omega) (by omega)
 have key : yE c last d = (let t0 := if last < 0 then c.start else c.size; let m := if last < 0 then d else d - last; (t0 - c.rate * (m.toNat : Int), x6 c ((List.range m.toNat).map fun (i : Nat) => t0 - c.rate * ((i : Int) + 1)))) := rfl
 rw [key]
 obtain ⟨t0, ht0⟩ : ∃ t0, t0 = if last < 0 then c.start else c.size := ⟨_, rfl⟩
 obtain ⟨m, hm⟩ : ∃ m, m = if last < 0 then d else d - last := ⟨_, rfl⟩
 have hb0 : 0 ≤ t0 ∧ t0 ≤ 2147483648 := by rw [ht0]; split <;> omega
 have hmb : -64 ≤ m ∧ m ≤ 65 := by rw [hm]; split <;> omega
 rw [← ht0, ← hm]
 clear key
 simp only
 refine zx Tryz.func189 Tryz.ntmps189 Tryz.results189 fun S nx hd => ?_
 refine za (zb ?_)
 intro v0
 refine za (ze [] w0 ?_)
 refine za (qh (nx := nx) (σ := Unit) (fun _ => True) (fun _ => [(3, .ptr nx v0 0), (8, I t0), (9, I m)]) (fun _ => S) (fun _ => [.cells v0 65 (zZ c)]) ?_ ?_)
 ·refine za (zb ?_)
  by_cases h : last < 0
  ·rw [if_pos h] at ht0 hm
   refine zo (by simp [h]) ?_
   refine zb ?_
   exact zP () [] trivial (by simp [ht0, hm]) rfl (by simp)
  ·rw [if_neg h] at ht0 hm
   refine zn (by simp; omega) ?_
   exact zh (zP () [] trivial (by simp [ht0, hm]) rfl (by simp))
 intro _ _
 refine za (zb ?_)
 refine za (qZ 10 3 1 rfl fun v1 => ?_)
 refine za (zb ?_)
 have hprod : ∀ k : Nat, k ≤ 65 → 0 ≤ c.rate * (k : Int) ∧ c.rate * (k : Int) ≤ 2147483648 * 65 := fun k hk => ⟨Int.mul_nonneg h1.1 (by omega), Int.mul_le_mul h1.2 (by omega) (by omega) (by omega)⟩
 refine zj (zG (fun s : Nat × Nat => s.1 ≤ m.toNat) (fun (k, w) => [(3, .ptr nx v0 0), (8, I (t0 - c.rate * (k : Int))), (10, .sl (nx + 1) w 1 0 ((List.range k).map fun (i : Nat) => t0 - c.rate * ((i : Int) + 1)).length), (21, I m), (22, I k)]) (fun (k, w) => [.cells v0 65 (zZ c), .cells w 3 (((List.range k).map fun (i : Nat) => t0 - c.rate * ((i : Int) + 1)).flatMap Enc.enc)]) (fun s => m.toNat - s.1) (0, v1) [] (by simp) (by simp) (by simp) ?_)
 rintro ⟨k, w⟩ hk
 simp only at hk ⊢
 have hp := hprod k (by omega)
 have hp1 := hprod (k + 1)
 have hmul : c.rate * ((k : Int) + 1) = c.rate * (k : Int) + c.rate := by rw [Int.mul_add, Int.mul_one]
 have hrs : ((List.range (k + 1)).map fun (i : Nat) => t0 - c.rate * ((i : Int) + 1)) = ((List.range k).map fun (i : Nat) => t0 - c.rate * ((i : Int) + 1)) ++ [t0 - c.rate * ((k : Int) + 1)] := by simp [List.range_succ]
 have hl0 : ((List.range k).map fun (i : Nat) => t0 - c.rate * ((i : Int) + 1)).length = k := by simp
 generalize hls : ((List.range k).map fun (i : Nat) => t0 - c.rate * ((i : Int) + 1)) = ls at *
 by_cases hc1 : (k : Int) < m
 ·have w1 : IntKind.i64.wrap (t0 - c.rate * (k : Int) - c.rate) = t0 - c.rate * ((k : Int) + 1) := by rw [wr _ (by omega) (by omega)]; omega
  refine za (zb ?_)
  refine za (zo (by simp [hc1]) ?_)
  refine zh (za (zj (za (ze [] w1 ?_))))
  refine zb ?_
  refine ⟨by omega, ?_⟩
  refine zb ?_
  exact zp (k + 1, w + 1) [] (by simp; omega) (by simp; omega) (by simp [zt k (by omega), hrs];) rfl (by simp [hrs])
 ·refine za (zb ?_)
  refine za (zn (by simp; omega) ?_)
  obtain rfl : k = m.toNat := by omega
  refine zy (yc 1 rfl ?_)
  refine za (zb ?_)
  refine zz (VM c ls (by omega)) ?_
  exact zg (zk hd (by simp; rfl) (by simp [zq, hls]))
def vX (c : Cust) (st : List Visit × Int) (d : Int) : List Visit × Int := (st.1 ++ [⟨d, W (c.size - (yE c st.2 d).1)⟩], d)
def yJ (c : Cust) (ds : List Int) : List Visit × Int := ds.foldl (vX c) ([], -1)
theorem Qg (c : Cust) (ds : List Int) (d : Int) : yJ c (ds ++ [d]) = vX c (yJ c ds) d := by simp [yJ]
theorem Zeu (c : Cust) : ∀ ds : List Int, (yJ c ds).1.length = ds.length := by
 have : ∀ (ds : List Int) (st : List Visit × Int), (ds.foldl (vX c) st).1.length = st.1.length + ds.length := by
  intro ds
  induction ds with
  | nil => intro st; simp
  | cons d ds ih => intro st; rw [List.foldl_cons, ih]; simp [vX]; omega
 intro ds
 unfold yJ; rw [this]; simp
theorem ZmQ (c : Cust) (p : Nat) (hp : p < 2 ^ 64) (hc : CustFits c) : Pure Tryz.prog 193 [.agg (zZ c), U p] (L (yJ c (yy p 0 64)).1) := by
 have hall := V4 p hp
 have hln := Q5 p 0 64
 have hds : ∀ d ∈ yy p 0 64, 0 ≤ d ∧ d < 64 := fun d hd => by obtain ⟨i, h, h2, _⟩ := Z7 hd; omega
 generalize yy p 0 64 = ds at hall hln hds ⊢
 refine zx Tryz.func193 Tryz.ntmps193 Tryz.results193 fun S nx hd => ?_
 refine za (zb ?_)
 intro v0
 refine za (zb ?_)
 refine za (qZ 5 85 2 rfl fun v1 => ?_)
 refine zb ?_
 repeat apply za
 refine zb ?_
 refine zz hall ?_
 have hlast : ∀ k, -1 ≤ (yJ c (ds.take k)).2 ∧ (yJ c (ds.take k)).2 ≤ 64 := by
  intro k
  induction k with
  | zero => simp [yJ]
  | succ k ih =>
   by_cases h : k < ds.length
   ·rw [List.take_succ_eq_append_getElem h, Qg]
    have := hds ds[k] (List.getElem_mem h)
    simp only [vX]; omega
   ·rw [List.take_of_length_le (by omega)] at ih ⊢
    exact ih
 refine zj (zG (fun s : Nat × Nat => s.1 ≤ ds.length) (fun (k, w) => [(2, .ptr nx v0 0), (5, .sl (nx + 1) w 2 0 (yJ c (ds.take k)).1.length), (6, I (yJ c (ds.take k)).2), (12, L ds), (13, I ds.length), (14, I k)]) (fun (k, w) => [.cells v0 65 (zZ c), .cells w 85 ((yJ c (ds.take k)).1.flatMap Enc.enc)]) (fun s => ds.length - s.1) (0, v1) [] (by simp) (by simp [yJ]) (by simp [yJ]) ?_)
 rintro ⟨k, w⟩ hk
 simp only at hk ⊢
 have hl1 := hlast k
 have hfl : (yJ c (ds.take k)).1.length = k := by rw [Zeu]; simp; omega
 refine za (zb ?_)
 refine za (zr rfl (fun hc1 => ?_) (fun hc1 => ?_))
 ·simp at hc1
  obtain ⟨d, tl, a1, a2, a3, e0⟩ := zE rfl ds k hc1
  have hd1 := hds d (List.mem_of_getElem? a1)
  have hsn := Qg c (ds.take k) d
  rw [← a3] at hsn
  generalize yJ c (ds.take k) = st at *
  obtain ⟨out, last⟩ := st
  simp only [vX] at hl1 hfl hsn ⊢
  have hr := Zet c last d hc hl1 (by omega)
  generalize yE c last d = r at hr hsn
  obtain ⟨th, he⟩ := r
  simp only at hr hsn
  refine zh (za (zj (za (ze [] (zm e0 hc1) ?_))))
  refine za (zb ?_)
  refine zz hr ?_
  refine za (zb ?_)
  refine ⟨by omega, ?_⟩
  refine zb ?_
  refine zb ?_
  exact zp (k + 1, w + 1) [] hc1 (by simp; omega) (by simp [zt k (by omega), hsn]) rfl (by simp [hsn])
 ·simp at hc1
  obtain rfl : k = ds.length := by omega
  rw [List.take_length]
  refine zy (yc 1 rfl ?_)
  refine za (zb ?_)
  exact zg (zk hd (by simp; rfl) rfl)
structure Stp where
 r : Bool
 k : Int
 l : Int
 deriving DecidableEq
instance : Inhabited Stp := ⟨⟨false, 0, 0⟩⟩
instance : Enc Stp := ⟨fun s => [B s.r, I s.k, I s.l], 3, fun _ => rfl, fun _ => rfl⟩
@[simp] theorem ZrO (s : Stp) : Enc.enc s = [B s.r, I s.k, I s.l] := rfl
@[simp high] theorem ZmR (l : List Stp) : (l.flatMap Enc.enc).length = l.length * 3 := jQ l
@[simp high] theorem ZrP (l : List Stp) : (l.flatMap Enc.enc).take (l.length * 3) = l.flatMap Enc.enc := uO l
def zs : Stp := ⟨false, 0, 0⟩
def Yd (c : Cust) (n : Nat) (cap : Int) (price : List Int) (tab : List Stp) (d : Nat) (last : Int) : Int :=
 let k1 := if 0 ≤ last then W ((yE c last d).2 + (tab.getD last.toNat zs).k) else (yE c last d).2
 if d < n then W (k1 + Qe price d) else k1
def Zz (c : Cust) (n : Nat) (cap : Int) (tab : List Stp) (d : Nat) (last : Int) : Prop :=
 ¬ (0 ≤ last ∧ tab.getD last.toNat zs = zs) ∧ ¬ ((yE c last d).1 < 0 ∨ (d < n ∧ jV c (yE c last d).1 cap = 0))
instance (c : Cust) (n : Nat) (cap : Int) (tab : List Stp) (d : Nat) (last : Int) : Decidable (Zz c n cap tab d last) := by unfold Zz; exact inferInstance
def Jc (c : Cust) (n : Nat) (cap : Int) (price : List Int) (tab : List Stp) (d : Nat) (best : Stp) (last : Int) : Stp :=
 if Zz c n cap tab d last then (if best = zs ∨ Yd c n cap price tab d last < best.k then ⟨true, Yd c n cap price tab d last, last⟩ else best) else best
def jW (c : Cust) (n : Nat) (cap : Int) (price : List Int) (tab : List Stp) (d : Nat) (j : Nat) : Stp := (List.range j).foldl (fun b (i : Nat) => Jc c n cap price tab d b ((i : Int) - 1)) zs
theorem Zev (c : Cust) (n : Nat) (cap : Int) (price : List Int) (tab : List Stp) (d : Nat) (j : Nat) : jW c n cap price tab d (j + 1) = Jc c n cap price tab d (jW c n cap price tab d j) ((j : Int) - 1) := by simp [jW, List.range_succ]
def qU (c : Cust) (n : Nat) (cap : Int) (price : List Int) : Nat → List Stp
 | 0 => []
 | k + 1 => qU c n cap price k ++ [jW c n cap price (qU c n cap price k) k (k + 1)]
theorem Jd (c : Cust) (n : Nat) (cap : Int) (price : List Int) : ∀ k, (qU c n cap price k).length = k
 | 0 => rfl
 | k + 1 => by simp [qU, Jd c n cap price k]
def wH (tab : List Stp) : Nat → Nat → Int → Nat
 | 0, s, _ => s
 | f + 1, s, d => if d < 0 then s else wH tab f (jT s d) (tab.getD d.toNat zs).l
def ZA (c : Cust) (n : Nat) (cap : Int) (price : List Int) : List Visit × Bool :=
 if (qU c n cap price (n + 1)).getD n zs = zs then ([], false)
 else ((yJ c (yy (wH (qU c n cap price (n + 1)) 65 0 ((qU c n cap price (n + 1)).getD n zs).l) 0 64)).1, true)
def ZmS (tab : List Stp) : Prop := ∀ (d : Nat) (e : Stp), tab[d]? = some e → e = zs ∨ (e.r = true ∧ -1 ≤ e.l ∧ e.l < d ∧ (0 ≤ e.l → tab.getD e.l.toNat zs ≠ zs))
theorem XM (c : Cust) (n : Nat) (cap : Int) (price : List Int) (tab : List Stp) (d : Nat) : ∀ j : Nat, jW c n cap price tab d j = zs ∨ ((jW c n cap price tab d j).r = true ∧ -1 ≤ (jW c n cap price tab d j).l ∧ (jW c n cap price tab d j).l + 1 < j ∧ Zz c n cap tab d (jW c n cap price tab d j).l)
 | 0 => .inl rfl
 | j + 1 => by
  have ih := XM c n cap price tab d j
  rw [Zev]
  unfold Jc
  split
  ·rename_i hok
   split
   ·exact .inr ⟨rfl, by dsimp only; omega, by dsimp only; omega, hok⟩
   ·rcases ih with ih | ⟨h1, h2, h3, h4⟩
    ·exact .inl ih
    ·exact .inr ⟨h1, h2, by omega, h4⟩
  ·rcases ih with ih | ⟨h1, h2, h3, h4⟩
   ·exact .inl ih
   ·exact .inr ⟨h1, h2, by omega, h4⟩
theorem V7 (c : Cust) (n : Nat) (cap : Int) (price : List Int) : ∀ k, ZmS (qU c n cap price k)
 | 0 => by intro d e h; cases h
 | k + 1 => by
  have ih := V7 c n cap price k
  have hl := Jd c n cap price k
  have he := XM c n cap price (qU c n cap price k) k (k + 1)
  intro d e h
  simp only [qU] at h ⊢
  have hget : ∀ (i : Nat), i < k → (qU c n cap price k ++ [jW c n cap price (qU c n cap price k) k (k + 1)]).getD i zs = (qU c n cap price k).getD i zs := by
   intro i hi
   rw [List.getD_eq_getElem?_getD, List.getD_eq_getElem?_getD, List.getElem?_append_left (by omega)]
  by_cases hd : d < k
  ·rw [List.getElem?_append_left (by omega)] at h
   rcases ih d e h with q | ⟨q1, q2, q3, q4⟩
   ·exact .inl q
   ·refine .inr ⟨q1, q2, q3, fun q => ?_⟩
    rw [hget _ (by omega)]; exact q4 q
  ·rw [List.getElem?_append_right (by omega), hl] at h
   obtain rfl : d = k := by
    rcases Nat.lt_or_ge (d - k) 1 with q | q
    ·omega
    ·rw [List.getElem?_eq_none (by simpa using q)] at h; cases h
   rw [Nat.sub_self] at h
   simp only [List.getElem?_cons_zero, Option.some.injEq] at h
   subst h
   rcases he with q | ⟨q1, q2, q3, q4⟩
   ·exact .inl q
   ·refine .inr ⟨q1, q2, by omega, fun q => ?_⟩
    rw [hget _ (by omega)]
    exact fun hz => q4.1 ⟨q, hz⟩
open Go Go.Proofs Hp
def qf (tab : List Stp) (b : Stp) : List Stp := tab ++ b :: List.replicate (64 - tab.length) zs
theorem Zew (tab : List Stp) (b : Stp) (h : tab.length ≤ 64) : (qf tab b).length = 65 := by simp [qf]; omega
theorem XN (tab : List Stp) (b : Stp) (i : Nat) (h : i < tab.length) : (qf tab b)[i]? = some (tab.getD i zs) := by
 unfold qf
 rw [List.getElem?_append_left h, List.getD_eq_getElem?_getD, List.getElem?_eq_getElem h]; rfl
theorem ZmT (tab : List Stp) (b : Stp) : (qf tab b)[tab.length]? = some b := by
 unfold qf
 rw [List.getElem?_append_right (Nat.le_refl _)]; simp
theorem ZmU (tab : List Stp) (b e : Stp) : (qf tab b).set tab.length e = qf tab e := by
 unfold qf
 rw [List.set_append_right _ _ (Nat.le_refl _)]; simp
theorem ZmV (tab : List Stp) (b : Stp) (h : tab.length < 64) : qf tab b = qf (tab ++ [b]) zs := by
 unfold qf
 rw [List.append_assoc, List.length_append, List.length_singleton, show 64 - tab.length = (64 - (tab.length + 1)) + 1 from by omega, List.replicate_succ]
 rfl
@[simp] theorem ZrQ : Program.zeroOf Tryz.prog 260 = some (.agg #[.bool false, .int .i64 0, .int .i64 0, .bool false, .int .i64 0, .int .i64 0, .bool false, .int .i64 0, .int .i64 0, .bool false, .int .i64 0, .int .i64 0, .bool false, .int .i64 0, .int .i64 0, .bool false, .int .i64 0, .int .i64 0, .bool false, .int .i64 0, .int .i64 0, .bool false, .int .i64 0, .int .i64 0, .bool false, .int .i64 0, .int .i64 0, .bool false, .int .i64 0, .int .i64 0, .bool false, .int .i64 0, .int .i64 0, .bool false, .int .i64 0, .int .i64 0, .bool false, .int .i64 0, .int .i64 0, .bool false, .int .i64 0, .int .i64 0, .bool false, .int .i64 0, .int .i64 0, .bool false, .int .i64 0, .int .i64 0, .bool false, .int .i64 0, .int .i64 0, .bool false, .int .i64 0, .int .i64 0, .bool false, .int .i64 0, .int .i64 0, .bool false, .int .i64 0, .int .i64 0, .bool false, .int .i64 0, .int .i64 0, .bool false, .int .i64 0, .int .i64 0, .bool false, .int .i64 0, .int .i64 0, .bool false, .int .i64 0, .int .i64 0, .bool false, .int .i64 0, .int .i64 0, .bool false, .int .i64 0, .int .i64 0, .bool false, .int .i64 0, .int .i64 0, .bool false, .int .i64 0, .int .i64 0, .bool false, .int .i64 0, .int .i64 0, .bool false, .int .i64 0, .int .i64 0, .bool false, .int .i64 0, .int .i64 0, .bool false, .int .i64 0, .int .i64 0, .bool false, .int .i64 0, .int .i64 0, .bool false, .int .i64 0, .int .i64 0, .bool false, .int .i64 0, .int .i64 0, .bool false, .int .i64 0, .int .i64 0, .bool false, .int .i64 0, .int .i64 0, .bool false, .int .i64 0, .int .i64 0, .bool false, .int .i64 0, .int .i64 0, .bool false, .int .i64 0, .int .i64 0, .bool false, .int .i64 0, .int .i64 0, .bool false, .int .i64 0, .int .i64 0, .bool false, .int .i64 0, .int .i64 0, .bool false, .int .i64 0, .int .i64 0, .bool false, .int .i64 0, .int .i64 0, .bool false, .int .i64 0, .int .i64 0, .bool false, .int .i64 0, .int .i64 0, .bool false, .int .i64 0, .int .i64 0, .bool false, .int .i64 0, .int .i64 0, .bool false, .int .i64 0, .int .i64 0, .bool false, .int .i64 0, .int .i64 0, .bool false, .int .i64 0, .int .i64 0, .bool false, .int .i64 0, .int .i64 0, .bool false, .int .i64 0, .int .i64 0, .bool false, .int .i64 0, .int .i64 0, .bool false, .int .i64 0, .int .i64 0, .bool false, .int .i64 0, .int .i64 0, .bool false, .int .i64 0, .int .i64 0, .bool false, .int .i64 0, .int .i64 0, .bool false, .int .i64 0, .int .i64 0, .bool false, .int .i64 0, .int .i64 0, .bool false, .int .i64 0, .int .i64 0, .bool false, .int .i64 0, .int .i64 0, .bool false, .int .i64 0, .int .i64 0, .bool false, .int .i64 0, .int .i64 0]) := by kernel_rfl
theorem Zex {α : Type} [Enc α] : ∀ (l : List α) (k : Nat), (l.flatMap Enc.enc).take (k * Enc.sz α) = (l.take k).flatMap Enc.enc
 | [], k => by simp
 | a :: l, 0 => by simp
 | a :: l, k + 1 => by
  have ih := Zex l k
  rw [List.flatMap_cons, List.take_succ_cons, List.flatMap_cons, Nat.add_mul, Nat.one_mul, List.take_append, Enc.len, ← ih, Nat.add_sub_cancel, List.take_of_length_le (by rw [Enc.len]; omega)]
theorem ZmW {α : Type} [Enc α] (n : Nat) (hn : Enc.sz α = n) (l : List α) (k : Nat) (v : α) (h : k < l.length) : ye (l.flatMap Enc.enc) (k * n) (Enc.enc v) = (l.set k v).flatMap Enc.enc := by
 subst hn
 have h1 := Ws h
 have h2 : (l.flatMap Enc.enc).drop (k * Enc.sz α + Enc.sz α) = (l.drop (k + 1)).flatMap Enc.enc := by
  rw [← List.drop_drop, h1, List.drop_append, List.drop_of_length_le (by rw [Enc.len]; exact Nat.le_refl _), Enc.len, Nat.sub_self]
  simp
 rw [ye, Enc.len, Zex, h2, List.set_eq_take_append_cons_drop, if_pos h]
 simp
theorem Zey (tab : List Stp) : ∀ (f s : Nat) (d : Int), s < 2 ^ 64 → wH tab f s d < 2 ^ 64
 | 0, _, _, h => h
 | f + 1, s, d, h => by
  unfold wH
  split
  ·exact h
  ·exact Zey tab f _ _ (ZdG _ _ h)
theorem ZmX (tab : List Stp) (f s : Nat) {d : Int} (h : d < 0) : wH tab f s d = s := by
 cases f with
 | zero => rfl
 | succ f => unfold wH; rw [if_pos h]
theorem ZmY {S : Store} {pl : PV} {price : List Int} (c : Cust) (n : Nat) (cap : Int) (hR : RowOf S pl price) (hc : CustFits c) (hn : n ≤ 60) :
  Spec Tryz.prog 152 [.agg (zZ c), I n, I cap, pl] S (fun q S' => q = .tup [L (ZA c n cap price).1, B (ZA c n cap price).2] ∧ S' = S) := by
 have hmin : vy (n : Int) 64 = n := by unfold vy; split <;> omega
 have hmax : xA (n : Int) 0 = n := by unfold xA; split <;> omega
 have hpr := fun S (h : RowOf S pl price) d => Zen d h
 have hrest := fun (last d : Int) (h1 : -1 ≤ last ∧ last ≤ 64) (h2 : 0 ≤ d ∧ d ≤ 64) => Zet c last d hc h1 h2
 have hmost := fun (th : Int) (h : -4611686018427387904 ≤ th ∧ th ≤ 4611686018427387904) => V6 c th cap hc.size h
 unfold ZA
 refine yU Tryz.func152 Tryz.ntmps152 Tryz.results152 fun nx hd => ?_
 refine za (zb ?_)
 intro v0
 refine za (ze [] (zm hmin hmax) ?_)
 refine za (zb ?_)
 intro v1
 have hw : IntKind.i64.wrap ((n : Int) + 1) = ((n + 1 : Nat) : Int) := zt n (by omega)
 repeat apply za
 refine ze [] hw ?_
 refine zj (zG (fun d : Nat => d ≤ n + 1) (fun d => [(1, I n), (2, I cap), (3, pl), (4, .ptr nx v0 0), (10, .ptr (nx + 1) v1 0), (22, I (n + 1 : Nat)), (23, I d)]) (fun d => [.cells v0 65 (zZ c), .cells v1 260 ((qf (qU c n cap price d) zs).flatMap Enc.enc)]) (fun d => n + 1 - d) 0 [] (by simp) (by simp) (by simp [qU]; rfl) ?_)
 rintro d hd1
 have htl := Jd c n cap price d
 have htok := V7 c n cap price d
 have htn : qU c n cap price (d + 1) = qU c n cap price d ++ [jW c n cap price (qU c n cap price d) d (d + 1)] := rfl
 by_cases hdn : d < n + 1
 case neg =>
  obtain rfl : d = n + 1 := by omega
  clear htn
  generalize qU c n cap price (n + 1) = tab at *
  have hml := Zew tab zs (by omega)
  obtain ⟨s, tl, a1, -, -, e1, e0⟩ := el 3 rfl (qf tab zs) n (by omega)
  have hs : tab.getD n zs = s := by have := XN tab zs n (by omega); rw [a1] at this; exact (Option.some.inj this).symm
  have hs2 : tab[n]? = some s := by rw [← hs, List.getD_eq_getElem?_getD, List.getElem?_eq_getElem (by omega)]; rfl
  have e12 := e1 2 (by omega)
  have hn65 : (n : Int) < 65 := by omega
  have z1 : 3 ≤ 195 - n * 3 := by omega
  have z2 : 1 ≤ 195 - (n * 3 + 2) := by omega
  rw [hs]
  refine za (zb ?_)
  refine za (zn (by simp) ?_)
  refine zy ?_
  rcases htok n s hs2 with q | ⟨hr, hl1, hl2, hl3⟩
  ·subst q
   rw [if_pos rfl]
   have e0' : ((qf tab zs).flatMap Enc.enc).drop (n * 3) = [B false, I 0, I 0] ++ tl := e0
   repeat apply za
   refine ze [] (yi e0' hn65 hml z1) ?_
   refine zo rfl (za (zb ?_))
   refine ve 8 rfl ?_
   exact zg ⟨_, S, rfl, ⟨by simp [zq], rfl⟩, yb hd⟩
  ·have hne : s ≠ zs := fun e => by rw [e] at hr; cases hr
   rw [if_neg hne]
   obtain ⟨sr, sk, sl⟩ := s
   simp only at hr hl1 hl2 hl3 ⊢
   subst hr
   repeat apply za
   refine ze [] (yi e0 hn65 hml z1) ?_
   refine zn rfl (zh (za (zb ?_)))
   repeat apply za
   refine ze [] (yi e12 hn65 hml z2) ?_
   generalize hres : wH tab 65 0 sl = res
   have hrlt : res < 2 ^ 64 := hres ▸ Zey tab 65 0 sl (by decide)
   have hfil := ZmQ c res hrlt hc
   generalize (yJ c (yy res 0 64)).1 = vv at hfil ⊢
   refine zj (zG (fun st : Nat × Nat × Int => wH tab st.1 st.2.1 st.2.2 = res ∧ -1 ≤ st.2.2 ∧ st.2.2 < st.1 ∧ st.2.2 < n ∧ st.2.1 < 2 ^ 64 ∧ (0 ≤ st.2.2 → tab.getD st.2.2.toNat zs ≠ zs)) (fun (f, s, l) => [(4, .ptr nx v0 0), (10, .ptr (nx + 1) v1 0), (16, U s), (17, I l)]) (fun _ => [.cells v0 65 (zZ c), .cells v1 260 ((qf tab zs).flatMap Enc.enc)]) (fun st => st.1) (65, 0, sl) [] ⟨hres, hl1, by dsimp only; omega, by dsimp only; omega, by show (0 : Nat) < 2 ^ 64; decide, hl3⟩ (by simp) (by simp) ?_)
   rintro ⟨f, s, l⟩ ⟨p1, p2, p3, p4, p5, p6⟩
   simp only at p1 p2 p3 p4 p5 p6 ⊢
   by_cases hl : l < 0
   ·have hl' : ¬ 0 ≤ l := by omega
    rw [ZmX tab f s hl] at p1
    subst p1
    repeat apply za
    refine ze [] hl' ?_
    refine zn rfl (zy (za (zb ?_)))
    refine zz hfil ?_
    exact zg ⟨_, S, (by simp; rfl), ⟨by simp [zq], rfl⟩, yb hd⟩
   ·have hl' : 0 ≤ l := by omega
    obtain ⟨i, rfl⟩ := Int.eq_ofNat_of_zero_le hl'
    obtain ⟨f, rfl⟩ : ∃ g, f = g + 1 := ⟨f - 1, by omega⟩
    have p6 := p6 hl'
    rw [Int.toNat_natCast] at p6
    have hi : i < tab.length := by omega
    obtain ⟨e, tl2, b1, -, -, f1, f0⟩ := el 3 rfl (qf tab zs) i (by omega)
    have he : tab.getD i zs = e := by have := XN tab zs i hi; rw [b1] at this; exact (Option.some.inj this).symm
    have he2 : tab[i]? = some e := by rw [← he, List.getD_eq_getElem?_getD, List.getElem?_eq_getElem hi]; rfl
    have f12 := f1 2 (by omega)
    have hi65 : (i : Int) < 65 := by omega
    have y2 : 1 ≤ 195 - (i * 3 + 2) := by omega
    rw [he] at p6
    rcases htok i e he2 with q | ⟨er, el1', el2', el3'⟩
    ·exact absurd q p6
    have p1' : wH tab f (jT s i) e.l = res := by
     rw [← p1]; unfold wH; rw [if_neg (by omega), Int.toNat_natCast, he]
     cases f <;> rfl
    repeat apply za
    refine ze [] hl' ?_
    refine zo rfl (zh (za (zj (zb ?_))))
    refine zz (Zln s i p5) ?_
    refine ze [] (yi f12 hi65 hml y2) ?_
    exact zp (f, jT s i, e.l) [] ⟨p1', el1', by dsimp only; omega, by dsimp only; omega, ZdG _ _ p5, el3'⟩ (by simp) (by simp) rfl (by simp)
 generalize qU c n cap price d = tab at *
 refine za (zb ?_)
 refine za (zo (by simp; omega) ?_)
 refine zh (za (zj (za (zb ?_))))
 refine za (zb ?_)
 refine zj (zG (fun j : Nat => j ≤ d + 1) (fun j => [(1, I n), (2, I cap), (3, pl), (4, .ptr nx v0 0), (10, .ptr (nx + 1) v1 0), (11, I d), (12, I ((j : Int) - 1)), (22, I (n + 1 : Nat)), (23, I d)]) (fun j => [.cells v0 65 (zZ c), .cells v1 260 ((qf tab (jW c n cap price tab d j)).flatMap Enc.enc)]) (fun j => d + 1 - j) 0 [] (by simp) (by simp) (by simp [jW]) ?_)
 rintro j hj
 have hesucc := Zev c n cap price tab d j
 have heok := XM c n cap price tab d j
 have hdd : jW c n cap price tab d (d + 1) = jW c n cap price tab d (d + 1) := rfl
 by_cases hjd : j < d + 1
 case neg =>
  obtain rfl : j = d + 1 := by omega
  repeat apply za
  refine zb ?_
  refine zn (by simp) ?_
  refine zy (zb ?_)
  exact zp (d + 1) [] hdn (by omega) (by simp [zt d (by omega)]) rfl (by rw [htn, ← ZmV tab _ (by omega)]; simp)
 clear hdd htn
 generalize jW c n cap price tab d j = b at *
 obtain ⟨last, hlast⟩ : ∃ last : Int, last = (j : Int) - 1 := ⟨_, rfl⟩
 rw [← hlast] at hesucc ⊢
 have hwl : IntKind.i64.wrap (last + 1) = ((j + 1 : Nat) : Int) - 1 := by rw [wr _ (by omega) (by omega)]; omega
 have hml := Zew tab b (by omega)
 have hd65 : (d : Int) < 65 := by omega
 have zd3 : 3 ≤ 195 - d * 3 := by omega
 have zd1 : 1 ≤ 195 - (d * 3 + 1) := by omega
 have hr := hrest last d (by omega) (by omega)
 have hrbd : -4611686018427387904 ≤ (yE c last d).1 ∧ (yE c last d).1 ≤ 4611686018427387904 := by
  have h1 := hc.rate
  have h2 := hc.size
  have h3 := hc.start
  unfold yE
  simp only
  have hp : 0 ≤ c.rate * ((if last < 0 then (d : Int) else d - last).toNat : Int) ∧ c.rate * ((if last < 0 then (d : Int) else d - last).toNat : Int) ≤ 2147483648 * 65 :=
   ⟨Int.mul_nonneg h1.1 (by omega), Int.mul_le_mul h1.2 (by split <;> omega) (by omega) (by omega)⟩
  generalize c.rate * ((if last < 0 then (d : Int) else d - last).toNat : Int) = pp at hp ⊢
  split <;> omega
 have hm := hmost _ hrbd
 have hks : ∀ (k1 : Int), k1 = (if 0 ≤ last then W ((yE c last d).2 + (tab.getD last.toNat zs).k) else (yE c last d).2) → Yd c n cap price tab d last = if d < n then W (k1 + Qe price d) else k1 := fun k1 h => by unfold Yd; rw [h]
 have hokd : Zz c n cap tab d last = (¬ (0 ≤ last ∧ tab.getD last.toNat zs = zs) ∧ ¬ ((yE c last d).1 < 0 ∨ (d < n ∧ jV c (yE c last d).1 cap = 0))) := rfl
 have hstay : ¬ Zz c n cap tab d last → jW c n cap price tab d (j + 1) = b := fun h => by rw [hesucc]; unfold Jc; rw [if_neg h]
 have hgo : Zz c n cap tab d last → jW c n cap price tab d (j + 1) = if b = zs ∨ Yd c n cap price tab d last < b.k then ⟨true, Yd c n cap price tab d last, last⟩ else b := fun h => by rw [hesucc]; unfold Jc; rw [if_pos h]
 clear hesucc
 generalize yE c last d = rr at hr hm hks hokd
 obtain ⟨th, he⟩ := rr
 simp only at hr hm hks hokd
 generalize jV c th cap = mo at hm hokd
 generalize Zz c n cap tab d last = OK at hokd hstay hgo
 generalize Yd c n cap price tab d last = kk at hks hgo
 generalize hb'e : jW c n cap price tab d (j + 1) = b' at hstay hgo
 subst hokd
 repeat apply za
 refine zb ?_
 refine zo (by simp; omega) ?_
 refine zh (za (zj (za (qh (nx := nx) (σ := Unit) (fun _ => ¬ (0 ≤ last ∧ tab.getD last.toNat zs = zs)) (fun _ => [(1, I n), (2, I cap), (3, pl), (4, .ptr nx v0 0), (10, .ptr (nx + 1) v1 0), (11, I d), (12, I last), (22, I (n + 1 : Nat)), (23, I d)]) (fun _ => S) (fun _ => [.cells v0 65 (zZ c), .cells v1 260 ((qf tab b).flatMap Enc.enc)]) ?_ ?_))))
 ·by_cases hl : 0 ≤ last
  ·obtain ⟨i, hi⟩ := Int.eq_ofNat_of_zero_le hl
   have hit : i < tab.length := by omega
   obtain ⟨e, tl2, b1, -, -, -, f0⟩ := el 3 rfl (qf tab b) i (by omega)
   have hee : tab.getD i zs = e := by have := XN tab b i hit; rw [b1] at this; exact (Option.some.inj this).symm
   have he2 : tab[i]? = some e := by rw [← hee, List.getD_eq_getElem?_getD, List.getElem?_eq_getElem hit]; rfl
   have hi65 : (i : Int) < 65 := by omega
   have y3 : 3 ≤ 195 - i * 3 := by omega
   have hlt : last.toNat = i := by omega
   rcases htok i e he2 with q | ⟨er, -, -, -⟩
   ·subst q
    have f0' : ((qf tab b).flatMap Enc.enc).drop (i * 3) = [B false, I 0, I 0] ++ tl2 := f0
    have hb' := hstay fun h => h.1 ⟨hl, by rw [hlt]; exact hee⟩
    subst hb'
    subst hi
    refine za (ze [(2, 33)] (qm hl f0' hi65 hml y3) ?_)
    refine zo rfl (zy (ze [] hwl ?_))
    exact zp (j + 1) [] (by omega) (by omega) (by simp) rfl (by simp [hb'e])
   ·obtain ⟨r1, r2, r3⟩ := e
    simp only at er
    subst er
    subst hi
    refine za (ze [(2, 33)] (qm hl f0 hi65 hml y3) ?_)
    exact zn rfl (zh (zP () [] (by rw [hlt, hee]; rintro ⟨-, q⟩; cases q) (by simp) rfl (by simp)))
  ·refine za (ze [(2, 33)] (zm hl zL) ?_)
   exact zn rfl (zh (zP () [] (fun q => hl q.1) (by simp) rfl (by simp)))
 intro _ hA
 refine za (zb ?_)
 refine zz hr ?_
 refine za (qh (nx := nx) (σ := Unit) (fun _ => ¬ (th < 0 ∨ (d < n ∧ mo = 0))) (fun _ => [(1, I n), (2, I cap), (3, pl), (4, .ptr nx v0 0), (10, .ptr (nx + 1) v1 0), (11, I d), (12, I last), (14, I he), (22, I (n + 1 : Nat)), (23, I d)]) (fun _ => S) (fun _ => [.cells v0 65 (zZ c), .cells v1 260 ((qf tab b).flatMap Enc.enc)]) ?_ ?_)
 ·by_cases h1 : th < 0
  ·have hb' := hstay fun h => h.2 (.inl h1)
   subst hb'
   refine za (ze [(2, 49), (6, 53)] (zm h1 zL) ?_)
   refine zo rfl (zy (ze [] hwl ?_))
   exact zp (j + 1) [] (by omega) (by omega) (by simp) rfl (by simp [hb'e])
  ·by_cases h2 : d < n
   ·by_cases h3 : mo = 0
    ·have hb' := hstay fun h => h.2 (.inr ⟨h2, h3⟩)
     subst hb'
     refine za (ze [(2, 49), (6, 53)] (zF h1 h2 h3) ?_)
     refine jB [(2, 49), (6, 53)] hm (zF h1 h2 h3) ?_
     refine zo rfl (zy (ze [] hwl ?_))
     exact zp (j + 1) [] (by omega) (by omega) (by simp) rfl (by simp [hb'e])
    ·refine za (ze [(2, 49), (6, 53)] (zF h1 h2 h3) ?_)
     refine jB [(2, 49), (6, 53)] hm (zF h1 h2 h3) ?_
     exact zn rfl (zh (zP () [] (by omega) (by simp) rfl (by simp)))
   ·refine za (ze [(2, 49), (6, 53)] (zF h1 h2 zL) ?_)
    exact zn rfl (zh (zP () [] (by omega) (by simp) rfl (by simp)))
 intro _ hB
 have hgo := hgo ⟨hA, hB⟩
 clear hstay hm hr
 refine za (zb ?_)
 intro v2
 obtain ⟨k1, hk1⟩ : ∃ k1, k1 = (if 0 ≤ last then W (he + (tab.getD last.toNat zs).k) else he) := ⟨_, rfl⟩
 have hks := hks k1 hk1
 refine za (qh (nx := nx) (σ := Unit) (fun _ => True) (fun _ => [(1, I n), (2, I cap), (3, pl), (4, .ptr nx v0 0), (10, .ptr (nx + 1) v1 0), (11, I d), (12, I last), (15, .ptr (nx + 2) v2 0), (22, I (n + 1 : Nat)), (23, I d)]) (fun _ => S) (fun _ => [.cells v0 65 (zZ c), .cells v1 260 ((qf tab b).flatMap Enc.enc), .cells v2 259 [B true, I k1, I last]]) ?_ ?_)
 ·refine za (zb ?_)
  by_cases hl : 0 ≤ last
  ·rw [if_pos hl] at hk1
   obtain ⟨i, hi⟩ := Int.eq_ofNat_of_zero_le hl
   have hit : i < tab.length := by omega
   obtain ⟨e, tl2, b1, -, -, f1, f0⟩ := el 3 rfl (qf tab b) i (by omega)
   have hee : tab.getD i zs = e := by have := XN tab b i hit; rw [b1] at this; exact (Option.some.inj this).symm
   have f11 := f1 1 (by omega)
   have hi65 : (i : Int) < 65 := by omega
   have y1 : 1 ≤ 195 - (i * 3 + 1) := by omega
   have hlt : last.toNat = i := by omega
   rw [hlt, hee] at hk1
   subst hi
   refine zo (by simp) ?_
   refine zC (some [nx + 1]) (Row.pures [0, 2, 3, 4, 5] (.alt 1 (Row.pures [6, 7] (.alt 8 (.done) .stop)) .stop)) mixed (yi f11 hi65 hml y1) ?_
   exact zP () [] trivial (by simp) rfl (by simp [hk1])
  ·rw [if_neg hl] at hk1
   refine zn (by simp; omega) ?_
   exact zh (zP () [] trivial (by simp) rfl (by simp [hk1]))
 intro _ _
 clear hk1
 refine za (qh (nx := nx) (σ := Unit) (fun _ => True) (fun _ => [(1, I n), (2, I cap), (3, pl), (4, .ptr nx v0 0), (10, .ptr (nx + 1) v1 0), (11, I d), (12, I last), (15, .ptr (nx + 2) v2 0), (22, I (n + 1 : Nat)), (23, I d)]) (fun _ => S) (fun _ => [.cells v0 65 (zZ c), .cells v1 260 ((qf tab b).flatMap Enc.enc), .cells v2 259 [B true, I kk, I last]]) ?_ ?_)
 ·refine za (zb ?_)
  by_cases h2 : d < n
  ·rw [if_pos h2] at hks
   refine zo (by simp [h2]) ?_
   refine vE (some [nx + 1]) (Row.pures [0, 2, 3] (.alt 1 (.alt 4 (Row.pures [5, 6] (.alt 7 (.done) .stop)) .stop) (.alt 4 (.alt 1 (Row.pures [5, 6] (.alt 7 (.done) .stop)) .stop) .stop))) mixed (by rfl) (by rfl) (by rfl) fun K Gp Gc Gh hK hGp hGc hGh X hX0 hX1 hX2 hX => ?_
   simp -implicitDefEqProofs [hX0, hX1, hX2, hX]
   try clear hX0 hX1 hX2 hX X
   refine ⟨?_, ?_⟩
   ·refine hGc _ _ _ _ _ _ _ (((hpr _ (hR.ext hd _) _).mono ?_).v)
    rintro _ _ ⟨rfl, rfl⟩
    refine ⟨by simp [yF], ?_⟩
    clear hGp hGc hGh
    clear Gp Gc Gh
    refine j3 fun Gp Gc Gh hGp hGc hGh X hX0 hX1 hX2 hX => ?_
    simp -implicitDefEqProofs [hX0, hX1, hX2, hX]
    try clear hX0 hX1 hX2 hX X
    refine hK _ _ _ ?_
    clear hK hGp hGc hGh
    clear K Gp Gc Gh
    exact zP () [] trivial (by simp) rfl (by simp [hks])
   ·refine hGc _ _ _ _ _ _ _ (((hpr _ (hR.ext hd _) _).mono ?_).v)
    rintro _ _ ⟨rfl, rfl⟩
    refine ⟨by simp [yF], ?_⟩
    clear hGp hGc hGh
    clear Gp Gc Gh
    refine j3 fun Gp Gc Gh hGp hGc hGh X hX0 hX1 hX2 hX => ?_
    simp -implicitDefEqProofs [hX0, hX1, hX2, hX]
    try clear hX0 hX1 hX2 hX X
    refine hK _ _ _ ?_
    clear hK hGp hGc hGh
    clear K Gp Gc Gh
    exact zP () [] trivial (by simp) rfl (by simp [hks])
  ·rw [if_neg h2] at hks
   refine zn (by simp; omega) ?_
   exact zh (zP () [] trivial (by simp) rfl (by simp [hks]))
 intro _ _
 clear hks
 obtain ⟨e, tl2, b1, -, -, f1, f0⟩ := el 3 rfl (qf tab b) d (by omega)
 have hee : b = e := by have := ZmT tab b; rw [htl, b1] at this; exact (Option.some.inj this).symm
 subst hee
 have f11 := f1 1 (by omega)
 have hsp := ZmW 3 rfl (qf tab b) d ⟨true, kk, last⟩ (by omega)
 have hms := ZmU tab b ⟨true, kk, last⟩
 rw [htl] at hms
 rw [hms] at hsp
 have hsp' : ye ((qf tab b).flatMap Enc.enc) (d * 3) [B true, I kk, I last] = (qf tab ⟨true, kk, last⟩).flatMap Enc.enc := hsp
 clear hsp hms
 have hmf : ((qf tab b).flatMap Enc.enc : List PV).length = 195 := by rw [ZmR, hml]
 rcases heok with q | ⟨hbr, -, -, -⟩
 ·subst q
  rw [if_pos (.inl rfl)] at hgo
  subst hgo
  have f0' : ((qf tab zs).flatMap Enc.enc).drop (d * 3) = [B false, I 0, I 0] ++ tl2 := f0
  refine za (zC none (Row.pures [0, 1, 2, 3, 4, 5, 6, 7, 8, 9, 10, 11, 12, 13] .done) mixed (qm f0' hd65 hml zd3 zL) ?_)
  refine zo rfl (ze [] (yi hd65 hmf hsp' hml) ?_)
  refine ⟨by omega, ?_⟩
  refine ze [] hwl ?_
  exact zp (j + 1) [_] (by omega) (by omega) (by simp) rfl (by simp [hb'e]; rfl)
 ·obtain ⟨r1, r2, r3⟩ := b
  simp only at hbr
  subst hbr
  have hnz : ¬ ((⟨true, r2, r3⟩ : Stp) = zs) := fun e => by cases e
  by_cases hlt : kk < r2
  ·rw [if_pos (.inr hlt)] at hgo
   subst hgo
   refine za (zC none (Row.pures [0, 1, 2, 3, 4, 5, 6, 7, 8, 9, 10, 11, 12, 13] .done) mixed (yh f0 f11 hd65 hml zd3 (zm zd1 hlt)) ?_)
   refine zo rfl (ze [] (yi hd65 hmf hsp' hml) ?_)
   refine ⟨by omega, ?_⟩
   refine ze [] hwl ?_
   exact zp (j + 1) [_] (by omega) (by omega) (by simp) rfl (by simp [hb'e]; rfl)
  ·rw [if_neg (by rintro (q | q); exact hnz q; exact hlt q)] at hgo
   subst hgo
   refine za (zC none (Row.pures [0, 1, 2, 3, 4, 5, 6, 7, 8, 9, 10, 11, 12, 13] .done) mixed (yh f0 f11 hd65 hml zd3 (zm zd1 hlt)) ?_)
   refine zn rfl (zh (ze [] hwl ?_))
   exact zp (j + 1) [_] (by omega) (by omega) (by simp) rfl (by simp [hb'e]; rfl)
open Go Go.Proofs Hp
section
variable {P : Program} {r : Rd} {n N : Nat} {Q : Exit → (Nat → PV) → Store → Prop} {F : Nat → PV} {c : Code}
theorem ZmZ {S : Store} {nx : Nat} {obs : List Ob} (j : Nat) {ver e : Nat} {cs : List PV} (hj : obs[j]? = some (.cells ver e cs)) {id v e2 : Nat} {ds : List PV} (hlt : id < nx) (hs : S id = .cells v e2 ds)
  (h : PW P r n N c Q F (ext (S.set id (.cells v e2 (ds.map (yZ (nx + j) ver cs)))) nx (obs.set j .dead))) : PW P r n N c Q F (ext S nx obs) := by
 have hjl : j < obs.length := (List.getElem?_eq_some_iff.1 hj).1
 refine Zl0 (id := nx + j) (ver := ver) (e := e) (cs := cs) (G := F) (by rw [yQ, List.getD_eq_getElem?_getD, hj]; rfl) (by rw [yQ, List.getD_eq_getElem?_getD, List.getElem?_set_self hjl]; rfl) (fun o => ?_) (fun _ => .inl rfl) h
 by_cases ho : o < nx
 ·rw [zH ho, zH ho]
  by_cases hoi : o = id
  ·subst hoi; rw [Store.set_same, hs]; exact .inr (.inr rfl)
  ·rw [Store.set_other _ _ _ _ hoi]; exact .inr (.inl rfl)
 ·simp only [ext]
  rw [if_neg ho, if_neg ho, List.getD_eq_getElem?_getD, List.getD_eq_getElem?_getD, List.getElem?_set]
  split
  ·simp [hjl]
  ·exact .inr (.inl rfl)
theorem XO {S T : Store} {nx nz : Nat} {obs : List Ob} (hd : zW nx S) (hle : nx ≤ nz) (h : ∀ o, o < nx → T o = S o) (o : Nat) : S o = ext T nz obs o ∨ S o = .dead := by
 by_cases ho : o < nx
 ·rw [zH (by omega), h o ho]; exact .inl rfl
 ·exact .inr (hd o (by omega))
end
def vr (x : Inst) (sol : Cust → List Int → List Visit × Bool) (b : Int) (n : Nat) : Nat → List (List Int) → zu × Int
 | 0, _ => ([], 15)
 | k + 1, pr =>
  if (qa x sol pr).2 ≠ 0 then ([], 15)
  else if jU (qC x (qa x sol pr).1 b n) = 0 then (jf x (qa x sol pr).1 b n, 0)
  else if (qC x (qa x sol pr).1 b n).any uB = true then ([], 15)
  else vr x sol b n k (Qb (qC x (qa x sol pr).1 b n) pr n)
def Ye (x : Inst) (sol : Cust → List Int → List Visit × Bool) (b : Int) (n : Nat) : zu × Int := vr x sol b n 8 (qT x n 0)
def Zez (x : Inst) (n : Nat) (sol : Cust → List Int → List Visit × Bool) : Prop := ∀ pr, vp x.cust.length n pr → (qa x sol pr).2 = 0 → VsOk x.cust.length n (qa x sol pr).1
theorem Zm0 {x : Inst} {sol : Cust → List Int → List Visit × Bool} {b : Int} {n : Nat} (hx : InstH x) (hn : x.days = n) (hn2 : n ≤ 1000) (hs : VZ x n sol) (hv : Zez x n sol) (hb : b ≤ 9223372036854775807) :
  Pure Tryz.prog 31 [.agg (zA x), I b] (.tup [.agg [L (Ye x sol b n).1], I (Ye x sol b n).2]) := by
 have hm := hx.cust
 unfold Ye
 have hPo := Zeg x n
 refine zx Tryz.func31 Tryz.ntmps31 Tryz.results31 fun S nx hd => ?_
 refine za (zb ?_)
 intro v0 v1
 refine za (zC (some [nx]) (Row.pures [0, 1, 2, 3, 4] (.alt 5 (Row.pures [6] (.alt 7 (Row.pures [8] .done) .stop)) .stop)) mixed trivial ?_)
 refine ⟨by omega, ?_⟩
 intro v2 v3
 rw [Zl7]
 refine Zl2 (α := Int) (nx + 2) v2 45 (nx + 4) 3 1 x.cust.length (by simp) (jO (obs := [_, _, _, _])) fun T ws hR hT hdT => ?_
 have hT0 : T nx = .cells v0 25 (zA x) := by rw [hT nx (by omega) (by omega)]; simp
 have hT1 : T (nx + 1) = .cells v1 38 [.sc (.slice none 0 0)] := by rw [hT (nx + 1) (by omega) (by omega)]; simp
 have hT3 : T (nx + 3) = .cells v3 89 (jJ x (.sc (.slice none 0 0)) b (.sc (.slice none 0 0)) (.sc (.slice none 0 0)) (.sl (nx + 2) v2 1 0 x.cust.length)) := by rw [hT (nx + 3) (by omega) (by omega)]; simp
 have hTS : ∀ o, o < nx → T o = S o := fun o ho => by rw [hT o (by omega) (by omega), zH ho]
 clear hT
 obtain ⟨nz, hnz⟩ : ∃ nz, nz = nx + 4 + x.cust.length := ⟨_, rfl⟩
 rw [← hnz] at hdT
 rw [show List.replicate x.cust.length ([] : List Int) = qT x 0 0 from (List.ext_getElem? fun j => by
  by_cases h : j < x.cust.length
  ·simp [qT, h]
  ·rw [List.getElem?_eq_none (by simp; omega), List.getElem?_eq_none (by rw [uz]; omega)])] at hR
 rw [← qk hdT]
 refine za (zV [] (by rfl) (by rfl) fun K Gc Gh hK hGc hGh X hX0 hX => ?_)
 simp -implicitDefEqProofs [hX0, hX]
 try clear hX0 hX X
 refine hGc _ _ _ _ _ _ _ fun hsuf => (Spec.mono (Zed (nx := nz) (by rw [qk hdT]; exact hdT) x _ _ _ _ _ _ _ n hn hn2 (by rw [qk hdT]; exact hT3)
  (fun k T' => (∃ ws', RowsAt T' (nx + 2) v2 45 (nx + 4) 3 1 ws' (qT x k 0)) ∧ (∀ o, o ≠ nx + 2 → (o < nx + 4 ∨ nx + 4 + x.cust.length ≤ o) → T' o = T o)) ⟨⟨ws, by rw [qk hdT]; exact hR⟩, fun o _ _ => by rw [qk hdT]⟩
  (fun k T' h o ho => by rw [h.2 o (by omega) (.inr (by omega))]; exact hdT o ho) (fun k hk T' h => ?_)) ?_).v
 ·obtain ⟨⟨ws', h1⟩, h2⟩ := h
  refine (Zmc k hm (by omega) (by omega) (by omega) ((h2 (nx + 3) (by omega) (.inl (by omega))).trans hT3) h1).mono ?_
  rintro _ T2 ⟨g1, g2⟩
  exact ⟨g1, fun o o1 o2 => (g2 o o1 o2).trans (h2 o o1 o2)⟩
 rintro _ T' ⟨⟨ws', hR'⟩, hT'⟩
 have hdT' : zW nz T' := fun o ho => by rw [hT' o (by omega) (.inr (by omega))]; exact hdT o ho
 refine ⟨T', [], (qk hdT').symm, ?_⟩
 clear hGc hGh
 clear Gc Gh
 refine zR hsuf (D := []) (by rfl) fun Gc Gh hGc hGh X hX0 hX => ?_
 simp -implicitDefEqProofs [hX0, hX]
 clear hX0 hX X
 refine hK _ _ _ ?_
 clear hK hGc hGh
 clear K Gc Gh
 replace hT0 := (hT' nx (by omega) (.inl (by omega))).trans hT0
 replace hT1 := (hT' (nx + 1) (by omega) (.inl (by omega))).trans hT1
 replace hT3 := (hT' (nx + 3) (by omega) (.inl (by omega))).trans hT3
 replace hTS : ∀ o, o < nx → T' o = S o := fun o ho => (hT' o (by omega) (.inl (by omega))).trans (hTS o ho)
 clear hT' hR hdT
 generalize qT x n 0 = pr0 at *
 repeat apply za
 refine zb ?_
 refine zj (jo (σ := Nat × Store × List (List Int)) (fun s => s.1 ≤ 8 ∧ vp x.cust.length n s.2.2 ∧ vr x sol b n 8 pr0 = vr x sol b n (8 - s.1) s.2.2 ∧ (∃ ws', RowsAt s.2.1 (nx + 2) v2 45 (nx + 4) 3 1 ws' s.2.2) ∧ s.2.1 nx = .cells v0 25 (zA x) ∧ s.2.1 (nx + 1) = .cells v1 38 [.sc (.slice none 0 0)] ∧
  (∃ vP pP fP, s.2.1 (nx + 3) = .cells v3 89 (jJ x vP b pP fP (.sl (nx + 2) v2 1 0 x.cust.length))) ∧ (∀ o, o < nx → s.2.1 o = S o) ∧ zW nz s.2.1)
  (fun s => [(2, .ptr nx v0 0), (4, .ptr (nx + 1) v1 0), (6, .ptr (nx + 3) v3 0), (21, I s.1)]) (fun s => s.2.1) (fun _ => []) (fun s => 8 - s.1) (zP (0, T', pr0) [] ⟨by simp, hPo, rfl, ⟨ws', hR'⟩, hT0, hT1, ⟨_, _, _, hT3⟩, hTS, hdT'⟩ (by simp) rfl (by simp)) ?_)
 clear hR' hT0 hT1 hT3 hTS hdT' hPo T'
 rintro ⟨k, T, pr⟩ ⟨hk, hP, hst, ⟨ws, hR⟩, hT0, hT1, ⟨vP, pP, fP, hT3⟩, hTS, hdT⟩
 simp only at hk hP hst hR hT0 hT1 hT3 hTS hdT ⊢
 have x0 := fun obs => (zH (S := T) (nx := nz) (obs := obs) (i := nx) (by omega)).trans hT0
 have x3 := fun obs => (zH (S := T) (nx := nz) (obs := obs) (i := nx + 3) (by omega)).trans hT3
 have g1 : ¬ nz ≤ nx + 1 := by omega
 have x1 := fun obs => (zH (S := T) (nx := nz) (obs := obs) (i := nx + 1) (by omega)).trans hT1
 refine za (zb ?_)
 refine za (zr rfl (fun hc => ?_) (fun hc => ?_))
 ·simp at hc
  rw [show 8 - k = (7 - k) + 1 from by omega] at hst
  have hvs := hv pr hP
  have hch := Zmm (S := T) hm hP hR hs
  rw [show vr x sol b n (7 - k + 1) pr = (if (qa x sol pr).2 ≠ 0 then ([], 15) else if jU (qC x (qa x sol pr).1 b n) = 0 then (jf x (qa x sol pr).1 b n, 0) else if (qC x (qa x sol pr).1 b n).any uB = true then ([], 15) else vr x sol b n (7 - k) (Qb (qC x (qa x sol pr).1 b n) pr n)) from rfl] at hst
  generalize qa x sol pr = cz at hst hvs hch
  obtain ⟨v, e⟩ := cz
  simp only at hst hvs hch
  refine zh (za (zj (za (vE none (Row.pures [0, 1, 2, 3, 4] (.alt 5 (Row.pures [6, 7, 8, 9, 10] .done) .stop)) mixed (by rfl) (by rfl) (by rfl) fun K Gp Gc Gh hK hGp hGc hGh X hX0 hX1 hX2 hX => ?_))))
  simp -implicitDefEqProofs [hX0, hX1, hX2, hX, x0, x3]
  try clear hX0 hX1 hX2 hX X
  refine hGc _ _ _ _ _ _ _ (Spec.mono (by rw [qk hdT]; exact hch) ?_).v
  rintro _ S2 ⟨rfl, hS2⟩
  have hS3 : S2 = ext T nz [] := hS2.trans (qk hdT).symm
  subst hS3
  clear hS2
  refine ⟨by simp [yF], ?_⟩
  clear hGp hGc hGh
  clear Gp Gc Gh
  refine j3 fun Gp Gc Gh hGp hGc hGh X hX0 hX1 hX2 hX => ?_
  simp -implicitDefEqProofs [hX0, hX1, hX2, hX]
  try clear hX0 hX1 hX2 hX X
  refine hK _ _ _ ?_
  clear hK hGp hGc hGh
  clear K Gp Gc Gh
  repeat apply za
  refine zb ?_
  by_cases he : e = 0
  case neg =>
   rw [if_pos he] at hst
   rw [hst]
   refine zo (by simp [he]) ?_
   refine za (ze [] (zF x0 x1 g1) ?_)
   show PW _ _ _ _ _ _ _ (ext _ _ _)
   refine Xe (o := nx + 1) 0 (by rw [zH (by omega)]; first | exact Store.set_same _ _ _ | exact hT1) rfl ?_
   rw [jZ _ (by omega)]
   try rw [Store.set_set]
   refine zg ⟨_, S, (by simp [zH (show nx + 1 < nz from by omega), Store.set_same]; rfl), ⟨by simp [zq], rfl⟩, ?_⟩
   exact XO hd (by omega) fun o ho => by rw [Store.set_other _ _ _ _ (by omega)]; exact hTS o ho
  rw [if_neg (by simpa using he)] at hst
  have hvs := hvs he
  refine zn (by simp [he]) ?_
  refine zh ?_
  repeat apply za
  refine zV [] (by rfl) (by rfl) fun K Gc Gh hK hGc hGh X hX0 hX => ?_
  simp -implicitDefEqProofs [hX0, hX]
  try clear hX0 hX X
  refine hGc _ _ _ _ _ _ _ fun hsuf => (Spec.mono (Zl6 (nx := nz) (n := n) (by rw [qk hdT]; exact hdT) (by rw [qk hdT]; exact hT3) hx hn hn2 hvs hb) ?_).v
  rintro _ _ ⟨rfl, vD, vF, rfl⟩
  rw [qk hdT]
  refine ⟨_, _, rfl, ?_⟩
  clear hGc hGh
  clear Gc Gh
  refine zR hsuf (D := []) (by rfl) fun Gc Gh hGc hGh X hX0 hX => ?_
  simp -implicitDefEqProofs [hX0, hX]
  clear hX0 hX X
  refine hK _ _ _ ?_
  clear hK hGc hGh
  clear K Gc Gh
  have hfl := Zd3 x v b n
  have hpl := Q8 x v b n
  generalize qC x v b n = fs at *
  generalize jf x v b n = pl at *
  by_cases hf : jU fs = 0
  ·rw [if_pos hf] at hst
   rw [hst]
   refine zo (by simp [hf]) ?_
   show PW _ _ _ _ _ _ _ (ext _ _ _)
   refine ZmZ 0 (id := nx + 3) rfl (by omega) (Store.set_same _ _ _) ?_
   rw [Store.set_set]
   have hfz : ([I x.days, I x.veh, I x.cap, I x.len, L x.cust, L x.dist, L v, I b, .sl nz vD 1 0 pl.length, .sl (nz + 1) vF 1 0 fs.length, .sl (nx + 2) v2 1 0 x.cust.length] : List PV).map (yZ (nz + 0) vD (pl.flatMap Enc.enc)) = jJ x (L v) b (L pl) (.sl (nz + 1) vF 1 0 fs.length) (.sl (nx + 2) v2 1 0 x.cust.length) := by
    simp [yZ]
    omega
   rw [hfz]
   have y3 := fun (o : Ob) obs => (zH (S := T.set (nx + 3) o) (nx := nz) (obs := obs) (i := nx + 3) (by omega)).trans (Store.set_same _ _ _)
   have y1 := fun (o : Ob) obs => (zH (S := T.set (nx + 3) o) (nx := nz) (obs := obs) (i := nx + 1) (by omega)).trans ((Store.set_other _ _ _ _ (by omega)).trans hT1)
   refine za (ze [] (zF y3 y1 g1) ?_)
   refine zg ⟨_, S, (by simp [zH (show nx + 1 < nz from by omega), Store.set_same]; rfl), ⟨by simp [zq], rfl⟩, ?_⟩
   exact XO hd (by omega) fun o ho => by rw [Store.set_other _ _ _ _ (by omega), Store.set_other _ _ _ _ (by omega)]; exact hTS o ho
  rw [if_neg hf] at hst
  refine zn (by simp [hf]) ?_
  refine zh ?_
  have y3 := fun (o : Ob) obs => (zH (S := T.set (nx + 3) o) (nx := nz) (obs := obs) (i := nx + 3) (by omega)).trans (Store.set_same _ _ _)
  have y1 := fun (o : Ob) obs => (zH (S := T.set (nx + 3) o) (nx := nz) (obs := obs) (i := nx + 1) (by omega)).trans ((Store.set_other _ _ _ _ (by omega)).trans hT1)
  repeat apply za
  refine zV [] (by rfl) (by rfl) fun K Gc Gh hK hGc hGh X hX0 hX => ?_
  simp -implicitDefEqProofs [hX0, hX, y3]
  try clear hX0 hX X
  refine hGc _ _ _ _ _ _ _ fun hsuf => ((Zmk (idF := nz + 1) (vF := vF) fs (by rw [yQ]; rfl) (by omega)).mono ?_).v
  rintro _ _ ⟨rfl, rfl⟩
  refine ⟨_, _, rfl, ?_⟩
  clear hGc hGh
  clear Gc Gh
  refine zR hsuf (D := []) (by rfl) fun Gc Gh hGc hGh X hX0 hX => ?_
  simp -implicitDefEqProofs [hX0, hX]
  clear hX0 hX X
  refine hK _ _ _ ?_
  clear hK hGc hGh
  clear K Gc Gh
  cases hbad : fs.any uB with
  | true =>
   rw [if_pos hbad] at hst
   rw [hst]
   refine zo rfl (za (ze [] (zm y1 g1) ?_))
   show PW _ _ _ _ _ _ _ (ext _ _ _)
   refine Xe (o := nx + 1) 0 (by rw [zH (by omega)]; first | exact Store.set_same _ _ _ | exact (Store.set_other _ _ _ _ (by omega)).trans hT1) rfl ?_
   rw [jZ _ (by omega)]
   try rw [Store.set_set]
   refine zg ⟨_, S, (by simp [zH (show nx + 1 < nz from by omega), Store.set_same]; rfl), ⟨by simp [zq], rfl⟩, ?_⟩
   exact XO hd (by omega) fun o ho => by rw [Store.set_other _ _ _ _ (by omega), Store.set_other _ _ _ _ (by omega)]; exact hTS o ho
  | false =>
   rw [if_neg (by rw [hbad]; decide)] at hst
   refine zn rfl (zh ?_)
   generalize hT2 : ext (T.set (nx + 3) (.cells v3 89 (jJ x (L v) b (.sl nz vD 1 0 pl.length) (.sl (nz + 1) vF 1 0 fs.length) (.sl (nx + 2) v2 1 0 x.cust.length)))) nz [.cells vD 58 (pl.flatMap Enc.enc), .cells vF 39 (fs.flatMap Enc.enc)] = T2
   have q3 : T2 (nx + 3) = .cells v3 89 (jJ x (L v) b (.sl nz vD 1 0 pl.length) (.sl (nz + 1) vF 1 0 fs.length) (.sl (nx + 2) v2 1 0 x.cust.length)) := by rw [← hT2, zH (by omega), Store.set_same]
   have qF : T2 (nz + 1) = .cells vF 39 (fs.flatMap Enc.enc) := by rw [← hT2, yQ]; rfl
   have qo : ∀ o, o < nz → o ≠ nx + 3 → T2 o = T o := fun o h1 h2 => by rw [← hT2, zH h1, Store.set_other _ _ _ _ h2]
   have qd : zW (nz + 2) T2 := by rw [← hT2]; exact jO (obs := [_, _])
   have qR : RowsAt T2 (nx + 2) v2 45 (nx + 4) 3 1 ws pr := hR.other fun o ho => by
    rw [hP.1] at ho
    exact qo o (by omega) (by omega)
   clear hT2
   rw [← qk qd]
   refine zV [] (by rfl) (by rfl) fun K Gc Gh hK hGc hGh X hX0 hX => ?_
   simp -implicitDefEqProofs [hX0, hX]
   try clear hX0 hX X
   refine hGc _ _ _ _ _ _ _ fun hsuf => (Spec.mono (Zed (nx := nz + 2) (by rw [qk qd]; exact qd) x _ _ _ _ _ _ _ n hn hn2 (by rw [qk qd]; exact q3)
    (fun k T' => RowsAt T' (nx + 2) v2 45 (nx + 4) 3 1 ws (Qb fs pr k) ∧ (∀ o, (o < nx + 4 ∨ nx + 4 + x.cust.length ≤ o) → T' o = T2 o)) ⟨by rw [qk qd]; exact qR, fun o _ => by rw [qk qd]⟩
    (fun k T' h o ho => by rw [h.2 o (.inr (by omega))]; exact qd o ho) (fun j hj T' h => ?_)) ?_).v
   ·obtain ⟨h1, h2⟩ := h
    refine (Zmh (n := n) j hm hn2 hj (by omega) (by omega) ((h2 (nz + 1) (.inr (by omega))).trans qF) hfl ((h2 (nx + 3) (.inl (by omega))).trans q3) (Ja fs hP j) h1).mono ?_
    rintro _ T3 ⟨r1, r2⟩
    exact ⟨r1, fun o o1 => (r2 o o1).trans (h2 o o1)⟩
   rintro _ T3 ⟨hR3, hT3'⟩
   have hd3 : zW (nz + 2) T3 := fun o ho => by rw [hT3' o (.inr (by omega))]; exact qd o ho
   refine ⟨T3, [], (qk hd3).symm, ?_⟩
   clear hGc hGh
   clear Gc Gh
   refine zR hsuf (D := []) (by rfl) fun Gc Gh hGc hGh X hX0 hX => ?_
   simp -implicitDefEqProofs [hX0, hX]
   clear hX0 hX X
   refine hK _ _ _ ?_
   clear hK hGc hGh
   clear K Gc Gh
   rw [qk hd3]
   refine Zba (T' := fun o => if o < nz then T3 o else .dead) (fun o => by by_cases ho : o < nz <;> simp [ho]) ?_
   generalize hT4 : (fun o => if o < nz then T3 o else Ob.dead) = T4
   have q4 : ∀ o, o < nz → T4 o = T3 o := fun o ho => by rw [← hT4]; simp [ho]
   have qd4 : zW nz T4 := fun o ho => by rw [← hT4]; simp; omega
   clear hT4
   rw [← qk qd4]
   refine zb ?_
   refine zp (k + 1, T4, Qb fs pr n) [] ⟨by dsimp only; omega, Ja fs hP n, by rw [hst, show 8 - (k + 1) = 7 - k from by omega], ⟨ws, hR3.other fun o ho => q4 o (by rw [(Ja fs hP n).1] at ho; omega)⟩, ?_, ?_, ⟨L v, .sl nz vD 1 0 pl.length, .sl (nz + 1) vF 1 0 fs.length, ?_⟩, fun o ho => ?_, qd4⟩ (by simp; omega) (by simp [zt k (by omega)]) rfl (by simp)
   ·dsimp only; rw [q4 _ (by omega), hT3' _ (.inl (by omega)), qo _ (by omega) (by omega)]; exact hT0
   ·dsimp only; rw [q4 _ (by omega), hT3' _ (.inl (by omega)), qo _ (by omega) (by omega)]; exact hT1
   ·dsimp only; rw [q4 _ (by omega), hT3' _ (.inl (by omega))]; exact q3
   ·dsimp only; rw [q4 _ (by omega), hT3' _ (.inl (by omega)), qo _ (by omega) (by omega)]; exact hTS o ho
 ·simp at hc
  obtain rfl : k = 8 := by omega
  rw [hst]
  refine zy (za (ze [] (zm x1 g1) ?_))
  show PW _ _ _ _ _ _ _ (ext _ _ _)
  refine Xe (o := nx + 1) 0 (by rw [zH (by omega)]; first | exact Store.set_same _ _ _ | exact hT1) rfl ?_
  rw [jZ _ (by omega)]
  try rw [Store.set_set]
  refine zg ⟨_, S, (by simp [zH (show nx + 1 < nz from by omega), Store.set_same]; rfl), ⟨by simp [zq, vr], rfl⟩, ?_⟩
  exact XO hd (by omega) fun o ho => by rw [Store.set_other _ _ _ _ (by omega)]; exact hTS o ho
open Go Go.Proofs Hp
def jg : List Int → Int
 | [] => -1
 | d :: ds => (d :: ds).getLast (by simp)
theorem Yf (ds : List Int) (d : Int) : jg (ds ++ [d]) = d := by
 cases ds with
 | nil => rfl
 | cons a ds => show (a :: (ds ++ [d])).getLast _ = d; rw [List.getLast_cons (by simp), List.getLast_append_of_ne_nil _ (by simp)]; rfl
def ZeA (c : Cust) (cap : Int) (last d : Int) : Prop := 0 ≤ (yE c last d).1 ∧ jV c (yE c last d).1 cap ≠ 0
inductive FilS (c : Cust) (cap : Int) (n : Nat) : List Int → Prop where
 | nil : FilS c cap n []
 | snoc {ds : List Int} {d : Int} (h : FilS c cap n ds) (h1 : jg ds < d) (h2 : d < n) (h3 : ZeA c cap (jg ds) d) : FilS c cap n (ds ++ [d])
theorem FilS.lo {c : Cust} {cap : Int} {n : Nat} {ds : List Int} (h : FilS c cap n ds) : -1 ≤ jg ds ∧ (∀ d ∈ ds, 0 ≤ d ∧ d < n ∧ d ≤ jg ds) := by
 induction h with
 | nil => exact ⟨by decide, by simp⟩
 | snoc h h1 h2 h3 ih =>
  rw [Yf]
  refine ⟨by omega, fun d hd => ?_⟩
  rcases List.mem_append.1 hd with hd | hd
  ·have := ih.2 d hd; omega
  ·rw [List.mem_singleton.1 hd]; omega
theorem FilS.inc {c : Cust} {cap : Int} {n : Nat} {ds : List Int} (h : FilS c cap n ds) : ds.Pairwise (· < ·) := by
 induction h with
 | nil => exact .nil
 | snoc h h1 h2 h3 ih =>
  rw [List.pairwise_append]
  refine ⟨ih, by simp, fun a ha b hb => ?_⟩
  rw [List.mem_singleton.1 hb]
  have := h.lo.2 a ha; omega
theorem V8 (c : Cust) (ds : List Int) : (yJ c ds).2 = jg ds := by
 rcases List.eq_nil_or_concat ds with rfl | ⟨l, d, rfl⟩
 ·rfl
 ·rw [List.concat_eq_append, Qg, Yf]; rfl
theorem V9 (c : Cust) : ∀ ds : List Int, (yJ c ds).1.map (·.d) = ds := by
 have : ∀ (ds : List Int) (st : List Visit × Int), (ds.foldl (vX c) st).1.map (·.d) = st.1.map (·.d) ++ ds := by
  intro ds
  induction ds with
  | nil => intro st; simp
  | cons d ds ih => intro st; rw [List.foldl_cons, ih]; simp [vX]
 intro ds
 unfold yJ; rw [this]; simp
theorem Zaa {c : Cust} (hc : CustFits c) {cap last d : Int} (h : ZeA c cap last d) : W (c.size - (yE c last d).1) = c.size - (yE c last d).1 ∧ 1 ≤ c.size - (yE c last d).1 ∧ c.size - (yE c last d).1 ≤ 2147483648 ∧ (c.rule = 1 → c.size - (yE c last d).1 ≤ cap) := by
 obtain ⟨h1, h2⟩ := h
 have hs := hc.size
 generalize (yE c last d).1 = th at *
 unfold jV at h2
 split at h2
 ·exact absurd rfl h2
 rename_i h3
 refine ⟨wr _ (by omega) (by omega), by omega, by omega, fun hr => ?_⟩
 split at h2
 ·assumption
 ·first | exact absurd rfl h2 | exact absurd hr (by assumption) | (rw [if_pos hr] at h2; exact absurd rfl h2)
theorem ZeB {c : Cust} (hc : CustFits c) {cap : Int} {n : Nat} (hn : n ≤ 60) {ds : List Int} (h : FilS c cap n ds) : GoodV n (yJ c ds).1 := by
 have hlen : ds.length ≤ 64 := by
  have h1 := Zel (m := n) ds (h.inc.imp fun h => Int.ne_of_lt h) (fun d hd => by have := h.lo.2 d hd; omega)
  omega
 refine ⟨by rw [Zeu]; exact hlen, ?_, by rw [V9]; exact h.inc.imp fun h => Int.ne_of_lt h⟩
 induction h with
 | nil => intro s hs; cases hs
 | @snoc ds d h h1 h2 h3 ih =>
  intro s hs
  rw [Qg] at hs
  simp only [vX] at hs
  rcases List.mem_append.1 hs with hs | hs
  ·exact ih (by simp at hlen; omega) s hs
  ·rw [List.mem_singleton.1 hs]
   rw [V8]
   obtain ⟨q1, q2, q3, -⟩ := Zaa hc h3
   have := h.lo.1
   refine ⟨by dsimp only; omega, ?_⟩
   dsimp only
   rw [q1]; omega
def ZB (tab : List Stp) : Nat → Int → List Int
 | 0, _ => []
 | f + 1, d => if d < 0 then [] else d :: ZB tab f (tab.getD d.toNat zs).l
def XP (c : Cust) (n : Nat) (cap : Int) (tab : List Stp) : Prop := ∀ (d : Nat) (e : Stp), tab[d]? = some e → e ≠ zs → -1 ≤ e.l ∧ e.l < d ∧ (0 ≤ e.l → tab.getD e.l.toNat zs ≠ zs) ∧ 0 ≤ (yE c e.l d).1 ∧ (d < n → jV c (yE c e.l d).1 cap ≠ 0)
theorem ZeC (c : Cust) (n : Nat) (cap : Int) (price : List Int) : ∀ k, XP c n cap (qU c n cap price k)
 | 0 => by intro d e h; cases h
 | k + 1 => by
  have ih := ZeC c n cap price k
  have hl := Jd c n cap price k
  have he := XM c n cap price (qU c n cap price k) k (k + 1)
  have hok := V7 c n cap price (k + 1)
  intro d e h hne
  have hok := hok d e h
  simp only [qU] at h hok ⊢
  rcases hok with q | ⟨-, q2, q3, q4⟩
  ·exact absurd q hne
  refine ⟨q2, q3, q4, ?_⟩
  by_cases hd : d < k
  ·rw [List.getElem?_append_left (by omega)] at h
   exact (ih d e h hne).2.2.2
  ·rw [List.getElem?_append_right (by omega), hl] at h
   obtain rfl : d = k := by
    rcases Nat.lt_or_ge (d - k) 1 with q | q
    ·omega
    ·rw [List.getElem?_eq_none (by simpa using q)] at h; cases h
   rw [Nat.sub_self] at h
   simp only [List.getElem?_cons_zero, Option.some.injEq] at h
   subst h
   rcases he with q | ⟨-, -, -, p4⟩
   ·exact absurd q hne
   ·have := p4.2
    exact ⟨by omega, fun hdn hm => this (.inr ⟨hdn, hm⟩)⟩
theorem Zab {c : Cust} {n : Nat} {cap : Int} {tab : List Stp} (h : XP c n cap tab) : ∀ (f : Nat) (d : Int), -1 ≤ d → d < f → d < n → (0 ≤ d → tab.getD d.toNat zs ≠ zs) → FilS c cap n (ZB tab f d).reverse ∧ jg (ZB tab f d).reverse = d
 | 0, d, h1, h2, _, _ => by
  obtain rfl : d = -1 := by omega
  exact ⟨.nil, rfl⟩
 | f + 1, d, h1, h2, h3, h4 => by
  unfold ZB
  by_cases hd : d < 0
  ·rw [if_pos hd]
   obtain rfl : d = -1 := by omega
   exact ⟨.nil, rfl⟩
  ·rw [if_neg hd, List.reverse_cons]
   have h4 := h4 (by omega)
   obtain ⟨i, rfl⟩ := Int.eq_ofNat_of_zero_le (show 0 ≤ d by omega)
   rw [Int.toNat_natCast] at h4 ⊢
   have he : ∃ e, tab[i]? = some e ∧ tab.getD i zs = e := by
    cases hq : tab[i]? with
    | none => exfalso; apply h4; rw [List.getD_eq_getElem?_getD, hq]; rfl
    | some e => exact ⟨e, rfl, by rw [List.getD_eq_getElem?_getD, hq]; rfl⟩
   obtain ⟨e, he1, he2⟩ := he
   rw [he2] at h4 ⊢
   obtain ⟨g1, g2, g3, g4, g5⟩ := h i e he1 h4
   obtain ⟨p1, p2⟩ := Zab h f e.l g1 (by omega) (by omega) g3
   exact ⟨.snoc p1 (by rw [p2]; exact g2) h3 (by rw [p2]; exact ⟨g4, g5 (by omega)⟩), Yf _ _⟩
theorem Zm1 (s : Nat) (d i : Nat) (hd : d < 64) : yR (jT s d) i = 1 ↔ yR s i = 1 ∨ i = d := by
 have h : ((jT s d).testBit i) = (s.testBit i || decide (d = i)) := by
  unfold jT
  rw [if_pos (by omega), Int.toNat_natCast, Nat.testBit_or, Nat.testBit_two_pow]
 rw [Y6, Y6] at h
 have h2 : decide (yR (jT s d) i = 1) = (decide (yR s i = 1) || decide (d = i)) := by simpa using h
 constructor
 ·intro q
  rw [decide_eq_true q] at h2
  have := h2.symm
  rw [Bool.or_eq_true, decide_eq_true_eq, decide_eq_true_eq] at this
  omega
 ·intro q
  have : (decide (yR s i = 1) || decide (d = i)) = true := by
   rw [Bool.or_eq_true, decide_eq_true_eq, decide_eq_true_eq]; omega
  rw [this] at h2
  exact of_decide_eq_true h2
theorem ZeD {c : Cust} {n : Nat} {cap : Int} {tab : List Stp} (h : XP c n cap tab) (hn : n ≤ 60) : ∀ (f s : Nat) (d : Int), -1 ≤ d → d < n → (0 ≤ d → tab.getD d.toNat zs ≠ zs) → ∀ i : Nat, yR (wH tab f s d) i = 1 ↔ yR s i = 1 ∨ (i : Int) ∈ ZB tab f d
 | 0, s, d, _, _, _ => fun i => by simp [wH, ZB]
 | f + 1, s, d, h1, h3, h4 => fun i => by
  unfold wH ZB
  by_cases hd : d < 0
  ·rw [if_pos hd, if_pos hd]; simp
  ·rw [if_neg hd, if_neg hd]
   have h4 := h4 (by omega)
   obtain ⟨k, rfl⟩ := Int.eq_ofNat_of_zero_le (show 0 ≤ d by omega)
   rw [Int.toNat_natCast] at h4 ⊢
   have he : ∃ e, tab[k]? = some e ∧ tab.getD k zs = e := by
    cases hq : tab[k]? with
    | none => exfalso; apply h4; rw [List.getD_eq_getElem?_getD, hq]; rfl
    | some e => exact ⟨e, rfl, by rw [List.getD_eq_getElem?_getD, hq]; rfl⟩
   obtain ⟨e, he1, he2⟩ := he
   rw [he2] at h4 ⊢
   obtain ⟨g1, g2, g3, -⟩ := h k e he1 h4
   rw [ZeD h hn f _ e.l g1 (by omega) g3 i, Zm1 s k i (by omega), List.mem_cons, Int.natCast_inj, or_assoc]
theorem Zm2 : ∀ {a b : List Int}, a.Pairwise (· < ·) → b.Pairwise (· < ·) → (∀ z, z ∈ a ↔ z ∈ b) → a = b := by
 intro a b ha hb h
 have hp : a.Perm b := (List.perm_ext_iff_of_nodup (ha.imp fun h => Int.ne_of_lt h) (hb.imp fun h => Int.ne_of_lt h)).2 h
 exact ZcQ hp (ha.imp fun h => Int.le_of_lt h) (hb.imp fun h => Int.le_of_lt h)
theorem ZeE (s a k : Nat) : (yy s a k).Pairwise (· < ·) := by
 unfold yy
 rw [List.pairwise_map]
 have h : (List.range k).Pairwise (· < ·) := List.pairwise_lt_range
 exact (h.sublist List.filter_sublist).imp fun h => by omega
theorem Zm3 {c : Cust} {n : Nat} {cap : Int} {tab : List Stp} (h : XP c n cap tab) (hn : n ≤ 60) {d : Int} (h1 : -1 ≤ d) (h3 : d < n) (h4 : 0 ≤ d → tab.getD d.toNat zs ≠ zs) : yy (wH tab 65 0 d) 0 64 = (ZB tab 65 d).reverse := by
 obtain ⟨hf, -⟩ := Zab h 65 d h1 (by omega) h3 h4
 refine Zm2 (ZeE _ _ _) hf.inc fun z => ?_
 have hb := ZeD h hn 65 0 d h1 h3 h4
 have h0 : ∀ i, ¬ yR 0 i = 1 := by intro i; simp [yR]
 rw [List.mem_reverse]
 constructor
 ·intro hz
  obtain ⟨i, rfl, _, hi⟩ := Z7 hz
  exact ((hb i).1 hi).resolve_left (h0 i)
 ·intro hz
  have hlo := hf.lo.2 z (List.mem_reverse.2 hz)
  obtain ⟨i, rfl⟩ := Int.eq_ofNat_of_zero_le hlo.1
  simp only [yy, List.mem_map, List.mem_filter, List.mem_range, Bool.and_eq_true, decide_eq_true_eq]
  exact ⟨i, ⟨by omega, by omega, (hb i).2 (.inr hz)⟩, rfl⟩
theorem ZeF {c : Cust} {n : Nat} (hn : n ≤ 60) {cap : Int} {price : List Int} (h : (ZA c n cap price).2 = true) : ∃ ds, FilS c cap n ds ∧ 0 ≤ (yE c (jg ds) n).1 ∧ (ZA c n cap price).1 = (yJ c ds).1 := by
 have hfit := ZeC c n cap price (n + 1)
 have hl := Jd c n cap price (n + 1)
 unfold ZA at h ⊢
 generalize qU c n cap price (n + 1) = tab at *
 split at h
 ·cases h
 rename_i hne
 rw [if_neg hne]
 have he : ∃ e, tab[n]? = some e ∧ tab.getD n zs = e := ⟨_, List.getElem?_eq_getElem (by omega), by rw [List.getD_eq_getElem?_getD, List.getElem?_eq_getElem (by omega)]; rfl⟩
 obtain ⟨e, he1, he2⟩ := he
 rw [he2] at hne ⊢
 obtain ⟨g1, g2, g3, g4, -⟩ := hfit n e he1 hne
 obtain ⟨p1, p2⟩ := Zab hfit 65 e.l g1 (by omega) g2 g3
 exact ⟨_, p1, by rw [p2]; exact g4, by rw [Zm3 hfit hn g1 g2 g3]⟩
def qb (n : Nat) (cap : Int) (c : Cust) (price : List Int) : List Visit × Bool :=
 if c.kind = 1 then we c cap price else if c.rule = 1 then ZA c n cap price else Yc c n cap price
theorem ZeG {S : Store} {pl : PV} {price : List Int} (c : Cust) (n : Nat) (cap : Int) (hR : RowOf S pl price) (hp : ∀ z ∈ price, zU z) (hpl : price.length ≤ 1000) (hm : CustMade c n) (hpc : c.pats.length ≤ 1000) (hn : n ≤ 60) :
  Spec Tryz.prog 111 [.agg (zZ c), I n, I cap, pl] S (fun q S' => q = .tup [L (qb n cap c price).1, B (qb n cap c price).2] ∧ S' = S) := by
 unfold qb
 by_cases hk : c.kind = 1
 ·rw [if_pos hk]
  exact ZmJ c n cap hk hR hp hpl hpc hm.pats
 rw [if_neg hk]
 by_cases hr : c.rule = 1
 ·rw [if_pos hr]
  have hs := fun S (hR : RowOf S pl price) => ZmY c n cap hR hm.fits hn
  generalize ZA c n cap price = r at *
  obtain ⟨v, ok⟩ := r
  simp only at hs ⊢
  refine yU Tryz.func111 Tryz.ntmps111 Tryz.results111 fun nx hd => ?_
  refine za (zb ?_)
  intro v0
  refine za (zj (za (ze [] hk ?_)))
  refine zn (by simp [hk]) ?_
  refine za (ze [] hr ?_)
  refine zo (by simp [hr]) ?_
  refine za (zV [] (by rfl) (by rfl) fun K Gc Gh hK hGc hGh X hX0 hX => ?_)
  simp -implicitDefEqProofs [hX0, hX]
  try clear hX0 hX X
  refine hGc _ _ _ _ _ _ _ fun hsuf => ((hs _ (hR.ext hd _)).mono ?_).v
  rintro _ _ ⟨rfl, rfl⟩
  refine ⟨_, _, rfl, ?_⟩
  clear hGc hGh
  clear Gc Gh
  refine zR hsuf (D := []) (by rfl) fun Gc Gh hGc hGh X hX0 hX => ?_
  simp -implicitDefEqProofs [hX0, hX]
  clear hX0 hX X
  refine hK _ _ _ ?_
  clear hK hGc hGh
  clear K Gc Gh
  exact zg ⟨_, S, (by simp; rfl), ⟨by simp [zq], rfl⟩, yb hd⟩
 ·rw [if_neg hr]
  have hs := fun S (hR : RowOf S pl price) => ZmP c n cap hR hm.fits (by omega)
  generalize Yc c n cap price = r at *
  obtain ⟨v, ok⟩ := r
  simp only at hs ⊢
  refine yU Tryz.func111 Tryz.ntmps111 Tryz.results111 fun nx hd => ?_
  refine za (zb ?_)
  intro v0
  refine za (zj (za (ze [] hk ?_)))
  refine zn (by simp [hk]) ?_
  refine za (ze [] hr ?_)
  refine zn (by simp [hr]) ?_
  refine zh (za (zV [] (by rfl) (by rfl) fun K Gc Gh hK hGc hGh X hX0 hX => ?_))
  simp -implicitDefEqProofs [hX0, hX]
  try clear hX0 hX X
  refine hGc _ _ _ _ _ _ _ fun hsuf => ((hs _ (hR.ext hd _)).mono ?_).v
  rintro _ _ ⟨rfl, rfl⟩
  refine ⟨_, _, rfl, ?_⟩
  clear hGc hGh
  clear Gc Gh
  refine zR hsuf (D := []) (by rfl) fun Gc Gh hGc hGh X hX0 hX => ?_
  simp -implicitDefEqProofs [hX0, hX]
  clear hX0 hX X
  refine hK _ _ _ ?_
  clear hK hGc hGh
  clear K Gc Gh
  exact zg ⟨_, S, (by simp; rfl), ⟨by simp [zq], rfl⟩, yb hd⟩
theorem Zm4 {c : Cust} {n : Nat} (hm : CustMade c n) (hk : c.kind = 1) {p : Nat} (hp : p ∈ c.pats) : GoodV n (jK c p) := by
 obtain ⟨h1, h2⟩ := hm.per hk
 refine ⟨by simp only [jK, List.length_map]; exact Q5 _ _ _, fun s hs => ?_, by simp only [jK, List.map_map]; exact (by simpa [Function.comp_def] using Zl8 p 0 64)⟩
 simp only [jK, List.mem_map] at hs
 obtain ⟨d, hd, rfl⟩ := hs
 have h0 : 0 ≤ d := by
  simp only [yy, List.mem_map] at hd
  obtain ⟨i, _, rfl⟩ := hd; omega
 exact ⟨⟨h0, h1 p hp d hd⟩, h2⟩
theorem ZeH {c : Cust} {cap : Int} {price : List Int} (h : (we c cap price).2 = true) : ∃ p ∈ c.pats, (p = 0 ∨ c.demand ≤ cap) ∧ (we c cap price).1 = jK c p := by
 unfold we at h ⊢
 split at h
 ·cases h
 rename_i hn
 rw [if_neg hn]
 have hb := V5 price (jL c cap) (jL c cap).length
 have hlt : (qJ price (jL c cap) (jL c cap).length).1.toNat < (jL c cap).length := by omega
 have hm : (jL c cap).getD (qJ price (jL c cap) (jL c cap).length).1.toNat 0 ∈ jL c cap := by
  rw [List.getD_eq_getElem?_getD, List.getElem?_eq_getElem hlt]; exact List.getElem_mem hlt
 obtain ⟨h1, h2⟩ := List.mem_filter.1 hm
 exact ⟨_, h1, by simpa using h2, rfl⟩
theorem XT {c : Cust} {n : Nat} (hm : CustMade c n) (hn : n ≤ 60) (cap : Int) (price : List Int) (h : (qb n cap c price).2 = true) : GoodV n (qb n cap c price).1 := by
 unfold qb at h ⊢
 by_cases hk : c.kind = 1
 ·rw [if_pos hk] at h ⊢
  obtain ⟨p, hp, -, e⟩ := ZeH h
  rw [e]; exact Zm4 hm hk hp
 rw [if_neg hk] at h ⊢
 by_cases hr : c.rule = 1
 ·rw [if_pos hr] at h ⊢
  obtain ⟨ds, h1, -, e⟩ := ZeF hn h
  rw [e]; exact ZeB hm.fits hn h1
 ·rw [if_neg hr] at h ⊢
  have hD : GoodV n (yn 0 (vq c n cap).1) := Zd8 (Ya hm.fits (XK hm.fits cap) n).2 (Nat.le_of_eq (Z9 _ _ _)) (by omega)
  have hL : GoodV n (yn 0 (vW c n cap).1) := Zd8 (Ya hm.fits (XL hm.fits cap) n).2 (Nat.le_of_eq (Z9 _ _ _)) (by omega)
  unfold Yc at h ⊢
  split
  ·exact hL
  ·rename_i h1
   rw [if_neg h1] at h
   split
   ·exact hD
   ·rename_i h2; rw [if_neg h2] at h; cases h
structure InstA (x : Inst) (n : Nat) : Prop where
 h : InstH x
 days : x.days = n
 n60 : n ≤ 60
 made : ∀ c ∈ x.cust, CustMade c n
 pats : ∀ c ∈ x.cust, c.pats.length ≤ 1000
theorem Zm5 {x : Inst} {n : Nat} (h : InstA x n) : VZ x n (qb n x.cap) := by
 intro c hc l hl hi S pl hR
 rw [h.days]
 have := h.n60
 exact ZeG c n x.cap hR hi (by omega) (h.made c hc) (h.pats c hc) h.n60
theorem ZeI {x : Inst} {sol : Cust → List Int → List Visit × Bool} {pr : List (List Int)} (h : (qa x sol pr).2 = 0) : (qa x sol pr).1.length = x.cust.length ∧ ∀ i c, x.cust[i]? = some c → (qa x sol pr).1[i]? = some (sol c (pr.getD i [])).1 ∧ (sol c (pr.getD i [])).2 = true := by
 unfold qa at h ⊢
 split at h
 ·rename_i hall
  rw [if_pos hall]
  refine ⟨by simp [wX], fun i c hc => ?_⟩
  have hi := (List.getElem?_eq_some_iff.1 hc).1
  have hg : x.cust.getD i default = c := by rw [List.getD_eq_getElem?_getD, hc]; rfl
  refine ⟨by simp only [wX, List.map_map, List.getElem?_map, List.getElem?_range hi, Option.map_some, Function.comp_apply, hg], ?_⟩
  have := List.all_eq_true.1 hall _ (Zeh x sol pr hi)
  rw [hg] at this; exact this
 ·cases h
theorem ZeJ {x : Inst} {n : Nat} (h : InstA x n) : Zez x n (qb n x.cap) := by
 intro pr hP h0
 obtain ⟨h1, h2⟩ := ZeI h0
 have key : ∀ l ∈ (qa x (qb n x.cap) pr).1, GoodV n l := by
  intro l hl
  obtain ⟨i, hi, rfl⟩ := List.getElem_of_mem hl
  have hic : i < x.cust.length := by omega
  obtain ⟨e1, e2⟩ := h2 i _ (List.getElem?_eq_getElem hic)
  rw [List.getElem?_eq_getElem hi] at e1
  rw [Option.some.inj e1]
  exact XT (h.made _ (List.getElem_mem hic)) h.n60 _ _ e2
 exact ⟨h1, fun l hl w hw => (key l hl).ok w hw, fun l hl => (key l hl).nd, fun l hl => by have := (key l hl).len; omega⟩
def yp (x : Inst) (b : Int) : zu × Int := Ye x (qb x.days.toNat x.cap) b x.days.toNat
theorem ZeK {x : Inst} {n : Nat} (h : InstA x n) {b : Int} (hb : b ≤ 9223372036854775807) : Pure Tryz.prog 31 [.agg (zA x), I b] (.tup [.agg [L (yp x b).1], I (yp x b).2]) := by
 have hd : x.days.toNat = n := by rw [h.days]; rfl
 unfold yp
 rw [hd]
 exact Zm0 h.h h.days (by have := h.n60; omega) (Zm5 h) (ZeJ h) hb
theorem Zm6 (x : Inst) (c l : Int) : InstA (ZmA x 6 c l) (zO x).days.toNat := by
 have hd := Z8 x
 refine ⟨⟨Nat.le_trans (Va x) (by decide), Zdy x, Zdr x, by show (0 : Int) ≤ 6; decide⟩, ?_, by omega, fun c hc => ?_, fun c hc => ?_⟩
 ·show (zO x).days = _; omega
 ·obtain ⟨c0, rfl⟩ := Qd x hc
  exact Zek c0 _ hd.1 hd.2
 ·obtain ⟨c0, rfl⟩ := Qd x hc
  unfold qz
  split
  ·simp
  ·simp only [vH]; split
   ·simp
   ·simp; omega
theorem XU (x : Inst) : InstA (zO x) (zO x).days.toNat := by
 have hd := Z8 x
 have h := Zm6 x (zO x).cap (zO x).len
 exact ⟨⟨Nat.le_trans (Va x) (by decide), Zdy x, Zdr x, Zk9 x⟩, by omega, h.n60, h.made, h.pats⟩
open Go Go.Proofs Hp
def Yg (c : Int) (p : zu) : zu := p.map (ju c)
theorem Zm7 (p : zu) (c : Int) (hp : p.length ≤ 1000) (hd0 : ∀ d ∈ p, d.length ≤ 1048576) (ht : ∀ d ∈ p, ∀ t ∈ d, t.length ≤ 1048576) : Pure Tryz.prog 23 [.agg [L p], I c] (.agg [L (Yg c p)]) := by
 unfold Yg
 refine zx Tryz.func23 Tryz.ntmps23 Tryz.results23 fun S nx hd => ?_
 refine za (zb ?_)
 intro v0 v1
 refine za (zb ?_)
 intro v2
 refine qQ 2 0 58 1 rfl rfl fun v3 => ?_
 repeat apply za
 refine zb ?_
 refine zj (zG (fun s : Nat × zu × Nat => s.1 ≤ p.length ∧ s.2.1 = (p.take s.1).map (ju c)) (fun (k, q, w) => [(1, I c), (4, .ptr (nx + 1) v1 0), (5, .ptr (nx + 2) v2 0), (11, L p), (12, I p.length), (13, I k)]) (fun (k, q, w) => [.cells v0 38 [L p], .cells v1 38 [yG], .cells v2 38 [.sl (nx + 3) w 1 0 q.length], .cells w 58 (q.flatMap Enc.enc)]) (fun s => p.length - s.1) (0, [], v3) [] (by simp) (by simp) (by simp) ?_)
 rintro ⟨k, q, w⟩ ⟨hk, hq⟩
 simp only at hk hq ⊢
 have hql : q.length = k := by rw [hq]; simp; omega
 refine za (zb ?_)
 refine za (zr rfl (fun hc => ?_) (fun hc => ?_))
 ·simp at hc
  obtain ⟨d, tl, a1, a2, a3, e0⟩ := zE rfl p k hc
  have hdm := List.mem_of_getElem? a1
  have hr := Zkk d c (hd0 d hdm) (ht d hdm)
  generalize hrd : ju c d = rd at hr
  have hk1 : 1 ≤ p.length - k := by omega
  have hqf : (q.flatMap Enc.enc : List PV).length = q.length := jp q
  have hqt : (q.flatMap Enc.enc : List PV).take q.length = q.flatMap Enc.enc := List.take_of_length_le (by omega)
  refine zh (za (zj (za (ze [] (zF hc e0 hk1) ?_))))
  intro v4
  refine za (zb ?_)
  refine zz hr ?_
  intro v5
  refine ze [] (zm hqf hqt) ?_
  refine ⟨by omega, ?_⟩
  refine zb ?_
  exact zp (k + 1, q ++ [rd], w + 1) [_, _] ⟨hc, by rw [a3, List.map_append, hq, ← hrd]; rfl⟩ (by simp; omega) (by simp [zt k (by omega)]) rfl (by simp; exact ⟨rfl, rfl⟩)
 ·simp at hc
  obtain rfl : k = p.length := by omega
  rw [List.take_length] at hq
  refine zy (yc 3 rfl ?_)
  refine za (zb ?_)
  exact zg (zk hd (by simp; rfl) (by simp [zq, hq]))
open Go Go.Proofs Hp
def xR (x : Inst) (c : Nat) : Stop := ⟨c, if (x.cust.getD c default).kind = 1 then (x.cust.getD c default).demand else 1⟩
def xv (x : Inst) (s : Stop) (d : zi) : Int := if (yC x d s).2 = true then max 0 (W (W (zM x (yC x d s).1) - W (zM x d))) else 4294967296
theorem ZeL (x : Inst) (c : Int) : Pure Tryz.prog 56 [.agg (zA x), I c] (B (decide (0 ≤ c) && decide (c < x.cust.length))) := by
 refine zx Tryz.func56 Tryz.ntmps56 Tryz.results56 fun S nx hd => ?_
 refine za (zb ?_)
 intro v0
 by_cases h : 0 ≤ c
 ·by_cases h2 : c < x.cust.length
  ·refine za (ze [(2, 7)] (zm h h2) ?_)
   exact zg (zk hd rfl (by simp [zq, h, h2]))
  ·refine za (ze [(2, 7)] (zm h h2) ?_)
   exact zg (zk hd rfl (by simp [zq, h, h2]))
 ·refine za (ze [(2, 7)] (zm h zL) ?_)
  exact zg (zk hd rfl (by simp [zq, h]))
open Go Go.Proofs Hp
theorem Zm8 {x : Inst} {p : zu} (h : Q7 x p = 0) : Q6 x = true ∧ (p.length : Int) = x.days ∧ (∀ d ∈ p, yq x d = 0) ∧ ∀ i, i < x.cust.length → XE x p i = 0 := by
 unfold Q7 at h
 split at h
 ·cases h
 split at h
 ·cases h
 rename_i h1 h2
 split at h
 ·rename_i h3; exact absurd h h3
 rename_i h3
 refine ⟨by simpa using h1, Classical.not_not.1 h2, fun d hd => (VS _).1 (Classical.not_not.1 h3) _ (List.mem_map.2 ⟨d, hd, rfl⟩), fun i hi => (VS _).1 h _ (List.mem_map.2 ⟨i, List.mem_range.2 hi, rfl⟩)⟩
theorem Zm9 {x : Inst} {p : zu} (h1 : Q6 x = true) (h2 : (p.length : Int) = x.days) (h3 : ∀ d ∈ p, yq x d = 0) (h4 : ∀ i, i < x.cust.length → XE x p i = 0) : Q7 x p = 0 := by
 unfold Q7
 rw [if_neg (by simp [h1]), if_neg (by simp [h2])]
 have e : jU (p.map (yq x)) = 0 := XF fun e he => by obtain ⟨d, hd, rfl⟩ := List.mem_map.1 he; exact h3 d hd
 rw [if_neg (by simp [e])]
 exact XF fun e he => by obtain ⟨i, hi, rfl⟩ := List.mem_map.1 he; exact h4 i (List.mem_range.1 hi)
theorem Yh {x : Inst} (hx : x.cust.length ≤ 900) {d : zi} (h : yq x d = 0) : d.flatten.length ≤ x.cust.length ∧ d.length ≤ x.cust.length ∧ RgOk x d [⟨0, 0⟩] := by
 obtain ⟨h1, h2, h3⟩ := (xo x d).1 h
 have hg := ZdY h
 have hl := Zel (m := x.cust.length) _ h2 (fun c hc => by
  obtain ⟨s, hs, rfl⟩ := List.mem_map.1 hc
  have := hg s hs
  simp [q9] at this
  omega)
 rw [List.length_map] at hl
 have hn := Xn h
 have hd := Zei d hn
 refine ⟨hl, by omega, ⟨by omega, fun t ht => ?_, fun t ht s hs => ?_⟩, h, by rw [List.length_singleton]; omega⟩
 ·have := XJ d t ht; omega
 ·have := hg s (ZmB ht hs)
  simp [q9] at this
  unfold small; omega
theorem ZeM {x : Inst} (hx : x.cust.length ≤ 900) (ha : qH x) (hv : 0 ≤ x.veh) {d : zi} (h : yq x d = 0) : SOk x d.flatten ∧ SG x d.flatten d := by
 obtain ⟨h1, h2, h3⟩ := (xo x d).1 h
 obtain ⟨g1, g2, g3⟩ := Yh hx h
 refine ⟨⟨by omega, ha, hv, by omega, fun s hs => ?_, h2⟩, ⟨h1, .refl _⟩⟩
 obtain ⟨t, ht, hst⟩ := List.mem_flatten.1 hs
 exact g3.ok.s t ht s hst
theorem Zna (c : Int) (d : zi) : (ju c d).flatten = d.flatten.filter fun s => decide (s.c ≠ c) := by
 unfold ju
 have : ∀ l : zi, (l.filter fun t => !t.isEmpty).flatten = l.flatten := by
  intro l
  induction l with
  | nil => rfl
  | cons t l ih => cases t <;> simp [List.filter_cons, ih]
 rw [this]
 induction d with
 | nil => rfl
 | cons t d ih => simp only [List.map_cons, List.flatten_cons, List.filter_append, ih]; rfl
theorem ZeN {size rate : Int} (hr : 0 ≤ rate) : ∀ (q : List Int) (there : Int) (l : List Int), yl size rate there q = some l → l.length = q.length ∧ ∀ z ∈ l, 0 ≤ z ∧ z ≤ size
 | [], _, l, h => by simp [yl] at h; subst h; simp
 | q :: qs, there, l, h => by
  unfold yl at h
  split at h
  ·cases h
  ·rename_i hc
   obtain ⟨m, hm, rfl⟩ := Option.map_eq_some_iff.1 h
   obtain ⟨h1, h2⟩ := ZeN hr qs _ m hm
   refine ⟨by simp [h1], fun z hz => ?_⟩
   rcases List.mem_cons.1 hz with rfl | hz
   ·omega
   ·exact h2 z hz
theorem ZeO {M : Int} : ∀ l : List Int, (∀ z ∈ l, 0 ≤ z ∧ z ≤ M) → 0 ≤ l.sum ∧ l.sum ≤ M * l.length
 | [], _ => by simp
 | a :: l, h => by
  have h1 := h a (by simp)
  have h2 := ZeO l fun z hz => h z (by simp [hz])
  simp only [List.sum_cons, List.length_cons]
  have e : M * ((l.length : Int) + 1) = M * l.length + M := by rw [Int.mul_add]; omega
  push_cast
  omega
structure CustSm (c : Cust) : Prop where
 rate : 0 ≤ c.rate
 size : 0 ≤ c.size ∧ c.size ≤ 2147483648
 hold : 0 ≤ c.hold ∧ c.hold ≤ 1024
theorem Znb {c : Cust} (h : CustSm c) (q : List Int) (hq : q.length ≤ 64) : 0 ≤ x6 c (yD c q).1 ∧ x6 c (yD c q).1 ≤ 140737488355328 := by
 have key : ∀ l : List Int, l.length ≤ 64 → (∀ z ∈ l, 0 ≤ z ∧ z ≤ c.size) → 0 ≤ x6 c l ∧ x6 c l ≤ 140737488355328 := by
  intro l hl hz
  have h1 := ZeO (M := 2147483648) l fun z hz' => by have := hz z hz'; have := h.size; omega
  have h2 : (2147483648 : Int) * l.length ≤ 137438953472 := by omega
  have w1 : W l.sum = l.sum := wr _ (by omega) (by omega)
  unfold x6
  rw [w1]
  have h3 := h.hold
  have h4 : 0 ≤ c.hold * l.sum := Int.mul_nonneg h3.1 h1.1
  have h5 : c.hold * l.sum ≤ 1024 * 137438953472 := Int.mul_le_mul h3.2 (by omega) h1.1 (by omega)
  have w2 : W (c.hold * l.sum) = c.hold * l.sum := wr _ (by omega) (by omega)
  rw [w2]; omega
 unfold yD
 split
 ·exact key [] (by simp) (by simp)
 ·cases hr : yl c.size c.rate c.start q with
  | none => exact key [] (by simp) (by simp)
  | some l =>
   obtain ⟨h1, h2⟩ := ZeN h.rate q _ l hr
   exact key l (by omega) h2
theorem ZeP {x : Inst} (h : ∀ c ∈ x.cust, CustSm c) (p : zu) : ∀ k : Nat, 0 ≤ qx x p k ∧ qx x p k ≤ 140737488355328 * (k : Int)
 | 0 => by simp [qx]
 | k + 1 => by
  have h1 := ZeP h p k
  rw [V1]
  have h2 : 0 ≤ wF x p k ∧ wF x p k ≤ 140737488355328 := by
   unfold wF
   split
   ·omega
   ·rename_i c hc
    split
    ·exact Znb (h c (List.mem_of_getElem? hc)) _ (by rw [Q3]; omega)
    ·omega
  push_cast
  omega
theorem ZeQ {x : Inst} (ha : qH x) : ∀ p : zu, (∀ d ∈ p, d.flatten.length ≤ 1000 ∧ d.length ≤ 1000) → 0 ≤ (p.map (zM x)).sum ∧ (p.map (zM x)).sum ≤ 4294967296000 * (p.length : Int)
 | [], _ => by simp
 | d :: p, h => by
  have h1 := h d (by simp)
  have h2 := ZeQ ha p fun e he => h e (by simp [he])
  have h3 := Vg ha d
  simp only [List.map_cons, List.sum_cons, List.length_cons]
  push_cast
  omega
theorem ZeR {x : Inst} (ha : qH x) (hc : ∀ c ∈ x.cust, CustSm c) (hx : x.cust.length ≤ 900) {p : zu} (hl : p.length ≤ 1000) (h : ∀ d ∈ p, yq x d = 0) : yI x p = qx x p x.cust.length + (p.map (zM x)).sum := by
 have h1 := ZeP hc p x.cust.length
 have h2 := ZeQ ha p fun d hd => by have := Yh hx (h d hd); omega
 exact wr _ (by omega) (by omega)
theorem Znc (x : Inst) : ∀ c ∈ (zO x).cust, CustSm c := by
 intro c hc
 obtain ⟨c0, rfl⟩ := Qd x hc
 unfold qz
 split
 ·have a := qG c0.rate 0 9 (by omega)
  have b := qG c0.size 1 30 (by omega)
  have f := qG c0.hold 0 4 (by omega)
  exact ⟨by dsimp only; omega, by dsimp only; omega, by dsimp only; omega⟩
 ·exact ⟨by simp, by simp, by simp⟩
open Go Go.Proofs Hp
theorem Zac {α : Type} [Enc α] (id v : Nat) (cs : List PV) (l : List (List α)) : (l.flatMap Enc.enc).map (yZ id v cs) = (l.flatMap Enc.enc : List PV) := by
 refine (List.map_congr_left fun p hp => ?_).trans (List.map_id _)
 obtain ⟨t, _, ht⟩ := List.mem_flatMap.1 hp
 rw [ZgB, List.mem_singleton] at ht
 subst ht
 rfl
theorem Zad (p : zu) (hp : p.length ≤ 1000) (hd0 : ∀ d ∈ p, d.length ≤ 1000) (ht : ∀ d ∈ p, ∀ t ∈ d, t.length ≤ 1000) {S : Store} {nx : Nat} (hd : zW nx S) :
  Spec Tryz.prog 61 [.agg [L p]] S (fun q S' => ∃ v, q = .agg [.sl (nx + 3) v 1 0 p.length] ∧ S' = S.set (nx + 3) (.cells v 58 (p.flatMap Enc.enc))) := by
 refine ui hd Tryz.func61 Tryz.ntmps61 Tryz.results61 ?_
 refine za (zb ?_)
 intro v0 v1
 refine za (zb ?_)
 intro v2
 refine qQ 2 0 58 1 rfl rfl fun v3 => ?_
 repeat apply za
 refine zb ?_
 refine zj (zG (fun s : Nat × Nat => s.1 ≤ p.length) (fun (k, w) => [(2, .ptr (nx + 1) v1 0), (3, .ptr (nx + 2) v2 0), (10, L p), (11, I p.length), (12, I k)]) (fun (k, w) => [.cells v0 38 [L p], .cells v1 38 [yG], .cells v2 38 [.sl (nx + 3) w 1 0 k], .cells w 58 ((p.take k).flatMap Enc.enc)]) (fun s => p.length - s.1) (0, v3) [] (by simp) (by simp) (by simp) ?_)
 rintro ⟨k, w⟩ hk
 simp only at hk ⊢
 refine za (zb ?_)
 refine za (zr rfl (fun hc => ?_) (fun hc => ?_))
 ·simp at hc
  obtain ⟨d, tl, a1, a2, a3, e0⟩ := zE rfl p k hc
  have hdm := List.mem_of_getElem? a1
  have hdl := hd0 d hdm
  have hk1 : 1 ≤ p.length - k := by omega
  have htk : (p.take k).length = k := by rw [List.length_take]; omega
  generalize hpk : p.take k = pk at *
  have hqf : (pk.flatMap Enc.enc : List PV).length = k := (jp pk).trans htk
  have hqt : (pk.flatMap Enc.enc : List PV).take k = pk.flatMap Enc.enc := List.take_of_length_le (by omega)
  have hfp : ∀ id v cs, (pk.flatMap Enc.enc).map (yZ id v cs) = (pk.flatMap Enc.enc : List PV) := fun id v cs => Zac id v cs pk
  refine zh (za (zj (za (ze [] (zF hc e0 hk1) ?_))))
  intro v4
  refine za (zb ?_)
  intro v5
  refine qQ 5 0 72 1 rfl rfl fun v6 => ?_
  repeat apply za
  refine zb ?_
  refine zj (zG (fun s : Nat × Nat => s.1 ≤ d.length) (fun (j, w6) => [(2, .ptr (nx + 1) v1 0), (3, .ptr (nx + 2) v2 0), (6, .ptr (nx + 5) v5 0), (10, L p), (11, I p.length), (12, I k), (17, L d), (18, I d.length), (19, I j)])
   (fun (j, w6) => [.cells v0 38 [L p], .cells v1 38 [yG], .cells v2 38 [.sl (nx + 3) w 1 0 k], .cells w 58 (pk.flatMap Enc.enc), .cells v4 58 [L d], .cells v5 58 [.sl (nx + 6) w6 1 0 j], .cells w6 72 ((d.take j).flatMap Enc.enc)]) (fun s => d.length - s.1) (0, v6) [] (by simp) (by simp) (by simp) ?_)
  rintro ⟨j, w6⟩ hj
  simp only at hj ⊢
  refine za (zb ?_)
  refine za (zr rfl (fun hcj => ?_) (fun hcj => ?_))
  ·simp at hcj
   obtain ⟨t, tl2, b1, b2, b3, f0⟩ := zE rfl d j hcj
   have htl := ht d hdm t (List.mem_of_getElem? b1)
   have hj1 : 1 ≤ d.length - j := by omega
   have htj : (d.take j).length = j := by rw [List.length_take]; omega
   generalize hdj : d.take j = dj at *
   have hrf : (dj.flatMap Enc.enc : List PV).length = j := (jp dj).trans htj
   have hrt : (dj.flatMap Enc.enc : List PV).take j = dj.flatMap Enc.enc := List.take_of_length_le (by omega)
   have hfd : ∀ id v cs, (dj.flatMap Enc.enc).map (yZ id v cs) = (dj.flatMap Enc.enc : List PV) := fun id v cs => Zac id v cs dj
   have htf : (t.flatMap Enc.enc : List PV).length = t.length * 2 := Zf t
   refine zh (za (zj (za (ze [] (zF hcj f0 hj1) ?_))))
   intro v7
   refine zC (some [nx + 7]) (Row.pures [0, 2, 3] (.alt 1 (.alt 4 (Row.pures [5, 6] (.alt 7 (Row.pures [8] (.alt 9 (.done) .stop)) .stop)) .stop) (.alt 4 (Row.pures [5, 6] (.alt 1 (.alt 7 (Row.pures [8] (.alt 9 (.done) .stop)) .stop) .stop)) .stop))) mixed (zm hrf hrt) ?_
   refine ⟨⟨by omega, fun v8 => ⟨⟨by omega, by omega⟩, ?_⟩⟩, ⟨by omega, fun v8 => ⟨⟨by omega, by omega⟩, ?_⟩⟩⟩
   all_goals
    refine yc 8 rfl ?_
    simp only [List.map_cons, List.map_nil, List.set_cons_succ, List.set_cons_zero, jP, hfp, hfd, List.map_append]
    refine zb ?_
    exact zp (j + 1, w6 + 1) [_, _] (by simp; omega) (by simp; omega) (by simp [zt j (by omega)]) rfl (by simp [b3, yZ, htf]; exact ⟨rfl, rfl⟩)
  ·simp at hcj
   obtain rfl : j = d.length := by omega
   rw [List.take_length]
   have hfd : ∀ id v cs, (d.flatMap Enc.enc).map (yZ id v cs) = (d.flatMap Enc.enc : List PV) := fun id v cs => Zac id v cs d
   refine zy (yc 6 rfl ?_)
   simp only [List.map_cons, List.map_nil, List.set_cons_succ, List.set_cons_zero, jP, hfp, hfd]
   refine ze [] (zm hqf hqt) ?_
   refine ⟨by omega, ?_⟩
   refine zb ?_
   exact zp (k + 1, w + 1) [_, _, _] (by simp; omega) (by simp; omega) (by simp [zt k (by omega)]) rfl (by simp [a3]; exact ⟨rfl, rfl, rfl⟩)
 ·simp at hc
  obtain rfl : k = p.length := by omega
  rw [List.take_length]
  refine zy (za (zb ?_))
  exact zg ⟨_, _, (by simp; rfl), ⟨w, by simp [zq], rfl⟩, YC (j := 3) hd (by simp)⟩
theorem Znd (p : zu) (hp : p.length ≤ 1000) (hd0 : ∀ d ∈ p, d.length ≤ 1000) (ht : ∀ d ∈ p, ∀ t ∈ d, t.length ≤ 1000) : Pure Tryz.prog 61 [.agg [L p]] (.agg [L p]) :=
 Zbh (sz := 1) 3 (fun S nx hd => Zad p hp hd0 ht hd) (by rw [jp, Nat.mul_one])
def qV (x : Inst) (p : zu) (day b : Int) : zu × Bool :=
 if day < 0 ∨ (p.length : Int) ≤ day then (p, false)
 else if W (zM x (p.getD day.toNat [])) ≤ W (zM x (jS x b (p.getD day.toNat []))) then (p, false)
 else (p.set day.toNat (jS x b (p.getD day.toNat [])), true)
structure PlanM (x : Inst) (p : zu) : Prop where
 cust : x.cust.length ≤ 900
 inst : InstH x
 len : p.length ≤ 1000
 may : ∀ d ∈ p, yq x d = 0
theorem PlanM.sizes {x : Inst} {p : zu} (h : PlanM x p) : ∀ d ∈ p, d.length ≤ 1000 ∧ (∀ t ∈ d, t.length ≤ 1000) ∧ DayOk d ∧ d.flatten.length ≤ 1000 := by
 intro d hd
 obtain ⟨h1, h2, h3⟩ := Yh h.cust (h.may d hd)
 have := h.cust
 exact ⟨by omega, fun t ht => by have := XJ d t ht; omega, h3.ok, by omega⟩
theorem Zae {x : Inst} (hx : x.cust.length ≤ 900) (hi : InstH x) {d : zi} (h : yq x d = 0) (b : Int) : yq x (jS x b d) = 0 ∧ (jS x b d).flatten.Perm d.flatten ∧ zM x (jS x b d) ≤ zM x d := by
 obtain ⟨hs, hg⟩ := ZeM hx hi.arc hi.veh h
 obtain ⟨h1, h2, h3⟩ := Xu hs hi.diag b.toNat d hg
 obtain ⟨m1, m2, m3⟩ := (xo x d).1 h
 change SG x d.flatten (jS x b d) at h1
 change zM x (jS x b d) ≤ zM x d at h2
 change (jS x b d).length ≤ d.length at h3
 exact ⟨(xo x _).2 ⟨h1.may, (h1.perm.map _).nodup_iff.2 m2, by omega⟩, h1.perm, h2⟩
theorem Zne {x : Inst} (hx : x.cust.length ≤ 900) (hi : InstH x) {d : zi} (h : yq x d = 0) {b : Int} (hb : b ≤ 9223372036854775807) : ∃ k : Int, Pure Tryz.prog 62 [.agg (zA x), .agg [L d], I b] (.tup [.agg [L (jS x b d)], I k]) := by
 obtain ⟨hs, hg⟩ := ZeM hx hi.arc hi.veh h
 have o := hg.ok hs
 exact ⟨_, Zc3 x d b (wD x) (SG x d.flatten) hb o.n o.t (fun _ => hg) (Zdx hs hi.diag)⟩
theorem Znf {x : Inst} {p : zu} (h : PlanM x p) (day b : Int) (hb : b ≤ 9223372036854775807) :
  Pure Tryz.prog 28 [.agg (zA x), .agg [L p], I day, I b] (.tup [.agg [L (qV x p day b).1], B (qV x p day b).2]) := by
 have hsz := h.sizes
 have hpl := h.len
 refine zx Tryz.func28 Tryz.ntmps28 Tryz.results28 fun S nx hd => ?_
 refine za (zb ?_)
 intro v0 v1 v2
 refine za (zV [] (by rfl) (by rfl) fun K Gc Gh hK hGc hGh X hX0 hX => ?_)
 simp -implicitDefEqProofs [hX0, hX]
 try clear hX0 hX X
 refine hGc _ _ _ _ _ _ _ fun hsuf => ((Zad p h.len (fun d hd => (hsz d hd).1) (fun d hd => (hsz d hd).2.1) jO).mono ?_).v
 rintro _ _ ⟨v3, rfl, rfl⟩
 refine ⟨_, _, JX 3 _, ?_⟩
 clear hGc hGh
 clear Gc Gh
 refine zR hsuf (D := []) (by rfl) fun Gc Gh hGc hGh X hX0 hX => ?_
 simp -implicitDefEqProofs [hX0, hX, Nat.add_assoc]
 clear hX0 hX X
 intro v4
 refine hK _ _ _ ?_
 clear hK hGc hGh
 clear K Gc Gh
 by_cases h0 : day < 0
 ·have hz : qV x p day b = (p, false) := by unfold qV; rw [if_pos (.inl h0)]
  rw [hz]
  repeat apply za
  refine ze [(2, 17)] (zm h0 zL) ?_
  refine zo rfl (yc 6 rfl ?_)
  refine za (zb ?_)
  exact zg (zk hd (by simp; rfl) rfl)
 by_cases h1 : (p.length : Int) ≤ day
 ·have hz : qV x p day b = (p, false) := by unfold qV; rw [if_pos (.inr h1)]
  rw [hz]
  repeat apply za
  refine ze [(2, 17)] (zm h0 h1) ?_
  refine zo rfl (yc 6 rfl ?_)
  refine za (zb ?_)
  exact zg (zk hd (by simp; rfl) rfl)
 obtain ⟨k, rfl⟩ := Int.eq_ofNat_of_zero_le (show 0 ≤ day by omega)
 have hk : k < p.length := by omega
 obtain ⟨d, tl, a1, a2, a3, e0⟩ := zE rfl p k hk
 have hdm := List.mem_of_getElem? a1
 have hgd : p.getD (k : Int).toNat [] = d := by rw [Int.toNat_natCast, List.getD_eq_getElem?_getD, a1]; rfl
 have hz : qV x p k b = if W (zM x d) ≤ W (zM x (jS x b d)) then (p, false) else (p.set k (jS x b d), true) := by
  unfold qV
  rw [if_neg (by omega), hgd, Int.toNat_natCast]
 obtain ⟨m, hI⟩ := Zne h.cust h.inst (h.may d hdm) hb
 have him := Zae h.cust h.inst (h.may d hdm) b
 have hc1 := YM x d (hsz d hdm).2.2.1
 have hc2 := YM x (jS x b d) (Yh h.cust him.1).2.2.ok
 rw [hz]
 generalize jS x b d = e at *
 generalize W (zM x d) = z1 at *
 generalize W (zM x e) = z2 at *
 have hk1 : 1 ≤ p.length - k := by omega
 have hpf : (p.flatMap Enc.enc : List PV).length = p.length := jp p
 have hsp := VW (α := zi) rfl p k e hk
 have hsp' : ye (p.flatMap Enc.enc) k [L e] = (p.set k e).flatMap Enc.enc := by simpa using hsp
 repeat apply za
 refine ze [(2, 17)] (zm h0 h1) ?_
 refine zn rfl (zh (za (zC (some [nx, nx + 6, nx + 7]) (Row.pures [0, 1, 2, 3, 4, 5, 6, 7, 8, 9, 10] (.alt 11 (.alt 12 (Row.pures [13] .done) .stop) .stop)) mixed (zF e0 hk hk1) ?_)))
 refine zI (hI) (zF e0 hk hk1) ?_
 intro v5
 by_cases hle : z1 ≤ z2
 ·rw [if_pos hle]
  repeat apply za
  refine zC (some [nx, nx + 6, nx + 7, nx + 8]) (Row.pures [0, 1, 2, 3, 4, 5, 6, 7, 8, 9, 10] .done) mixed (yi e0 hk hk1 hle) ?_
  refine zI (hc2) (yi e0 hk hk1 hle) ?_
  refine zI (hc1) (yi e0 hk hk1 hle) ?_
  refine zo rfl (yc 6 rfl ?_)
  refine za (zb ?_)
  exact zg (zk hd (by simp; rfl) rfl)
 ·rw [if_neg hle]
  repeat apply za
  refine zC (some [nx, nx + 6, nx + 7, nx + 8]) (Row.pures [0, 1, 2, 3, 4, 5, 6, 7, 8, 9, 10] .done) mixed (yi e0 hk hk1 hle) ?_
  refine zI (hc2) (yi e0 hk hk1 hle) ?_
  refine zI (hc1) (yi e0 hk hk1 hle) ?_
  refine zn rfl (zh (za (ze [] (zF hk hsp' hpf) ?_)))
  refine ⟨by omega, ?_⟩
  refine yc 6 rfl ?_
  refine za (zb ?_)
  exact zg (zk hd (by simp; rfl) (by simp [zq]))
open Go Go.Proofs Hp
structure PlanS (n K : Nat) (p : zu) : Prop where
 len : p.length = n
 ok : ∀ d ∈ p, DayOk d ∧ d.flatten.length ≤ K ∧ d.length ≤ K
theorem Zaf {x : Inst} {d : zi} {s : Stop} {K : Nat} (hx : x.cust.length ≤ 1048576) (h1 : DayOk d) (h2 : d.flatten.length ≤ K) (h3 : d.length ≤ K) (hK : K ≤ 100000) : DayOk (yC x d s).1 ∧ (yC x d s).1.flatten.length ≤ K + 1 ∧ (yC x d s).1.length ≤ K + 1 := by
 refine ⟨Zc0 hx h1 (by omega) (by omega), ?_, ?_⟩
 ·cases hi : (yC x d s).2 with
  | true => rw [(Xk hi).length_eq, List.length_cons]; omega
  | false => rw [Zcz hi]; omega
 ·unfold yC
  cases (xY (yO x d s)).2 with
  | false => show d.length ≤ K + 1; omega
  | true =>
   show (qS d (xY (yO x d s)).1 s).length ≤ K + 1
   unfold qS; split <;> simp <;> omega
theorem Zng (x : Inst) (p : zu) (c : Nat) {n K : Nat} (hn1 : n ≤ 1000) (hK : K ≤ 100000) (hx : x.cust.length ≤ 1000) (hc : c < x.cust.length) (hp : PlanS n K p) : Pure Tryz.prog 26 [.agg (zA x), .agg [L p], I c] (L (p.map (xv x (xR x c)))) := by
 have hth := ZeL x c
 rw [show (decide (0 ≤ (c : Int)) && decide ((c : Int) < x.cust.length)) = true from by simp; omega] at hth
 obtain ⟨cu, tlc, a1, -, -, e1, e0⟩ := el 8 rfl x.cust c hc
 have e11 := e1 1 (by omega)
 have hq : xR x c = ⟨c, if cu.kind = 1 then cu.demand else 1⟩ := by unfold xR; rw [List.getD_eq_getElem?_getD, a1]; rfl
 have hplen : p.length ≤ 1000 := by have := hp.len; omega
 refine zx Tryz.func26 Tryz.ntmps26 Tryz.results26 fun S nx hd => ?_
 refine za (zb ?_)
 intro v0 v1
 refine za (zb ?_)
 intro v2
 refine za (qh (nx := nx) (σ := Unit) (fun _ => True) (fun _ => [(3, .ptr nx v0 0), (4, .ptr (nx + 1) v1 0), (7, .ptr (nx + 2) v2 0)]) (fun _ => S) (fun _ => [.cells v0 25 (zA x), .cells v1 38 [L p], .cells v2 35 [I c, I (xR x c).q]]) ?_ ?_)
 ·by_cases hk : cu.kind = 1
  ·rw [if_pos hk] at hq
   refine za (ze [(3, 19)] (zF e0 hc hk) ?_)
   refine jB [(3, 19)] hth (zF e0 hc hk) ?_
   refine zo (by simp [hk]) ?_
   refine ze [] (zm e11 hc) ?_
   exact zP () [] trivial (by simp) rfl (by simp [hq])
  ·rw [if_neg hk] at hq
   refine za (ze [(3, 19)] (zF e0 hc hk) ?_)
   refine jB [(3, 19)] hth (zF e0 hc hk) ?_
   refine zn (by simp [hk]) ?_
   exact zh (zP () [] trivial (by simp) rfl (by simp [hq]))
 intro _ _
 have hsc : (xR x c).c = c := rfl
 generalize hst : xR x c = s at hsc
 clear hq
 refine za (zb ?_)
 refine za (qZ 8 3 1 rfl fun v3 => ?_)
 refine za (zb ?_)
 refine zj (zG (fun st : Nat × List Int × Nat => st.1 ≤ p.length ∧ st.2.1 = (p.take st.1).map (xv x s)) (fun (k, out, w) => [(3, .ptr nx v0 0), (7, .ptr (nx + 2) v2 0), (8, .sl (nx + 3) w 1 0 out.length), (36, L p), (37, I p.length), (38, I k)]) (fun (k, out, w) => [.cells v0 25 (zA x), .cells v1 38 [L p], .cells v2 35 [I c, I s.q], .cells w 3 (out.flatMap Enc.enc)]) (fun st => p.length - st.1) (0, [], v3) [] (by simp) (by simp) (by simp) ?_)
 rintro ⟨k, out, w⟩ ⟨hk, ho⟩
 simp only at hk ho ⊢
 have hol : out.length = k := by rw [ho]; simp; omega
 refine za (zb ?_)
 refine za (zr rfl (fun hc1 => ?_) (fun hc1 => ?_))
 ·simp at hc1
  obtain ⟨d, tl, b1, b2, b3, f0⟩ := zE rfl p k hc1
  obtain ⟨g1, g3, g4⟩ := hp.ok d (List.mem_of_getElem? b1)
  have g5 := (Zaf (x := x) (s := s) (by omega) g1 g3 g4 hK).1
  have hins := Vk x d s (by omega) g1 (by omega)
  have hc2 := YM x d g1
  have hc3 := YM x _ g5
  have hpr : xv x s d = if (yC x d s).2 = true then max 0 (W (W (zM x (yC x d s).1) - W (zM x d))) else 4294967296 := rfl
  rw [hsc] at hins
  generalize yC x d s = r at *
  obtain ⟨e, ok⟩ := r
  simp only at hins hc3 hpr
  generalize W (zM x d) = z1 at *
  generalize W (zM x e) = z2 at *
  have h1p : 1 ≤ p.length - k := by omega
  refine zh (za (zj (za (ze [] (zF f0 hc1 h1p) ?_))))
  intro v4
  refine za (zb ?_)
  repeat apply za
  refine zb ?_
  refine zz hins ?_
  intro v5
  refine za (zb ?_)
  cases ok with
  | true =>
   rw [if_pos rfl] at hpr
   have hmax : xA (0 : Int) (W (z2 - z1)) = xv x s d := by rw [hpr]; unfold xA; split <;> omega
   refine zo rfl (zC (some [nx, nx + 4, nx + 5]) (Row.pures [0, 1, 2, 3, 4, 5, 6, 7, 8] .done) mixed trivial ?_)
   refine zI (hc3) hmax ?_
   refine zI (hc2) hmax ?_
   refine zb ?_
   refine ⟨by omega, ?_⟩
   refine zb ?_
   exact zp (k + 1, out ++ [xv x s d], w + 1) [_, _] ⟨hc1, by rw [b3, List.map_append, ho]; rfl⟩ (by simp; omega) (by simp [zt k (by omega)]) rfl (by simp [hpr]; exact ⟨rfl, rfl⟩)
  | false =>
   rw [if_neg (by decide)] at hpr
   refine zn rfl (zh (zb ?_))
   refine ⟨by omega, ?_⟩
   refine zb ?_
   exact zp (k + 1, out ++ [xv x s d], w + 1) [_, _] ⟨hc1, by rw [b3, List.map_append, ho]; rfl⟩ (by simp; omega) (by simp [zt k (by omega)]) rfl (by simp [hpr]; exact ⟨rfl, rfl⟩)
 ·simp at hc1
  obtain rfl : k = p.length := by omega
  rw [List.take_length] at ho
  refine zy (yc 3 rfl ?_)
  refine za (zb ?_)
  exact zg (zk hd (by simp; rfl) (by simp [zq, ho]))
def uD (x : Inst) (p : zu) : Bool := p.all fun d => decide (yq x d = 0)
theorem Znh (x : Inst) (p : zu) {n K : Nat} (hn1 : n ≤ 1000) (hK : K ≤ 100000) (hx : x.cust.length ≤ 1000) (hp : PlanS n K p) : Pure Tryz.prog 119 [.agg (zA x), .agg [L p]] (B (uD x p)) := by
 have hplen : p.length ≤ 1000 := by have := hp.len; omega
 refine zx Tryz.func119 Tryz.ntmps119 Tryz.results119 fun S nx hd => ?_
 refine za (zb ?_)
 intro v0 v1
 repeat apply za
 refine zb ?_
 refine zj (zG (fun k : Nat => k ≤ p.length ∧ ∀ d ∈ p.take k, yq x d = 0) (fun k => [(2, .ptr nx v0 0), (8, L p), (9, I p.length), (10, I k)]) (fun _ => [.cells v0 25 (zA x), .cells v1 38 [L p]]) (fun k => p.length - k) 0 [] (by simp) (by simp) (by simp) ?_)
 rintro k ⟨hk, hE⟩
 refine za (zb ?_)
 refine za (zr rfl (fun hc => ?_) (fun hc => ?_))
 ·simp at hc
  obtain ⟨d, tl, a1, a2, a3, e0⟩ := zE rfl p k hc
  obtain ⟨g1, g2, g3⟩ := hp.ok d (List.mem_of_getElem? a1)
  have hD := ZbS x d (by omega) g1.n g1.t (by omega)
  have hk1 : 1 ≤ p.length - k := by omega
  refine zh (za (zj (za (ze [] (zF e0 hc hk1) ?_))))
  intro v2
  by_cases h0 : yq x d = 0
  ·rw [h0] at hD
   refine za (zb ?_)
   refine zz hD ?_
   refine zn (by simp) ?_
   refine zh (zb ?_)
   exact zp (k + 1) [_] ⟨hc, fun e he => by rw [a3] at he; rcases List.mem_append.1 he with q | q; exact hE e q; rw [List.mem_singleton.1 q]; exact h0⟩ (by omega) (by simp [zt k (by omega)]) rfl (by simp; rfl)
  ·have ho : uD x p = false := by
    unfold uD; rw [List.all_eq_false]; exact ⟨d, List.mem_of_getElem? a1, by simpa using h0⟩
   rw [ho]
   generalize yq x d = z at *
   refine za (zb ?_)
   refine zz hD ?_
   refine zo (by simp [h0]) ?_
   refine za (zb ?_)
   exact zg (zk hd rfl rfl)
 ·simp at hc
  obtain rfl : k = p.length := by omega
  rw [List.take_length] at hE
  have ho : uD x p = true := by
   unfold uD; rw [List.all_eq_true]; intro d hd; simpa using hE d hd
  rw [ho]
  refine zy (za (zb ?_))
  exact zg (zk hd rfl rfl)
def wg (x : Inst) (c : Nat) (st : zu × Bool) (w : Visit) : zu × Bool :=
 if st.2 = true then (if (yC x (st.1.getD w.d.toNat []) ⟨c, w.q⟩).2 = true then (st.1.set w.d.toNat (yC x (st.1.getD w.d.toNat []) ⟨c, w.q⟩).1, true) else ([], false)) else st
def jM (x : Inst) (n : Nat) (p : zu) (c : Nat) : zu × Bool :=
 if (qb n x.cap (x.cust.getD c default) (p.map (xv x (xR x c)))).2 = true then (qb n x.cap (x.cust.getD c default) (p.map (xv x (xR x c)))).1.foldl (wg x c) (p, true) else ([], false)
theorem Zag (x : Inst) (c : Nat) : ∀ v : List Visit, v.foldl (wg x c) ([], false) = ([], false)
 | [] => rfl
 | w :: v => by rw [List.foldl_cons]; exact Zag x c v
theorem Zni (x : Inst) (s : Stop) (p : zu) : ∀ z ∈ p.map (xv x s), zU z := by
 intro z hz
 obtain ⟨d, -, rfl⟩ := List.mem_map.1 hz
 unfold xv
 split
 ·have := VY (W (zM x (yC x d s).1) - W (zM x d))
  unfold zU at *; omega
 ·unfold zU; omega
theorem PlanS.sizes {n K : Nat} {p : zu} (h : PlanS n K p) (hn1 : n ≤ 1000) (hK : K ≤ 1000) : p.length ≤ 1000 ∧ (∀ d ∈ p, d.length ≤ 1000) ∧ ∀ d ∈ p, ∀ t ∈ d, t.length ≤ 1000 := by
 refine ⟨by have := h.len; omega, fun d hd => by have := (h.ok d hd).2.2; omega, fun d hd t ht => ?_⟩
 have := XJ d t ht
 have := (h.ok d hd).2.1
 omega
theorem PlanS.set {n K : Nat} {p : zu} (h : PlanS n K p) {k : Nat} {e : zi} (he : DayOk e ∧ e.flatten.length ≤ K + 1 ∧ e.length ≤ K + 1) : PlanS n (K + 1) (p.set k e) := by
 refine ⟨by rw [List.length_set]; exact h.len, fun d hd => ?_⟩
 rcases List.mem_or_eq_of_mem_set hd with q | q
 ·obtain ⟨g1, g2, g3⟩ := h.ok d q; exact ⟨g1, by omega, by omega⟩
 ·rw [q]; exact he
theorem ZeS {x : Inst} {n : Nat} (h : InstA x n) {p : zu} {K : Nat} (hK : K ≤ 10000) (hp : PlanS n K p) {c : Nat} (hc : c < x.cust.length) (h0 : (jM x n p c).2 = true) : PlanS n (K + 64) (jM x n p c).1 := by
 have hx := h.h.cust
 unfold jM at h0 ⊢
 split at h0
 ·rename_i h1
  rw [if_pos h1]
  have hcm : x.cust.getD c default ∈ x.cust := by rw [List.getD_eq_getElem?_getD, List.getElem?_eq_getElem hc]; exact List.getElem_mem hc
  have hg := XT (h.made _ hcm) h.n60 x.cap _ h1
  have hl := hg.len
  generalize (qb n x.cap (x.cust.getD c default) (p.map (xv x (xR x c)))).1 = v at *
  clear hg h1
  have key : ∀ (v : List Visit) (q : zu) (K : Nat), K + v.length ≤ 10100 → PlanS n K q → (v.foldl (wg x c) (q, true)).2 = true → PlanS n (K + v.length) (v.foldl (wg x c) (q, true)).1 := by
   intro v
   induction v with
   | nil => intro q K _ hq _; exact hq
   | cons w v ih =>
    intro q K hKl hq hz
    rw [List.length_cons] at hKl ⊢
    rw [List.foldl_cons] at hz ⊢
    have hs : wg x c (q, true) w = if (yC x (q.getD w.d.toNat []) ⟨c, w.q⟩).2 = true then (q.set w.d.toNat (yC x (q.getD w.d.toNat []) ⟨c, w.q⟩).1, true) else ([], false) := rfl
    rw [hs] at hz ⊢
    split at hz
    ·rename_i hi
     rw [if_pos hi]
     rw [show K + (v.length + 1) = (K + 1) + v.length by omega]
     refine ih _ _ (by omega) (hq.set ?_) hz
     have hd : DayOk (q.getD w.d.toNat []) ∧ (q.getD w.d.toNat []).flatten.length ≤ K ∧ (q.getD w.d.toNat []).length ≤ K := by
      rw [List.getD_eq_getElem?_getD]
      cases e : q[w.d.toNat]? with
      | none => exact ⟨⟨by simp, by simp, by simp⟩, by simp, by simp⟩
      | some d => exact hq.ok d (List.mem_of_getElem? e)
     exact Zaf (by omega) hd.1 hd.2.1 hd.2.2 (by omega)
    ·rw [Zag] at hz; cases hz
  have := key v p K (by omega) hp h0
  exact ⟨this.len, fun d hd => by obtain ⟨g1, g2, g3⟩ := this.ok d hd; exact ⟨g1, by omega, by omega⟩⟩
 ·cases h0
theorem Znj {x : Inst} {n : Nat} (h : InstA x n) {p : zu} {K : Nat} (hK : K ≤ 900) (hp : PlanS n K p) (c : Nat) (hc : c < x.cust.length) : Pure Tryz.prog 118 [.agg (zA x), .agg [L p], I c] (.tup [.agg [L (jM x n p c).1], B (jM x n p c).2]) := by
 have hx := h.h.cust
 have hn60 := h.n60
 have hxd := h.days
 have hpl := hp.len
 obtain ⟨hs1, hs2, hs3⟩ := hp.sizes (by omega) (by omega)
 obtain ⟨cu, tlc, a1, -, -, e1, e0⟩ := el 8 rfl x.cust c hc
 have hcm := List.mem_of_getElem? a1
 have hgc : x.cust.getD c default = cu := by rw [List.getD_eq_getElem?_getD, a1]; rfl
 have hPr := Zng x p c (n := n) (K := K) (by omega) (by omega) hx hc hp
 have hI := Zni x (xR x c) p
 have hlen : (p.map (xv x (xR x c))).length ≤ 1000 := by rw [List.length_map]; omega
 have hput : jM x n p c = if (qb n x.cap cu (p.map (xv x (xR x c)))).2 = true then (qb n x.cap cu (p.map (xv x (xR x c)))).1.foldl (wg x c) (p, true) else ([], false) := by unfold jM; rw [hgc]
 have hgood := XT (h.made cu hcm) hn60 x.cap (p.map (xv x (xR x c)))
 rw [hput]
 generalize p.map (xv x (xR x c)) = pr at *
 have hSo : Pure Tryz.prog 111 [.agg (zZ cu), I x.days, I x.cap, L pr] (.tup [L (qb n x.cap cu pr).1, B (qb n x.cap cu pr).2]) := by
  rw [hxd]
  exact fun S => ZeG cu n x.cap (.inl rfl) hI hlen (h.made cu hcm) (h.pats cu hcm) hn60
 clear hput
 generalize qb n x.cap cu pr = r at *
 obtain ⟨v, ok⟩ := r
 simp only at hSo hgood ⊢
 refine zx Tryz.func118 Tryz.ntmps118 Tryz.results118 fun S nx hd => ?_
 refine za (zb ?_)
 intro v0 v1 v2
 refine za (zC (some [nx, nx + 1]) (Row.pures [0, 1, 2, 3, 4, 5, 6, 7, 8, 9, 10, 11, 12, 13, 14, 15, 16, 17, 18] .done) mixed (zm e0 hc) ?_)
 refine zI (hPr) (zm e0 hc) ?_
 refine zI (hSo) (zm e0 hc) ?_
 cases ok with
 | false =>
  rw [if_neg (by decide)]
  repeat apply za
  refine zb ?_
  refine zo rfl (za (zb ?_))
  refine uP 2 0 rfl rfl ?_
  exact zg (zk hd (by simp; rfl) rfl)
 | true =>
  have hg := hgood rfl
  have hvl := hg.len
  rw [if_pos rfl]
  repeat apply za
  refine zb ?_
  refine zn rfl (zh (za (zV [] (by rfl) (by rfl) fun K Gc Gh hK hGc hGh X hX0 hX => ?_)))
  simp -implicitDefEqProofs [hX0, hX]
  try clear hX0 hX X
  refine hGc _ _ _ _ _ _ _ fun hsuf => ((Zad p hs1 hs2 hs3 jO).mono ?_).v
  rintro _ _ ⟨v3, rfl, rfl⟩
  refine ⟨_, _, JX 3 _, ?_⟩
  clear hGc hGh
  clear Gc Gh
  refine zR hsuf (D := []) (by rfl) fun Gc Gh hGc hGh X hX0 hX => ?_
  simp -implicitDefEqProofs [hX0, hX, Nat.add_assoc]
  clear hX0 hX X
  intro v4
  refine hK _ _ _ ?_
  clear hK hGc hGh
  clear K Gc Gh
  repeat apply za
  refine zb ?_
  refine zj (zG (fun s : Nat × zu × Nat => s.1 ≤ v.length ∧ (v.take s.1).foldl (wg x c) (p, true) = (s.2.1, true) ∧ PlanS n (K + s.1) s.2.1) (fun (k, q, w) => [(2, I c), (3, .ptr nx v0 0), (6, .ptr (nx + 2) v2 0), (10, .ptr (nx + 7) v4 0), (38, L v), (39, I v.length), (40, I k)]) (fun (k, q, w) => [.cells v0 25 (zA x), .cells v1 38 [L p], .cells v2 38 [yG], .dead, .dead, .dead, .cells w 58 (q.flatMap Enc.enc), .cells v4 38 [.sl (nx + 6) w 1 0 q.length]]) (fun s => v.length - s.1) (0, p, v3) [] ⟨by simp, by simp, hp⟩ (by simp) (by simp) ?_)
  rintro ⟨k, q, w⟩ ⟨hk, hq, hqs⟩
  simp only at hk hq hqs ⊢
  have hql := hqs.len
  refine za (zb ?_)
  refine za (zr rfl (fun hc1 => ?_) (fun hc1 => ?_))
  ·simp at hc1
   obtain ⟨u, tl, b1, b2, b3, f1, f0⟩ := el 2 rfl v k hc1
   have hu := hg.ok u (List.mem_of_getElem? b1)
   obtain ⟨z, hz⟩ : ∃ z : Nat, u.d = z := ⟨u.d.toNat, by omega⟩
   have hzl : z < q.length := by omega
   obtain ⟨d, tld, d1, d2, d3, d0⟩ := zE rfl q z hzl
   obtain ⟨g1, g2, g3⟩ := hqs.ok d (List.mem_of_getElem? d1)
   have hins := Vk x d ⟨c, u.q⟩ (by omega) g1 (by omega)
   have hsz := Zaf (x := x) (s := ⟨c, u.q⟩) (by omega) g1 g2 g3 (by omega)
   have hst : (v.take (k + 1)).foldl (wg x c) (p, true) = if (yC x d ⟨c, u.q⟩).2 = true then (q.set z (yC x d ⟨c, u.q⟩).1, true) else ([], false) := by
    rw [b3, List.foldl_append, hq]
    have e9 : q.getD u.d.toNat [] = d := by rw [hz, Int.toNat_natCast, List.getD_eq_getElem?_getD, d1]; rfl
    show wg x c (q, true) u = _
    unfold wg
    rw [if_pos rfl, e9, hz, Int.toNat_natCast]
   generalize yC x d ⟨c, u.q⟩ = e at *
   obtain ⟨d', ok'⟩ := e
   simp only at hins hst hsz
   have hz1 : 1 ≤ q.length - z := by omega
   have hqf : (q.flatMap Enc.enc : List PV).length = q.length := jp q
   have hsp := VW (α := zi) rfl q z d' hzl
   have hsp' : ye (q.flatMap Enc.enc) z [L d'] = (q.set z d').flatMap Enc.enc := by simpa using hsp
   refine zh (za (zj (za (ze [] (zF f0 hc1 hz) ?_))))
   intro v5
   refine za (zb ?_)
   intro v6
   refine za (zC (some [nx, nx + 6, nx + 7, nx + 8, nx + 9]) (Row.pures [0, 1, 2, 3, 4, 5, 6, 7, 8, 9, 10, 11] (.alt 12 (.alt 13 (Row.pures [14] .done) .stop) .stop)) mixed (yi d0 hzl hz1 hz) ?_)
   refine zI (hins) (yi d0 hzl hz1 hz) ?_
   intro v7
   cases ok' with
   | false =>
    rw [if_neg (by decide)] at hst
    have hall : v.foldl (wg x c) (p, true) = ([], false) := by
     conv => lhs; rw [← List.take_append_drop (k + 1) v, List.foldl_append, hst, Zag]
    rw [hall]
    repeat apply za
    refine zb ?_
    refine zo rfl (za (zb ?_))
    refine uP 2 0 rfl rfl ?_
    exact zg (zk hd (by simp; rfl) rfl)
   | true =>
    rw [if_pos rfl] at hst
    repeat apply za
    refine zb ?_
    refine zn rfl (zh (ze [] (yi hzl hsp' hqf hz) ?_))
    refine ⟨by omega, ?_⟩
    refine zb ?_
    exact zp (k + 1, q.set z d', w) [_, _, _] ⟨hc1, hst, hqs.set hsz⟩ (by simp; omega) (by simp [zt k (by omega)]) rfl (by simp; exact ⟨rfl, rfl, rfl⟩)
  ·simp at hc1
   obtain rfl : k = v.length := by omega
   rw [List.take_length] at hq
   rw [hq]
   refine zy (yc 6 rfl ?_)
   refine za (zb ?_)
   exact zg (zk hd (by simp; rfl) rfl)
open Go Go.Proofs Hp
theorem PlanS.wo {n K : Nat} {p : zu} (h : PlanS n K p) (c : Int) : PlanS n K (Yg c p) := by
 refine ⟨by unfold Yg; rw [List.length_map]; exact h.len, fun e he => ?_⟩
 obtain ⟨d, hd, rfl⟩ := List.mem_map.1 he
 obtain ⟨g1, g2, g3⟩ := h.ok d hd
 have hl := ZcY c d
 have hm : ∀ t ∈ ju c d, ∃ u ∈ d, t = j7 c u := fun t ht => by
  obtain ⟨u, hu, e⟩ := List.mem_map.1 (List.mem_filter.1 ht).1
  exact ⟨u, hu, e.symm⟩
 refine ⟨⟨by have := g1.n; omega, fun t ht => ?_, fun t ht s hs => ?_⟩, ?_, by omega⟩
 ·obtain ⟨u, hu, rfl⟩ := hm t ht
  exact Nat.le_trans (Vm c u) (g1.t u hu)
 ·obtain ⟨u, hu, rfl⟩ := hm t ht
  exact g1.s u hu s (List.mem_filter.1 hs).1
 ·rw [Zna]; exact Nat.le_trans (List.length_filter_le _ _) g2
structure PlanG (x : Inst) (n : Nat) (p : zu) : Prop where
 a : InstA x n
 six : x.cust.length ≤ 6
 len : p.length = n
 may : ∀ d ∈ p, yq x d = 0
theorem PlanG.m {x : Inst} {n : Nat} {p : zu} (h : PlanG x n p) : PlanM x p := ⟨by have := h.six; omega, h.a.h, by have := h.len; have := h.a.n60; omega, h.may⟩
theorem PlanG.s {x : Inst} {n : Nat} {p : zu} (h : PlanG x n p) : PlanS n 6 p := by
 refine ⟨h.len, fun d hd => ?_⟩
 obtain ⟨h1, h2, h3⟩ := Yh (by have := h.six; omega) (h.may d hd)
 have := h.six
 exact ⟨h3.ok, by omega, by omega⟩
theorem PlanG.serves {x : Inst} {n : Nat} {p : zu} (h : PlanG x n p) : Serves x p := by
 have hs := h.s
 have hn := h.a.n60
 have hl := hs.len
 have hcn : uZ p ≤ 1000 * p.length := by
  have : ∀ p : zu, (∀ d ∈ p, d.flatten.length ≤ 1000) → uZ p ≤ 1000 * p.length := by
   intro p
   induction p with
   | nil => intro _; simp [uZ]
   | cons d p ih =>
    intro h
    have := ih fun e he => h e (by simp [he])
    have := h d (by simp)
    simp only [uZ, List.map_cons, List.sum_cons, List.length_cons] at *
    omega
  exact this p fun d hd => by have := (hs.ok d hd).2.1; omega
 refine ⟨⟨by omega, fun d hd => by have := (hs.ok d hd).2.2; omega, fun d hd => (hs.ok d hd).1.t, by rw [V3]; omega⟩, fun s hst => ?_, by omega⟩
 obtain ⟨d, hd, hsd⟩ := ZdX p 0 s hst
 have := ZdY (h.may d hd) s.1 hsd
 simp [q9] at this
 omega
theorem PlanG.cost {x : Inst} {n : Nat} {p : zu} (h : PlanG x n p) : Pure Tryz.prog 84 [.agg (zA x), .agg [L p]] (I (yI x p)) :=
 Zmt x p h.serves (by have := h.six; omega) (fun c hc => (h.a.made c hc).fits) fun d hd => (h.s.ok d hd).1
theorem PlanG.clone {x : Inst} {n : Nat} {p : zu} (h : PlanG x n p) : Pure Tryz.prog 61 [.agg [L p]] (.agg [L p]) := by
 obtain ⟨h1, h2, h3⟩ := h.s.sizes (by have := h.a.n60; omega) (by omega)
 exact Znd p h1 h2 h3
theorem PlanS.open {x : Inst} {n K : Nat} (h : InstA x n) (h6 : x.cust.length ≤ 6) {p : zu} (hp : PlanS n K p) (ho : uD x p = true) : PlanG x n p :=
 ⟨h, h6, hp.len, fun d hd => by unfold uD at ho; have := List.all_eq_true.1 ho d hd; simpa using this⟩
def wI (cs : List Nat) (p : zu) : zu := cs.foldl (fun q (c : Nat) => Yg c q) p
def Je (x : Inst) (n : Nat) (st : zu × Bool) (c : Nat) : zu × Bool := if st.2 = true then jM x n st.1 c else st
def wh (x : Inst) (n : Nat) (cs : List Nat) (q : zu) : zu × Bool := cs.foldl (Je x n) (q, true)
def jX (x : Inst) (n : Nat) (p : zu) (cs : List Nat) : zu × Bool :=
 if (wh x n cs (wI cs p)).2 = true then
  (if uD x (wh x n cs (wI cs p)).1 = true ∧ ¬ yI x p ≤ yI x (wh x n cs (wI cs p)).1 then ((wh x n cs (wI cs p)).1, true) else (p, false))
 else (p, false)
theorem Zah (x : Inst) (n : Nat) (q : zu) : ∀ cs : List Nat, cs.foldl (Je x n) (q, false) = (q, false)
 | [] => rfl
 | c :: cs => by rw [List.foldl_cons]; exact Zah x n q cs
theorem ZeT {x : Inst} {n : Nat} {p : zu} (h : PlanG x n p) (cs : List Nat) (hl : cs.length ≤ 10) (hcs : ∀ c ∈ cs, c < x.cust.length) : Pure Tryz.prog 78 [.agg (zA x), .agg [L p], L (cs.map fun (c : Nat) => (c : Int))] (.tup [.agg [L (jX x n p cs).1], B (jX x n p cs).2]) := by
 have hA := h.a
 have h6 := h.six
 have hn60 := hA.n60
 have hcl := h.clone
 have hps := h.s
 have hcost := h.cost
 obtain ⟨zs, hzs⟩ : ∃ zs, zs = cs.map fun (c : Nat) => (c : Int) := ⟨_, rfl⟩
 have hzl : zs.length = cs.length := by rw [hzs, List.length_map]
 have hat : ∀ (k c : Nat), cs[k]? = some c → zs[k]? = some (c : Int) := fun k c e => by rw [hzs, List.getElem?_map, e]; rfl
 have hanew : jX x n p cs = if (wh x n cs (wI cs p)).2 = true then (if uD x (wh x n cs (wI cs p)).1 = true ∧ ¬ yI x p ≤ yI x (wh x n cs (wI cs p)).1 then ((wh x n cs (wI cs p)).1, true) else (p, false)) else (p, false) := rfl
 rw [← hzs]
 clear hzs
 refine zx Tryz.func78 Tryz.ntmps78 Tryz.results78 fun S nx hd => ?_
 refine za (zb ?_)
 intro v0 v1 v2
 refine za (zb ?_)
 intro v3
 repeat apply za
 refine zb ?_
 refine zj (zG (fun s : Nat × zu => s.1 ≤ zs.length ∧ s.2 = wI (cs.take s.1) p ∧ PlanS n 6 s.2) (fun (k, q) => [(2, L zs), (3, .ptr nx v0 0), (4, .ptr (nx + 1) v1 0), (6, .ptr (nx + 2) v2 0), (8, .ptr (nx + 3) v3 0), (9, B true), (15, L zs), (16, I zs.length), (17, I k)]) (fun (k, q) => [.cells v0 25 (zA x), .cells v1 38 [L p], .cells v2 38 [yG], .cells v3 38 [L q]]) (fun s => zs.length - s.1) (0, p) [] ⟨by simp, by simp [wI], hps⟩ (by simp) (by simp) ?_)
 ·rintro ⟨k, q⟩ ⟨hk, hq, hqs⟩
  simp only at hk hq hqs ⊢
  refine za (zb ?_)
  refine za (zr rfl (fun hc1 => ?_) (fun hc1 => ?_))
  ·simp at hc1
   obtain ⟨c, hc⟩ : ∃ c, cs[k]? = some c := ⟨_, List.getElem?_eq_getElem (by omega)⟩
   have hcx := hcs c (List.mem_of_getElem? hc)
   obtain ⟨z, tl, b1, b2, b3, f0⟩ := zE rfl zs k hc1
   obtain rfl : z = (c : Int) := by have := hat k c hc; rw [b1] at this; exact Option.some.inj this
   have hth := ZeL x c
   rw [show (decide (0 ≤ (c : Int)) && decide ((c : Int) < x.cust.length)) = true from by simp; omega] at hth
   obtain ⟨s1, s2, s3⟩ := hqs.sizes (by omega) (by omega)
   have hwo := Zm7 q c s1 (fun d hd => by have := s2 d hd; omega) (fun d hd t ht => by have := s3 d hd t ht; omega)
   have hnext : Yg c q = wI (cs.take (k + 1)) p := by
    rw [hq, List.take_add_one, hc]; simp [wI]
   have hqs2 := hqs.wo c
   have hqs2 := hqs.wo c
   generalize Yg c q = q2 at *
   refine zh (za (zj (za (ze [] (zm f0 hc1) ?_))))
   repeat apply za
   refine zb ?_
   refine zz hth ?_
   refine zn (by simp) ?_
   refine zh (zb ?_)
   refine zz hwo ?_
   refine zb ?_
   exact zp (k + 1, q2) [] ⟨hc1, hnext, hqs2⟩ (by simp; omega) (by simp [zt k (by omega)]) rfl (by simp)
  ·simp at hc1
   obtain rfl : k = zs.length := by omega
   rw [hzl, List.take_length] at hq
   refine zy ?_
   repeat apply za
   refine zb ?_
   refine zj (zG (fun s : Nat × zu => s.1 ≤ zs.length ∧ (cs.take s.1).foldl (Je x n) (q, true) = (s.2, true) ∧ PlanS n (6 + 64 * s.1) s.2) (fun (k, q) => [(2, L zs), (3, .ptr nx v0 0), (4, .ptr (nx + 1) v1 0), (6, .ptr (nx + 2) v2 0), (8, .ptr (nx + 3) v3 0), (31, L zs), (32, I zs.length), (33, I k)]) (fun (k, q) => [.cells v0 25 (zA x), .cells v1 38 [L p], .cells v2 38 [yG], .cells v3 38 [L q]]) (fun s => zs.length - s.1) (0, q) [] ⟨by simp, by simp, hqs⟩ (by simp) (by simp) ?_)
   rw [← hq] at hanew
   clear hqs hq hk hc1
   rintro ⟨k, r⟩ ⟨hk, hr, hrs⟩
   simp only at hk hr hrs ⊢
   refine za (zb ?_)
   refine za (zr rfl (fun hc1 => ?_) (fun hc1 => ?_))
   ·simp at hc1
    obtain ⟨c, hc⟩ : ∃ c, cs[k]? = some c := ⟨_, List.getElem?_eq_getElem (by omega)⟩
    have hcx := hcs c (List.mem_of_getElem? hc)
    obtain ⟨z, tl, b1, b2, b3, f0⟩ := zE rfl zs k hc1
    obtain rfl : z = (c : Int) := by have := hat k c hc; rw [b1] at this; exact Option.some.inj this
    have hput := Znj hA (K := 6 + 64 * k) (by omega) hrs c hcx
    have hsz := ZeS hA (K := 6 + 64 * k) (by omega) hrs hcx
    have hst : (cs.take (k + 1)).foldl (Je x n) (q, true) = jM x n r c := by
     rw [List.take_add_one, hc, List.foldl_append, hr]; rfl
    generalize jM x n r c = e at *
    obtain ⟨r2, ok⟩ := e
    simp only at hput hsz
    refine zh (za (zj (za (ze [] (zm f0 hc1) ?_))))
    refine za (zb ?_)
    refine zz hput ?_
    cases ok with
    | false =>
     have hall : wh x n cs q = (r2, false) := by
      unfold wh
      conv => lhs; rw [← List.take_append_drop (k + 1) cs, List.foldl_append, hst, Zah]
     rw [hall, if_neg (by simp)] at hanew
     rw [hanew]
     refine za (zb ?_)
     refine zo rfl (za (zb ?_))
     refine zz hcl ?_
     exact zg (zk hd (by simp; rfl) rfl)
    | true =>
     refine za (zb ?_)
     refine zn rfl (zh (zb ?_))
     exact zp (k + 1, r2) [] ⟨hc1, hst, by have := hsz rfl; rw [show 6 + 64 * (k + 1) = 6 + 64 * k + 64 by omega]; exact this⟩ (by simp; omega) (by simp [zt k (by omega)]) rfl (by simp)
   ·simp at hc1
    obtain rfl : k = zs.length := by omega
    rw [hzl, List.take_length] at hr
    have hall : wh x n cs q = (r, true) := hr
    rw [hall, if_pos rfl] at hanew
    have hop := Znh x r (n := n) (K := 6 + 64 * zs.length) (by omega) (by omega) (by omega) hrs
    refine zy ?_
    cases ho : uD x r with
    | false =>
     rw [ho] at hop
     rw [ho, if_neg (by simp)] at hanew
     rw [hanew]
     repeat apply za
     refine zC (some [nx, nx + 1, nx + 3]) (Row.pures [0, 1, 2, 3, 4, 5, 6, 7, 8, 9, 10, 11, 12] .done) mixed zL ?_
     refine zI (hop) zL ?_
     refine zo rfl (za (zb ?_))
     refine zz hcl ?_
     exact zg (zk hd (by simp; rfl) rfl)
    | true =>
     rw [ho] at hop
     have hcr := (hrs.open hA h6 ho).cost
     generalize yI x r = z2 at *
     generalize yI x p = z1 at *
     by_cases hle : z1 ≤ z2
     ·rw [if_neg (fun q => q.2 hle)] at hanew
      rw [hanew]
      repeat apply za
      refine zC (some [nx, nx + 1, nx + 3]) (Row.pures [0, 1, 2, 3, 4, 5, 6, 7, 8, 9, 10, 11, 12] .done) mixed hle ?_
      refine zI (hop) hle ?_
      refine zI (hcr) hle ?_
      refine zI (hcost) hle ?_
      refine zo rfl (za (zb ?_))
      refine zz hcl ?_
      exact zg (zk hd (by simp; rfl) rfl)
     ·rw [if_pos ⟨ho, hle⟩] at hanew
      rw [hanew]
      repeat apply za
      refine zC (some [nx, nx + 1, nx + 3]) (Row.pures [0, 1, 2, 3, 4, 5, 6, 7, 8, 9, 10, 11, 12] .done) mixed hle ?_
      refine zI (hop) hle ?_
      refine zI (hcr) hle ?_
      refine zI (hcost) hle ?_
      refine zn rfl (zh (za (zb ?_)))
      exact zg (zk hd (by simp; rfl) rfl)
theorem Znk {x : Inst} {n : Nat} {p : zu} (h : PlanG x n p) (c : Nat) (hc : c < x.cust.length) : Pure Tryz.prog 37 [.agg (zA x), .agg [L p], I c] (.tup [.agg [L (jX x n p [c]).1], B (jX x n p [c]).2]) := by
 have ha := ZeT h [c] (by simp) (by simpa using hc)
 simp only [List.map_cons, List.map_nil] at ha
 refine zx Tryz.func37 Tryz.ntmps37 Tryz.results37 fun S nx hd => ?_
 refine za (zb ?_)
 intro v0 v1 v2
 refine za (zb ?_)
 refine zz ha ?_
 exact zg (zk hd (by simp; rfl) rfl)
def wY (x : Inst) (n : Nat) (p : zu) (a b : Nat) : zu × Bool := if a = b then (p, false) else jX x n p [a, b]
theorem Znl {x : Inst} {n : Nat} {p : zu} (h : PlanG x n p) (a b : Nat) (ha : a < x.cust.length) (hb : b < x.cust.length) : Pure Tryz.prog 204 [.agg (zA x), .agg [L p], I a, I b] (.tup [.agg [L (wY x n p a b).1], B (wY x n p a b).2]) := by
 have hcl := h.clone
 unfold wY
 by_cases hab : a = b
 ·rw [if_pos hab]
  refine zx Tryz.func204 Tryz.ntmps204 Tryz.results204 fun S nx hd => ?_
  refine za (zb ?_)
  intro v0 v1 v2
  repeat apply za
  refine zb ?_
  refine zo (by simp [hab]) ?_
  refine za (zb ?_)
  refine zz hcl ?_
  exact zg (zk hd (by simp; rfl) rfl)
 ·rw [if_neg hab]
  have hn := ZeT h [a, b] (by simp) (by simpa using ⟨ha, hb⟩)
  simp only [List.map_cons, List.map_nil] at hn
  refine zx Tryz.func204 Tryz.ntmps204 Tryz.results204 fun S nx hd => ?_
  refine za (zb ?_)
  intro v0 v1 v2
  repeat apply za
  refine zb ?_
  refine zn (by simp; omega) ?_
  refine zh (za (zb ?_))
  refine zz hn ?_
  exact zg (zk hd (by simp; rfl) rfl)
theorem ZeU {x : Inst} {n : Nat} (h : InstA x n) : ∀ (cs : List Nat) (K : Nat) (q : zu), (∀ c ∈ cs, c < x.cust.length) → K + 64 * cs.length ≤ 1000 → PlanS n K q → (wh x n cs q).2 = true → PlanS n (K + 64 * cs.length) (wh x n cs q).1
 | [], K, q, _, _, hq, _ => hq
 | c :: cs, K, q, hc, hK, hq, hz => by
  rw [List.length_cons] at hK ⊢
  have e : wh x n (c :: cs) q = cs.foldl (Je x n) (jM x n q c) := rfl
  rw [e] at hz ⊢
  cases ho : (jM x n q c).2 with
  | false =>
   have : jM x n q c = ((jM x n q c).1, false) := by rw [← ho]
   rw [this, Zah] at hz; cases hz
  | true =>
   have h1 := ZeS h (by omega) hq (hc c (by simp)) ho
   have : jM x n q c = ((jM x n q c).1, true) := by rw [← ho]
   rw [this] at hz ⊢
   have := ZeU h cs (K + 64) _ (fun c hc' => hc c (by simp [hc'])) (by omega) h1 hz
   rw [show K + 64 * (cs.length + 1) = K + 64 + 64 * cs.length by omega]
   exact this
theorem ZeV {n K : Nat} : ∀ (cs : List Nat) (p : zu), PlanS n K p → PlanS n K (wI cs p)
 | [], _, h => h
 | c :: cs, p, h => ZeV cs _ (h.wo c)
theorem XV {x : Inst} {n : Nat} {p : zu} (h : PlanG x n p) (cs : List Nat) (hl : cs.length ≤ 10) (hcs : ∀ c ∈ cs, c < x.cust.length) : PlanG x n (jX x n p cs).1 ∧ yI x (jX x n p cs).1 ≤ yI x p := by
 unfold jX
 split
 ·rename_i h1
  split
  ·rename_i h2
   exact ⟨(ZeU h.a cs 6 _ hcs (by omega) (ZeV cs p h.s) h1).open h.a h.six h2.1, by have := h2.2; dsimp only; omega⟩
  ·exact ⟨h, Int.le_refl _⟩
 ·exact ⟨h, Int.le_refl _⟩
theorem Zai {x : Inst} {n : Nat} {p : zu} (h : PlanG x n p) (a b : Nat) (ha : a < x.cust.length) (hb : b < x.cust.length) : PlanG x n (wY x n p a b).1 ∧ yI x (wY x n p a b).1 ≤ yI x p := by
 unfold wY
 split
 ·exact ⟨h, Int.le_refl _⟩
 ·exact XV h [a, b] (by simp) (by simpa using ⟨ha, hb⟩)
open Go Go.Proofs Hp
theorem Znm (op : BinOp) (x y : Int) : 0 ≤ bits op .u64 x y ∧ bits op .u64 x y < 18446744073709551616 := by
 have h := wf_bits op .u64 x y
 simp [Lit.wf, IntKind.min, IntKind.max, IntKind.signed, IntKind.bits] at h
 omega
abbrev jA (s : Int) : List PV := [.sc (.int .u64 s)]
def yW (s : Int) : Int := IntKind.u64.wrap (s + 11400714819323198485)
def ZC (s : Int) : Int :=
 let a := yW s
 let b := IntKind.u64.wrap (bits .xor .u64 a (a.fdiv (2 ^ 30)) * 13787848793156543929)
 let c := IntKind.u64.wrap (bits .xor .u64 b (b.fdiv (2 ^ 27)) * 10723151780598845931)
 bits .xor .u64 c (c.fdiv (2 ^ 31))
theorem Znn (s : Int) : 0 ≤ ZC s ∧ ZC s < 18446744073709551616 := by unfold ZC; exact Znm _ _ _
theorem wJ {S : Store} {nx id : Nat} (hd : zW nx S) (hlt : id < nx) (o : Ob) : zW nx (S.set id o) := fun i hi => by rw [Store.set_other _ _ _ _ (by omega)]; exact hd i hi
theorem Zno : IntKind.u64.bits = 64 := rfl
theorem Znp (s : Int) {S : Store} {id v : Nat} (hS : S id = .cells v 209 (jA s)) : Spec Tryz.prog 203 [.ptr id v 0] S (fun q S' => q = .sc (.int .u64 (ZC s)) ∧ S' = S.set id (.cells v 209 (jA (yW s)))) := by
 refine yU Tryz.func203 Tryz.ntmps203 Tryz.results203 fun nx hd => ?_
 have hlt : id < nx := yA hd hS (by simp)
 have xw := fun obs => (zH (S := S) (obs := obs) hlt).trans hS
 have yw := fun (o : Ob) obs => (zH (S := S.set id o) (obs := obs) hlt).trans (Store.set_same _ _ _)
 have g1 : ¬ nx ≤ id := by omega
 refine za (zb ?_)
 refine za (ze [] (zm xw g1) ?_)
 refine za (ze [] (zm yw g1) ?_)
 refine za (zb ?_)
 refine za (zb ?_)
 refine za (zb ?_)
 exact zg ⟨_, _, rfl, ⟨by simp [zq, ZC, yW, Zno], rfl⟩, yb (wJ hd hlt _)⟩
def jh (s : Int) (n : Nat) : Nat := (ZC s).toNat % n
theorem uE (s : Int) {n : Nat} (h : 0 < n) : jh s n < n := Nat.mod_lt _ h
theorem Zaj (s : Int) (n : Nat) (h0 : 0 < n) (hn : n ≤ 1048576) {S : Store} {id v : Nat} (hS : S id = .cells v 209 (jA s)) : Spec Tryz.prog 160 [.ptr id v 0, I n] S (fun q S' => q = I (jh s n) ∧ S' = S.set id (.cells v 209 (jA (yW s)))) := by
 have hb := Znn s
 have hbl := uE s h0
 have e1 : (ZC s).tmod (n : Int) = (jh s n : Int) := by
  unfold jh
  obtain ⟨m, hm⟩ := Int.eq_ofNat_of_zero_le hb.1
  rw [hm, Int.toNat_natCast, Int.tmod_eq_emod_of_nonneg (by omega)]; omega
 have w1 : IntKind.u64.wrap (n : Int) = n := by rw [IntWalk.u64_in _ (by omega)]
 have w2 : IntKind.i64.wrap (jh s n : Int) = jh s n := wr _ (by omega) (by omega)
 have hw := fun (S : Store) hS => Znp s (S := S) (id := id) (v := v) hS
 generalize ZC s = r at *
 generalize jh s n = k at *
 refine yU Tryz.func160 Tryz.ntmps160 Tryz.results160 fun nx hd => ?_
 have hlt : id < nx := yA hd hS (by simp)
 have xw := fun obs => (zH (S := S) (obs := obs) hlt).trans hS
 refine za (zb ?_)
 repeat apply za
 refine zb ?_
 refine zn (by simp; omega) ?_
 refine zh (za (zV [] (by rfl) (by rfl) fun K Gc Gh hK hGc hGh X hX0 hX => ?_))
 simp -implicitDefEqProofs [hX0, hX, w1, e1, w2]
 try clear hX0 hX X
 refine hGc _ _ _ _ _ _ _ fun hsuf => ((hw _ (xw _)).mono ?_).v
 rintro _ _ ⟨rfl, rfl⟩
 refine ⟨S.set id (.cells v 209 (jA (yW s))), [], jZ _ hlt, ?_⟩
 have g2 : ¬ n = 0 := by omega
 clear hGc hGh
 clear Gc Gh
 refine zR hsuf (D := []) (by rfl) fun Gc Gh hGc hGh X hX0 hX => ?_
 simp -implicitDefEqProofs [hX0, hX, w1, e1, w2, g2]
 clear hX0 hX X
 refine hK _ _ _ ?_
 clear hK hGc hGh
 clear K Gc Gh
 exact zg ⟨_, _, rfl, ⟨by simp [zq], rfl⟩, yb (wJ hd hlt _)⟩
theorem Znq (s : Int) {S : Store} {nx : Nat} (hd : zW nx S) : Spec Tryz.prog 120 [I s] S (fun q S' => ∃ v, q = .ptr nx v 0 ∧ S' = S.set nx (.cells v 209 (jA (IntKind.u64.wrap s)))) := by
 refine ui hd Tryz.func120 Tryz.ntmps120 Tryz.results120 ?_
 refine za (zb ?_)
 refine za (zb ?_)
 intro v0
 exact zg ⟨_, _, rfl, ⟨v0, by simp [zq], rfl⟩, YC (j := 0) hd (by simp)⟩
open Go Go.Proofs Hp
abbrev Yi (x : Inst) (p : zu) (a o d : Nat) (b : Int) : List PV := [I x.days, I x.veh, I x.cap, I x.len, L x.cust, L x.dist, L p, I a, I o, I d, I b]
theorem Znr {x : Inst} {n : Nat} {p : zu} (h : PlanG x n p) (d : Nat) (b : Int) : PlanG x n (qV x p d b).1 := by
 unfold qV
 split
 ·exact h
 ·split
  ·exact h
  ·refine ⟨h.a, h.six, by rw [List.length_set]; exact h.len, fun e he => ?_⟩
   rcases List.mem_or_eq_of_mem_set he with q | q
   ·exact h.may e q
   ·rw [q]
    rename_i h1 h2
    have hlt : (d : Int).toNat < p.length := by omega
    refine (Zae (by have := h.six; omega) h.a.h (h.may _ ?_) b).1
    rw [List.getD_eq_getElem?_getD, List.getElem?_eq_getElem hlt]; exact List.getElem_mem hlt
theorem Zns {x : Inst} {n : Nat} {p : zu} (h : PlanG x n p) (a o d : Nat) (b : Int) (ha : a < x.cust.length) {S : Store} {id v : Nat} (hS : S id = .cells v 212 (Yi x p a o d b)) :
  Spec Tryz.prog 161 [.ptr id v 0] S (fun _ S' => S' = S.set id (.cells v 212 (Yi x (jX x n p [a]).1 a o d b))) := by
 have hr := Znk h a ha
 generalize jX x n p [a] = r at *
 obtain ⟨q, ok⟩ := r
 simp only at hr ⊢
 refine yU Tryz.func161 Tryz.ntmps161 Tryz.results161 fun nx hd => ?_
 have hlt : id < nx := yA hd hS (by simp)
 have xw := fun obs => (zH (S := S) (obs := obs) hlt).trans hS
 have g1 : ¬ nx ≤ id := by omega
 refine zC (some []) (Row.pures [0, 1, 2, 3, 5, 6, 7, 9, 10, 11] (.alt 4 (.alt 8 (.alt 12 (Row.pures [13, 14, 15, 16, 17, 18] (.alt 19 (.done) .stop)) .stop) (.alt 12 (.alt 8 (Row.pures [13, 14, 15, 16, 17, 18] (.alt 19 (.done) .stop)) .stop) .stop)) (.alt 8 (.alt 4 (.alt 12 (Row.pures [13, 14, 15, 16, 17, 18] (.alt 19 (.done) .stop)) .stop) (.alt 12 (.alt 4 (Row.pures [13, 14, 15, 16, 17, 18] (.alt 19 (.done) .stop)) .stop) .stop)) (.alt 12 (.alt 4 (.alt 8 (Row.pures [13, 14, 15, 16, 17, 18] (.alt 19 (.done) .stop)) .stop) (.alt 8 (.alt 4 (Row.pures [13, 14, 15, 16, 17, 18] (.alt 19 (.done) .stop)) .stop) .stop)) .stop)))) mixed (zm xw g1) ?_
 repeat' refine And.intro ?_ ?_
 all_goals
  refine zI (hr) (zm xw g1) ?_
  exact ⟨_, _, rfl, by simp, yb (wJ hd hlt _)⟩
theorem Znt {x : Inst} {n : Nat} {p : zu} (h : PlanG x n p) (a o d : Nat) (b : Int) (ha : a < x.cust.length) (ho : o < x.cust.length) {S : Store} {id v : Nat} (hS : S id = .cells v 212 (Yi x p a o d b)) :
  Spec Tryz.prog 162 [.ptr id v 0] S (fun _ S' => S' = S.set id (.cells v 212 (Yi x (wY x n p a o).1 a o d b))) := by
 have hr := Znl h a o ha ho
 generalize wY x n p a o = r at *
 obtain ⟨q, ok⟩ := r
 simp only at hr ⊢
 refine yU Tryz.func162 Tryz.ntmps162 Tryz.results162 fun nx hd => ?_
 have hlt : id < nx := yA hd hS (by simp)
 have xw := fun obs => (zH (S := S) (obs := obs) hlt).trans hS
 have g1 : ¬ nx ≤ id := by omega
 refine zC (some []) (Row.pures [0, 1, 2, 3, 5, 6, 7, 9, 10, 11, 13, 14, 15] (.alt 4 (.alt 8 (.alt 12 (.alt 16 (Row.pures [17, 18, 19, 20, 21, 22] (.alt 23 (.done) .stop)) .stop) (.alt 16 (.alt 12 (Row.pures [17, 18, 19, 20, 21, 22] (.alt 23 (.done) .stop)) .stop) .stop)) (.alt 12 (.alt 8 (.alt 16 (Row.pures [17, 18, 19, 20, 21, 22] (.alt 23 (.done) .stop)) .stop) (.alt 16 (.alt 8 (Row.pures [17, 18, 19, 20, 21, 22] (.alt 23 (.done) .stop)) .stop) .stop)) (.alt 16 (.alt 8 (.alt 12 (Row.pures [17, 18, 19, 20, 21, 22] (.alt 23 (.done) .stop)) .stop) (.alt 12 (.alt 8 (Row.pures [17, 18, 19, 20, 21, 22] (.alt 23 (.done) .stop)) .stop) .stop)) .stop))) (.alt 8 (.alt 4 (.alt 12 (.alt 16 (Row.pures [17, 18, 19, 20, 21, 22] (.alt 23 (.done) .stop)) .stop) (.alt 16 (.alt 12 (Row.pures [17, 18, 19, 20, 21, 22] (.alt 23 (.done) .stop)) .stop) .stop)) (.alt 12 (.alt 4 (.alt 16 (Row.pures [17, 18, 19, 20, 21, 22] (.alt 23 (.done) .stop)) .stop) (.alt 16 (.alt 4 (Row.pures [17, 18, 19, 20, 21, 22] (.alt 23 (.done) .stop)) .stop) .stop)) (.alt 16 (.alt 4 (.alt 12 (Row.pures [17, 18, 19, 20, 21, 22] (.alt 23 (.done) .stop)) .stop) (.alt 12 (.alt 4 (Row.pures [17, 18, 19, 20, 21, 22] (.alt 23 (.done) .stop)) .stop) .stop)) .stop))) (.alt 12 (.alt 4 (.alt 8 (.alt 16 (Row.pures [17, 18, 19, 20, 21, 22] (.alt 23 (.done) .stop)) .stop) (.alt 16 (.alt 8 (Row.pures [17, 18, 19, 20, 21, 22] (.alt 23 (.done) .stop)) .stop) .stop)) (.alt 8 (.alt 4 (.alt 16 (Row.pures [17, 18, 19, 20, 21, 22] (.alt 23 (.done) .stop)) .stop) (.alt 16 (.alt 4 (Row.pures [17, 18, 19, 20, 21, 22] (.alt 23 (.done) .stop)) .stop) .stop)) (.alt 16 (.alt 4 (.alt 8 (Row.pures [17, 18, 19, 20, 21, 22] (.alt 23 (.done) .stop)) .stop) (.alt 8 (.alt 4 (Row.pures [17, 18, 19, 20, 21, 22] (.alt 23 (.done) .stop)) .stop) .stop)) .stop))) (.alt 16 (.alt 4 (.alt 8 (.alt 12 (Row.pures [17, 18, 19, 20, 21, 22] (.alt 23 (.done) .stop)) .stop) (.alt 12 (.alt 8 (Row.pures [17, 18, 19, 20, 21, 22] (.alt 23 (.done) .stop)) .stop) .stop)) (.alt 8 (.alt 4 (.alt 12 (Row.pures [17, 18, 19, 20, 21, 22] (.alt 23 (.done) .stop)) .stop) (.alt 12 (.alt 4 (Row.pures [17, 18, 19, 20, 21, 22] (.alt 23 (.done) .stop)) .stop) .stop)) (.alt 12 (.alt 4 (.alt 8 (Row.pures [17, 18, 19, 20, 21, 22] (.alt 23 (.done) .stop)) .stop) (.alt 8 (.alt 4 (Row.pures [17, 18, 19, 20, 21, 22] (.alt 23 (.done) .stop)) .stop) .stop)) .stop))) .stop))))) mixed (zm xw g1) ?_
 repeat' refine And.intro ?_ ?_
 all_goals
  refine zI (hr) (zm xw g1) ?_
  exact ⟨_, _, rfl, by simp, yb (wJ hd hlt _)⟩
theorem Znu {x : Inst} {n : Nat} {p : zu} (h : PlanG x n p) (a o d : Nat) (b : Int) (hb : b ≤ 9223372036854775807) {S : Store} {id v : Nat} (hS : S id = .cells v 212 (Yi x p a o d b)) :
  Spec Tryz.prog 163 [.ptr id v 0] S (fun _ S' => S' = S.set id (.cells v 212 (Yi x (qV x p d b).1 a o d b))) := by
 have hr := Znf h.m d b hb
 generalize qV x p d b = r at *
 obtain ⟨q, ok⟩ := r
 simp only at hr ⊢
 refine yU Tryz.func163 Tryz.ntmps163 Tryz.results163 fun nx hd => ?_
 have hlt : id < nx := yA hd hS (by simp)
 have xw := fun obs => (zH (S := S) (obs := obs) hlt).trans hS
 have g1 : ¬ nx ≤ id := by omega
 refine zC (some []) (Row.pures [0, 1, 2, 3, 5, 6, 7, 9, 10, 11, 13, 14, 15] (.alt 4 (.alt 8 (.alt 12 (.alt 16 (Row.pures [17, 18, 19, 20, 21, 22] (.alt 23 (.done) .stop)) .stop) (.alt 16 (.alt 12 (Row.pures [17, 18, 19, 20, 21, 22] (.alt 23 (.done) .stop)) .stop) .stop)) (.alt 12 (.alt 8 (.alt 16 (Row.pures [17, 18, 19, 20, 21, 22] (.alt 23 (.done) .stop)) .stop) (.alt 16 (.alt 8 (Row.pures [17, 18, 19, 20, 21, 22] (.alt 23 (.done) .stop)) .stop) .stop)) (.alt 16 (.alt 8 (.alt 12 (Row.pures [17, 18, 19, 20, 21, 22] (.alt 23 (.done) .stop)) .stop) (.alt 12 (.alt 8 (Row.pures [17, 18, 19, 20, 21, 22] (.alt 23 (.done) .stop)) .stop) .stop)) .stop))) (.alt 8 (.alt 4 (.alt 12 (.alt 16 (Row.pures [17, 18, 19, 20, 21, 22] (.alt 23 (.done) .stop)) .stop) (.alt 16 (.alt 12 (Row.pures [17, 18, 19, 20, 21, 22] (.alt 23 (.done) .stop)) .stop) .stop)) (.alt 12 (.alt 4 (.alt 16 (Row.pures [17, 18, 19, 20, 21, 22] (.alt 23 (.done) .stop)) .stop) (.alt 16 (.alt 4 (Row.pures [17, 18, 19, 20, 21, 22] (.alt 23 (.done) .stop)) .stop) .stop)) (.alt 16 (.alt 4 (.alt 12 (Row.pures [17, 18, 19, 20, 21, 22] (.alt 23 (.done) .stop)) .stop) (.alt 12 (.alt 4 (Row.pures [17, 18, 19, 20, 21, 22] (.alt 23 (.done) .stop)) .stop) .stop)) .stop))) (.alt 12 (.alt 4 (.alt 8 (.alt 16 (Row.pures [17, 18, 19, 20, 21, 22] (.alt 23 (.done) .stop)) .stop) (.alt 16 (.alt 8 (Row.pures [17, 18, 19, 20, 21, 22] (.alt 23 (.done) .stop)) .stop) .stop)) (.alt 8 (.alt 4 (.alt 16 (Row.pures [17, 18, 19, 20, 21, 22] (.alt 23 (.done) .stop)) .stop) (.alt 16 (.alt 4 (Row.pures [17, 18, 19, 20, 21, 22] (.alt 23 (.done) .stop)) .stop) .stop)) (.alt 16 (.alt 4 (.alt 8 (Row.pures [17, 18, 19, 20, 21, 22] (.alt 23 (.done) .stop)) .stop) (.alt 8 (.alt 4 (Row.pures [17, 18, 19, 20, 21, 22] (.alt 23 (.done) .stop)) .stop) .stop)) .stop))) (.alt 16 (.alt 4 (.alt 8 (.alt 12 (Row.pures [17, 18, 19, 20, 21, 22] (.alt 23 (.done) .stop)) .stop) (.alt 12 (.alt 8 (Row.pures [17, 18, 19, 20, 21, 22] (.alt 23 (.done) .stop)) .stop) .stop)) (.alt 8 (.alt 4 (.alt 12 (Row.pures [17, 18, 19, 20, 21, 22] (.alt 23 (.done) .stop)) .stop) (.alt 12 (.alt 4 (Row.pures [17, 18, 19, 20, 21, 22] (.alt 23 (.done) .stop)) .stop) .stop)) (.alt 12 (.alt 4 (.alt 8 (Row.pures [17, 18, 19, 20, 21, 22] (.alt 23 (.done) .stop)) .stop) (.alt 8 (.alt 4 (Row.pures [17, 18, 19, 20, 21, 22] (.alt 23 (.done) .stop)) .stop) .stop)) .stop))) .stop))))) mixed (zm xw g1) ?_
 repeat' refine And.intro ?_ ?_
 all_goals
  refine zI (hr) (zm xw g1) ?_
  exact ⟨_, _, rfl, by simp, yb (wJ hd hlt _)⟩
open Go Go.Proofs Hp
def wq (x : Inst) (n : Nat) (p : zu) (s b : Int) : zu :=
 if x.cust.length = 0 then p else
  (qV x (wY x n (jX x n p [jh s x.cust.length]).1 (jh s x.cust.length) (jh (yW s) x.cust.length)).1 (jh (yW (yW s)) n) b).1
def Yj (x : Inst) (s : Int) : Int := if x.cust.length = 0 then s else yW (yW (yW s))
theorem Znv {x : Inst} {n : Nat} {p : zu} (h : PlanG x n p) (s b : Int) : PlanG x n (wq x n p s b) := by
 unfold wq
 split
 ·exact h
 ·rename_i h0
  have ha := uE s (n := x.cust.length) (by omega)
  have ho := uE (yW s) (n := x.cust.length) (by omega)
  exact Znr (Zai (XV h _ (by simp) (by simpa using ha)).1 _ _ ha ho).1 _ _
def ZD (p q1 q2 q3 : zu) (k : Nat) : zu := if k = 0 then p else if k = 1 then q1 else if k = 2 then q2 else q3
theorem ZeW (p q1 q2 q3 : zu) : ZD p q1 q2 q3 0 = p := if_pos rfl
theorem ZeX (p q1 q2 q3 : zu) : ZD p q1 q2 q3 1 = q1 := by unfold ZD; rw [if_neg (by decide), if_pos rfl]
theorem ZeY (p q1 q2 q3 : zu) : ZD p q1 q2 q3 2 = q2 := by unfold ZD; rw [if_neg (by decide), if_neg (by decide), if_pos rfl]
theorem ZeZ (p q1 q2 q3 : zu) : ZD p q1 q2 q3 3 = q3 := by unfold ZD; rw [if_neg (by decide), if_neg (by decide), if_neg (by decide)]
theorem Znw {x : Inst} {n : Nat} {p : zu} (h : PlanG x n p) (hn0 : 0 < n) (s b : Int) (hb : b ≤ 9223372036854775807) {S : Store} {id v : Nat} (hS : S id = .cells v 209 (jA s)) :
  Spec Tryz.prog 121 [.agg (zA x), .agg [L p], .ptr id v 0, I b] S (fun q S' => q = .agg [L (wq x n p s b)] ∧ S' = S.set id (.cells v 209 (jA (Yj x s)))) := by
 have hcl := h.clone
 have h6 := h.six
 have hxd := h.a.days
 have hn60 := h.a.n60
 by_cases hm : x.cust.length = 0
 ·have e1 : wq x n p s b = p := by unfold wq; rw [if_pos hm]
  have e2 : Yj x s = s := by unfold Yj; rw [if_pos hm]
  rw [e1, e2]
  refine yU Tryz.func121 Tryz.ntmps121 Tryz.results121 fun nx hd => ?_
  have hlt : id < nx := yA hd hS (by simp)
  refine za (zb ?_)
  intro v0 v1 v2
  refine za (zC (some [nx, nx + 1]) (Row.pures [0, 1, 2, 3, 4] (.alt 5 (Row.pures [6] .done) .stop)) mixed trivial ?_)
  refine zI (hcl) trivial ?_
  intro v3
  refine za (zb ?_)
  repeat apply za
  refine zb ?_
  refine zo (by simp [List.length_eq_zero_iff.1 hm]) ?_
  refine za (zb ?_)
  have eS : S.set id (.cells v 209 (jA s)) = S := by
   rw [← hS]
   funext i
   by_cases hi : i = id
   ·subst hi; exact Store.set_same _ _ _
   ·exact Store.set_other _ _ _ _ hi
  rw [eS]
  exact zg ⟨_, S, (by simp; rfl), ⟨by simp [zq], rfl⟩, yb hd⟩
 have e1 : wq x n p s b = (qV x (wY x n (jX x n p [jh s x.cust.length]).1 (jh s x.cust.length) (jh (yW s) x.cust.length)).1 (jh (yW (yW s)) n) b).1 := by unfold wq; rw [if_neg hm]
 have e2 : Yj x s = yW (yW (yW s)) := by unfold Yj; rw [if_neg hm]
 rw [e1, e2]
 have ha := uE s (n := x.cust.length) (by omega)
 have ho := uE (yW s) (n := x.cust.length) (by omega)
 have hdd := uE (yW (yW s)) hn0
 have b1 := fun (S : Store) hS => Zaj s x.cust.length (by omega) (by omega) (S := S) (id := id) (v := v) hS
 have b2 := fun (S : Store) hS => Zaj (yW s) x.cust.length (by omega) (by omega) (S := S) (id := id) (v := v) hS
 have b3 := fun (S : Store) hS => Zaj (yW (yW s)) n (by omega) (by omega) (S := S) (id := id) (v := v) hS
 rw [← hxd] at b3
 have hp1 : PlanG x n (jX x n p [jh s x.cust.length]).1 := (XV h _ (by simp) (by simpa using ha)).1
 have hp2 := (Zai hp1 _ _ ha ho).1
 generalize jh s x.cust.length = a at *
 generalize jh (yW s) x.cust.length = o at *
 generalize jh (yW (yW s)) n = d at *
 generalize yW (yW s) = s2 at *
 generalize yW s = s1 at *
 generalize yW s2 = s3 at *
 have r1 := fun (S : Store) (i w : Nat) hS => Zns h a o d b ha (S := S) (id := i) (v := w) hS
 have r2 := fun (S : Store) (i w : Nat) hS => Znt hp1 a o d b ha ho (S := S) (id := i) (v := w) hS
 have r3 := fun (S : Store) (i w : Nat) hS => Znu hp2 a o d b hb (S := S) (id := i) (v := w) hS
 clear hp1 hp2
 generalize (qV x (wY x n (jX x n p [a]).1 a o).1 d b).1 = q3 at *
 generalize (wY x n (jX x n p [a]).1 a o).1 = q2 at *
 generalize (jX x n p [a]).1 = q1 at *
 clear e1 e2
 refine yU Tryz.func121 Tryz.ntmps121 Tryz.results121 fun nx hd => ?_
 have hlt : id < nx := yA hd hS (by simp)
 have xw := fun obs => (zH (S := S) (obs := obs) hlt).trans hS
 refine za (zb ?_)
 intro v0 v1 v2
 refine za (zC (some [nx, nx + 1]) (Row.pures [0, 1, 2, 3, 4] (.alt 5 (Row.pures [6] .done) .stop)) mixed trivial ?_)
 refine zI (hcl) trivial ?_
 intro v3
 refine za (zb ?_)
 repeat apply za
 refine zb ?_
 have hm2 : ¬ x.cust = [] := fun e => hm (by rw [e]; rfl)
 refine zn (by simp [hm2]) ?_
 refine zh (za (zV [] (by rfl) (by rfl) fun K Gc Gh hK hGc hGh X hX0 hX => ?_))
 simp -implicitDefEqProofs [hX0, hX]
 try clear hX0 hX X
 refine hGc _ _ _ _ _ _ _ fun hsuf => ((b1 _ (xw _)).mono ?_).v
 rintro _ _ ⟨rfl, rfl⟩
 refine ⟨_, _, jZ _ hlt, ?_⟩
 clear hGc hGh
 clear Gc Gh
 refine zR hsuf (D := []) (by rfl) fun Gc Gh hGc hGh X hX0 hX => ?_
 simp -implicitDefEqProofs [hX0, hX]
 clear hX0 hX X
 have hS1 : (S.set id (.cells v 209 (jA s1))) id = .cells v 209 (jA s1) := Store.set_same _ _ _
 have hd1 := wJ hd hlt (.cells v 209 (jA s1))
 obtain ⟨S1, hS1e⟩ : ∃ S1, S1 = S.set id (.cells v 209 (jA s1)) := ⟨_, rfl⟩
 rw [← hS1e] at hS1 hd1 ⊢
 have xw1 := fun obs => (zH (S := S1) (obs := obs) hlt).trans hS1
 refine hK _ _ _ ?_
 clear hK hGc hGh
 clear K Gc Gh
 refine za (zV [] (by rfl) (by rfl) fun K Gc Gh hK hGc hGh X hX0 hX => ?_)
 simp -implicitDefEqProofs [hX0, hX]
 try clear hX0 hX X
 refine hGc _ _ _ _ _ _ _ fun hsuf => ((b2 _ (xw1 _)).mono ?_).v
 rintro _ _ ⟨rfl, rfl⟩
 refine ⟨_, _, jZ _ hlt, ?_⟩
 clear hGc hGh
 clear Gc Gh
 refine zR hsuf (D := []) (by rfl) fun Gc Gh hGc hGh X hX0 hX => ?_
 simp -implicitDefEqProofs [hX0, hX]
 clear hX0 hX X
 have hS2 : (S1.set id (.cells v 209 (jA s2))) id = .cells v 209 (jA s2) := Store.set_same _ _ _
 have hd2 := wJ hd1 hlt (.cells v 209 (jA s2))
 obtain ⟨S2, hS2e⟩ : ∃ S2, S2 = S1.set id (.cells v 209 (jA s2)) := ⟨_, rfl⟩
 rw [← hS2e] at hS2 hd2 ⊢
 have xw2 := fun obs => (zH (S := S2) (obs := obs) hlt).trans hS2
 refine hK _ _ _ ?_
 clear hK hGc hGh
 clear K Gc Gh
 refine za (zV [] (by rfl) (by rfl) fun K Gc Gh hK hGc hGh X hX0 hX => ?_)
 simp -implicitDefEqProofs [hX0, hX]
 try clear hX0 hX X
 refine hGc _ _ _ _ _ _ _ fun hsuf => ((b3 _ (xw2 _)).mono ?_).v
 rintro _ _ ⟨rfl, rfl⟩
 refine ⟨_, _, jZ _ hlt, ?_⟩
 clear hGc hGh
 clear Gc Gh
 refine zR hsuf (D := []) (by rfl) fun Gc Gh hGc hGh X hX0 hX => ?_
 simp -implicitDefEqProofs [hX0, hX]
 clear hX0 hX X
 have hd3 := wJ hd2 hlt (.cells v 209 (jA s3))
 obtain ⟨S3, hS3e⟩ : ∃ S3, S3 = S2.set id (.cells v 209 (jA s3)) := ⟨_, rfl⟩
 rw [← hS3e] at hd3 ⊢
 refine hK _ _ _ ?_
 clear hK hGc hGh
 clear K Gc Gh
 repeat apply za
 refine zb ?_
 refine zj (zG (fun k : Nat => k ≤ 3) (fun k => [(8, .ptr (nx + 2) v2 0), (9, .ptr (nx + 3) v3 0), (53, .lst 3 [.fn (.func 161) [.ptr (nx + 3) v3 0] [], .fn (.func 162) [.ptr (nx + 3) v3 0] [], .fn (.func 163) [.ptr (nx + 3) v3 0] []]), (54, I 3), (55, I k)]) (fun k => [.cells v0 25 (zA x), .cells v1 38 [L p], .cells v2 38 [yG], .cells v3 212 (Yi x (ZD p q1 q2 q3 k) a o d b)]) (fun k => 3 - k) 0 [] (by simp) (by simp) (by simp [ZeW]) ?_)
 rintro k hk
 refine za (zb ?_)
 refine za (zr rfl (fun hc => ?_) (fun hc => ?_))
 ·simp at hc
  refine zh (za (zj ?_))
  obtain rfl | rfl | rfl : k = 0 ∨ k = 1 ∨ k = 2 := by omega
  ·refine za (zb ?_)
   refine zV [] (by rfl) (by rfl) fun K Gc Gh hK hGc hGh X hX0 hX => ?_
   simp -implicitDefEqProofs [hX0, hX]
   try clear hX0 hX X
   refine hGc _ _ _ _ _ _ _ fun hsuf => ((r1 _ (nx + 3) v3 (by rw [yQ]; simp [ZeW])).mono ?_).v
   rintro _ _ rfl
   refine ⟨S3, _, (by rw [y9 _ (by omega) (by simp), Nat.add_sub_cancel_left]), ?_⟩
   clear hGc hGh
   clear Gc Gh
   refine zR hsuf (D := []) (by rfl) fun Gc Gh hGc hGh X hX0 hX => ?_
   simp -implicitDefEqProofs [hX0, hX]
   clear hX0 hX X
   refine hK _ _ _ ?_
   clear hK hGc hGh
   clear K Gc Gh
   refine zb ?_
   exact zp 1 [] (by omega) (by omega) (by simp; exact wr 1 (by omega) (by omega)) rfl (by simp [ZeX])
  ·refine za (zb ?_)
   refine zV [] (by rfl) (by rfl) fun K Gc Gh hK hGc hGh X hX0 hX => ?_
   simp -implicitDefEqProofs [hX0, hX]
   try clear hX0 hX X
   refine hGc _ _ _ _ _ _ _ fun hsuf => ((r2 _ (nx + 3) v3 (by rw [yQ]; simp [ZeX])).mono ?_).v
   rintro _ _ rfl
   refine ⟨S3, _, (by rw [y9 _ (by omega) (by simp), Nat.add_sub_cancel_left]), ?_⟩
   clear hGc hGh
   clear Gc Gh
   refine zR hsuf (D := []) (by rfl) fun Gc Gh hGc hGh X hX0 hX => ?_
   simp -implicitDefEqProofs [hX0, hX]
   clear hX0 hX X
   refine hK _ _ _ ?_
   clear hK hGc hGh
   clear K Gc Gh
   refine zb ?_
   exact zp 2 [] (by omega) (by omega) (by simp; exact wr 2 (by omega) (by omega)) rfl (by simp [ZeY])
  ·refine za (zb ?_)
   refine zV [] (by rfl) (by rfl) fun K Gc Gh hK hGc hGh X hX0 hX => ?_
   simp -implicitDefEqProofs [hX0, hX]
   try clear hX0 hX X
   refine hGc _ _ _ _ _ _ _ fun hsuf => ((r3 _ (nx + 3) v3 (by rw [yQ]; simp [ZeY])).mono ?_).v
   rintro _ _ rfl
   refine ⟨S3, _, (by rw [y9 _ (by omega) (by simp), Nat.add_sub_cancel_left]), ?_⟩
   clear hGc hGh
   clear Gc Gh
   refine zR hsuf (D := []) (by rfl) fun Gc Gh hGc hGh X hX0 hX => ?_
   simp -implicitDefEqProofs [hX0, hX]
   clear hX0 hX X
   refine hK _ _ _ ?_
   clear hK hGc hGh
   clear K Gc Gh
   refine zb ?_
   exact zp 3 [] (by omega) (by omega) (by simp; exact wr 3 (by omega) (by omega)) rfl (by simp [ZeZ])
 ·simp at hc
  obtain rfl : k = 3 := by omega
  refine zy ?_
  rw [ZeZ]
  refine za (zb ?_)
  have eS : S.set id (.cells v 209 (jA s3)) = S3 := by rw [hS3e, hS2e, hS1e, Store.set_set, Store.set_set]
  rw [eS]
  exact zg ⟨_, S3, (by simp; rfl), ⟨by simp [zq], rfl⟩, yb hd3⟩
end Go.Proofs.YtcnbiofjmioaiaaGreat.Pv
