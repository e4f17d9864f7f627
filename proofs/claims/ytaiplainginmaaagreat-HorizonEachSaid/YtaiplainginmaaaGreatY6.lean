/- A part of the proof of the statement that the last text of this claim proves; no condition is added. Packed by a program of the prover. -/
import Derived.Test.YtaiplainginmaaaGreatY5
namespace Go.Proofs.YtaiplainginmaaaGreat.Pv
open Go Go.Proofs Hp
def Ze (b : Int) : Int := if 20 < b then b % 21 else b
set_option maxRecDepth 20000 in
theorem ZiM (b : Int) : Pure Tryz.prog 14 [I b] (I (Ze b)) := by
 unfold Ze
 refine pwe Tryz.func14 Tryz.ntmps14 Tryz.results14 fun S nx hd => ?_
 (repeat apply za); refine pwn ?_; intros
 (repeat apply za); refine pwn ?_; intros
 by_cases h : 20 < b
 ·rw [if_pos h]
  have w : b.tmod 21 = b % 21 := Int.tmod_eq_emod_of_nonneg (by omega)
  repeat apply za
  refine zj (by simp [h]) ?_
  repeat apply za
  refine pwN [] w ?_
  intros
  repeat apply za
  exact ze (zh hd rfl rfl)
 ·rw [if_neg h]
  repeat apply za
  refine zi (by simp; omega) ?_
  refine zb ?_
  (repeat apply za); refine pwn ?_; intros
  repeat apply za
  exact ze (zh hd rfl rfl)
set_option maxRecDepth 20000 in
theorem ZiN (x : Inst) (v : List (List Visit)) (day : Int) (n : Nat) (hx : x.cust.length ≤ 1000) (hv : VsOk x.cust.length n v) : Pure Tryz.prog 22 [.agg (zt x), L v, I day] (L (yy v day x.cust.length)) := by
 have hvl := hv.len
 have hso := fun k => (Xq hv day k).1
 have hmi : xG (x.cust.length : Int) (x.cust.length : Int) = x.cust.length := by unfold xG; simp
 refine pwe Tryz.func22 Tryz.ntmps22 Tryz.results22 fun S nx hd => ?_
 repeat apply za
 refine pwn ?_
 intro v0
 (repeat apply za); refine pwn ?_; intros
 refine za (qe 7 50 2 rfl fun v1 => ?_)
 (repeat apply za); refine pwn ?_; intros
 repeat apply za
 refine zg (zr (fun s : Nat × List Stop × Nat => s.1 ≤ x.cust.length ∧ s.2.1 = yy v day s.1) (fun (i, out, w) => [(1, L v), (2, I day), (7, .sl (nx + 1) w 2 0 out.length), (16, I x.cust.length), (17, I i)]) (fun (i, out, w) => [.cells v0 25 (zt x), .cells w 50 (out.flatMap Enc.enc)]) (fun s => x.cust.length - s.1) (0, [], v1) [] (by simp [yy]) (by simp [hvl, hmi]) (by simp) ?_)
 rintro ⟨i, out, w⟩ ⟨hi, ho⟩
 simp only at hi ho ⊢
 (repeat apply za); refine pwn ?_; intros
 repeat apply za
 refine zn rfl (fun hc => ?_) (fun hc => ?_)
 ·simp at hc
  have hiv : i < v.length := by omega
  obtain ⟨l, tl, a1, a2, a3, e0⟩ := el1 rfl v i hiv
  have hll := hv.few l (List.mem_of_getElem? a1)
  have hoi := hso i
  refine zb (za (zg ?_))
  (repeat apply za); refine pwn ?_; intros
  repeat apply za
  refine pwN [] (jn2 e0 hiv) ?_
  intros
  repeat apply za
  refine zg (zr (fun s : Nat × List Stop × Nat => s.1 ≤ l.length ∧ s.2.1 = yy v day i ++ ut l day i s.1 ∧ s.2.1.length ≤ i + s.1) (fun (k, out, w) => [(1, L v), (2, I day), (7, .sl (nx + 1) w 2 0 out.length), (8, I i), (16, I x.cust.length), (17, I i), (23, L l), (24, I l.length), (25, I k)]) (fun (k, out, w) => [.cells v0 25 (zt x), .cells w 50 (out.flatMap Enc.enc)]) (fun s => l.length - s.1) (0, out, w) [] ⟨by simp, by simp [ZiJ, ho], by simp [ho]; omega⟩ (by simp) (by simp) ?_)
  clear ho
  rintro ⟨k, out, w⟩ ⟨hk, ho, hol⟩
  simp only at hk ho hol ⊢
  (repeat apply za); refine pwn ?_; intros
  repeat apply za
  refine zn rfl (fun hc2 => ?_) (fun hc2 => ?_)
  ·simp at hc2
   obtain ⟨s, tl2, b1, b2, b3, e1, e2⟩ := el 2 rfl l k hc2
   refine zb (za (zg ?_))
   repeat apply za
   refine pwN [] (jn3 e1 e2 hc2) ?_
   intro v2
   (repeat apply za); refine pwn ?_; intros
   by_cases hd : s.d = day
   ·repeat apply za
    refine zj (by simp [hd]) ?_
    repeat apply za
    refine pwn ?_
    refine ⟨by omega, ?_⟩
    intros
    (repeat apply za); refine pwn ?_; intros
    exact zm (k + 1, out ++ [⟨i, s.q⟩], w + 1) [_] ⟨hc2, by rw [Zbb b1, if_pos hd, ho]; simp, by simp; omega⟩ (by simp; omega) (by simp [wrN k (by omega)]) rfl (by simp; rfl)
   ·repeat apply za
    refine zi (by simp [hd]) ?_
    refine zb ?_
    (repeat apply za); refine pwn ?_; intros
    exact zm (k + 1, out, w) [_] ⟨hc2, by rw [Zbb b1, if_neg hd, ho]; simp, by dsimp only; omega⟩ (by simp; omega) (by simp [wrN k (by omega)]) rfl (by simp; rfl)
  ·simp at hc2
   obtain rfl : k = l.length := by omega
   rw [ZiK v day i l a1, ← Xp] at ho
   refine zo ?_
   (repeat apply za); refine pwn ?_; intros
   exact zm (i + 1, out, w) [] ⟨hc, ho⟩ (by simp; omega) (by simp [wrN i (by omega)]) rfl (by simp)
 ·simp at hc
  obtain rfl : i = x.cust.length := by omega
  refine zo ?_
  refine zM 1 rfl ?_
  (repeat apply za); refine pwn ?_; intros
  repeat apply za
  exact ze (zh hd (by simp; rfl) (by simp [zk, ho]))
open Go
section
variable {P : Program} {r : Rd} {n N : Nat} {Q : Exit → (Nat → PV) → Store → Prop} {F : Nat → PV} {c : Code}
theorem ZiO {S1 T : Store} {G : Nat → PV} {id ver e : Nat} {cs : List PV} (hid : S1 id = .cells ver e cs) (hT : T id = .dead) (hat : ∀ o, T o = .dead ∨ T o = S1 o ∨ T o = je id ver cs (S1 o))
  (hG : ∀ i, G i = F i ∨ G i = yC id ver cs (F i)) (h : PW P r n N c Q G T) : PW P r n N c Q F S1 := by
 refine wL (F' := G) (S' := T) (fun C w a st => ?_) h
 have hver : ∀ o v, (T o).ver = some v → (S1 o).ver = some v := by
  intro o v hv
  rcases hat o with q | q | q
  ·rw [q] at hv; cases hv
  ·rw [q] at hv; exact hv
  ·rw [q, Wx] at hv; exact hv
 have hne : ∀ o, T o ≠ .dead → S1 o ≠ .dead := by
  intro o ho hd
  rcases hat o with q | q | q
  ·exact ho q
  ·exact ho (q.trans hd)
  ·rw [hd] at q; exact ho q
 have hM : ∀ b, C.M T b → C.M S1 b := fun b ⟨o, k, ho, hl⟩ => ⟨o, k, hne o ho, hl⟩
 have hstep : Step C S1 w C T w := ⟨rfl, ⟨rfl, Nat.le_refl _⟩, rfl, Nat.le_refl _, Nat.le_refl _, Nat.le_refl _, fun b _ hb => ⟨rfl, fun h => hb (hM b h)⟩, fun o v1 hv => .inr ⟨v1, hver o v1 hv, Nat.le_refl _, fun _ => rfl⟩⟩
 have hrel : ∀ {p u}, Rel C S1 w p u → Rel C T w (yC id ver cs p) u := fun h => YL st.sim hid hT hne hstep h
 refine ⟨C, ⟨⟨fun o ho => st.sim.lt o (hne o ho), fun o v hv => st.sim.clk o v (hver o v hv), fun o o' b k k' ho ho' => st.sim.dist o o' b k k' (hne o ho) (hne o' ho'), ?_, ?_⟩, st.size, fun i => ?_, r.keep hstep st.v⟩, hstep⟩
 ·intro o v e' ds ho
  rcases hat o with q | q | q
  ·rw [q] at ho; cases ho
  ·rw [q] at ho
   rcases st.sim.cells o v e' ds ho with hn | ⟨b, k, c, h1, h2, h3, h4, h5, h6⟩
   ·exact .inl hn
   ·exact .inr ⟨b, k, c, h1, h2, h3, h4, h5, fun i p u hp hu => (h6 i p u hp hu).mono hstep⟩
  ·rw [q] at ho
   cases hs : S1 o with
   | dead => rw [hs] at ho; cases ho
   | map v es => rw [hs] at ho; cases ho
   | cells v2 e2 ds2 =>
    rw [hs] at ho
    cases ho
    rcases st.sim.cells o _ _ ds2 hs with ⟨h1, h2⟩ | ⟨b, k, c, h1, h2, h3, h4, h5, h6⟩
    ·exact .inl ⟨h1, by rw [h2]; rfl⟩
    ·refine .inr ⟨b, k, c, h1, h2, h3, by simpa using h4, fun i v hi hv => h5 i v (by simpa using hi) hv, fun i p u hp hu => ?_⟩
     rw [List.getElem?_map] at hp
     obtain ⟨p0, hp0, rfl⟩ := Option.map_eq_some_iff.1 hp
     exact hrel (h6 i p0 u hp0 hu)
 ·intro o v es ho
  have hs : S1 o = .map v es := by
   rcases hat o with q | q | q
   ·rw [q] at ho; cases ho
   ·rw [q] at ho; exact ho
   ·rw [q] at ho
    cases hs : S1 o with
    | dead => rw [hs] at ho; cases ho
    | map v es => rw [hs] at ho; exact ho
    | cells v2 e2 ds2 => rw [hs] at ho; cases ho
  obtain ⟨b, k, ms, cl, h1, h2, h3, h4⟩ := st.sim.maps o v es hs
  exact ⟨b, k, ms, cl, h1, h2, h3, fun i x m hx hm => ⟨(h4 i x m hx hm).1, (h4 i x m hx hm).2.mono hstep⟩⟩
 ·rcases hG i with q | q
  ·rw [q]; exact (st.fr i).mono hstep
  ·rw [q]; exact hrel (st.fr i)
def rwC {α : Type} (base sz : Nat) (ws : Nat → Nat) (rows : List (List α)) : List PV := (List.range rows.length).map fun i => .sl (base + i) (ws i) sz 0 (rows.getD i []).length
theorem Zf {α : Type} (base sz : Nat) (ws : Nat → Nat) (rows : List (List α)) : (rwC base sz ws rows).length = rows.length := by simp [rwC]
theorem Z5 {α : Type} (base sz : Nat) (ws : Nat → Nat) (rows : List (List α)) (i : Nat) (h : i < rows.length) : (rwC base sz ws rows)[i]? = some (.sl (base + i) (ws i) sz 0 (rows.getD i []).length) := by
 simp [rwC, h]
theorem Xr {α : Type} (base sz : Nat) (ws : Nat → Nat) (rows : List (List α)) (i : Nat) (h : i < rows.length) : ∃ tl, (rwC base sz ws rows).drop i = .sl (base + i) (ws i) sz 0 (rows.getD i []).length :: tl := by
 refine ⟨(rwC base sz ws rows).drop (i + 1), ?_⟩
 have hl : i < (rwC base sz ws rows).length := by rw [Zf]; exact h
 rw [List.drop_eq_getElem_cons hl]
 have := Z5 base sz ws rows i h
 rw [List.getElem?_eq_getElem hl] at this
 rw [Option.some.inj this]
structure RowsAt {α : Type} [Enc α] (T : Store) (A va tA base e sz : Nat) (ws : Nat → Nat) (rows : List (List α)) : Prop where
 arr : T A = .cells va tA (rwC base sz ws rows)
 row : ∀ i, i < rows.length → T (base + i) = .cells (ws i) e ((rows.getD i []).flatMap Enc.enc)
 out : A < base
theorem RowsAt.other {α : Type} [Enc α] {T T' : Store} {A va tA base e sz : Nat} {ws : Nat → Nat} {rows : List (List α)} (h : RowsAt T A va tA base e sz ws rows) (hT : ∀ o, o = A ∨ (base ≤ o ∧ o < base + rows.length) → T' o = T o) : RowsAt T' A va tA base e sz ws rows :=
 ⟨(hT A (.inl rfl)).trans h.arr, fun i hi => (hT _ (.inr ⟨by omega, by omega⟩)).trans (h.row i hi), h.out⟩
theorem RowsAt.turn {α : Type} [Enc α] {T T' : Store} {A va tA base e sz : Nat} {ws : Nat → Nat} {rows : List (List α)} (h : RowsAt T A va tA base e sz ws rows) {i : Nat} (hi : i < rows.length) (w : Nat) (l : List α)
  (hA : T' A = .cells va tA ((rwC base sz ws rows).set i (.sl (base + i) w sz 0 l.length))) (hB : T' (base + i) = .cells w e (l.flatMap Enc.enc)) (hT : ∀ o, o ≠ A → o ≠ base + i → T' o = T o) : RowsAt T' A va tA base e sz (fun k => if k = i then w else ws k) (rows.set i l) := by
 have hout := h.out
 refine ⟨?_, fun k hk => ?_, h.out⟩
 ·rw [hA]
  congr 1
  apply List.ext_getElem?
  intro k
  rw [List.getElem?_set, Zf]
  by_cases hki : i = k
  ·subst hki
   rw [if_pos rfl, if_pos hi, Z5 _ _ _ _ _ (by simpa using hi)]
   simp [hi]
  ·rw [if_neg hki]
   by_cases hk : k < rows.length
   ·rw [Z5 _ _ _ _ _ hk, Z5 _ _ _ _ _ (by simpa using hk)]
    simp only [List.getD_eq_getElem?_getD, List.getElem?_set_ne hki, if_neg (fun e : k = i => hki e.symm)]
   ·rw [List.getElem?_eq_none (by rw [Zf]; omega), List.getElem?_eq_none (by rw [Zf]; simp; omega)]
 ·rw [List.length_set] at hk
  by_cases hki : k = i
  ·subst hki
   rw [hB, if_pos rfl]
   simp [hi]
  ·rw [hT _ (by omega) (by omega), h.row k hk, if_neg hki]
   simp only [List.getD_eq_getElem?_getD, List.getElem?_set_ne (fun e : i = k => hki e.symm)]
theorem ZiP {α : Type} (base sz : Nat) (ws : Nat → Nat) (m : Nat) : rwC (α := α) base sz ws (List.replicate m []) = (List.range m).map fun i => .sl (base + i) (ws i) sz 0 0 := by
 unfold rwC
 rw [List.length_replicate]
 refine List.map_congr_left fun i hi => ?_
 have := List.mem_range.1 hi
 simp [this]
theorem Zbh {α : Type} [Enc α] (A va tA base e sz m : Nat) (hAb : A < base) : ∀ (j k : Nat) (T : Store) (ws : Nat → Nat), k + j = m → T A = .cells va tA ((List.range k).map (fun i => .sl (base + i) (ws i) sz 0 0) ++ List.replicate j (.sc (.slice none 0 0))) →
  (∀ i, i < k → T (base + i) = .cells (ws i) e []) → zK (base + k) T →
  (∀ (T' : Store) (ws' : Nat → Nat), RowsAt T' A va tA base e sz ws' (List.replicate m ([] : List α)) → (∀ o, o ≠ A → o < base → T' o = T o) → zK (base + m) T' → PW P r n N c Q F T') → PW P r n N c Q F T
 | 0, k, T, ws, hk, hA, hrow, hd, h => by
  obtain rfl : k = m := by omega
  refine h T ws ⟨by rw [hA, ZiP]; simp, fun i hi => ?_, hAb⟩ (fun _ _ _ => rfl) hd
  rw [List.length_replicate] at hi
  rw [hrow i hi]; simp [hi]
 | j + 1, k, T, ws, hk, hA, hrow, hd, h => by
  have hget : ((List.range k).map (fun i => PV.sl (base + i) (ws i) sz 0 0) ++ List.replicate (j + 1) (.sc (.slice none 0 0)))[k]? = some (.sc (.slice none 0 0)) := by
   rw [List.getElem?_append_right (by simp)]; simp
  refine Q4 (o := A) k e sz hA hget (x4 (X := fun id v => PW P r n N c Q F ((T.set id (.cells v e [])).set A (.cells va tA (((List.range k).map (fun i => PV.sl (base + i) (ws i) sz 0 0) ++ List.replicate (j + 1) (PV.sc (.slice none 0 0))).set k (.sl id v sz 0 0))))) (base + k) (hd _ (Nat.le_refl _)) fun v => ?_)
  refine Zbh A va tA base e sz m hAb j (k + 1) _ (fun i => if i = k then v else ws i) (by omega) ?_ ?_ ?_ fun T' ws' hR hT' hd' => h T' ws' hR (fun o ho hob => ?_) hd'
  ·rw [Store.set_same]
   congr 1
   rw [List.set_append_right _ _ (by simp), List.range_succ, List.map_append]
   simp only [List.length_map, List.length_range, Nat.sub_self, List.replicate_succ, List.set_cons_zero, List.map_cons, List.map_nil, if_true]
   rw [List.append_assoc]
   congr 1
   refine List.map_congr_left fun i hi => ?_
   have := List.mem_range.1 hi
   rw [if_neg (by omega)]
  ·intro i hi
   rw [Store.set_other _ _ _ _ (by omega)]
   by_cases hik : i = k
   ·subst hik; rw [Store.set_same, if_pos rfl]
   ·rw [Store.set_other _ _ _ _ (by omega), if_neg hik]
    exact hrow i (by omega)
  ·intro i hi
   rw [Store.set_other _ _ _ _ (by omega), Store.set_other _ _ _ _ (by omega)]
   exact hd i (by omega)
  ·rw [hT' o ho hob, Store.set_other _ _ _ _ ho, Store.set_other _ _ _ _ (by omega)]
theorem ZiQ {α : Type} [Enc α] (A va tA base e sz m : Nat) {T : Store} (hA : T A = .cells va tA (List.replicate m (.sc (.slice none 0 0)))) (hd : zK base T)
  (h : ∀ (T' : Store) (ws : Nat → Nat), RowsAt T' A va tA base e sz ws (List.replicate m ([] : List α)) → (∀ o, o ≠ A → o < base → T' o = T o) → zK (base + m) T' → PW P r n N c Q F T') : PW P r n N c Q F T := by
 have hAb : A < base := by
  rcases Nat.lt_or_ge A base with q | q
  ·exact q
  ·rw [hd A q] at hA; cases hA
 exact Zbh A va tA base e sz m hAb m 0 T (fun _ => 0) (by omega) (by simpa using hA) (fun i hi => by omega) (by simpa using hd) h
theorem Zbi {nx : Nat} {S : Store} {obs : List Ob} {id ver e0 : Nat} {cs : List PV} (i e sz : Nat) (hlt : id < nx) (hs : S id = .cells ver e0 cs) (hi : cs[i]? = some (.sc (.slice none 0 0)))
  (h : ∀ v, PW P r n N c Q F (ext (S.set id (.cells ver e0 (cs.set i (.sl (nx + obs.length) v sz 0 0)))) nx (obs ++ [.cells v e []]))) : PW P r n N c Q F (ext S nx obs) :=
 Q4 (o := id) i e sz (by rw [zy hlt]; exact hs) hi (x4 (X := fun id' v => PW P r n N c Q F (((ext S nx obs).set id' (.cells v e [])).set id (.cells ver e0 (cs.set i (.sl id' v sz 0 0))))) _ x7 fun v => by
  rw [qr, xJ _ hlt]; exact h v)
end
open Go Go.Proofs
instance : Enc Mv := ⟨fun m => mvL m, 5, fun _ => rfl, fun _ => rfl⟩
@[simp] theorem ZmG (m : Mv) : Enc.enc m = mvL m := rfl
@[simp high] theorem ZmH (l : List Mv) : (l.flatMap Enc.enc).length = l.length * 5 := jf l
@[simp high] theorem ZmI (l : List Mv) : (l.flatMap Enc.enc).take (l.length * 5) = l.flatMap Enc.enc := wO l
open Go Go.Proofs Hp
abbrev plL (x : Inst) (v : PV) (b : Int) (p f pr : PV) : List PV := [I x.days, I x.veh, I x.cap, I x.len, L x.cust, L x.dist, v, I b, p, f, pr]
set_option maxRecDepth 20000 in
theorem ZiR {S : Store} {id ver idF vF : Nat} (x : Inst) (v p pr : PV) (b : Int) (fs : List Int) (hS : S id = .cells ver 87 (plL x v b p (.sl idF vF 1 0 fs.length) pr)) (hF : S idF = .cells vF 30 (fs.flatMap Enc.enc)) (hl : fs.length ≤ 1000) :
  Spec Tryz.prog 90 [.ptr id ver 0] S (fun q S' => q = I (jK fs) ∧ S' = S) := by
 refine y9 Tryz.func90 Tryz.ntmps90 Tryz.results90 fun nx hd => ?_
 have hlt : id < nx := yP hd hS (by simp)
 have hltF : idF < nx := yP hd hF (by simp)
 have xw := fun obs => zy (S := S) (obs := obs) hlt
 have xf := fun obs => zy (S := S) (obs := obs) hltF
 (repeat apply za); refine pwn ?_; intros
 repeat apply za
 refine pwN [] (jn2 xw hS) ?_
 intros
 repeat apply za
 refine zg (zr (fun k : Nat => k ≤ fs.length ∧ ∀ e ∈ fs.take k, e = 0) (fun k => [(8, .sl idF vF 1 0 fs.length), (9, I fs.length), (10, I k)]) (fun _ => []) (fun k => fs.length - k) 0 [] (by simp) (by simp) (by simp) ?_)
 rintro k ⟨hk, h0⟩
 (repeat apply za); refine pwn ?_; intros
 repeat apply za
 refine zn rfl (fun hc => ?_) (fun hc => ?_)
 ·simp at hc
  obtain ⟨e, tl, a1, a2, a3, e0⟩ := el1 rfl fs k hc
  refine zb (za (zg ?_))
  repeat apply za
  refine pwN [] (jn4 xf hF e0 hc) ?_
  intros
  (repeat apply za); refine pwn ?_; intros
  by_cases he : e = 0
  ·repeat apply za
   refine zi (by simp [he]) ?_
   refine zb ?_
   (repeat apply za); refine pwn ?_; intros
   exact zm (k + 1) [] ⟨hc, fun y hy => by rw [a3] at hy; rcases List.mem_append.1 hy with h | h; exact h0 y h; rw [List.mem_singleton.1 h]; exact he⟩ (by omega) (by simp [wrN k (by omega)]) rfl (by simp)
  ·repeat apply za
   refine zj (by simp [he]) ?_
   (repeat apply za); refine pwn ?_; intros
   repeat apply za
   exact ze ⟨_, S, rfl, ⟨by simp [zk, ZiH h0 a1 he], rfl⟩, zO hd⟩
 ·simp at hc
  obtain rfl : k = fs.length := by omega
  rw [List.take_length] at h0
  refine zo ?_
  (repeat apply za); refine pwn ?_; intros
  repeat apply za
  exact ze ⟨_, S, rfl, ⟨by simp [zk, Zba h0], rfl⟩, zO hd⟩
set_option maxRecDepth 20000 in
theorem ZiS {S : Store} {id ver idD vD idF vF : Nat} {x : Inst} {v : List (List Visit)} {b : Int} {pr : PV} {ds : qC} {fs : List Int} {n : Nat} (k : Nat) (hS : S id = .cells ver 87 (plL x (L v) b (.sl idD vD 1 0 ds.length) (.sl idF vF 1 0 fs.length) pr))
  (hD : S idD = .cells vD 66 (ds.flatMap Enc.enc)) (hF : S idF = .cells vF 30 (fs.flatMap Enc.enc)) (d1 : id ≠ idD) (d2 : id ≠ idF) (d3 : idD ≠ idF) (hx : InstH x) (hv : VsOk x.cust.length n v) (hb : b ≤ 9223372036854775807) (hdl : ds.length ≤ 1000) (hfl : fs.length ≤ 1000) :
  Spec Tryz.prog 89 [.ptr id ver 0, I k] S (fun _ S' => S' = ((S.set id (.cells ver 87 (plL x (L v) b (.sl idD (vD + 1) 1 0 (ds.length + 1)) (.sl idF (vF + 1) 1 0 (fs.length + 1)) pr))).set idD (.cells (vD + 1) 66 ((ds ++ [(yZ x b (yy v k x.cust.length)).1]).flatMap Enc.enc))).set idF
   (.cells (vF + 1) 30 ((fs ++ [(yZ x b (yy v k x.cust.length)).2]).flatMap Enc.enc))) := by
 have hst := ZiN x v k n hx.cust hv
 have hso := Zh6 (Qr hx hv k) hx.diag hb
 generalize yy v k x.cust.length = st at hst hso ⊢
 generalize yZ x b st = r at hso ⊢
 obtain ⟨d, e⟩ := r
 simp only at hso ⊢
 refine y9 Tryz.func89 Tryz.ntmps89 Tryz.results89 fun nx hd => ?_
 have hlt : id < nx := yP hd hS (by simp)
 have hltD : idD < nx := yP hd hD (by simp)
 have hltF : idF < nx := yP hd hF (by simp)
 have xw := fun obs => (zy (S := S) (obs := obs) hlt).trans hS
 have xd := fun obs => (zy (S := S) (obs := obs) hltD).trans hD
 have xf := fun obs => (zy (S := S) (obs := obs) hltF).trans hF
 have g1 : ¬ nx ≤ id := by omega
 have g2 : ¬ nx ≤ idD := by omega
 have g3 : ¬ nx ≤ idF := by omega
 have yw := fun (o : Ob) obs => (zy (S := S.set idD o) (obs := obs) hlt).trans ((Store.set_other _ _ _ _ d1).trans hS)
 have zw := fun (o o' : Ob) obs => (zy (S := (S.set idD o).set id o') (obs := obs) hlt).trans (Store.set_same _ _ _)
 have zf := fun (o o' : Ob) obs => (zy (S := (S.set idD o).set id o') (obs := obs) hltF).trans ((Store.set_other _ _ _ _ d2.symm).trans ((Store.set_other _ _ _ _ d3.symm).trans hF))
 have uw := fun (o o' o'' : Ob) obs => (zy (S := ((S.set idD o).set id o').set idF o'') (obs := obs) hlt).trans ((Store.set_other _ _ _ _ d2).trans (Store.set_same _ _ _))
 repeat apply za
 refine pwY (some [id]) (Row.pures [0, 1, 2, 3, 4, 5, 6, 7, 8, 9, 10, 11, 12, 13, 14, 15, 16, 17, 18, 19, 20, 21] (.alt 22 (.alt 23 (Row.pures [24] .done) .stop) .stop)) mixed xw ?_
 refine pwP (hst) xw ?_
 refine pwP (hso) xw ?_
 intro v2
 intros
 repeat apply za
 refine pwY (some [nx]) (Row.pures [0, 1, 2, 3, 4, 6, 7] (.alt 5 (.alt 8 (Row.pures [9, 10, 11] (.alt 12 (.done) .stop)) .stop) .stop)) mixed (jn5 xw xd yw g1 g2) ?_
 refine ⟨by omega, ?_⟩
 intros
 repeat apply za
 refine pwN [] (jn5 zw zf uw g1 g3) ?_
 refine ⟨by omega, ?_⟩
 intros
 have e1 : ∀ (a b c d : Ob), (((S.set idD a).set id b).set idF c).set id d = ((S.set id d).set idD a).set idF c := by
  intro a b c d
  funext i
  simp only [Store.set]
  by_cases h1 : i = id
  ·subst h1; simp [d1, d2]
  ·simp only [h1, if_false]
 have hdd : ∀ (a b c : Ob), zK nx (((S.set id a).set idD b).set idF c) := by
  intro a b c i hi
  rw [Store.set_other _ _ _ _ (by omega), Store.set_other _ _ _ _ (by omega), Store.set_other _ _ _ _ (by omega)]
  exact hd i hi
 rw [e1]
 exact ⟨_, _, rfl, by simp, zO (hdd _ _ _)⟩
set_option maxRecDepth 20000 in
theorem ZiT {S : Store} {id ver : Nat} (x : Inst) (v p f pr : PV) (b : Int) (fn : FuncId) (fs : List PV) (n : Nat) (hn : x.days = n) (hn2 : n ≤ 1000) (hS : S id = .cells ver 87 (plL x v b p f pr)) (St : Nat → Store) (h0 : St 0 = S)
  (hSt : ∀ nx, zK nx S → ∀ k, k ≤ n → zK nx (St k)) (hstep : ∀ k, k < n → Spec Tryz.prog fn (fs ++ [I k]) (St k) (fun _ S' => S' = St (k + 1))) :
  Spec Tryz.prog 47 [.ptr id ver 0, .fn (.func fn) fs []] S (fun _ S' => S' = St n) := by
 refine y9 Tryz.func47 Tryz.ntmps47 Tryz.results47 fun nx hd => ?_
 have hlt : id < nx := yP hd hS (by simp)
 have xw := fun obs => (zy (S := S) (obs := obs) hlt).trans hS
 have hSt := hSt nx hd
 repeat apply za
 refine pwN [] (jn2 xw hn) ?_
 intros
 repeat apply za
 refine zg (jd (σ := Nat) (fun k => k ≤ n) (fun k => [(1, .fn (.func fn) fs []), (9, I n), (10, I k)]) (fun k => St k) (fun _ => []) (fun k => n - k) (zA 0 [] (by simp) (by simp) h0 (by simp)) ?_)
 rintro k hk
 (repeat apply za); refine pwn ?_; intros
 repeat apply za
 refine zn rfl (fun hc => ?_) (fun hc => ?_)
 ·simp at hc
  refine zb (za (zg ?_))
  (repeat apply za); refine pwn ?_; intros
  repeat apply za
  refine zP [] (by rfl) (by rfl) fun K Gc Gh hK hGc hGh X hX0 hX => ?_
  simp -implicitDefEqProofs [hX0, hX]
  try clear hX0 hX X
  refine hGc _ _ _ _ _ _ _ fun hsuf => (Spec.mono (by rw [yr (hSt k hk)]; simpa using hstep k hc) ?_).v
  rintro _ _ rfl
  refine ⟨St (k + 1), [], (yr (hSt (k + 1) hc)).symm, ?_⟩
  clear hGc hGh
  clear Gc Gh
  refine zL hsuf (D := []) (by rfl) fun Gc Gh hGc hGh X hX0 hX => ?_
  simp -implicitDefEqProofs [hX0, hX]
  clear hX0 hX X
  intros
  refine hK _ _ _ ?_
  clear hK hGc hGh
  clear K Gc Gh
  (repeat apply za); refine pwn ?_; intros
  exact zm (k + 1) [] hc (by omega) (by simp [wrN k (by omega)]) rfl (by simp)
 ·simp at hc
  obtain rfl : k = n := by omega
  refine zo ?_
  exact ⟨_, _, rfl, rfl, zO (hSt k (Nat.le_refl _))⟩
set_option maxRecDepth 20000 in
theorem ZiU {S : Store} {nx id ver : Nat} (hd : zK nx S) {x : Inst} {v : List (List Visit)} {v0 p0 f0 pr : PV} {b : Int} {n : Nat} (hS : S id = .cells ver 87 (plL x v0 b p0 f0 pr)) (hx : InstH x) (hn : x.days = n) (hn2 : n ≤ 1000) (hv : VsOk x.cust.length n v) (hb : b ≤ 9223372036854775807) :
  Spec Tryz.prog 50 [.ptr id ver 0, L v] S (fun q S' => q = I (jK (yL x v b n)) ∧ ∃ vD vF, S' = ext (S.set id (.cells ver 87 (plL x (L v) b (.sl nx vD 1 0 (qj x v b n).length) (.sl (nx + 1) vF 1 0 (yL x v b n).length) pr))) nx
   [.cells vD 66 ((qj x v b n).flatMap Enc.enc), .cells vF 30 ((yL x v b n).flatMap Enc.enc)]) := by
 have hpl := Qt x v b
 have hfl := Zbf x v b
 refine vW hd Tryz.func50 Tryz.ntmps50 Tryz.results50 ?_
 have hlt : id < nx := yP hd hS (by simp)
 have g1 : ¬ nx ≤ id := by omega
 have xw := fun obs => (zy (S := S) (obs := obs) hlt).trans hS
 have yw := fun (o : Ob) obs => (zy (S := S.set id o) (obs := obs) hlt).trans (Store.set_same _ _ _)
 (repeat apply za); refine pwn ?_; intros
 repeat apply za
 refine pwN [] (jn4 xw yw g1 Store.set_set) ?_
 intros
 refine Zbi (id := id) 8 66 1 hlt (Store.set_same _ _ _) rfl fun vD => ?_
 rw [Store.set_set]
 refine Zbi (id := id) 9 30 1 hlt (Store.set_same _ _ _) rfl fun vF => ?_
 rw [Store.set_set]
 simp only [List.set_cons_succ, List.set_cons_zero, List.length_cons, List.length_nil, List.cons_append, List.nil_append, Nat.add_zero, Nat.zero_add]
 generalize hSt : (fun k : Nat => ext (S.set id (.cells ver 87 (plL x (L v) b (.sl nx (vD + k) 1 0 (qj x v b k).length) (.sl (nx + 1) (vF + k) 1 0 (yL x v b k).length) pr))) nx
   [.cells (vD + k) 66 ((qj x v b k).flatMap Enc.enc), .cells (vF + k) 30 ((yL x v b k).flatMap Enc.enc)]) = St
 have hSk : ∀ k, St k = ext (S.set id (.cells ver 87 (plL x (L v) b (.sl nx (vD + k) 1 0 (qj x v b k).length) (.sl (nx + 1) (vF + k) 1 0 (yL x v b k).length) pr))) nx
   [.cells (vD + k) 66 ((qj x v b k).flatMap Enc.enc), .cells (vF + k) 30 ((yL x v b k).flatMap Enc.enc)] := fun k => by rw [← hSt]
 have h0 : St 0 = ext (S.set id (.cells ver 87 (plL x (L v) b (.sl nx vD 1 0 0) (.sl (nx + 1) vF 1 0 0) pr))) nx [.cells vD 66 [], .cells vF 30 []] := hSk 0
 have hid : ∀ k, St k id = .cells ver 87 (plL x (L v) b (.sl nx (vD + k) 1 0 (qj x v b k).length) (.sl (nx + 1) (vF + k) 1 0 (yL x v b k).length) pr) := fun k => by rw [hSk k, zy hlt, Store.set_same]
 have hstep : ∀ k, k < n → Spec Tryz.prog 89 ([.ptr id ver 0] ++ [I k]) (St k) (fun _ S' => S' = St (k + 1)) := by
  intro k hk
  have h1 := hpl k
  have h2 := hfl k
  refine (ZiS (idD := nx) (idF := nx + 1) (n := n) k (hid k) (by rw [hSk k]; simp) (by rw [hSk k]; simp) (by omega) (by omega) (by omega) hx hv hb (by omega) (by omega)).mono ?_
  rintro _ _ rfl
  rw [hSk k, hSk (k + 1), xJ _ hlt, Store.set_set, y8 _ (by omega) (by simp), y8 _ (by omega) (by simp), Zbg, ZiL]
  simp [Nat.add_assoc]
 have hdead : ∀ m, zK m (St 0) → ∀ k, k ≤ n → zK m (St k) := by
  intro m hm k _ i hi
  have hge : nx + 1 < m := by
   rcases Nat.lt_or_ge (nx + 1) m with q | q
   ·exact q
   ·have := hm (nx + 1) q; rw [hSk 0] at this; simp at this
  rw [hSk k]
  simp only [ext]
  rw [if_neg (by omega), List.getD_eq_getElem?_getD, List.getElem?_eq_none (by simp; omega)]; rfl
 rw [← h0]
 have hn0 := hid 0
 have hnx2 : nx + 2 = nx + [Ob.cells (vD + 0) 66 ((qj x v b 0).flatMap Enc.enc), .cells (vF + 0) 30 ((yL x v b 0).flatMap Enc.enc)].length := rfl
 have hb0 : ∀ k, St k = ext (St k) (nx + 2) [] := fun k => by
  refine (yr ?_).symm
  rw [hSk k]; exact jr (obs := [_, _])
 rw [hb0 0]
 repeat apply za
 refine zP [] (by rfl) (by rfl) fun K Gc Gh hK hGc hGh X hX0 hX => ?_
 simp -implicitDefEqProofs [hX0, hX]
 try clear hX0 hX X
 refine hGc _ _ _ _ _ _ _ fun hsuf => ((ZiT x (L v) _ _ pr b _ _ n hn hn2 (by rw [← hb0 0]; exact hn0) St (hb0 0) (fun m hm k hk => hdead m (by rw [hb0 0]; exact hm) k hk) hstep).mono ?_).v
 rintro _ _ rfl
 refine ⟨_, _, hb0 n, ?_⟩
 clear hGc hGh
 clear Gc Gh
 refine zL hsuf (D := []) (by rfl) fun Gc Gh hGc hGh X hX0 hX => ?_
 simp -implicitDefEqProofs [hX0, hX]
 clear hX0 hX X
 intros
 refine hK _ _ _ ?_
 clear hK hGc hGh
 clear K Gc Gh
 repeat apply za
 refine zP [] (by rfl) (by rfl) fun K Gc Gh hK hGc hGh X hX0 hX => ?_
 simp -implicitDefEqProofs [hX0, hX]
 try clear hX0 hX X
 refine hGc _ _ _ _ _ _ _ fun hsuf => ((ZiR (idF := nx + 1) x _ _ _ _ (yL x v b n) (by rw [← hb0 n]; exact hid n) (by rw [← hb0 n, hSk n]; simp) (by rw [hfl]; exact hn2)).mono ?_).v
 rintro _ _ ⟨rfl, rfl⟩
 refine ⟨_, _, rfl, ?_⟩
 clear hGc hGh
 clear Gc Gh
 refine zL hsuf (D := []) (by rfl) fun Gc Gh hGc hGh X hX0 hX => ?_
 simp -implicitDefEqProofs [hX0, hX]
 clear hX0 hX X
 intros
 refine hK _ _ _ ?_
 clear hK hGc hGh
 clear K Gc Gh
 repeat apply za
 refine ze ⟨_, St n, rfl, ⟨by simp [zk], vD + n, vF + n, hSk n⟩, fun o => .inl ?_⟩
 rw [← hb0 n]
open Go Go.Proofs Hp
theorem ZiV (n : Nat) : qk n (.slice none 0 0) = List.replicate n (.sc (.slice none 0 0)) := by
 induction n with
 | zero => simp
 | succ n ih => rw [w9, ih]; rfl
structure RowsV (m n i : Nat) (v : List (List Visit)) : Prop where
 len : v.length = m
 ok : ∀ l ∈ v, ∀ w ∈ l, (0 ≤ w.d ∧ w.d < n) ∧ 1 ≤ w.q ∧ w.q ≤ 12
 nd : ∀ l ∈ v, (l.map (·.d)).Nodup
 few : ∀ l ∈ v, l.length ≤ i
theorem RowsV.vs {m n i : Nat} {v : List (List Visit)} (h : RowsV m n i v) (hi : i ≤ 12) : VsOk m n v :=
 ⟨h.len, fun l hl w hw => by have := h.ok l hl w hw; omega, h.nd, fun l hl => by have := h.few l hl; omega⟩
theorem RowsV.more {m n i : Nat} {v : List (List Visit)} (h : RowsV m n i v) : RowsV m n (i + 1) v := ⟨h.len, h.ok, h.nd, fun l hl => Nat.le_succ_of_le (h.few l hl)⟩
theorem RowsV.put {m n i : Nat} {v : List (List Visit)} (h : RowsV m n i v) {c : Nat} {l : List Visit} (hc : v[c]? = some l) (w : Visit) (hw : (0 ≤ w.d ∧ w.d < n) ∧ 1 ≤ w.q ∧ w.q ≤ 12) (hno : w.d ∉ l.map (·.d)) : RowsV m n (i + 1) (v.set c (l ++ [w])) := by
 have hlm := List.mem_of_getElem? hc
 refine ⟨by simp [h.len], fun k hk u hu => ?_, fun k hk => ?_, fun k hk => ?_⟩
 ·rcases List.mem_or_eq_of_mem_set hk with hk | rfl
  ·exact h.ok k hk u hu
  ·rcases List.mem_append.1 hu with hu | hu
   ·exact h.ok l hlm u hu
   ·rw [List.mem_singleton.1 hu]; exact hw
 ·rcases List.mem_or_eq_of_mem_set hk with hk | rfl
  ·exact h.nd k hk
  ·rw [List.map_append]; exact Y0 _ _ (h.nd l hlm) hno
 ·rcases List.mem_or_eq_of_mem_set hk with hk | rfl
  ·exact Nat.le_succ_of_le (h.few k hk)
  ·have := h.few l hlm; simp; omega
open Go
def Qs (q : List Int) : Prop := ∀ z ∈ q, 0 ≤ z ∧ z ≤ 2147483648
structure GoodV (n : Nat) (v : List Visit) : Prop where
 len : v.length ≤ 64
 ok : ∀ s ∈ v, (0 ≤ s.d ∧ s.d < n) ∧ 1 ≤ s.q ∧ s.q ≤ 2147483648
 nd : (v.map (·.d)).Nodup
def zI : Nat → List Int → List Visit
 | _, [] => []
 | i, z :: l => if 0 < z then ⟨i, z⟩ :: zI (i + 1) l else zI (i + 1) l
theorem Qu : ∀ (l : List Int) (i : Nat), (zI i l).length ≤ l.length
 | [], _ => by simp [zI]
 | z :: l, i => by
  have := Qu l (i + 1)
  simp only [zI]; split <;> simp <;> omega
theorem Qv : ∀ (l : List Int) (i : Nat), Qs l → ∀ s ∈ zI i l, ((i : Int) ≤ s.d ∧ s.d < (i + l.length : Nat)) ∧ 1 ≤ s.q ∧ s.q ≤ 2147483648
 | [], _, _ => by intro s hs; cases hs
 | z :: l, i, h => by
  have ih := Qv l (i + 1) fun x hx => h x (by simp [hx])
  have hz := h z (by simp)
  intro s hs
  simp only [zI] at hs
  split at hs
  ·rcases List.mem_cons.1 hs with rfl | hs
   ·simp only [List.length_cons]; omega
   ·have := ih s hs; simp only [List.length_cons]; omega
  ·have := ih s hs; simp only [List.length_cons]; omega
theorem Qw : ∀ (l : List Int) (i : Nat), ∀ s ∈ zI i l, (i : Int) ≤ s.d
 | [], _ => by intro s hs; cases hs
 | z :: l, i => by
  have ih := Qw l (i + 1)
  intro s hs
  simp only [zI] at hs
  split at hs
  ·rcases List.mem_cons.1 hs with rfl | hs
   ·exact Int.le_refl _
   ·have := ih s hs; omega
  ·have := ih s hs; omega
theorem Zbj : ∀ (l : List Int) (i : Nat), ((zI i l).map (·.d)).Nodup
 | [], _ => by simp [zI]
 | z :: l, i => by
  have ih := Zbj l (i + 1)
  simp only [zI]
  split
  ·rw [List.map_cons, List.nodup_cons]
   refine ⟨fun h => ?_, ih⟩
   obtain ⟨s, hs, e⟩ := List.mem_map.1 h
   have := Qw l (i + 1) s hs
   simp only at e; omega
  ·exact ih
theorem ZiW (n a k : Nat) : (zS n a k).Nodup := by
 unfold zS
 refine List.Pairwise.map _ (fun x y (h : x ≠ y) => ?_) (List.Pairwise.filter _ List.nodup_range)
 intro e; apply h; omega
theorem Zbk {q : List Int} {n : Nat} (hq : Qs q) (hl : q.length ≤ n) (hn : n ≤ 64) : GoodV n (zI 0 q) := by
 refine ⟨Nat.le_trans (Qu q 0) (by omega), fun s hs => ?_, Zbj q 0⟩
 have := Qv q 0 hq s hs
 omega
set_option maxRecDepth 20000 in
theorem ZiX (q : List Int) (hq : q.length ≤ 1048576) : Pure Tryz.prog 63 [L q] (L (zI 0 q)) := by
 refine pwe Tryz.func63 Tryz.ntmps63 Tryz.results63 fun S nx hd => ?_
 (repeat apply za); refine pwn ?_; intros
 (repeat apply za); refine pwn ?_; intros
 refine za (qe 3 103 2 rfl fun v1 => ?_)
 (repeat apply za); refine pwn ?_; intros
 repeat apply za
 refine zg (zr (fun s : Nat × List Visit × Nat => s.1 ≤ q.length ∧ s.2.1.length ≤ s.1 ∧ zI 0 q = s.2.1 ++ zI s.1 (q.drop s.1)) (fun (k, out, v1) => [(0, L q), (3, .sl nx v1 2 0 out.length), (4, I k)]) (fun (k, out, v1) => [.cells v1 103 (out.flatMap Enc.enc)]) (fun s => q.length - s.1) (0, [], v1) [] (by simp) (by simp) (by simp) ?_)
 rintro ⟨k, out, v1⟩ ⟨hk, hol, ho⟩
 simp only at hk hol ho ⊢
 (repeat apply za); refine pwn ?_; intros
 repeat apply za
 refine zn rfl (fun hc => ?_) (fun hc => ?_)
 ·simp at hc
  obtain ⟨z, tl, a1, a2, a3, e0⟩ := el1 rfl q k hc
  rw [a2] at ho
  simp only [zI] at ho
  refine zb (za (zg ?_))
  by_cases h : 0 < z
  ·rw [if_pos h] at ho
   repeat apply za
   refine pwN [] (jn2 e0 hc) ?_
   intros
   repeat apply za
   refine zj (by simp [h]) ?_
   repeat apply za
   refine pwN [] (jn2 e0 hc) ?_
   refine ⟨by omega, ?_⟩
   intros
   (repeat apply za); refine pwn ?_; intros
   exact zm (k + 1, out ++ [⟨k, z⟩], v1 + 1) [] ⟨hc, by simp; omega, by rw [ho]; simp⟩ (by simp; omega) (by simp [wrN k (by omega)]) rfl (by simp)
  ·rw [if_neg h] at ho
   repeat apply za
   refine pwN [] (jn2 e0 hc) ?_
   intros
   repeat apply za
   refine zi (by simp; omega) ?_
   refine zb ?_
   (repeat apply za); refine pwn ?_; intros
   exact zm (k + 1, out, v1) [] ⟨hc, Nat.le_succ_of_le hol, ho⟩ (by simp; omega) (by simp [wrN k (by omega)]) rfl (by simp)
 ·simp at hc
  obtain rfl : k = q.length := by omega
  rw [List.drop_length] at ho
  simp only [zI, List.append_nil] at ho
  refine zo ?_
  (repeat apply za); refine pwn ?_; intros
  refine zM 0 rfl ?_
  repeat apply za
  exact ze (zh hd (by simp; rfl) (by rw [ho]; simp [zk]))
def qO (c : Cust) (p : Nat) : List Visit := (zS p 0 64).map fun d => ⟨d, c.demand⟩
set_option maxRecDepth 20000 in
theorem ZiY (c : Cust) (p : Nat) (hp : p < 2 ^ 64) : Pure Tryz.prog 61 [.agg (zB c), U p] (L (qO c p)) := by
 have hall := ZiF p hp
 have hln := ur p 0 64
 unfold qO
 generalize zS p 0 64 = l at hall hln
 refine pwe Tryz.func61 Tryz.ntmps61 Tryz.results61 fun S nx hd => ?_
 repeat apply za
 refine pwn ?_
 intro v0
 (repeat apply za); refine pwn ?_; intros
 refine za (qe 5 103 2 rfl fun v1 => ?_)
 repeat apply za
 refine pwn ?_
 refine pwc hall ?_
 intros
 (repeat apply za); refine pwn ?_; intros
 repeat apply za
 refine zg (zr (fun s : Nat × List Visit × Nat => s.1 ≤ l.length ∧ s.2.1 = (l.take s.1).map fun d => ⟨d, c.demand⟩) (fun (k, out, v1) => [(2, .ptr nx v0 0), (5, .sl (nx + 1) v1 2 0 out.length), (6, L l), (7, I k)]) (fun (k, out, v1) => [.cells v0 41 (zB c), .cells v1 103 (out.flatMap Enc.enc)]) (fun s => l.length - s.1) (0, [], v1) [] (by simp) (by simp) (by simp) ?_)
 rintro ⟨k, out, v1⟩ ⟨hk, ho⟩
 simp only at hk ho ⊢
 have hol : out.length = k := by rw [ho]; simp; omega
 (repeat apply za); refine pwn ?_; intros
 repeat apply za
 refine zn rfl (fun hc => ?_) (fun hc => ?_)
 ·simp at hc
  obtain ⟨d, tl, a1, a2, a3, e0⟩ := el1 rfl l k hc
  refine zb (za (zg ?_))
  repeat apply za
  refine pwY (some [nx]) (Row.pures [0, 1, 2, 3, 4, 5, 6, 7, 8] (.alt 9 (Row.pures [10] .done) .stop)) mixed (jn2 e0 hc) ?_
  refine ⟨by omega, ?_⟩
  intros
  (repeat apply za); refine pwn ?_; intros
  exact zm (k + 1, out ++ [⟨d, c.demand⟩], v1 + 1) [] ⟨hc, by rw [a3, ho]; simp⟩ (by simp; omega) (by simp [wrN k (by omega)]) rfl (by simp)
 ·simp at hc
  obtain rfl : k = l.length := by omega
  rw [List.take_length] at ho
  refine zo ?_
  (repeat apply za); refine pwn ?_; intros
  refine zM 1 rfl ?_
  repeat apply za
  exact ze (zh hd (by simp; rfl) (by rw [ho]; simp [zk]))
open Go
structure CustMade (c : Cust) (n : Nat) : Prop where
 fits : CustFits c
 pats : ∀ p ∈ c.pats, p < 2 ^ 64
 npats : c.pats.length ≤ 1048576
 per : c.kind = 1 → (∀ p ∈ c.pats, ∀ d ∈ zS p 0 64, d < n) ∧ 1 ≤ c.demand ∧ c.demand ≤ 2147483648
open Go
theorem Zbl {α : Type} (l : List α) : l = [] ∨ ∃ m x, l = m ++ [x] := by
 rcases List.eq_nil_or_concat l with h | ⟨m, x, h⟩
 ·exact .inl h
 ·exact .inr ⟨m, x, by rw [h, List.concat_eq_append]⟩
def Zg (x : Inst) (d : Day) (s : Stop) (join : Bool) : Day :=
 match d.reverse with
 | t :: r => if join = true ∧ zq x (t ++ [s]) = 0 then r.reverse ++ [t ++ [s]] else d ++ [[s]]
 | [] => [[s]]
theorem Zbm (x : Inst) (s : Stop) (j : Bool) : Zg x [] s j = [[s]] := rfl
theorem Zbn (x : Inst) (d : Day) (t : zp) (s : Stop) (j : Bool) : Zg x (d ++ [t]) s j = if j = true ∧ zq x (t ++ [s]) = 0 then d ++ [t ++ [s]] else (d ++ [t]) ++ [[s]] := by simp [Zg]
theorem Zbo (x : Inst) (d : Day) (s : Stop) (j : Bool) : (Zg x d s j).flatten = d.flatten ++ [s] := by
 rcases Zbl d with rfl | ⟨d', t, rfl⟩
 ·simp [Zbm]
 ·rw [Zbn]; split <;> simp
theorem ZiZ (x : Inst) (d : Day) (s : Stop) (j : Bool) (h : ∀ t ∈ d, t ≠ []) : ∀ t ∈ Zg x d s j, t ≠ [] := by
 rcases Zbl d with rfl | ⟨d', t, rfl⟩
 ·simp [Zbm]
 ·rw [Zbn]
  split
  ·intro u hu
   rcases List.mem_append.1 hu with hu | hu
   ·exact h u (by simp [hu])
   ·rw [List.mem_singleton.1 hu]; simp
  ·intro u hu
   rcases List.mem_append.1 hu with hu | hu
   ·exact h u hu
   ·rw [List.mem_singleton.1 hu]; simp
theorem Zi0 {α : Type} [Enc α] (h1 : Enc.sz α = 1) (l : List α) (k : Nat) (v : α) (h : k < l.length) : zJ (l.flatMap Enc.enc) k (Enc.enc v) = (l.set k v).flatMap Enc.enc := by
 have e1 : (l.flatMap Enc.enc).take k = (l.take k).flatMap Enc.enc := by
  have := ve (α := α) Enc.enc (Enc.sz α) Enc.len l k; rwa [h1, Nat.mul_one] at this
 have e2 : (l.flatMap Enc.enc).drop (k + 1) = (l.drop (k + 1)).flatMap Enc.enc := by
  have := uI (α := α) Enc.enc (Enc.sz α) Enc.len l (k + 1); rwa [h1, Nat.mul_one] at this
 rw [zJ, Enc.len, h1, e1, e2, List.set_eq_take_append_cons_drop, if_pos h]
 simp
open Go Go.Proofs Hp
def RowOf (S : Store) (pl : PV) (l : List Int) : Prop := pl = L l ∨ ∃ id ver, pl = .sl id ver 1 0 l.length ∧ S id = .cells ver 3 (l.flatMap Enc.enc)
theorem RowOf.ext {S : Store} {pl : PV} {l : List Int} (h : RowOf S pl l) {nx : Nat} (hd : zK nx S) (obs : List Ob) : RowOf (ext S nx obs) pl l := by
 rcases h with h | ⟨id, ver, h1, h2⟩
 ·exact .inl h
 ·exact .inr ⟨id, ver, h1, (zy (yP hd h2 (by simp))).trans h2⟩
set_option maxRecDepth 20000 in
theorem Zbp {S : Store} {nx id ver : Nat} (hd : zK nx S) (x : Inst) (v p f pr : PV) (b : Int) (fn : FuncId) (fs : List PV) (n : Nat) (hn : x.days = n) (hn2 : n ≤ 1000) (hS : S id = .cells ver 87 (plL x v b p f pr)) (Pk : Nat → Store → Prop) (h0 : Pk 0 S)
  (hPd : ∀ k T, Pk k T → zK nx T) (hstep : ∀ k, k < n → ∀ T, Pk k T → Spec Tryz.prog fn (fs ++ [I k]) T (fun _ S' => Pk (k + 1) S')) :
  Spec Tryz.prog 47 [.ptr id ver 0, .fn (.func fn) fs []] S (fun _ S' => Pk n S') := by
 refine vW hd Tryz.func47 Tryz.ntmps47 Tryz.results47 ?_
 have hlt : id < nx := yP hd hS (by simp)
 have xw := fun obs => (zy (S := S) (obs := obs) hlt).trans hS
 repeat apply za
 refine pwN [] (jn2 xw hn) ?_
 intros
 repeat apply za
 refine zg (jd (σ := Nat × Store) (fun s => s.1 ≤ n ∧ Pk s.1 s.2) (fun s => [(1, .fn (.func fn) fs []), (9, I n), (10, I s.1)]) (fun s => s.2) (fun _ => []) (fun s => n - s.1) (zA (0, S) [] ⟨by simp, h0⟩ (by simp) rfl (by simp)) ?_)
 rintro ⟨k, T⟩ ⟨hk, hP⟩
 simp only at hk hP ⊢
 (repeat apply za); refine pwn ?_; intros
 repeat apply za
 refine zn rfl (fun hc => ?_) (fun hc => ?_)
 ·simp at hc
  refine zb (za (zg ?_))
  (repeat apply za); refine pwn ?_; intros
  repeat apply za
  refine zP [] (by rfl) (by rfl) fun K Gc Gh hK hGc hGh X hX0 hX => ?_
  simp -implicitDefEqProofs [hX0, hX]
  try clear hX0 hX X
  refine hGc _ _ _ _ _ _ _ fun hsuf => (Spec.mono (by rw [yr (hPd k T hP)]; simpa using hstep k hc T hP) ?_).v
  rintro _ T' hP'
  refine ⟨T', [], (yr (hPd _ _ hP')).symm, ?_⟩
  clear hGc hGh
  clear Gc Gh
  refine zL hsuf (D := []) (by rfl) fun Gc Gh hGc hGh X hX0 hX => ?_
  simp -implicitDefEqProofs [hX0, hX]
  clear hX0 hX X
  intros
  refine hK _ _ _ ?_
  clear hK hGc hGh
  clear K Gc Gh
  (repeat apply za); refine pwn ?_; intros
  exact zm (k + 1, T') [] ⟨hc, hP'⟩ (by simp; omega) (by simp [wrN k (by omega)]) rfl (by simp)
 ·simp at hc
  obtain rfl : k = n := by omega
  refine zo ?_
  exact ⟨_, T, rfl, hP, zO (hPd _ _ hP)⟩
def xX (x : Inst) (j : Nat) : Int := W (zE x [(j : Int)])
def qa (x : Inst) (k i : Nat) : List (List Int) := (List.range x.cust.length).map fun j => List.replicate (if j < i then k + 1 else k) (xX x j)
theorem wC (x : Inst) (k i : Nat) : (qa x k i).length = x.cust.length := by simp [qa]
theorem Zbq (x : Inst) (k i j : Nat) (h : j < x.cust.length) : (qa x k i).getD j [] = List.replicate (if j < i then k + 1 else k) (xX x j) := by
 rw [List.getD_eq_getElem?_getD]; simp [qa, h]
theorem Zi1 (x : Inst) (k : Nat) : qa x k x.cust.length = qa x (k + 1) 0 := by
 unfold qa
 refine List.map_congr_left fun j hj => ?_
 rw [if_pos (List.mem_range.1 hj), if_neg (by omega)]
theorem Zi2 (x : Inst) (k i : Nat) (h : i < x.cust.length) : (qa x k i).set i (List.replicate (k + 1) (xX x i)) = qa x k (i + 1) := by
 apply List.ext_getElem?
 intro j
 rw [List.getElem?_set, wC]
 by_cases hij : i = j
 ·subst hij; rw [if_pos rfl, if_pos h]; simp [qa, h]
 ·rw [if_neg hij]
  by_cases hj : j < x.cust.length
  ·simp only [qa, List.getElem?_map, List.getElem?_range hj, Option.map_some]
   congr 2
   by_cases h1 : j < i
   ·rw [if_pos h1, if_pos (by omega)]
   ·rw [if_neg h1, if_neg (by omega)]
  ·rw [List.getElem?_eq_none (by rw [wC]; omega), List.getElem?_eq_none (by rw [wC]; omega)]
set_option maxRecDepth 20000 in
theorem Zi3 {S : Store} {id ver A va base : Nat} {ws : Nat → Nat} {x : Inst} {v p f : PV} {b : Int} (k : Nat) (hx : x.cust.length ≤ 1000) (hk : k ≤ 1000) (hid : id < base) (hidA : id ≠ A) (hS : S id = .cells ver 87 (plL x v b p f (.sl A va 1 0 x.cust.length)))
  (hR : RowsAt S A va 54 base 3 1 ws (qa x k 0)) :
  Spec Tryz.prog 48 [.ptr id ver 0, I k] S (fun _ S' => (∃ ws', RowsAt S' A va 54 base 3 1 ws' (qa x (k + 1) 0)) ∧ ∀ o, o ≠ A → (o < base ∨ base + x.cust.length ≤ o) → S' o = S o) := by
 refine y9 Tryz.func48 Tryz.ntmps48 Tryz.results48 fun nx hd => ?_
 have hlt : id < nx := yP hd hS (by simp)
 have hltA : A < nx := yP hd hR.arr (by simp)
 have hltR : ∀ i, i < x.cust.length → base + i < nx := fun i hi => yP hd (hR.row i (by rw [wC]; exact hi)) (by simp)
 have xw := fun obs => (zy (S := S) (obs := obs) hlt).trans hS
 repeat apply za
 refine pwN [] xw ?_
 intros
 repeat apply za
 refine zg (jd (σ := Nat × Store × (Nat → Nat)) (fun s => s.1 ≤ x.cust.length ∧ RowsAt s.2.1 A va 54 base 3 1 s.2.2 (qa x k s.1) ∧ ∀ o, o ≠ A → (o < base ∨ base + x.cust.length ≤ o) → s.2.1 o = S o)
  (fun s => [(0, .ptr id ver 0), (10, I x.cust.length), (11, I s.1)]) (fun s => s.2.1) (fun _ => []) (fun s => x.cust.length - s.1) (zA (0, S, ws) [] ⟨by simp, hR, fun _ _ _ => rfl⟩ (by simp) rfl (by simp)) ?_)
 clear hR
 rintro ⟨i, T, ws⟩ ⟨hi, hR, hT⟩
 simp only at hi hR hT ⊢
 (repeat apply za); refine pwn ?_; intros
 repeat apply za
 refine zn rfl (fun hc => ?_) (fun hc => ?_)
 ·simp at hc
  have hTw : T id = .cells ver 87 (plL x v b p f (.sl A va 1 0 x.cust.length)) := (hT id hidA (.inl hid)).trans hS
  have hAb := hR.out
  have hri := hR.row i (by rw [wC]; exact hc)
  rw [Zbq x k i i hc, if_neg (Nat.lt_irrefl i)] at hri
  have hlti := hltR i hc
  have xw := fun obs => (zy (S := T) (obs := obs) hlt).trans hTw
  have xa := fun obs => (zy (S := T) (obs := obs) hltA).trans hR.arr
  have xr := fun obs => (zy (S := T) (obs := obs) hlti).trans hri
  have ya := fun (o : Ob) obs => (zy (S := T.set (base + i) o) (obs := obs) hltA).trans ((Store.set_other _ _ _ _ (by omega)).trans hR.arr)
  have yw := fun (o : Ob) obs => (zy (S := T.set (base + i) o) (obs := obs) hlt).trans ((Store.set_other _ _ _ _ (by omega)).trans hTw)
  have zw := fun (o o' : Ob) obs => (zy (S := (T.set (base + i) o).set A o') (obs := obs) hlt).trans ((Store.set_other _ _ _ _ hidA).trans ((Store.set_other _ _ _ _ (by omega)).trans hTw))
  have g1 : ¬ nx ≤ base + i := by omega
  have g2 : ¬ nx ≤ A := by omega
  obtain ⟨tl, hdr⟩ := Xr base 1 ws (qa x k i) i (by rw [wC]; exact hc)
  rw [Zbq x k i i hc, if_neg (Nat.lt_irrefl i), List.length_replicate] at hdr
  have hcl : (rwC base 1 ws (qa x k i)).length = x.cust.length := by rw [Zf, wC]
  have hsp := JH (rwC base 1 ws (qa x k i)) i (.sl (base + i) (ws i + 1) 1 0 (k + 1)) (by omega)
  have hway := WT x [(i : Int)] (by simp) (fun c hc => by rw [List.mem_singleton.1 hc]; unfold small; omega)
  have hfe : ∀ m : Nat, ((List.replicate m (xX x i)).flatMap Enc.enc).length = m := fun m => by rw [jf]; simp [Enc.sz]
  refine zb (za (zg ?_))
  (repeat apply za); refine pwn ?_; intros
  repeat apply za
  refine pwY (some [id]) (Row.pures [0, 1, 2, 3, 4, 5, 6, 7, 8, 9, 10, 12, 13, 14, 15, 16, 17, 18, 19] (.alt 11 (.alt 20 (Row.pures [21] (.alt 22 (.done) .stop)) .stop) .stop)) mixed (jn6 xw xa xr ya yw (jn2 (jn6 zw hdr g1 g2 hsp hcl) hc)) ?_
  refine pwP (hway) (jn6 xw xa xr ya yw (jn2 (jn6 zw hdr g1 g2 hsp hcl) hc)) ?_
  refine ⟨by omega, by omega, ?_⟩
  intros
  obtain ⟨T', hT'⟩ : ∃ T', T' = (T.set (base + i) (.cells (ws i + 1) 3 ((List.replicate (k + 1) (xX x i)).flatMap Enc.enc))).set A (.cells va 54 ((rwC base 1 ws (qa x k i)).set i (.sl (base + i) (ws i + 1) 1 0 (List.replicate (k + 1) (xX x i)).length))) := ⟨_, rfl⟩
  have hnew := hR.turn (i := i) (by rw [wC]; exact hc) (T' := T') (ws i + 1) (List.replicate (k + 1) (xX x i)) (by rw [hT']; exact Store.set_same _ _ _) (by rw [hT', Store.set_other _ _ _ _ (by omega), Store.set_same]) (fun o o1 o2 => by rw [hT', Store.set_other _ _ _ _ o1, Store.set_other _ _ _ _ o2])
  rw [Zi2 x k i hc] at hnew
  (repeat apply za); refine pwn ?_; intros
  refine zm (i + 1, T', _) [] ⟨hc, hnew, fun o ho hob => ?_⟩ (by simp; omega) (by simp [wrN i (by omega)]) ?_ (by simp)
  ·dsimp only; rw [hT', Store.set_other _ _ _ _ ho, Store.set_other _ _ _ _ (by omega)]; exact hT o ho hob
  ·dsimp only; rw [hT']
   have htk : ((List.replicate k (xX x i)).flatMap Enc.enc).take k = (List.replicate k (xX x i)).flatMap Enc.enc := List.take_of_length_le (by rw [hfe]; exact Nat.le_refl _)
   simp only [List.length_replicate, List.replicate_succ', List.flatMap_append]
   unfold xX at htk
   simp [xX, htk]
 ·simp at hc
  obtain rfl : i = x.cust.length := by omega
  rw [Zi1] at hR
  refine zo ?_
  have hdT : zK nx T := fun o ho => by
   have h1 : o ≠ A := by omega
   by_cases h2 : o < base ∨ base + x.cust.length ≤ o
   ·rw [hT o h1 h2]; exact hd o ho
   ·have := hltR (o - base) (by omega); omega
  exact ⟨_, T, rfl, ⟨⟨ws, hR⟩, hT⟩, zO hdT⟩
def wD (k : Nat) (l : List Int) : List Int := l.set k (W (W (2 * l.getD k 0) + 1))
def jL (pr : List (List Int)) (k i : Nat) : List (List Int) := (List.range pr.length).map fun j => if j < i then wD k (pr.getD j []) else pr.getD j []
def Zh (fs : List Int) (pr : List (List Int)) (k : Nat) : List (List Int) := if fs.getD k 0 = 14 then pr.map (wD k) else pr
def Zi (fs : List Int) (pr : List (List Int)) : Nat → List (List Int)
 | 0 => pr
 | k + 1 => Zh fs (Zi fs pr k) k
theorem Zbr (k : Nat) (l : List Int) : (wD k l).length = l.length := by simp [wD]
theorem vB (pr : List (List Int)) (k i : Nat) : (jL pr k i).length = pr.length := by simp [jL]
theorem Xs (pr : List (List Int)) (k i j : Nat) (h : j < pr.length) : (jL pr k i).getD j [] = if j < i then wD k (pr.getD j []) else pr.getD j [] := by
 rw [List.getD_eq_getElem?_getD, jL]; simp [h]
theorem Zi4 (pr : List (List Int)) (k : Nat) : jL pr k 0 = pr := by
 apply List.ext_getElem?
 intro j
 simp only [jL, Nat.not_lt_zero, if_false, List.getElem?_map]
 by_cases h : j < pr.length
 ·rw [List.getElem?_range h]; simp [h]
 ·rw [List.getElem?_eq_none (by simp; omega), List.getElem?_eq_none (by omega)]; rfl
theorem Zi5 (pr : List (List Int)) (k : Nat) : jL pr k pr.length = pr.map (wD k) := by
 apply List.ext_getElem?
 intro j
 simp only [jL, List.getElem?_map]
 by_cases h : j < pr.length
 ·rw [List.getElem?_range h]; simp [h]
 ·rw [List.getElem?_eq_none (by simp; omega), List.getElem?_eq_none (by omega)]; rfl
theorem Zi6 (pr : List (List Int)) (k i : Nat) (h : i < pr.length) : (jL pr k i).set i (wD k (pr.getD i [])) = jL pr k (i + 1) := by
 apply List.ext_getElem?
 intro j
 rw [List.getElem?_set, vB]
 by_cases hij : i = j
 ·subst hij; rw [if_pos rfl, if_pos h]; simp [jL, h]
 ·rw [if_neg hij]
  by_cases hj : j < pr.length
  ·simp only [jL, List.getElem?_map, List.getElem?_range hj, Option.map_some]
   congr 1
   by_cases h1 : j < i
   ·rw [if_pos h1, if_pos (by omega)]
   ·rw [if_neg h1, if_neg (by omega)]
  ·rw [List.getElem?_eq_none (by rw [vB]; omega), List.getElem?_eq_none (by rw [vB]; omega)]
def xB (m n : Nat) (pr : List (List Int)) : Prop := pr.length = m ∧ ∀ l ∈ pr, l.length = n ∧ ∀ z ∈ l, I64 z
theorem Zbs (x : Int) : I64 (W x) := by
 have key : ∀ m : Int, 0 ≤ m → m < 2 ^ 64 → I64 (if (true && decide (m ≥ 2 ^ (64 - 1))) = true then m - 2 ^ 64 else m) := by
  intro m h1 h2
  unfold I64
  by_cases h : m ≥ 2 ^ (64 - 1)
  ·simp [h]; omega
  ·simp [h]; omega
 exact key _ (Int.emod_nonneg x (by decide)) (Int.emod_lt_of_pos x (by decide))
theorem Zi7 {m n : Nat} {pr : List (List Int)} (fs : List Int) (k : Nat) (h : xB m n pr) : xB m n (Zh fs pr k) := by
 unfold Zh
 split
 ·refine ⟨by simp [h.1], fun l hl => ?_⟩
  obtain ⟨l', hl', rfl⟩ := List.mem_map.1 hl
  rw [Zbr]
  refine ⟨(h.2 l' hl').1, fun z hz => ?_⟩
  rcases List.mem_or_eq_of_mem_set hz with hz | rfl
  ·exact (h.2 l' hl').2 z hz
  ·exact Zbs _
 ·exact h
theorem Z6 {m n : Nat} {pr : List (List Int)} (fs : List Int) (h : xB m n pr) : ∀ k, xB m n (Zi fs pr k)
 | 0 => h
 | k + 1 => Zi7 fs k (Z6 fs h k)
theorem Zbt (x : Inst) (n : Nat) : xB x.cust.length n (qa x n 0) := by
 refine ⟨wC x n 0, fun l hl => ?_⟩
 obtain ⟨j, _, rfl⟩ := List.mem_map.1 hl
 refine ⟨by simp, fun z hz => ?_⟩
 rw [(List.mem_replicate.1 hz).2]; exact Zbs _
set_option maxRecDepth 20000 in
theorem Zi8 {S : Store} {id ver A va base idF vF : Nat} {ws : Nat → Nat} {x : Inst} {v p : PV} {b : Int} {m n : Nat} {pr : List (List Int)} {fs : List Int} (k : Nat) (hm : m ≤ 1000) (hn : n ≤ 1000) (hkn : k < n) (hid : id < base) (hidA : id ≠ A) (hF : S idF = .cells vF 30 (fs.flatMap Enc.enc)) (hfl : fs.length = n)
  (hS : S id = .cells ver 87 (plL x v b p (.sl idF vF 1 0 fs.length) (.sl A va 1 0 m))) (hP : xB m n pr) (hR : RowsAt S A va 54 base 3 1 ws pr) :
  Spec Tryz.prog 53 [.ptr id ver 0, I k] S (fun _ S' => RowsAt S' A va 54 base 3 1 ws (Zh fs pr k) ∧ ∀ o, (o < base ∨ base + m ≤ o) → S' o = S o) := by
 obtain ⟨hPl, hPr⟩ := hP
 refine y9 Tryz.func53 Tryz.ntmps53 Tryz.results53 fun nx hd => ?_
 have hlt : id < nx := yP hd hS (by simp)
 have hltF : idF < nx := yP hd hF (by simp)
 have hltA : A < nx := yP hd hR.arr (by simp)
 have hltR : ∀ i, i < m → base + i < nx := fun i hi => yP hd (hR.row i (by omega)) (by simp)
 have xw := fun obs => (zy (S := S) (obs := obs) hlt).trans hS
 have xf := fun obs => (zy (S := S) (obs := obs) hltF).trans hF
 obtain ⟨e, tl0, e1, -, -, e0⟩ := el1 rfl fs k (by omega)
 have hkf : k < fs.length := by omega
 have hge : fs.getD k 0 = e := by rw [List.getD_eq_getElem?_getD, e1]; rfl
 repeat apply za
 refine pwN [] (jn4 xw xf e0 hkf) ?_
 intros
 by_cases he : e = 14
 case neg =>
  repeat apply za
  refine zj (by simp [he]) ?_
  repeat apply za
  exact ze ⟨_, S, rfl, ⟨by unfold Zh; rw [hge, if_neg he]; exact hR, fun _ _ => rfl⟩, zO hd⟩
 repeat apply za
 refine zi (by simp [he]) ?_
 refine zb ?_
 repeat apply za
 refine pwN [] xw ?_
 intros
 have hkill : ∀ T : Store, (∀ o, (o < base ∨ base + m ≤ o) → T o = S o) → zK nx T := fun T hT o ho => by
  by_cases h2 : o < base ∨ base + m ≤ o
  ·rw [hT o h2]; exact hd o ho
  ·have := hltR (o - base) (by omega); omega
 repeat apply za
 refine zg (jd (σ := Nat × Store) (fun s => s.1 ≤ m ∧ RowsAt s.2 A va 54 base 3 1 ws (jL pr k s.1) ∧ ∀ o, (o < base ∨ base + m ≤ o) → s.2 o = S o)
  (fun s => [(0, .ptr id ver 0), (1, I k), (17, I m), (18, I s.1)]) (fun s => s.2) (fun _ => []) (fun s => m - s.1) (zA (0, S) [] ⟨by simp, by simpa only [Zi4] using hR, fun _ _ => rfl⟩ (by simp) rfl (by simp)) ?_)
 have hAb0 := hR.out
 clear hR
 rintro ⟨i, T⟩ ⟨hi, hR, hT⟩
 simp only at hi hR hT ⊢
 (repeat apply za); refine pwn ?_; intros
 repeat apply za
 refine zn rfl (fun hc => ?_) (fun hc => ?_)
 ·simp at hc
  have hil : i < pr.length := by omega
  have hTw : T id = .cells ver 87 (plL x v b p (.sl idF vF 1 0 fs.length) (.sl A va 1 0 m)) := (hT id (.inl hid)).trans hS
  have hri := hR.row i (by rw [vB]; exact hil)
  rw [Xs pr k i i hil, if_neg (Nat.lt_irrefl i)] at hri
  obtain ⟨tl, hdr⟩ := Xr base 1 ws (jL pr k i) i (by rw [vB]; exact hil)
  rw [Xs pr k i i hil, if_neg (Nat.lt_irrefl i)] at hdr
  have hcl : (rwC base 1 ws (jL pr k i)).length = m := by rw [Zf, vB, hPl]
  have hgl : (pr.getD i []).length = n := by
   rw [List.getD_eq_getElem?_getD, List.getElem?_eq_getElem hil]; exact (hPr _ (List.getElem_mem hil)).1
  generalize hrow : pr.getD i [] = row at hri hdr hgl
  obtain ⟨z, tl2, z1, -, -, z0⟩ := el1 rfl row k (by omega)
  have hgz : row.getD k 0 = z := by rw [List.getD_eq_getElem?_getD, z1]; rfl
  have hkr : k < row.length := by omega
  have hlti := hltR i hc
  have xw := fun obs => (zy (S := T) (obs := obs) hlt).trans hTw
  have xa := fun obs => (zy (S := T) (obs := obs) hltA).trans hR.arr
  have xr := fun obs => (zy (S := T) (obs := obs) hlti).trans hri
  have yw := fun (o : Ob) obs => (zy (S := T.set (base + i) o) (obs := obs) hlt).trans ((Store.set_other _ _ _ _ (by omega)).trans hTw)
  have ya := fun (o : Ob) obs => (zy (S := T.set (base + i) o) (obs := obs) hltA).trans ((Store.set_other _ _ _ _ (by omega)).trans hR.arr)
  have g1 : ¬ nx ≤ base + i := by omega
  have hsp := Zi0 (α := Int) rfl row k (W (W (2 * z) + 1)) hkr
  have hsp' : zJ (row.flatMap Enc.enc) k [I (W (W (2 * z) + 1))] = (row.set k (W (W (2 * z) + 1))).flatMap Enc.enc := by simpa using hsp
  have hrl : (row.flatMap Enc.enc).length = n := by rw [jf, hgl]; simp [Enc.sz]
  refine zb (za (zg ?_))
  (repeat apply za); refine pwn ?_; intros
  repeat apply za
  refine pwY (some [id, A]) (Row.pures [0, 1, 2, 3, 4, 5, 6, 7, 8, 9, 10, 11, 12, 13, 15] (.alt 14 (Row.pures [16] (.alt 17 (Row.pures [18, 19, 20] (.alt 21 (.done) .stop)) .stop)) .stop)) mixed (jn6 xw xa xr yw ya (jn2 (jn6 hdr g1 hcl hc z0 hkr) (jn4 hsp' hrl hgl hkn))) ?_
  refine ⟨by omega, ?_⟩
  intros
  obtain ⟨T', hT'⟩ : ∃ T', T' = T.set (base + i) (.cells (ws i) 3 ((wD k row).flatMap Enc.enc)) := ⟨_, rfl⟩
  have hnew := hR.turn (i := i) (by rw [vB]; exact hil) (T' := T') (ws i) (wD k row) (by
   rw [hT', Store.set_other _ _ _ _ (by omega), hR.arr]
   congr 1
   refine (List.ext_getElem? fun j => ?_).symm
   rw [List.getElem?_set]
   split
   ·rename_i hij
    subst hij
    rw [if_pos (by omega), Z5 _ _ _ _ _ (by rw [vB]; exact hil), Xs pr k i i hil, if_neg (Nat.lt_irrefl i), hrow, Zbr]
   ·rfl) (by rw [hT']; exact Store.set_same _ _ _) (fun o o1 o2 => by rw [hT']; exact Store.set_other _ _ _ _ o2)
  have hws : (fun k => if k = i then ws i else ws k) = ws := by funext j; split <;> simp_all
  rw [hws, ← hrow, Zi6 pr k i hil] at hnew
  (repeat apply za); refine pwn ?_; intros
  refine zm (i + 1, T') [] ⟨hc, hnew, fun o hob => ?_⟩ (by simp; omega) (by simp [wrN i (by omega)]) ?_ (by simp)
  ·dsimp only; rw [hT', Store.set_other _ _ _ _ (by omega)]; exact hT o hob
  ·dsimp only; rw [hT']
   simp only [wD, hgz]
 ·simp at hc
  obtain rfl : i = m := by omega
  rw [← hPl, Zi5] at hR
  refine zo ?_
  exact ⟨_, T, rfl, ⟨by unfold Zh; rw [hge, if_pos he]; exact hR, hT⟩, zO (hkill T hT)⟩
def wE (e : Int) : Bool := decide (e ≠ 0) && decide (e ≠ 14)
set_option maxRecDepth 20000 in
theorem Zi9 (e : Int) : Pure Tryz.prog 52 [I e] (B (wE e)) := by
 unfold wE
 refine pwe Tryz.func52 Tryz.ntmps52 Tryz.results52 fun S nx hd => ?_
 (repeat apply za); refine pwn ?_; intros
 by_cases h1 : e = 0
 ·repeat apply za
  refine pwN [(2, 5)] (jn2 h1 zv) ?_
  intros
  repeat apply za
  exact ze (zh hd rfl (by simp [zk, h1]))
 ·by_cases h2 : e = 14
  ·repeat apply za
   refine pwN [(2, 5)] (jn3 h1 h2 zv) ?_
   intros
   repeat apply za
   exact ze (zh hd rfl (by simp [zk, h2]))
  ·repeat apply za
   refine pwN [(2, 5)] (jn3 h1 h2 zv) ?_
   intros
   repeat apply za
   exact ze (zh hd rfl (by simp [zk, h1, h2]))
set_option maxRecDepth 20000 in
theorem Zja {S : Store} {idF vF : Nat} (fs : List Int) (hF : S idF = .cells vF 30 (fs.flatMap Enc.enc)) (hl : fs.length ≤ 1000) :
  Spec Tryz.prog 91 [.sl idF vF 1 0 fs.length, .fn (.func 52) [] []] S (fun q S' => (∃ z : Int, q = I z ∧ (fs.any wE = decide (0 ≤ z))) ∧ S' = S) := by
 refine y9 Tryz.func91 Tryz.ntmps91 Tryz.results91 fun nx hd => ?_
 have hltF : idF < nx := yP hd hF (by simp)
 have xf := fun obs => (zy (S := S) (obs := obs) hltF).trans hF
 (repeat apply za); refine pwn ?_; intros
 (repeat apply za); refine pwn ?_; intros
 repeat apply za
 refine zg (zr (fun k : Nat => k ≤ fs.length ∧ ∀ e ∈ fs.take k, wE e = false) (fun k => [(0, .sl idF vF 1 0 fs.length), (1, .fn (.func 52) [] []), (7, I fs.length), (8, I k)]) (fun _ => []) (fun k => fs.length - k) 0 [] (by simp) (by simp) (by simp) ?_)
 rintro k ⟨hk, h0⟩
 (repeat apply za); refine pwn ?_; intros
 repeat apply za
 refine zn rfl (fun hc => ?_) (fun hc => ?_)
 ·simp at hc
  obtain ⟨e, tl, a1, a2, a3, e0⟩ := el1 rfl fs k hc
  refine zb (za (zg ?_))
  (repeat apply za); refine pwn ?_; intros
  repeat apply za
  refine pwN [] (jn3 xf e0 hc) ?_
  refine pwc (Zi9 e) ?_
  intros
  cases hb : wE e with
  | true =>
   repeat apply za
   refine zj rfl ?_
   (repeat apply za); refine pwn ?_; intros
   repeat apply za
   exact ze ⟨_, S, rfl, ⟨⟨k, by simp [zk], by rw [List.any_eq_true.2 ⟨e, List.mem_of_getElem? a1, hb⟩]; simp⟩, rfl⟩, zO hd⟩
  | false =>
   repeat apply za
   refine zi rfl ?_
   refine zb ?_
   (repeat apply za); refine pwn ?_; intros
   exact zm (k + 1) [] ⟨hc, fun y hy => by rw [a3] at hy; rcases List.mem_append.1 hy with h | h; exact h0 y h; rw [List.mem_singleton.1 h]; exact hb⟩ (by omega) (by simp [wrN k (by omega)]) rfl (by simp)
 ·simp at hc
  obtain rfl : k = fs.length := by omega
  rw [List.take_length] at h0
  refine zo ?_
  (repeat apply za); refine pwn ?_; intros
  repeat apply za
  exact ze ⟨_, S, rfl, ⟨⟨-1, by simp [zk], by rw [List.any_eq_false.2 fun e he => by rw [h0 e he]; simp]; rfl⟩, rfl⟩, zO hd⟩
set_option maxRecDepth 20000 in
theorem Zjb {S : Store} {idF vF : Nat} (fs : List Int) (hF : S idF = .cells vF 30 (fs.flatMap Enc.enc)) (hl : fs.length ≤ 1000) :
  Spec Tryz.prog 51 [.sl idF vF 1 0 fs.length, .fn (.func 52) [] []] S (fun q S' => q = B (fs.any wE) ∧ S' = S) := by
 refine y9 Tryz.func51 Tryz.ntmps51 Tryz.results51 fun nx hd => ?_
 have hltF : idF < nx := yP hd hF (by simp)
 (repeat apply za); refine pwn ?_; intros
 repeat apply za
 refine zP [] (by rfl) (by rfl) fun K Gc Gh hK hGc hGh X hX0 hX => ?_
 simp -implicitDefEqProofs [hX0, hX]
 try clear hX0 hX X
 refine hGc _ _ _ _ _ _ _ fun hsuf => ((Zja fs ((zy hltF).trans hF) hl).mono ?_).v
 rintro _ _ ⟨⟨z, rfl, hz⟩, rfl⟩
 refine ⟨_, _, rfl, ?_⟩
 clear hGc hGh
 clear Gc Gh
 refine zL hsuf (D := []) (by rfl) fun Gc Gh hGc hGh X hX0 hX => ?_
 simp -implicitDefEqProofs [hX0, hX]
 clear hX0 hX X
 intros
 refine hK _ _ _ ?_
 clear hK hGc hGh
 clear K Gc Gh
 repeat apply za
 exact ze ⟨_, S, rfl, ⟨by simp [zk, hz], rfl⟩, zO hd⟩
def xn (x : Inst) (sol : Cust → List Int → List Visit × Bool) (pr : List (List Int)) (k : Nat) : List (List Visit × Bool) := (List.range k).map fun i => sol (x.cust.getD i default) (pr.getD i [])
def yi (x : Inst) (sol : Cust → List Int → List Visit × Bool) (pr : List (List Int)) : List (List Visit) × Int := if (xn x sol pr x.cust.length).all (·.2) = true then ((xn x sol pr x.cust.length).map (·.1), 0) else ([], 15)
theorem Zjc (x : Inst) (sol : Cust → List Int → List Visit × Bool) (pr : List (List Int)) (k : Nat) : xn x sol pr (k + 1) = xn x sol pr k ++ [sol (x.cust.getD k default) (pr.getD k [])] := by simp [xn, List.range_succ]
theorem Zbu (x : Inst) (sol : Cust → List Int → List Visit × Bool) (pr : List (List Int)) {k m : Nat} (h : k < m) : sol (x.cust.getD k default) (pr.getD k []) ∈ xn x sol pr m := List.mem_map.2 ⟨k, List.mem_range.2 h, rfl⟩
def Qx (x : Inst) (n : Nat) (sol : Cust → List Int → List Visit × Bool) : Prop :=
 ∀ c ∈ x.cust, ∀ (l : List Int), l.length = n → (∀ z ∈ l, I64 z) → ∀ (S : Store) (pl : PV), RowOf S pl l → Spec Tryz.prog 88 [.agg (zB c), I x.days, I x.cap, pl] S (fun q S' => q = .tup [L (sol c l).1, B (sol c l).2] ∧ S' = S)
set_option maxRecDepth 20000 in
theorem Zjd {S : Store} {A va base : Nat} {ws : Nat → Nat} {x : Inst} {n : Nat} {pr : List (List Int)} {sol : Cust → List Int → List Visit × Bool} (hx : x.cust.length ≤ 1000) (hP : xB x.cust.length n pr) (hR : RowsAt S A va 54 base 3 1 ws pr) (hs : Qx x n sol) :
  Spec Tryz.prog 49 [.agg (zt x), .sl A va 1 0 x.cust.length] S (fun q S' => q = .tup [L (yi x sol pr).1, I (yi x sol pr).2] ∧ S' = S) := by
 obtain ⟨hPl, hPr⟩ := hP
 refine y9 Tryz.func49 Tryz.ntmps49 Tryz.results49 fun nx hd => ?_
 have hltA : A < nx := yP hd hR.arr (by simp)
 have xa := fun obs => (zy (S := S) (obs := obs) hltA).trans hR.arr
 repeat apply za
 refine pwn ?_
 intro v0
 (repeat apply za); refine pwn ?_; intros
 refine za (qe 6 42 1 rfl fun v1 => ?_)
 (repeat apply za); refine pwn ?_; intros
 repeat apply za
 refine zg (zr (fun s : Nat × List (List Visit) × Nat => s.1 ≤ x.cust.length ∧ s.2.1 = (xn x sol pr s.1).map (·.1) ∧ (xn x sol pr s.1).all (·.2) = true) (fun (i, out, w) => [(1, .sl A va 1 0 x.cust.length), (2, .ptr nx v0 0), (4, .sc (.slice none 0 0)), (6, .sl (nx + 1) w 1 0 out.length), (13, L x.cust), (14, I x.cust.length), (15, I i)]) (fun (i, out, w) => [.cells v0 25 (zt x), .cells w 42 (out.flatMap Enc.enc)]) (fun s => x.cust.length - s.1) (0, [], v1) [] (by simp [xn]) (by simp) (by simp) ?_)
 rintro ⟨i, out, w⟩ ⟨hi, ho, hall⟩
 simp only at hi ho hall ⊢
 have hol : out.length = i := by rw [ho]; simp [xn]
 (repeat apply za); refine pwn ?_; intros
 repeat apply za
 refine zn rfl (fun hc => ?_) (fun hc => ?_)
 ·simp at hc
  obtain ⟨c, tl, a1, a2, a3, e1, e0⟩ := el 8 rfl x.cust i hc
  have hcm := List.mem_of_getElem? a1
  have hgc : x.cust.getD i default = c := by rw [List.getD_eq_getElem?_getD, a1]; rfl
  have hil : i < pr.length := by omega
  obtain ⟨tl2, hdr⟩ := Xr base 1 ws pr i hil
  obtain ⟨hgl, hgi⟩ : (pr.getD i []).length = n ∧ ∀ z ∈ pr.getD i [], I64 z := by
   rw [List.getD_eq_getElem?_getD, List.getElem?_eq_getElem hil]; exact hPr _ (List.getElem_mem hil)
  have hrow : RowOf S (.sl (base + i) (ws i) 1 0 (pr.getD i []).length) (pr.getD i []) := .inr ⟨_, _, rfl, hR.row i hil⟩
  have hsol := hs c hcm (pr.getD i []) hgl hgi
  have hch := Zjc x sol pr i
  have hcm2 := Zbu x sol pr (k := i) hc
  rw [hgc] at hch hcm2
  generalize pr.getD i [] = row at hdr hgl hgi hrow hsol hch hcm2
  generalize hr : sol c row = r at hsol hch hcm2
  obtain ⟨vv, ok⟩ := r
  simp only at hsol hch
  refine zb (za (zg ?_))
  repeat apply za
  refine pwN [] (jn2 e0 hc) ?_
  intro v2
  (repeat apply za); refine pwn ?_; intros
  (repeat apply za); refine pwn ?_; intros
  repeat apply za
  refine zj (by simp [hc]) ?_
  repeat apply za
  refine pwN [] (jn3 xa hdr hc) ?_
  intros
  repeat apply za
  refine zP [] (by rfl) (by rfl) fun K Gc Gh hK hGc hGh X hX0 hX => ?_
  simp -implicitDefEqProofs [hX0, hX]
  try clear hX0 hX X
  refine hGc _ _ _ _ _ _ _ fun hsuf => ((hsol _ _ (hrow.ext hd _)).mono ?_).v
  rintro _ _ ⟨rfl, rfl⟩
  refine ⟨_, _, rfl, ?_⟩
  clear hGc hGh
  clear Gc Gh
  refine zL hsuf (D := []) (by rfl) fun Gc Gh hGc hGh X hX0 hX => ?_
  simp -implicitDefEqProofs [hX0, hX]
  clear hX0 hX X
  intros
  refine hK _ _ _ ?_
  clear hK hGc hGh
  clear K Gc Gh
  (repeat apply za); refine pwn ?_; intros
  cases ok with
  | false =>
   have hno : yi x sol pr = ([], 15) := by
    unfold yi
    rw [if_neg]
    intro q
    have := List.all_eq_true.1 q _ hcm2
    cases this
   rw [hno]
   repeat apply za
   refine zj rfl ?_
   (repeat apply za); refine pwn ?_; intros
   refine xq 4 rfl ?_
   repeat apply za
   exact ze ⟨_, S, rfl, ⟨by simp [zk], rfl⟩, zO hd⟩
  | true =>
   repeat apply za
   refine zi rfl ?_
   refine zb ?_
   repeat apply za
   refine pwn ?_
   refine ⟨by omega, ?_⟩
   intros
   (repeat apply za); refine pwn ?_; intros
   exact zm (i + 1, out ++ [vv], w + 1) [_] ⟨hc, by rw [hch, List.map_append, ho]; rfl, by rw [hch, List.all_append, hall]; rfl⟩ (by simp; omega) (by simp [wrN i (by omega)]) rfl (by simp; rfl)
 ·simp at hc
  obtain rfl : i = x.cust.length := by omega
  have hyes : yi x sol pr = (out, 0) := by unfold yi; rw [if_pos hall, ← ho]
  rw [hyes]
  refine zo ?_
  refine zM 1 rfl ?_
  (repeat apply za); refine pwn ?_; intros
  repeat apply za
  exact ze ⟨_, S, (by simp; rfl), ⟨by simp [zk], rfl⟩, zO hd⟩
open Go
theorem Zje (c : Cust) (q : List Int) (hq : q.length ≤ 1048576) : (yn c q).1.length ≤ 1048576 := by
 unfold yn
 split
 ·simp
 ·cases h : zQ c.size c.rate c.start q with
  | none => simp
  | some l => simp [Za7 h]; exact hq
theorem Zbv (v : List Visit) (n : Int) : (zH v n).length ≤ 1048576 := by rw [Z2]; omega
open Go
def Z7 (p : qC) : Nat := (p.map fun d => d.flatten.length).sum
theorem Zbw : ∀ (p : qC) (i : Nat), (told i p).length = Z7 p
 | [], _ => rfl
 | d :: p, i => by
  have := Zbw p (i + 1)
  simp only [told, List.length_append, List.length_map, Z7, List.map_cons, List.sum_cons] at this ⊢; omega
structure MadeP (m : Nat) (n : Nat) (p : qC) : Prop where
 len : p.length = n
 ne : ∀ d ∈ p, ∀ t ∈ d, t ≠ []
 ok : ∀ d ∈ p, ∀ s ∈ d.flatten, (0 ≤ s.c ∧ s.c < m) ∧ 1 ≤ s.q ∧ s.q ≤ 2147483648
 nd : ∀ d ∈ p, (d.flatten.map (·.c)).Nodup
theorem MadeP.set {m n : Nat} {p : qC} (h : MadeP m n p) {k : Nat} {d : Day} (hd : p[k]? = some d) (x : Inst) (s : Stop) (j : Bool) (hs : (0 ≤ s.c ∧ s.c < m) ∧ 1 ≤ s.q ∧ s.q ≤ 2147483648) (hno : ∀ u ∈ d.flatten, u.c ≠ s.c) : MadeP m n (p.set k (Zg x d s j)) := by
 have hdm := List.mem_of_getElem? hd
 refine ⟨by simp [h.len], fun e he t ht => ?_, fun e he u hu => ?_, fun e he => ?_⟩
 ·rcases List.mem_or_eq_of_mem_set he with he | rfl
  ·exact h.ne e he t ht
  ·exact ZiZ x d s j (h.ne d hdm) t ht
 ·rcases List.mem_or_eq_of_mem_set he with he | rfl
  ·exact h.ok e he u hu
  ·rw [Zbo] at hu
   rcases List.mem_append.1 hu with hu | hu
   ·exact h.ok d hdm u hu
   ·rw [List.mem_singleton.1 hu]; exact hs
 ·rcases List.mem_or_eq_of_mem_set he with he | rfl
  ·exact h.nd e he
  ·rw [Zbo, List.map_append]
   exact Y0 _ _ (h.nd d hdm) (fun hm => by obtain ⟨u, hu, e⟩ := List.mem_map.1 hm; exact hno u hu e)
open Go
def lx : Inst := ⟨1, 1, 9, 9, [], [[0]]⟩
def ly : Inst := ⟨1, 1, 9, 9, [⟨1, 1, [1], 0, 0, 0, 0, 0⟩], [[0, 3], [4, 0]]⟩
def lp : qC := [[]]
theorem Zjf : ∀ i : Nat, zX 1 i = 1 ↔ i = 0 := by
 intro i
 cases i with
 | zero => simp [zX]
 | succ i => simp [zX, Nat.div_eq_of_lt (show 1 < 2 ^ (i + 1) from Nat.one_lt_two_pow (by omega))]
open Go
theorem Zbx (p : Nat) : ∀ k : Nat, k ≤ 64 → ∀ i : Nat, zX (qt p k) i = 1 → i < k
 | 0, _, i, h => by simp [qt, zX] at h
 | k + 1, hk, i, h => by
  have ih := Zbx p k (by omega) i
  unfold qt at h
  split at h
  ·rw [ZiG _ _ (YT p k) (by omega)] at h
   have h2 : ((qt p k ||| 2 ^ k).testBit i) = true := by
    rw [Z4]; unfold jI at h; rw [if_pos (by omega), Int.toNat_natCast] at h; simp [h]
   rw [Nat.testBit_or, Nat.testBit_two_pow, Bool.or_eq_true] at h2
   rcases h2 with h2 | h2
   ·rw [Z4] at h2
    have := ih (by simpa using h2); omega
   ·have : k = i := by simpa using h2
    omega
  ·have := ih h; omega
theorem Qy {p a k : Nat} {d : Int} (h : d ∈ zS p a k) : ∃ i : Nat, d = i ∧ i < k ∧ zX p i = 1 := by
 simp only [zS, List.mem_map, List.mem_filter, List.mem_range, Bool.and_eq_true, decide_eq_true_eq] at h
 obtain ⟨i, ⟨h1, _, h3⟩, rfl⟩ := h
 exact ⟨i, rfl, h1, h3⟩
theorem Zjg (c : Cust) (days : Int) (h1 : 1 ≤ days) (h7 : days ≤ 7) : CustMade (qE c days) days.toNat := by
 unfold qE
 split
 ·have a := xv c.rate 0 9 (by omega)
  have b := xv c.size 1 30 (by omega)
  have d := xv c.start 0 (rnd c.size 1 30) (by omega)
  exact ⟨⟨by dsimp only; omega, by dsimp only; omega, by dsimp only; omega⟩, by simp, by simp, fun h => by simp at h⟩
 ·have a := xv c.demand 1 15 (by omega)
  refine ⟨⟨by simp, by simp, by simp⟩, ?_, ?_, fun _ => ⟨?_, by dsimp only; omega, by dsimp only; omega⟩⟩
  ·intro p hp
   simp only [vZ] at hp
   split at hp
   ·simp only [List.mem_singleton] at hp; omega
   ·obtain ⟨q, _, rfl⟩ := List.mem_map.1 hp; exact YT q _
  ·simp only [vZ]; split
   ·simp
   ·simp; omega
  ·intro p hp d hd
   obtain ⟨i, rfl, _, hb⟩ := Qy hd
   simp only [vZ] at hp
   split at hp
   ·simp only [List.mem_singleton] at hp; subst hp
    have := (Zjf i).1 hb; omega
   ·obtain ⟨q, _, rfl⟩ := List.mem_map.1 hp
    have := Zbx q days.toNat (by omega) i hb; omega
theorem Qz (x : Inst) : 1 ≤ (zN x).days ∧ (zN x).days ≤ 7 := xv x.days 1 7 (by omega)
theorem Xt (x : Inst) {c : Cust} (h : c ∈ (zN x).cust) : ∃ c0, c = qE c0 (zN x).days := by
 simp only [zN, List.mem_map] at h
 obtain ⟨c0, _, rfl⟩ := h
 exact ⟨c0, rfl⟩
def Zjh (x : Inst) (v c l : Int) : Inst := ⟨(zN x).days, v, c, l, (zN x).cust, (zN x).dist⟩
theorem Zji {m : Nat} : ∀ (l : List Int), l.Nodup → (∀ c ∈ l, 0 ≤ c ∧ c < m) → l.length ≤ m := by
 intro l hn hl
 have h1 : (l.map Int.toNat).Nodup := by
  refine List.Pairwise.map _ ?_ (List.Pairwise.and_mem.1 hn)
  rintro a b ⟨ha, hb, hab⟩ e
  have := hl a ha; have := hl b hb
  exact hab (by omega)
 have h2 : ∀ c ∈ l.map Int.toNat, c ∈ List.range m := by
  intro c hc
  obtain ⟨z, hz, rfl⟩ := List.mem_map.1 hc
  have := hl z hz
  exact List.mem_range.2 (by omega)
 have := h1.length_le_of_subset h2
 simpa using this
open Go Go.Proofs Hp
set_option maxRecDepth 20000 in
theorem Xu (p : Nat) (hp : p < 2 ^ 64) : Pure Tryz.prog 208 [U p] (L (zS p 0 64)) := by
 have h := ZiE p 0 hp (by decide)
 refine pwe Tryz.func208 Tryz.ntmps208 Tryz.results208 fun S nx hd => ?_
 (repeat apply za); refine pwn ?_; intros
 repeat apply za
 refine pwn ?_
 refine pwc h ?_
 intros
 repeat apply za
 exact ze (zh hd rfl rfl)
set_option maxRecDepth 20000 in
theorem Zjj (c : Cust) (p : Nat) (hp : p < 2 ^ 64) : Pure Tryz.prog 169 [.agg (zB c), U p] (L (qO c p)) := by
 have hall := Xu p hp
 have hln := ur p 0 64
 unfold qO
 generalize zS p 0 64 = l at hall hln
 refine pwe Tryz.func169 Tryz.ntmps169 Tryz.results169 fun S nx hd => ?_
 repeat apply za
 refine pwn ?_
 intro v0
 (repeat apply za); refine pwn ?_; intros
 refine za (qe 5 103 2 rfl fun v1 => ?_)
 repeat apply za
 refine pwn ?_
 refine pwc hall ?_
 intros
 repeat apply za
 refine zg (zr (fun s : Nat × List Visit × Nat => s.1 ≤ l.length ∧ s.2.1 = (l.take s.1).map fun d => ⟨d, c.demand⟩) (fun (k, out, v1) => [(2, .ptr nx v0 0), (5, .sl (nx + 1) v1 2 0 out.length), (9, L l), (10, I l.length), (11, I k)]) (fun (k, out, v1) => [.cells v0 41 (zB c), .cells v1 103 (out.flatMap Enc.enc)]) (fun s => l.length - s.1) (0, [], v1) [] (by simp) (by simp) (by simp) ?_)
 rintro ⟨k, out, v1⟩ ⟨hk, ho⟩
 simp only at hk ho ⊢
 have hol : out.length = k := by rw [ho]; simp; omega
 (repeat apply za); refine pwn ?_; intros
 repeat apply za
 refine zn rfl (fun hc => ?_) (fun hc => ?_)
 ·simp at hc
  obtain ⟨d, tl, a1, a2, a3, e0⟩ := el1 rfl l k hc
  refine zb (za (zg ?_))
  repeat apply za
  refine pwN [] (jn2 e0 hc) ?_
  intros
  repeat apply za
  refine pwn ?_
  refine ⟨by omega, ?_⟩
  intros
  (repeat apply za); refine pwn ?_; intros
  exact zm (k + 1, out ++ [⟨d, c.demand⟩], v1 + 1) [] ⟨hc, by rw [a3, ho]; simp⟩ (by simp; omega) (by simp [wrN k (by omega)]) rfl (by simp)
 ·simp at hc
  obtain rfl : k = l.length := by omega
  rw [List.take_length] at ho
  refine zo ?_
  refine zM 1 rfl ?_
  (repeat apply za); refine pwn ?_; intros
  repeat apply za
  exact ze (zh hd (by simp; rfl) (by simp [zk, ho]))
def jM (price : List Int) (ds : List Int) : Int := ds.foldl (fun (s d : Int) => if d < price.length then xW s (price.getD d.toNat 0) else s) 0
def Z8 (price : List Int) (p : Nat) : Int := jM price (zS p 0 64)
def yR (price : List Int) (l : List Nat) : Nat → Int × Int
 | 0 => (-1, 0)
 | k + 1 => if (yR price l k).1 < 0 ∨ Z8 price (l.getD k 0) < (yR price l k).2 then (k, Z8 price (l.getD k 0)) else yR price l k
theorem Xv (price : List Int) (l : List Nat) : ∀ k : Nat, (yR price l k).1 < k ∧ -1 ≤ (yR price l k).1 ∧ (0 < k → 0 ≤ (yR price l k).1)
 | 0 => by simp [yR]
 | k + 1 => by
  have := Xv price l k
  unfold yR
  split
  ·dsimp only; omega
  ·rename_i h; omega
theorem Zjk (a b : Int) (ha : I64 a) (hb : I64 b) : I64 (xW a b) := by
 unfold I64 xW at *
 split
 ·omega
 ·split <;> omega
theorem Zjl (price ds : List Int) (d : Int) : jM price (ds ++ [d]) = if d < price.length then xW (jM price ds) (price.getD d.toNat 0) else jM price ds := by simp [jM]
theorem Zjm (price : List Int) (hp : ∀ z ∈ price, I64 z) (ds : List Int) : I64 (jM price ds) := by
 unfold jM
 have : ∀ (ds : List Int) (s : Int), I64 s → I64 (ds.foldl (fun (s d : Int) => if d < price.length then xW s (price.getD d.toNat 0) else s) s) := by
  intro ds
  induction ds with
  | nil => intro s h; exact h
  | cons d ds ih =>
   intro s h
   rw [List.foldl_cons]
   apply ih
   split
   ·refine Zjk _ _ h ?_
    rw [List.getD_eq_getElem?_getD]
    cases hq : price[d.toNat]? with
    | none => unfold I64; simp
    | some z => exact hp z (List.mem_of_getElem? hq)
   ·exact h
 exact this ds 0 (by unfold I64; omega)
set_option maxRecDepth 20000 in
theorem Zjn {S : Store} {pl : PV} {price : List Int} (l : List Nat) (hR : RowOf S pl price) (hp : ∀ z ∈ price, I64 z) (hpl : price.length ≤ 1000) (hl : l.length ≤ 1000) (h64 : ∀ p ∈ l, p < 2 ^ 64) :
  Spec Tryz.prog 168 [L l, pl] S (fun q S' => q = .tup [I (yR price l l.length).1, I (yR price l l.length).2] ∧ S' = S) := by
 refine y9 Tryz.func168 Tryz.ntmps168 Tryz.results168 fun nx hd => ?_
 (repeat apply za); refine pwn ?_; intros
 (repeat apply za); refine pwn ?_; intros
 (repeat apply za); refine pwn ?_; intros
 repeat apply za
 refine zg (zr (fun k : Nat => k ≤ l.length) (fun k => [(1, pl), (6, I (yR price l k).1), (7, I (yR price l k).2), (13, L l), (14, I l.length), (15, I k)]) (fun _ => []) (fun k => l.length - k) 0 [] (by simp) (by simp [yR]) (by simp) ?_)
 rintro k hk
 have hb : yR price l (k + 1) = if (yR price l k).1 < 0 ∨ Z8 price (l.getD k 0) < (yR price l k).2 then (↑k, Z8 price (l.getD k 0)) else yR price l k := rfl
 generalize hst : yR price l k = st at hb ⊢
 obtain ⟨place, least⟩ := st
 simp only at hb ⊢
 (repeat apply za); refine pwn ?_; intros
 repeat apply za
 refine zn rfl (fun hc => ?_) (fun hc => ?_)
 ·simp at hc
  obtain ⟨p, tl, a1, a2, a3, e0⟩ := el1 rfl l k hc
  have hall := Xu p (h64 p (List.mem_of_getElem? a1))
  have hgp : l.getD k 0 = p := by rw [List.getD_eq_getElem?_getD, a1]; rfl
  rw [hgp] at hb
  have hds : ∀ d ∈ zS p 0 64, ∃ i : Nat, d = i := fun d hd => by obtain ⟨i, h, _⟩ := Qy hd; exact ⟨i, h⟩
  have hdl := ur p 0 64
  rw [show Z8 price p = jM price (zS p 0 64) from rfl] at hb
  generalize zS p 0 64 = ds at hall hds hdl hb
  refine zb (za (zg ?_))
  repeat apply za
  refine pwN [] (jn2 e0 hc) ?_
  intros
  (repeat apply za); refine pwn ?_; intros
  repeat apply za
  refine pwn ?_
  refine pwc hall ?_
  intros
  repeat apply za
  refine zg (zr (fun j : Nat => j ≤ ds.length) (fun j => [(1, pl), (6, I place), (7, I least), (8, I k), (10, I (jM price (ds.take j))), (13, L l), (14, I l.length), (15, I k), (21, L ds), (22, I ds.length), (23, I j)]) (fun _ => []) (fun j => ds.length - j) 0 [] (by simp) (by simp [jM]) (by simp) ?_)
  rintro j hj
  (repeat apply za); refine pwn ?_; intros
  repeat apply za
  refine zn rfl (fun hc2 => ?_) (fun hc2 => ?_)
  ·simp at hc2
   obtain ⟨d, tl2, b1, b2, b3, f0⟩ := el1 rfl ds j hc2
   obtain ⟨i, rfl⟩ := hds d (List.mem_of_getElem? b1)
   have hsn := Zjl price (ds.take j) (i : Int)
   rw [← b3, Int.toNat_natCast] at hsn
   have hsi := Zjm price hp (ds.take j)
   refine zb (za (zg ?_))
   repeat apply za
   refine pwN [] (jn2 f0 hc2) ?_
   intros
   by_cases hi : i < price.length
   ·obtain ⟨z, tl3, c1, -, -, g0⟩ := el1 rfl price i hi
    have hgz : price.getD i 0 = z := by rw [List.getD_eq_getElem?_getD, c1]; rfl
    rw [if_pos (by omega), hgz] at hsn
    have hsat := Za4 (jM price (ds.take j)) z hsi (hp z (List.mem_of_getElem? c1))
    rw [← hsn] at hsat
    rcases hR with rfl | ⟨id, ver, rfl, hS⟩
    ·repeat apply za
     refine pwN [] hi ?_
     intros
     repeat apply za
     refine zj rfl ?_
     repeat apply za
     refine pwN [] (jn2 g0 hi) ?_
     refine pwc hsat ?_
     intros
     (repeat apply za); refine pwn ?_; intros
     exact zm (j + 1) [] hc2 (by omega) (by simp [wrN j (by omega)]) rfl (by simp)
    ·have hlt : id < nx := yP hd hS (by simp)
     have xr := fun obs => (zy (S := S) (obs := obs) hlt).trans hS
     repeat apply za
     refine pwN [] hi ?_
     intros
     repeat apply za
     refine zj rfl ?_
     repeat apply za
     refine pwN [] (jn3 xr g0 hi) ?_
     refine pwc hsat ?_
     intros
     (repeat apply za); refine pwn ?_; intros
     exact zm (j + 1) [] hc2 (by omega) (by simp [wrN j (by omega)]) rfl (by simp)
   ·rw [if_neg (by omega)] at hsn
    rcases hR with rfl | ⟨id, ver, rfl, hS⟩
    ·repeat apply za
     refine pwN [] hi ?_
     intros
     repeat apply za
     refine zi rfl ?_
     refine zb ?_
     (repeat apply za); refine pwn ?_; intros
     exact zm (j + 1) [] hc2 (by omega) (by simp [wrN j (by omega), hsn]) rfl (by simp)
    ·repeat apply za
     refine pwN [] hi ?_
     intros
     repeat apply za
     refine zi rfl ?_
     refine zb ?_
     (repeat apply za); refine pwn ?_; intros
     exact zm (j + 1) [] hc2 (by omega) (by simp [wrN j (by omega), hsn]) rfl (by simp)
  ·simp at hc2
   obtain rfl : j = ds.length := by omega
   rw [List.take_length]
   refine zo ?_
   repeat apply za
   refine yD (nx := nx) (σ := Bool) (fun t => t = decide (place < 0 ∨ jM price ds < least)) (fun t => [(1, pl), (6, I place), (7, I least), (8, I k), (10, I (jM price ds)), (13, L l), (14, I l.length), (15, I k), (44, B t)]) (fun _ => S) (fun _ => []) ?_ ?_
   ·by_cases h1 : place < 0
    ·repeat apply za
     refine pwN [(2, 40)] (jn2 h1 zv) ?_
     intros
     exact zA true [] (by simp [h1]) (by simp) rfl (by simp)
    ·repeat apply za
     refine pwN [(2, 40)] h1 ?_
     intros
     exact zA (decide (jM price ds < least)) [] (by simp [h1]) (by simp) rfl (by simp)
   rintro t rfl
   by_cases h : place < 0 ∨ jM price ds < least
   ·rw [decide_eq_true h]
    rw [if_pos h] at hb
    repeat apply za
    refine zj rfl ?_
    (repeat apply za); refine pwn ?_; intros
    (repeat apply za); refine pwn ?_; intros
    exact zm (k + 1) [] hc (by omega) (by simp [wrN k (by omega), hb]) rfl (by simp)
   ·rw [decide_eq_false h]
    rw [if_neg h] at hb
    repeat apply za
    refine zi rfl ?_
    refine zb ?_
    (repeat apply za); refine pwn ?_; intros
    exact zm (k + 1) [] hc (by omega) (by simp [wrN k (by omega), hb]) rfl (by simp)
 ·simp at hc
  obtain rfl : k = l.length := by omega
  refine zo ?_
  (repeat apply za); refine pwn ?_; intros
  repeat apply za
  exact ze ⟨_, S, rfl, ⟨by simp [zk, hst], rfl⟩, zO hd⟩
def qK (c : Cust) (cap : Int) : List Nat := c.pats.filter fun p => decide (p = 0) || decide (c.demand ≤ cap)
set_option maxRecDepth 20000 in
theorem Zjo (c : Cust) (cap : Int) (hl : c.pats.length ≤ 1000) : Pure Tryz.prog 167 [.agg (zB c), I cap] (L (qK c cap)) := by
 unfold qK
 refine pwe Tryz.func167 Tryz.ntmps167 Tryz.results167 fun S nx hd => ?_
 repeat apply za
 refine pwn ?_
 intro v0
 (repeat apply za); refine pwn ?_; intros
 refine za (qe 5 99 1 rfl fun v1 => ?_)
 (repeat apply za); refine pwn ?_; intros
 repeat apply za
 refine zg (zr (fun s : Nat × List Nat × Nat => s.1 ≤ c.pats.length ∧ s.2.1 = (c.pats.take s.1).filter (fun p => decide (p = 0) || decide (c.demand ≤ cap)) ∧ s.2.1.length ≤ s.1) (fun (k, out, w) => [(1, I cap), (2, .ptr nx v0 0), (5, .sl (nx + 1) w 1 0 out.length), (9, L c.pats), (10, I c.pats.length), (11, I k)]) (fun (k, out, w) => [.cells v0 41 (zB c), .cells w 99 (out.flatMap Enc.enc)]) (fun s => c.pats.length - s.1) (0, [], v1) [] (by simp) (by simp) (by simp) ?_)
 rintro ⟨k, out, w⟩ ⟨hk, ho, hol⟩
 simp only at hk ho hol ⊢
 (repeat apply za); refine pwn ?_; intros
 repeat apply za
 refine zn rfl (fun hc => ?_) (fun hc => ?_)
 ·simp at hc
  obtain ⟨p, tl, a1, a2, a3, e0⟩ := el1 rfl c.pats k hc
  refine zb (za (zg ?_))
  repeat apply za
  refine pwN [] (jn2 e0 hc) ?_
  intros
  repeat apply za
  refine yD (nx := nx) (σ := Bool × Nat) (fun s => s.1 = (decide (p = 0) || decide (c.demand ≤ cap))) (fun (t, w) => [(1, I cap), (2, .ptr nx v0 0), (5, .sl (nx + 1) w 1 0 out.length), (7, U p), (9, L c.pats), (10, I c.pats.length), (11, I k), (22, B t)]) (fun _ => S) (fun (t, w) => [.cells v0 41 (zB c), .cells w 99 (out.flatMap Enc.enc)]) ?_ ?_
  ·by_cases h1 : p = 0
   ·repeat apply za
    refine pwN [(2, 17)] (jn2 h1 zv) ?_
    intros
    exact zA (true, w) [] (by simp [h1]) (by simp [h1]) rfl (by simp)
   ·repeat apply za
    refine pwN [(2, 17)] h1 ?_
    intros
    exact zA (decide (c.demand ≤ cap), w) [] (by simp [h1]) (by simp) rfl (by simp)
  rintro ⟨t, w⟩ ht
  simp only at ht ⊢
  subst ht
  have hstep : (c.pats.take (k + 1)).filter (fun p => decide (p = 0) || decide (c.demand ≤ cap)) = out ++ (if (decide (p = 0) || decide (c.demand ≤ cap)) = true then [p] else []) := by
   rw [a3, List.filter_append, ho]
   congr 1
   simp only [List.filter_cons, List.filter_nil]
  cases ht : (decide (p = 0) || decide (c.demand ≤ cap)) with
  | true =>
   rw [ht, if_pos rfl] at hstep
   repeat apply za
   refine zj rfl ?_
   repeat apply za
   refine pwn ?_
   refine ⟨by omega, ?_⟩
   intros
   (repeat apply za); refine pwn ?_; intros
   exact zm (k + 1, out ++ [p], w + 1) [] ⟨hc, hstep.symm, by simp; omega⟩ (by simp; omega) (by simp [wrN k (by omega)]) rfl (by simp)
  | false =>
   rw [ht, if_neg (by decide), List.append_nil] at hstep
   repeat apply za
   refine zi rfl ?_
   refine zb ?_
   (repeat apply za); refine pwn ?_; intros
   exact zm (k + 1, out, w) [] ⟨hc, hstep.symm, by dsimp only; omega⟩ (by simp; omega) (by simp [wrN k (by omega)]) rfl (by simp)
 ·simp at hc
  obtain rfl : k = c.pats.length := by omega
  rw [List.take_length] at ho
  refine zo ?_
  refine zM 1 rfl ?_
  (repeat apply za); refine pwn ?_; intros
  repeat apply za
  exact ze (zh hd (by simp; rfl) (by simp [zk, ho]))
def jB (c : Cust) (cap : Int) (price : List Int) : List Visit × Bool :=
 if (yR price (qK c cap) (qK c cap).length).1 < 0 then ([], false) else (qO c ((qK c cap).getD (yR price (qK c cap) (qK c cap).length).1.toNat 0), true)
set_option maxRecDepth 20000 in
theorem Zjp {S : Store} {pl : PV} {price : List Int} (c : Cust) (cap : Int) (hR : RowOf S pl price) (hp : ∀ z ∈ price, I64 z) (hpl : price.length ≤ 1000) (hl : c.pats.length ≤ 1000) (h64 : ∀ p ∈ c.pats, p < 2 ^ 64) :
  Spec Tryz.prog 127 [.agg (zB c), I cap, pl] S (fun q S' => q = .tup [L (jB c cap price).1, B (jB c cap price).2] ∧ S' = S) := by
 have hca := Zjo c cap hl
 have hsub : ∀ p ∈ qK c cap, p < 2 ^ 64 := fun p hp => h64 p (List.mem_filter.1 hp).1
 have hcl : (qK c cap).length ≤ 1000 := Nat.le_trans (List.length_filter_le _ _) hl
 unfold jB
 generalize qK c cap = l at *
 have hb := fun S (hR : RowOf S pl price) => Zjn l hR hp hpl hcl hsub
 obtain ⟨b1, b2, b3⟩ := Xv price l l.length
 generalize yR price l l.length = r at *
 obtain ⟨place, least⟩ := r
 simp only at hb b1 b2 b3 ⊢
 refine y9 Tryz.func127 Tryz.ntmps127 Tryz.results127 fun nx hd => ?_
 repeat apply za
 refine pwn ?_
 intro v0
 repeat apply za
 refine pwn ?_
 refine pwc hca ?_
 intros
 repeat apply za
 refine zP [] (by rfl) (by rfl) fun K Gc Gh hK hGc hGh X hX0 hX => ?_
 simp -implicitDefEqProofs [hX0, hX]
 try clear hX0 hX X
 refine hGc _ _ _ _ _ _ _ fun hsuf => ((hb _ (hR.ext hd _)).mono ?_).v
 rintro _ _ ⟨rfl, rfl⟩
 refine ⟨_, _, rfl, ?_⟩
 clear hGc hGh
 clear Gc Gh
 refine zL hsuf (D := []) (by rfl) fun Gc Gh hGc hGh X hX0 hX => ?_
 simp -implicitDefEqProofs [hX0, hX]
 clear hX0 hX X
 intros
 refine hK _ _ _ ?_
 clear hK hGc hGh
 clear K Gc Gh
 (repeat apply za); refine pwn ?_; intros
 by_cases h : place < 0
 ·rw [if_pos h]
  repeat apply za
  refine zj (by simp [h]) ?_
  (repeat apply za); refine pwn ?_; intros
  refine xq 6 rfl ?_
  repeat apply za
  exact ze ⟨_, S, rfl, ⟨by simp [zk], rfl⟩, zO hd⟩
 ·rw [if_neg h]
  obtain ⟨i, rfl⟩ := Int.eq_ofNat_of_zero_le (show 0 ≤ place by omega)
  have hil : i < l.length := by omega
  obtain ⟨p, tl, a1, a2, a3, e0⟩ := el1 rfl l i hil
  have hgp : l.getD (i : Int).toNat 0 = p := by rw [Int.toNat_natCast, List.getD_eq_getElem?_getD, a1]; rfl
  rw [hgp]
  have hon := Zjj c p (hsub p (List.mem_of_getElem? a1))
  repeat apply za
  refine zi (by simp) ?_
  refine zb ?_
  repeat apply za
  refine pwY (some [nx]) (Row.pures [0, 1, 2, 3, 4, 5, 6, 7] .done) mixed (jn2 e0 hil) ?_
  refine pwP (hon) (jn2 e0 hil) ?_
  intros
  repeat apply za
  exact ze ⟨_, S, (by simp; rfl), ⟨by simp [zk], rfl⟩, zO hd⟩
set_option maxRecDepth 20000 in
theorem Zby {S : Store} {pl : PV} {price : List Int} (c : Cust) (n cap : Int) (hk : c.kind = 1) (hR : RowOf S pl price) (hp : ∀ z ∈ price, I64 z) (hpl : price.length ≤ 1000) (hl : c.pats.length ≤ 1000) (h64 : ∀ p ∈ c.pats, p < 2 ^ 64) :
  Spec Tryz.prog 88 [.agg (zB c), I n, I cap, pl] S (fun q S' => q = .tup [L (jB c cap price).1, B (jB c cap price).2] ∧ S' = S) := by
 have hs := fun S (hR : RowOf S pl price) => Zjp c cap hR hp hpl hl h64
 generalize jB c cap price = r at *
 obtain ⟨v, ok⟩ := r
 simp only at hs ⊢
 refine y9 Tryz.func88 Tryz.ntmps88 Tryz.results88 fun nx hd => ?_
 repeat apply za
 refine pwn ?_
 intro v0
 repeat apply za
 refine zg ?_
 repeat apply za
 refine pwN [] hk ?_
 intros
 repeat apply za
 refine zj rfl ?_
 repeat apply za
 refine zP [] (by rfl) (by rfl) fun K Gc Gh hK hGc hGh X hX0 hX => ?_
 simp -implicitDefEqProofs [hX0, hX]
 try clear hX0 hX X
 refine hGc _ _ _ _ _ _ _ fun hsuf => ((hs _ (hR.ext hd _)).mono ?_).v
 rintro _ _ ⟨rfl, rfl⟩
 refine ⟨_, _, rfl, ?_⟩
 clear hGc hGh
 clear Gc Gh
 refine zL hsuf (D := []) (by rfl) fun Gc Gh hGc hGh X hX0 hX => ?_
 simp -implicitDefEqProofs [hX0, hX]
 clear hX0 hX X
 intros
 refine hK _ _ _ ?_
 clear hK hGc hGh
 clear K Gc Gh
 repeat apply za
 exact ze ⟨_, S, (by simp; rfl), ⟨by simp [zk], rfl⟩, zO hd⟩
open Go Go.Proofs Hp
def qX (c : Cust) (there cap : Int) : Int := if c.size - there < 1 ∨ cap < 0 then 0 else if c.size - there ≤ cap then c.size - there else if c.rule = 1 then 0 else cap
theorem Zbz {c : Cust} {there cap : Int} (hc : 0 ≤ c.size ∧ c.size ≤ 2147483648) (ht : 0 ≤ there) : 0 ≤ qX c there cap ∧ qX c there cap ≤ 2147483648 := by
 unfold qX
 split
 ·omega
 ·split
  ·omega
  ·split <;> omega
set_option maxRecDepth 20000 in
theorem Xw (c : Cust) (there cap : Int) (hc : 0 ≤ c.size ∧ c.size ≤ 2147483648) (ht : -4611686018427387904 ≤ there ∧ there ≤ 4611686018427387904) : Pure Tryz.prog 171 [.agg (zB c), I there, I cap] (I (qX c there cap)) := by
 have w1 : IntKind.i64.wrap (c.size - there) = c.size - there := wr _ (by omega) (by omega)
 unfold qX
 generalize hf : c.size - there = f at w1 ⊢
 refine pwe Tryz.func171 Tryz.ntmps171 Tryz.results171 fun S nx hd => ?_
 repeat apply za
 refine pwn ?_
 intro v0
 repeat apply za
 refine pwN [] (jn2 hf w1) ?_
 intros
 repeat apply za
 refine zg ?_
 by_cases h : f < 1 ∨ cap < 0
 ·rw [if_pos h]
  by_cases h1 : f < 1
  ·repeat apply za
   refine pwN [(2, 15)] (jn2 h1 zv) ?_
   intros
   repeat apply za
   refine zj rfl ?_
   (repeat apply za); refine pwn ?_; intros
   repeat apply za
   exact ze (zh hd rfl rfl)
  ·have h2 : cap < 0 := by omega
   repeat apply za
   refine pwN [(2, 15)] (jn2 h1 h2) ?_
   intros
   repeat apply za
   refine zj rfl ?_
   (repeat apply za); refine pwn ?_; intros
   repeat apply za
   exact ze (zh hd rfl rfl)
 ·rw [if_neg h]
  have h1 : ¬ f < 1 := by omega
  have h2 : ¬ cap < 0 := by omega
  repeat apply za
  refine pwN [(2, 15)] (jn2 h1 h2) ?_
  intros
  repeat apply za
  refine zi rfl ?_
  (repeat apply za); refine pwn ?_; intros
  by_cases h3 : f ≤ cap
  ·rw [if_pos h3]
   repeat apply za
   refine zj (by simp [h3]) ?_
   (repeat apply za); refine pwn ?_; intros
   repeat apply za
   exact ze (zh hd rfl rfl)
  ·rw [if_neg h3]
   repeat apply za
   refine zi (by simp; omega) ?_
   (repeat apply za); refine pwn ?_; intros
   by_cases h4 : c.rule = 1
   ·rw [if_pos h4]
    repeat apply za
    refine zj (by simp [h4]) ?_
    (repeat apply za); refine pwn ?_; intros
    repeat apply za
    exact ze (zh hd rfl rfl)
   ·rw [if_neg h4]
    repeat apply za
    refine zi (by simp [h4]) ?_
    refine zb ?_
    (repeat apply za); refine pwn ?_; intros
    repeat apply za
    exact ze (zh hd rfl rfl)
def prD (price : List Int) (d : Int) : Int := if d < 0 ∨ (price.length : Int) ≤ d then 0 else price.getD d.toNat 0
set_option maxRecDepth 20000 in
theorem ZbA {S : Store} {pl : PV} {price : List Int} (d : Int) (hR : RowOf S pl price) :
  Spec Tryz.prog 172 [pl, I d] S (fun q S' => q = I (prD price d) ∧ S' = S) := by
 unfold prD
 rcases hR with rfl | ⟨id, ver, rfl, hS⟩
 ·refine y9 Tryz.func172 Tryz.ntmps172 Tryz.results172 fun nx hd => ?_
  (repeat apply za); refine pwn ?_; intros
  by_cases h : d < 0
  ·rw [if_pos (.inl h)]
   repeat apply za
   refine pwN [(2, 7)] (jn2 h zv) ?_
   intros
   repeat apply za
   refine zj rfl ?_
   (repeat apply za); refine pwn ?_; intros
   repeat apply za
   exact ze ⟨_, S, rfl, ⟨by simp [zk], rfl⟩, zO hd⟩
  by_cases h2 : (price.length : Int) ≤ d
  ·rw [if_pos (.inr h2)]
   repeat apply za
   refine pwN [(2, 7)] (jn2 h h2) ?_
   intros
   repeat apply za
   refine zj rfl ?_
   (repeat apply za); refine pwn ?_; intros
   repeat apply za
   exact ze ⟨_, S, rfl, ⟨by simp [zk], rfl⟩, zO hd⟩
  rw [if_neg (by omega)]
  obtain ⟨i, rfl⟩ := Int.eq_ofNat_of_zero_le (show 0 ≤ d by omega)
  have hi : i < price.length := by omega
  obtain ⟨z, tl, a1, -, -, e0⟩ := el1 rfl price i hi
  have hg : price.getD (i : Int).toNat 0 = z := by rw [Int.toNat_natCast, List.getD_eq_getElem?_getD, a1]; rfl
  rw [hg]
  have h2' : ¬ price.length ≤ i := by omega
  repeat apply za
  refine pwN [(2, 7)] (jn3 h h2 h2') ?_
  intros
  repeat apply za
  refine zi rfl ?_
  refine zb ?_
  repeat apply za
  refine pwN [] (jn2 e0 hi) ?_
  intros
  repeat apply za
  exact ze ⟨_, S, rfl, ⟨by simp [zk], rfl⟩, zO hd⟩
 ·refine y9 Tryz.func172 Tryz.ntmps172 Tryz.results172 fun nx hd => ?_
  have hlt : id < nx := yP hd hS (by simp)
  have xr := fun obs => (zy (S := S) (obs := obs) hlt).trans hS
  (repeat apply za); refine pwn ?_; intros
  by_cases h : d < 0
  ·rw [if_pos (.inl h)]
   repeat apply za
   refine pwN [(2, 7)] (jn2 h zv) ?_
   intros
   repeat apply za
   refine zj rfl ?_
   (repeat apply za); refine pwn ?_; intros
   repeat apply za
   exact ze ⟨_, S, rfl, ⟨by simp [zk], rfl⟩, zO hd⟩
  by_cases h2 : (price.length : Int) ≤ d
  ·rw [if_pos (.inr h2)]
   repeat apply za
   refine pwN [(2, 7)] (jn2 h h2) ?_
   intros
   repeat apply za
   refine zj rfl ?_
   (repeat apply za); refine pwn ?_; intros
   repeat apply za
   exact ze ⟨_, S, rfl, ⟨by simp [zk], rfl⟩, zO hd⟩
  rw [if_neg (by omega)]
  obtain ⟨i, rfl⟩ := Int.eq_ofNat_of_zero_le (show 0 ≤ d by omega)
  have hi : i < price.length := by omega
  obtain ⟨z, tl, a1, -, -, e0⟩ := el1 rfl price i hi
  have hg : price.getD (i : Int).toNat 0 = z := by rw [Int.toNat_natCast, List.getD_eq_getElem?_getD, a1]; rfl
  rw [hg]
  have h2' : ¬ price.length ≤ i := by omega
  repeat apply za
  refine pwN [(2, 7)] (jn3 h h2 h2') ?_
  intros
  repeat apply za
  refine zi rfl ?_
  refine zb ?_
  repeat apply za
  refine pwN [] (jn3 xr e0 hi) ?_
  intros
  repeat apply za
  exact ze ⟨_, S, rfl, ⟨by simp [zk], rfl⟩, zO hd⟩
theorem ZbB : ∀ (l m : List Int) (i : Nat), zI i (l ++ m) = zI i l ++ zI (i + l.length) m
 | [], m, i => by simp [zI]
 | z :: l, m, i => by
  have ih := ZbB l m (i + 1)
  simp only [List.cons_append, zI, List.length_cons, ih, show i + 1 + l.length = i + (l.length + 1) from by omega]
  split <;> simp
set_option maxRecDepth 20000 in
theorem ZbC (q : List Int) (hq : q.length ≤ 1048576) : Pure Tryz.prog 176 [L q] (L (zI 0 q)) := by
 refine pwe Tryz.func176 Tryz.ntmps176 Tryz.results176 fun S nx hd => ?_
 (repeat apply za); refine pwn ?_; intros
 (repeat apply za); refine pwn ?_; intros
 refine za (qe 3 103 2 rfl fun v1 => ?_)
 (repeat apply za); refine pwn ?_; intros
 repeat apply za
 refine zg (zr (fun s : Nat × List Visit × Nat => s.1 ≤ q.length ∧ s.2.1 = zI 0 (q.take s.1)) (fun (k, out, w) => [(3, .sl nx w 2 0 out.length), (6, L q), (7, I q.length), (8, I k)]) (fun (k, out, w) => [.cells w 103 (out.flatMap Enc.enc)]) (fun s => q.length - s.1) (0, [], v1) [] (by simp [zI]) (by simp) (by simp) ?_)
 rintro ⟨k, out, w⟩ ⟨hk, ho⟩
 simp only at hk ho ⊢
 have hol : out.length ≤ k := by rw [ho]; exact Nat.le_trans (Qu _ _) (by simp; omega)
 (repeat apply za); refine pwn ?_; intros
 repeat apply za
 refine zn rfl (fun hc => ?_) (fun hc => ?_)
 ·simp at hc
  obtain ⟨z, tl, a1, a2, a3, e0⟩ := el1 rfl q k hc
  have hst : zI 0 (q.take (k + 1)) = out ++ (if 0 < z then [⟨k, z⟩] else []) := by
   rw [a3, ZbB, ← ho, List.length_take, Nat.min_eq_left hk]
   simp only [zI, Nat.zero_add]
  refine zb (za (zg ?_))
  repeat apply za
  refine pwN [] (jn2 e0 hc) ?_
  intros
  (repeat apply za); refine pwn ?_; intros
  by_cases h : 0 < z
  ·rw [if_pos h] at hst
   repeat apply za
   refine zj (by simp [h]) ?_
   repeat apply za
   refine pwn ?_
   refine ⟨by omega, ?_⟩
   intros
   (repeat apply za); refine pwn ?_; intros
   exact zm (k + 1, out ++ [⟨k, z⟩], w + 1) [] ⟨hc, hst.symm⟩ (by simp; omega) (by simp [wrN k (by omega)]) rfl (by simp)
  ·rw [if_neg h, List.append_nil] at hst
   repeat apply za
   refine zi (by simp; omega) ?_
   refine zb ?_
   (repeat apply za); refine pwn ?_; intros
   exact zm (k + 1, out, w) [] ⟨hc, hst.symm⟩ (by simp; omega) (by simp [wrN k (by omega)]) rfl (by simp)
 ·simp at hc
  obtain rfl : k = q.length := by omega
  rw [List.take_length] at ho
  refine zo ?_
  refine zM 0 rfl ?_
  (repeat apply za); refine pwn ?_; intros
  repeat apply za
  exact ze (zh hd (by simp; rfl) (by simp [zk, ho]))
def yc (c : Cust) (f : Int → Int) : Nat → List Int × Int
 | 0 => ([], c.start)
 | k + 1 => ((yc c f k).1 ++ [f (yc c f k).2], (yc c f k).2 + (f (yc c f k).2 - c.rate))
def vC (c : Cust) (cap : Int) (t : Int) : Int := qX c (max t 0) cap
def wF (c : Cust) (cap : Int) (t : Int) : Int := if c.rate ≤ t then 0 else qX c (max t 0) cap
theorem uv (c : Cust) (f : Int → Int) : ∀ k, (yc c f k).1.length = k
 | 0 => rfl
 | k + 1 => by simp [yc, uv c f k]
theorem QA {c : Cust} (hc : CustFits c) (cap t : Int) : 0 ≤ vC c cap t ∧ vC c cap t ≤ 2147483648 := Zbz hc.size (by omega)
theorem QB {c : Cust} (hc : CustFits c) (cap t : Int) : 0 ≤ wF c cap t ∧ wF c cap t ≤ 2147483648 := by
 unfold wF
 split
 ·omega
 ·exact Zbz hc.size (by omega)
theorem ux {c : Cust} (hc : CustFits c) {f : Int → Int} (hf : ∀ t, 0 ≤ f t ∧ f t ≤ 2147483648) : ∀ k : Nat, (-4294967296 * ((k : Int) + 1) ≤ (yc c f k).2 ∧ (yc c f k).2 ≤ 4294967296 * ((k : Int) + 1)) ∧ Qs (yc c f k).1
 | 0 => by
  have := hc.start
  refine ⟨by simp only [yc]; omega, by intro z hz; cases hz⟩
 | k + 1 => by
  obtain ⟨h1, h2⟩ := ux hc hf k
  have h3 := hf (yc c f k).2
  have h4 := hc.rate
  refine ⟨by simp only [yc]; push_cast; omega, fun z hz => ?_⟩
  simp only [yc] at hz
  rcases List.mem_append.1 hz with hz | hz
  ·exact h2 z hz
  ·rw [List.mem_singleton.1 hz]; exact h3
set_option maxRecDepth 20000 in
theorem Zjq (c : Cust) (cap t : Int) (hc : CustFits c) (ht : -4611686018427387904 ≤ t ∧ t ≤ 4611686018427387904) : Pure Tryz.prog 212 [I t, .ip (zB c), .ip [I cap]] (I (vC c cap t)) := by
 have hm : jO t 0 = max t 0 := by unfold jO; split <;> omega
 have hmo := Xw c (max t 0) cap hc.size (by omega)
 unfold vC
 generalize max t 0 = m at hm hmo ⊢
 generalize qX c m cap = z at hmo ⊢
 refine pwe Tryz.func212 Tryz.ntmps212 Tryz.results212 fun S nx hd => ?_
 (repeat apply za); refine pwn ?_; intros
 repeat apply za
 refine pwN [] hm ?_
 refine pwC [] hmo hm ?_
 intros
 repeat apply za
 exact ze (zh hd rfl rfl)
set_option maxRecDepth 20000 in
theorem Zjr (c : Cust) (cap t : Int) (hc : CustFits c) (ht : -4611686018427387904 ≤ t ∧ t ≤ 4611686018427387904) : Pure Tryz.prog 213 [I t, .ip (zB c), .ip [I cap]] (I (wF c cap t)) := by
 have hm : jO t 0 = max t 0 := by unfold jO; split <;> omega
 have hmo := Xw c (max t 0) cap hc.size (by omega)
 unfold wF
 generalize max t 0 = m at hm hmo ⊢
 generalize qX c m cap = z at hmo ⊢
 refine pwe Tryz.func213 Tryz.ntmps213 Tryz.results213 fun S nx hd => ?_
 (repeat apply za); refine pwn ?_; intros
 (repeat apply za); refine pwn ?_; intros
 by_cases h : c.rate ≤ t
 ·rw [if_pos h]
  repeat apply za
  refine zj (by simp [h]) ?_
  (repeat apply za); refine pwn ?_; intros
  repeat apply za
  exact ze (zh hd rfl rfl)
 ·rw [if_neg h]
  repeat apply za
  refine zi (by simp; omega) ?_
  refine zb ?_
  repeat apply za
  refine pwN [] hm ?_
  refine pwC [] hmo hm ?_
  intros
  repeat apply za
  exact ze (zh hd rfl rfl)
set_option maxRecDepth 20000 in
theorem ZbD (c : Cust) (n : Nat) (fn : FuncId) (caps : List PV) (f : Int → Int) (hc : CustFits c) (hn : n ≤ 1000) (hf : ∀ t, 0 ≤ f t ∧ f t ≤ 2147483648) (hfn : ∀ t, (-4611686018427387904 ≤ t ∧ t ≤ 4611686018427387904) → Pure Tryz.prog fn ([I t] ++ caps) (I (f t))) :
  Pure Tryz.prog 211 [.agg (zB c), I n, .fn (.func fn) [] caps] (.tup [L (yc c f n).1, B (decide (jJ c (yc c f n).1 = 0))]) := by
 have hr := hc.rate
 refine pwe Tryz.func211 Tryz.ntmps211 Tryz.results211 fun S nx hd => ?_
 repeat apply za
 refine pwn ?_
 intro v0
 (repeat apply za); refine pwn ?_; intros
 refine za (qe 8 3 1 rfl fun v1 => ?_)
 (repeat apply za); refine pwn ?_; intros
 (repeat apply za); refine pwn ?_; intros
 repeat apply za
 refine zg (zr (fun s : Nat × Nat => s.1 ≤ n) (fun (k, w) => [(2, .fn (.func fn) [] caps), (3, .ptr nx v0 0), (8, .sl (nx + 1) w 1 0 (yc c f k).1.length), (9, I (yc c f k).2), (13, I n), (14, I k)]) (fun (k, w) => [.cells v0 41 (zB c), .cells w 3 ((yc c f k).1.flatMap Enc.enc)]) (fun s => n - s.1) (0, v1) [] (by simp) (by simp [yc]) (by simp [yc]) ?_)
 rintro ⟨k, w⟩ hk
 simp only at hk ⊢
 obtain ⟨hbd, -⟩ := ux hc hf k
 have hl := uv c f k
 have hsucc : yc c f (k + 1) = ((yc c f k).1 ++ [f (yc c f k).2], (yc c f k).2 + (f (yc c f k).2 - c.rate)) := rfl
 generalize hst : yc c f k = st at hbd hl hsucc ⊢
 obtain ⟨q, t⟩ := st
 simp only at hbd hl hsucc ⊢
 (repeat apply za); refine pwn ?_; intros
 repeat apply za
 refine zn rfl (fun hc1 => ?_) (fun hc1 => ?_)
 ·simp at hc1
  have hft := hf t
  have hcall := hfn t (by omega)
  have w1 : IntKind.i64.wrap (f t - c.rate) = f t - c.rate := wr _ (by omega) (by omega)
  have w2 : IntKind.i64.wrap (t + (f t - c.rate)) = t + (f t - c.rate) := wr _ (by omega) (by omega)
  generalize f t = z at *
  refine zb (za (zg ?_))
  repeat apply za
  refine pwn ?_
  refine pwc hcall ?_
  intros
  repeat apply za
  refine pwn ?_
  refine ⟨by omega, ?_⟩
  intros
  repeat apply za
  refine pwN [] (jn2 w1 w2) ?_
  intros
  (repeat apply za); refine pwn ?_; intros
  exact zm (k + 1, w + 1) [] (by omega) (by simp; omega) (by simp [wrN k (by omega), hsucc]) rfl (by simp [hsucc])
 ·simp at hc1
  obtain rfl : k = n := by omega
  refine zo ?_
  refine zM 1 rfl ?_
  have hh := Zic c q hc (by omega)
  repeat apply za
  refine pwn ?_
  refine pwc hh ?_
  intros
  repeat apply za
  exact ze (zh hd (by simp; rfl) (by simp [zk, hst]))
def xC (c : Cust) (n : Nat) (cap : Int) : List Int × Bool := ((yc c (vC c cap) n).1, decide (jJ c (yc c (vC c cap) n).1 = 0))
def xY (c : Cust) (n : Nat) (cap : Int) : List Int × Bool := ((yc c (wF c cap) n).1, decide (jJ c (yc c (wF c cap) n).1 = 0))
set_option maxRecDepth 20000 in
theorem Zjs (c : Cust) (n : Nat) (cap : Int) (hc : CustFits c) (hn : n ≤ 1000) : Pure Tryz.prog 175 [.agg (zB c), I n, I cap] (.tup [L (xC c n cap).1, B (xC c n cap).2]) := by
 have h := ZbD c n 212 [.ip (zB c), .ip [I cap]] (vC c cap) hc hn (QA hc cap) (fun t ht => Zjq c cap t hc ht)
 unfold xC
 generalize yc c (vC c cap) n = r at h ⊢
 refine pwe Tryz.func175 Tryz.ntmps175 Tryz.results175 fun S nx hd => ?_
 repeat apply za
 refine pwn ?_
 intro v0 v1
 refine jg 0 rfl ?_
 refine jg 1 rfl ?_
 repeat apply za
 refine pwn ?_
 refine pwc h ?_
 intros
 repeat apply za
 exact ze (zh hd (by simp; rfl) rfl)
set_option maxRecDepth 20000 in
theorem Zjt (c : Cust) (n : Nat) (cap : Int) (hc : CustFits c) (hn : n ≤ 1000) : Pure Tryz.prog 177 [.agg (zB c), I n, I cap] (.tup [L (xY c n cap).1, B (xY c n cap).2]) := by
 have h := ZbD c n 213 [.ip (zB c), .ip [I cap]] (wF c cap) hc hn (QB hc cap) (fun t ht => Zjr c cap t hc ht)
 unfold xY
 generalize yc c (wF c cap) n = r at h ⊢
 refine pwe Tryz.func177 Tryz.ntmps177 Tryz.results177 fun S nx hd => ?_
 repeat apply za
 refine pwn ?_
 intro v0 v1
 refine jg 0 rfl ?_
 refine jg 1 rfl ?_
 repeat apply za
 refine pwn ?_
 refine pwc h ?_
 intros
 repeat apply za
 exact ze (zh hd (by simp; rfl) rfl)
def uy (price : List Int) (v : List Visit) : Int := v.foldl (fun s w => W (s + prD price w.d)) 0
theorem Zju (price : List Int) (v : List Visit) (w : Visit) : uy price (v ++ [w]) = W (uy price v + prD price w.d) := by simp [uy]
def Zj (c : Cust) (n : Int) (price : List Int) (v : List Visit) : Int := if c.kind = 1 then uy price v else W (uy price v + Ql c (yn c (zH v n)).1)
set_option maxRecDepth 20000 in
theorem ZbE {S : Store} {pl : PV} {price : List Int} (c : Cust) (n : Int) (v : List Visit) (hR : RowOf S pl price) (hc : CustFits c) (hv : VisOk v) :
  Spec Tryz.prog 178 [.agg (zB c), I n, pl, L v] S (fun q S' => q = I (Zj c n price v) ∧ S' = S) := by
 have hvn := hv.n
 have hp := fun S (h : RowOf S pl price) d => ZbA d h
 unfold Zj
 refine y9 Tryz.func178 Tryz.ntmps178 Tryz.results178 fun nx hd => ?_
 repeat apply za
 refine pwn ?_
 intro v0
 (repeat apply za); refine pwn ?_; intros
 (repeat apply za); refine pwn ?_; intros
 repeat apply za
 refine zg (zr (fun k : Nat => k ≤ v.length) (fun k => [(1, I n), (3, L v), (4, .ptr nx v0 0), (9, I (uy price (v.take k))), (2, pl), (14, L v), (15, I v.length), (16, I k)]) (fun _ => [.cells v0 41 (zB c)]) (fun k => v.length - k) 0 [] (by simp) (by simp [uy]) (by simp) ?_)
 rintro k hk
 (repeat apply za); refine pwn ?_; intros
 repeat apply za
 refine zn rfl (fun hc1 => ?_) (fun hc1 => ?_)
 ·simp at hc1
  obtain ⟨w, tl, a1, a2, a3, e1, e0⟩ := el 2 rfl v k hc1
  have hsn := Zju price (v.take k) w
  rw [← a3] at hsn
  refine zb (za (zg ?_))
  repeat apply za
  refine pwN [] (jn2 e0 hc1) ?_
  intro v2
  repeat apply za
  refine zP [] (by rfl) (by rfl) fun K Gc Gh hK hGc hGh X hX0 hX => ?_
  simp -implicitDefEqProofs [hX0, hX]
  try clear hX0 hX X
  refine hGc _ _ _ _ _ _ _ fun hsuf => ((hp _ (hR.ext hd _) _).mono ?_).v
  rintro _ _ ⟨rfl, rfl⟩
  refine ⟨_, _, rfl, ?_⟩
  clear hGc hGh
  clear Gc Gh
  refine zL hsuf (D := []) (by rfl) fun Gc Gh hGc hGh X hX0 hX => ?_
  simp -implicitDefEqProofs [hX0, hX]
  clear hX0 hX X
  intros
  refine hK _ _ _ ?_
  clear hK hGc hGh
  clear K Gc Gh
  (repeat apply za); refine pwn ?_; intros
  exact zm (k + 1) [_] hc1 (by omega) (by simp [wrN k (by omega), hsn]) rfl (by simp; rfl)
 ·simp at hc1
  obtain rfl : k = v.length := by omega
  rw [List.take_length]
  refine zo ?_
  (repeat apply za); refine pwn ?_; intros
  by_cases hk1 : c.kind = 1
  ·rw [if_pos hk1]
   repeat apply za
   refine zj (by simp [hk1]) ?_
   (repeat apply za); refine pwn ?_; intros
   repeat apply za
   exact ze ⟨_, S, rfl, ⟨by simp [zk], rfl⟩, zO hd⟩
  ·rw [if_neg hk1]
   have hb := Zii v n hv
   have hn := Za2 c (zH v n) hc (Zbv _ _)
   have hh := Za3 c _ (Zje c (zH v n) (Zbv _ _))
   generalize yn c (zH v n) = ns at hn hh ⊢
   obtain ⟨nl, ne⟩ := ns
   simp only at hn hh ⊢
   repeat apply za
   refine zi (by simp [hk1]) ?_
   refine zb ?_
   repeat apply za
   refine pwY (some [nx]) (Row.pures [0, 1, 2, 3, 4, 5, 6, 7, 8, 9] .done) mixed trivial ?_
   refine pwP (hb) trivial ?_
   refine pwP (hn) trivial ?_
   intros
   repeat apply za
   refine pwn ?_
   refine pwc hh ?_
   intros
   repeat apply za
   exact ze ⟨_, S, rfl, ⟨by simp [zk], rfl⟩, zO hd⟩
def uz (c : Cust) (n : Nat) (cap : Int) (price : List Int) : List Visit × Bool :=
 if (xY c n cap).2 = true ∧ ((xC c n cap).2 = false ∨ Zj c n price (zI 0 (xY c n cap).1) ≤ Zj c n price (zI 0 (xC c n cap).1)) then (zI 0 (xY c n cap).1, true)
 else if (xC c n cap).2 = true then (zI 0 (xC c n cap).1, true) else ([], false)
theorem ZbF {q : List Int} {n : Nat} (hq : Qs q) (hl : q.length = n) (hn : n ≤ 1000) : VisOk (zI 0 q) := by
 refine ⟨Nat.le_trans (Qu _ _) (by omega), fun s hs => ?_, fun s hs => ?_⟩
 ·have := Qv q 0 hq s hs; omega
 ·have := Qv q 0 hq s hs; unfold I64; omega
set_option maxRecDepth 20000 in
theorem Zjv {S : Store} {pl : PV} {price : List Int} (c : Cust) (n : Nat) (cap : Int) (hR : RowOf S pl price) (hc : CustFits c) (hn : n ≤ 1000) :
  Spec Tryz.prog 129 [.agg (zB c), I n, I cap, pl] S (fun q S' => q = .tup [L (uz c n cap price).1, B (uz c n cap price).2] ∧ S' = S) := by
 have hD := Zjs c n cap hc hn
 have hL := Zjt c n cap hc hn
 have lD : (xC c n cap).1.length = n := uv _ _ _
 have lL : (xY c n cap).1.length = n := uv _ _ _
 have vD : VisOk (zI 0 (xC c n cap).1) := ZbF (ux hc (QA hc cap) n).2 lD hn
 have vL : VisOk (zI 0 (xY c n cap).1) := ZbF (ux hc (QB hc cap) n).2 lL hn
 unfold uz
 generalize xC c n cap = rd at *
 generalize xY c n cap = rl at *
 obtain ⟨qd, od⟩ := rd
 obtain ⟨ql, ol⟩ := rl
 simp only at hD hL lD lL vD vL ⊢
 have hVd := ZbC qd (by omega)
 have hVl := ZbC ql (by omega)
 have hcd := fun S (h : RowOf S pl price) => ZbE (S := S) c n (zI 0 qd) h hc vD
 have hcl := fun S (h : RowOf S pl price) => ZbE (S := S) c n (zI 0 ql) h hc vL
 generalize zI 0 qd = vd at *
 generalize zI 0 ql = vl at *
 generalize Zj c n price vd = zd at *
 generalize Zj c n price vl = zl at *
 refine y9 Tryz.func129 Tryz.ntmps129 Tryz.results129 fun nx hd => ?_
 repeat apply za
 refine pwn ?_
 intro v0
 repeat apply za
 refine pwn ?_
 refine pwc hD ?_
 intros
 repeat apply za
 refine pwn ?_
 refine pwc hVd ?_
 intros
 repeat apply za
 refine pwn ?_
 refine pwc hL ?_
 intros
 (repeat apply za); refine pwn ?_; intros
 cases ol with
 | true =>
  repeat apply za
  refine zj rfl ?_
  repeat apply za
  refine pwn ?_
  refine pwc hVl ?_
  intros
  cases od with
  | false =>
   rw [if_pos ⟨rfl, .inl rfl⟩]
   repeat apply za
   refine pwY (some [nx]) (Row.pures [0, 1, 2, 3, 4, 5, 6, 7, 8, 9, 10, 11, 12, 13, 14] .done) mixed zv ?_
   intros
   repeat apply za
   refine zj rfl ?_
   (repeat apply za); refine pwn ?_; intros
   repeat apply za
   exact ze ⟨_, S, (by simp; rfl), ⟨by simp [zk], rfl⟩, zO hd⟩
  | true =>
   by_cases hle : zl ≤ zd
   ·rw [if_pos ⟨rfl, .inr hle⟩]
    repeat apply za
    refine xL (some [nx]) (Row.pures [0, 1, 2, 3, 4, 5, 6, 8, 9, 10, 11] (.alt 7 (.alt 12 (Row.pures [13, 14] .done) .stop) .stop)) mixed (by rfl) (by rfl) (by rfl) fun K Gp Gc Gh hK hGp hGc hGh X hX0 hX1 hX2 hX => ?_
    simp -implicitDefEqProofs [hX0, hX1, hX2, hX, undef]
    try clear hX0 hX1 hX2 hX X
    refine hGc _ _ _ _ _ _ _ (((hcl _ (hR.ext hd _)).mono ?_).v)
    rintro _ _ ⟨rfl, rfl⟩
    refine ⟨by simp [zT], ?_⟩
    clear hGp hGc hGh
    clear Gp Gc Gh
    refine qS fun Gp Gc Gh hGp hGc hGh X hX0 hX1 hX2 hX => ?_
    simp -implicitDefEqProofs [hX0, hX1, hX2, hX, undef]
    try clear hX0 hX1 hX2 hX X
    refine hGc _ _ _ _ _ _ _ (((hcd _ (hR.ext hd _)).mono ?_).v)
    rintro _ _ ⟨rfl, rfl⟩
    refine ⟨by simp [zT], ?_⟩
    clear hGp hGc hGh
    clear Gp Gc Gh
    refine qS fun Gp Gc Gh hGp hGc hGh X hX0 hX1 hX2 hX => ?_
    simp -implicitDefEqProofs [hX0, hX1, hX2, hX, undef]
    try clear hX0 hX1 hX2 hX X
    refine hK _ _ _ ?_
    clear hK hGp hGc hGh
    clear K Gp Gc Gh
    repeat apply za
    refine zj (by simp [hle]) ?_
    (repeat apply za); refine pwn ?_; intros
    repeat apply za
    exact ze ⟨_, S, (by simp; rfl), ⟨by simp [zk], rfl⟩, zO hd⟩
   ·rw [if_neg (by rintro ⟨-, q | q⟩; cases q; exact hle q), if_pos rfl]
    repeat apply za
    refine xL (some [nx]) (Row.pures [0, 1, 2, 3, 4, 5, 6, 8, 9, 10, 11] (.alt 7 (.alt 12 (Row.pures [13, 14] .done) .stop) .stop)) mixed (by rfl) (by rfl) (by rfl) fun K Gp Gc Gh hK hGp hGc hGh X hX0 hX1 hX2 hX => ?_
    simp -implicitDefEqProofs [hX0, hX1, hX2, hX, undef]
    try clear hX0 hX1 hX2 hX X
    refine hGc _ _ _ _ _ _ _ (((hcl _ (hR.ext hd _)).mono ?_).v)
    rintro _ _ ⟨rfl, rfl⟩
    refine ⟨by simp [zT], ?_⟩
    clear hGp hGc hGh
    clear Gp Gc Gh
    refine qS fun Gp Gc Gh hGp hGc hGh X hX0 hX1 hX2 hX => ?_
    simp -implicitDefEqProofs [hX0, hX1, hX2, hX, undef]
    try clear hX0 hX1 hX2 hX X
    refine hGc _ _ _ _ _ _ _ (((hcd _ (hR.ext hd _)).mono ?_).v)
    rintro _ _ ⟨rfl, rfl⟩
    refine ⟨by simp [zT], ?_⟩
    clear hGp hGc hGh
    clear Gp Gc Gh
    refine qS fun Gp Gc Gh hGp hGc hGh X hX0 hX1 hX2 hX => ?_
    simp -implicitDefEqProofs [hX0, hX1, hX2, hX, undef]
    try clear hX0 hX1 hX2 hX X
    refine hK _ _ _ ?_
    clear hK hGp hGc hGh
    clear K Gp Gc Gh
    repeat apply za
    refine zi (by simp; omega) ?_
    refine zb ?_
    (repeat apply za); refine pwn ?_; intros
    repeat apply za
    refine zi rfl ?_
    refine zb ?_
    (repeat apply za); refine pwn ?_; intros
    repeat apply za
    exact ze ⟨_, S, (by simp; rfl), ⟨by simp [zk], rfl⟩, zO hd⟩
 | false =>
  rw [if_neg (by rintro ⟨q, -⟩; cases q)]
  repeat apply za
  refine zi rfl ?_
  refine zb ?_
  (repeat apply za); refine pwn ?_; intros
  cases od with
  | false =>
   rw [if_neg (by decide)]
   repeat apply za
   refine zj rfl ?_
   (repeat apply za); refine pwn ?_; intros
   refine xq 8 rfl ?_
   repeat apply za
   exact ze ⟨_, S, rfl, ⟨by simp [zk], rfl⟩, zO hd⟩
  | true =>
   rw [if_pos rfl]
   repeat apply za
   refine zi rfl ?_
   refine zb ?_
   (repeat apply za); refine pwn ?_; intros
   repeat apply za
   exact ze ⟨_, S, (by simp; rfl), ⟨by simp [zk], rfl⟩, zO hd⟩
open Go Go.Proofs Hp
def yd (c : Cust) (last d : Int) : Int × Int :=
 ((if last < 0 then c.start else c.size) - c.rate * ((if last < 0 then d else d - last).toNat : Int),
  Ql c ((List.range (if last < 0 then d else d - last).toNat).map fun (i : Nat) => (if last < 0 then c.start else c.size) - c.rate * ((i : Int) + 1)))
set_option maxRecDepth 20000 in
theorem ZbG (c : Cust) (last d : Int) (hc : CustFits c) (hl : -1 ≤ last ∧ last ≤ 64) (hd0 : 0 ≤ d ∧ d ≤ 64) : Pure Tryz.prog 170 [.agg (zB c), I last, I d] (.tup [I (yd c last d).1, I (yd c last d).2]) := by
 have h1 := hc.rate
 have h2 := hc.size
 have h3 := hc.start
 have w0 : IntKind.i64.wrap (d - last) = d - last := wr _ (by omega) (by omega)
 have key : yd c last d = (let t0 := if last < 0 then c.start else c.size; let m := if last < 0 then d else d - last; (t0 - c.rate * (m.toNat : Int), Ql c ((List.range m.toNat).map fun (i : Nat) => t0 - c.rate * ((i : Int) + 1)))) := rfl
 rw [key]
 obtain ⟨t0, ht0⟩ : ∃ t0, t0 = if last < 0 then c.start else c.size := ⟨_, rfl⟩
 obtain ⟨m, hm⟩ : ∃ m, m = if last < 0 then d else d - last := ⟨_, rfl⟩
 have hb0 : 0 ≤ t0 ∧ t0 ≤ 2147483648 := by rw [ht0]; split <;> omega
 have hmb : -64 ≤ m ∧ m ≤ 65 := by rw [hm]; split <;> omega
 rw [← ht0, ← hm]
 clear key
 simp only
 refine pwe Tryz.func170 Tryz.ntmps170 Tryz.results170 fun S nx hd => ?_
 repeat apply za
 refine pwn ?_
 intro v0
 repeat apply za
 refine pwN [] w0 ?_
 intros
 refine za ?_
 refine yD (nx := nx) (σ := Unit) (fun _ => True) (fun _ => [(3, .ptr nx v0 0), (8, I t0), (9, I m)]) (fun _ => S) (fun _ => [.cells v0 41 (zB c)]) ?_ ?_
 ·(repeat apply za); refine pwn ?_; intros
  by_cases h : last < 0
  ·rw [if_pos h] at ht0 hm
   repeat apply za
   refine zj (by simp [h]) ?_
   (repeat apply za); refine pwn ?_; intros
   exact zA () [] trivial (by simp [ht0, hm]) rfl (by simp)
  ·rw [if_neg h] at ht0 hm
   repeat apply za
   refine zi (by simp; omega) ?_
   refine zb ?_
   exact zA () [] trivial (by simp [ht0, hm]) rfl (by simp)
 intro _ _
 (repeat apply za); refine pwn ?_; intros
 refine za (qe 10 3 1 rfl fun v1 => ?_)
 (repeat apply za); refine pwn ?_; intros
 have hprod : ∀ k : Nat, k ≤ 65 → 0 ≤ c.rate * (k : Int) ∧ c.rate * (k : Int) ≤ 2147483648 * 65 := fun k hk => ⟨Int.mul_nonneg h1.1 (by omega), Int.mul_le_mul h1.2 (by omega) (by omega) (by omega)⟩
 repeat apply za
 refine zg (zr (fun s : Nat × Nat => s.1 ≤ m.toNat) (fun (k, w) => [(3, .ptr nx v0 0), (8, I (t0 - c.rate * (k : Int))), (10, .sl (nx + 1) w 1 0 ((List.range k).map fun (i : Nat) => t0 - c.rate * ((i : Int) + 1)).length), (21, I m), (22, I k)]) (fun (k, w) => [.cells v0 41 (zB c), .cells w 3 (((List.range k).map fun (i : Nat) => t0 - c.rate * ((i : Int) + 1)).flatMap Enc.enc)]) (fun s => m.toNat - s.1) (0, v1) [] (by simp) (by simp) (by simp) ?_)
 rintro ⟨k, w⟩ hk
 simp only at hk ⊢
 have hp := hprod k (by omega)
 have hp1 := hprod (k + 1)
 have hmul : c.rate * ((k : Int) + 1) = c.rate * (k : Int) + c.rate := by rw [Int.mul_add, Int.mul_one]
 have hrs : ((List.range (k + 1)).map fun (i : Nat) => t0 - c.rate * ((i : Int) + 1)) = ((List.range k).map fun (i : Nat) => t0 - c.rate * ((i : Int) + 1)) ++ [t0 - c.rate * ((k : Int) + 1)] := by simp [List.range_succ]
 have hl0 : ((List.range k).map fun (i : Nat) => t0 - c.rate * ((i : Int) + 1)).length = k := by simp
 generalize hls : ((List.range k).map fun (i : Nat) => t0 - c.rate * ((i : Int) + 1)) = ls at *
 by_cases hc1 : (k : Int) < m
 ·have w1 : IntKind.i64.wrap (t0 - c.rate * (k : Int) - c.rate) = t0 - c.rate * ((k : Int) + 1) := by rw [wr _ (by omega) (by omega)]; omega
  (repeat apply za); refine pwn ?_; intros
  repeat apply za
  refine zj (by simp [hc1]) ?_
  refine zb (za (zg ?_))
  repeat apply za
  refine pwN [] w1 ?_
  intros
  repeat apply za
  refine pwn ?_
  refine ⟨by omega, ?_⟩
  intros
  (repeat apply za); refine pwn ?_; intros
  exact zm (k + 1, w + 1) [] (by simp; omega) (by simp; omega) (by simp [wrN k (by omega), hrs];) rfl (by simp [hrs])
 ·(repeat apply za); refine pwn ?_; intros
  repeat apply za
  refine zi (by simp; omega) ?_
  obtain rfl : k = m.toNat := by omega
  refine zo ?_
  refine zM 1 rfl ?_
  repeat apply za
  refine pwn ?_
  refine pwc (Za3 c ls (by omega)) ?_
  intros
  repeat apply za
  exact ze (zh hd (by simp; rfl) (by simp [zk, hls]))
def xZ (c : Cust) (st : List Visit × Int) (d : Int) : List Visit × Int := (st.1 ++ [⟨d, W (c.size - (yd c st.2 d).1)⟩], d)
def zV (c : Cust) (ds : List Int) : List Visit × Int := ds.foldl (xZ c) ([], -1)
theorem Zk (c : Cust) (ds : List Int) (d : Int) : zV c (ds ++ [d]) = xZ c (zV c ds) d := by simp [zV]
theorem ZbH (c : Cust) : ∀ ds : List Int, (zV c ds).1.length = ds.length := by
 have : ∀ (ds : List Int) (st : List Visit × Int), (ds.foldl (xZ c) st).1.length = st.1.length + ds.length := by
  intro ds
  induction ds with
  | nil => intro st; simp
  | cons d ds ih => intro st; rw [List.foldl_cons, ih]; simp [xZ]; omega
 intro ds
 unfold zV; rw [this]; simp
set_option maxRecDepth 20000 in
theorem Zjw (c : Cust) (p : Nat) (hp : p < 2 ^ 64) (hc : CustFits c) : Pure Tryz.prog 174 [.agg (zB c), U p] (L (zV c (zS p 0 64)).1) := by
 have hall := Xu p hp
 have hln := ur p 0 64
 have hds : ∀ d ∈ zS p 0 64, 0 ≤ d ∧ d < 64 := fun d hd => by obtain ⟨i, h, h2, _⟩ := Qy hd; omega
 generalize zS p 0 64 = ds at hall hln hds ⊢
 refine pwe Tryz.func174 Tryz.ntmps174 Tryz.results174 fun S nx hd => ?_
 repeat apply za
 refine pwn ?_
 intro v0
 (repeat apply za); refine pwn ?_; intros
 refine za (qe 5 103 2 rfl fun v1 => ?_)
 (repeat apply za); refine pwn ?_; intros
 repeat apply za
 refine pwn ?_
 refine pwc hall ?_
 intros
 have hlast : ∀ k, -1 ≤ (zV c (ds.take k)).2 ∧ (zV c (ds.take k)).2 ≤ 64 := by
  intro k
  induction k with
  | zero => simp [zV]
  | succ k ih =>
   by_cases h : k < ds.length
   ·rw [List.take_succ_eq_append_getElem h, Zk]
    have := hds ds[k] (List.getElem_mem h)
    simp only [xZ]; omega
   ·rw [List.take_of_length_le (by omega)] at ih ⊢
    exact ih
 repeat apply za
 refine zg (zr (fun s : Nat × Nat => s.1 ≤ ds.length) (fun (k, w) => [(2, .ptr nx v0 0), (5, .sl (nx + 1) w 2 0 (zV c (ds.take k)).1.length), (6, I (zV c (ds.take k)).2), (12, L ds), (13, I ds.length), (14, I k)]) (fun (k, w) => [.cells v0 41 (zB c), .cells w 103 ((zV c (ds.take k)).1.flatMap Enc.enc)]) (fun s => ds.length - s.1) (0, v1) [] (by simp) (by simp [zV]) (by simp [zV]) ?_)
 rintro ⟨k, w⟩ hk
 simp only at hk ⊢
 have hl1 := hlast k
 have hfl : (zV c (ds.take k)).1.length = k := by rw [ZbH]; simp; omega
 (repeat apply za); refine pwn ?_; intros
 repeat apply za
 refine zn rfl (fun hc1 => ?_) (fun hc1 => ?_)
 ·simp at hc1
  obtain ⟨d, tl, a1, a2, a3, e0⟩ := el1 rfl ds k hc1
  have hd1 := hds d (List.mem_of_getElem? a1)
  have hsn := Zk c (ds.take k) d
  rw [← a3] at hsn
  generalize zV c (ds.take k) = st at *
  obtain ⟨out, last⟩ := st
  simp only [xZ] at hl1 hfl hsn ⊢
  have hr := ZbG c last d hc hl1 (by omega)
  generalize yd c last d = r at hr hsn
  obtain ⟨th, he⟩ := r
  simp only at hr hsn
  refine zb (za (zg ?_))
  repeat apply za
  refine pwN [] (jn2 e0 hc1) ?_
  intros
  repeat apply za
  refine pwn ?_
  refine pwc hr ?_
  intros
  repeat apply za
  refine pwn ?_
  refine ⟨by omega, ?_⟩
  intros
  (repeat apply za); refine pwn ?_; intros
  (repeat apply za); refine pwn ?_; intros
  exact zm (k + 1, w + 1) [] hc1 (by simp; omega) (by simp [wrN k (by omega), hsn]) rfl (by simp [hsn])
 ·simp at hc1
  obtain rfl : k = ds.length := by omega
  rw [List.take_length]
  refine zo ?_
  refine zM 1 rfl ?_
  (repeat apply za); refine pwn ?_; intros
  repeat apply za
  exact ze (zh hd (by simp; rfl) rfl)
structure Stp where
 r : Bool
 k : Int
 l : Int
 deriving DecidableEq
instance : Inhabited Stp := ⟨⟨false, 0, 0⟩⟩
instance : Enc Stp := ⟨fun s => [B s.r, I s.k, I s.l], 3, fun _ => rfl, fun _ => rfl⟩
@[simp] theorem ZmJ (s : Stp) : Enc.enc s = [B s.r, I s.k, I s.l] := rfl
@[simp high] theorem Zjx (l : List Stp) : (l.flatMap Enc.enc).length = l.length * 3 := jf l
@[simp high] theorem ZmK (l : List Stp) : (l.flatMap Enc.enc).take (l.length * 3) = l.flatMap Enc.enc := wO l
def zs : Stp := ⟨false, 0, 0⟩
def cnK (c : Cust) (n : Nat) (cap : Int) (price : List Int) (tab : List Stp) (d : Nat) (last : Int) : Int :=
 let k1 := if 0 ≤ last then W ((yd c last d).2 + (tab.getD last.toNat zs).k) else (yd c last d).2
 if d < n then W (k1 + prD price d) else k1
def vE (c : Cust) (n : Nat) (cap : Int) (tab : List Stp) (d : Nat) (last : Int) : Prop :=
 ¬ (0 ≤ last ∧ tab.getD last.toNat zs = zs) ∧ ¬ ((yd c last d).1 < 0 ∨ (d < n ∧ qX c (yd c last d).1 cap = 0))
instance (c : Cust) (n : Nat) (cap : Int) (tab : List Stp) (d : Nat) (last : Int) : Decidable (vE c n cap tab d last) := by unfold vE; exact inferInstance
def cnS (c : Cust) (n : Nat) (cap : Int) (price : List Int) (tab : List Stp) (d : Nat) (best : Stp) (last : Int) : Stp :=
 if vE c n cap tab d last then (if best = zs ∨ cnK c n cap price tab d last < best.k then ⟨true, cnK c n cap price tab d last, last⟩ else best) else best
def qP (c : Cust) (n : Nat) (cap : Int) (price : List Int) (tab : List Stp) (d : Nat) (j : Nat) : Stp := (List.range j).foldl (fun b (i : Nat) => cnS c n cap price tab d b ((i : Int) - 1)) zs
theorem ZbI (c : Cust) (n : Nat) (cap : Int) (price : List Int) (tab : List Stp) (d : Nat) (j : Nat) : qP c n cap price tab d (j + 1) = cnS c n cap price tab d (qP c n cap price tab d j) ((j : Int) - 1) := by simp [qP, List.range_succ]
def qb (c : Cust) (n : Nat) (cap : Int) (price : List Int) : Nat → List Stp
 | 0 => []
 | k + 1 => qb c n cap price k ++ [qP c n cap price (qb c n cap price k) k (k + 1)]
theorem Z9 (c : Cust) (n : Nat) (cap : Int) (price : List Int) : ∀ k, (qb c n cap price k).length = k
 | 0 => rfl
 | k + 1 => by simp [qb, Z9 c n cap price k]
def jY (tab : List Stp) : Nat → Nat → Int → Nat
 | 0, s, _ => s
 | f + 1, s, d => if d < 0 then s else jY tab f (jI s d) (tab.getD d.toNat zs).l
def vG (c : Cust) (n : Nat) (cap : Int) (price : List Int) : List Visit × Bool :=
 if (qb c n cap price (n + 1)).getD n zs = zs then ([], false)
 else ((zV c (zS (jY (qb c n cap price (n + 1)) 65 0 ((qb c n cap price (n + 1)).getD n zs).l) 0 64)).1, true)
def Zjy (tab : List Stp) : Prop := ∀ (d : Nat) (e : Stp), tab[d]? = some e → e = zs ∨ (e.r = true ∧ -1 ≤ e.l ∧ e.l < d ∧ (0 ≤ e.l → tab.getD e.l.toNat zs ≠ zs))
theorem QC (c : Cust) (n : Nat) (cap : Int) (price : List Int) (tab : List Stp) (d : Nat) : ∀ j : Nat, qP c n cap price tab d j = zs ∨ ((qP c n cap price tab d j).r = true ∧ -1 ≤ (qP c n cap price tab d j).l ∧ (qP c n cap price tab d j).l + 1 < j ∧ vE c n cap tab d (qP c n cap price tab d j).l)
 | 0 => .inl rfl
 | j + 1 => by
  have ih := QC c n cap price tab d j
  rw [ZbI]
  unfold cnS
  split
  ·rename_i hok
   split
   ·exact .inr ⟨rfl, by dsimp only; omega, by dsimp only; omega, hok⟩
   ·rcases ih with ih | ⟨h1, h2, h3, h4⟩
    ·exact .inl ih
    ·exact .inr ⟨h1, h2, by omega, h4⟩
  ·rcases ih with ih | ⟨h1, h2, h3, h4⟩
   ·exact .inl ih
   ·exact .inr ⟨h1, h2, by omega, h4⟩
theorem Xx (c : Cust) (n : Nat) (cap : Int) (price : List Int) : ∀ k, Zjy (qb c n cap price k)
 | 0 => by intro d e h; cases h
 | k + 1 => by
  have ih := Xx c n cap price k
  have hl := Z9 c n cap price k
  have he := QC c n cap price (qb c n cap price k) k (k + 1)
  intro d e h
  simp only [qb] at h ⊢
  have hget : ∀ (i : Nat), i < k → (qb c n cap price k ++ [qP c n cap price (qb c n cap price k) k (k + 1)]).getD i zs = (qb c n cap price k).getD i zs := by
   intro i hi
   rw [List.getD_eq_getElem?_getD, List.getD_eq_getElem?_getD, List.getElem?_append_left (by omega)]
  by_cases hd : d < k
  ·rw [List.getElem?_append_left (by omega)] at h
   rcases ih d e h with q | ⟨q1, q2, q3, q4⟩
   ·exact .inl q
   ·refine .inr ⟨q1, q2, q3, fun q => ?_⟩
    rw [hget _ (by omega)]; exact q4 q
  ·rw [List.getElem?_append_right (by omega), hl] at h
   obtain rfl : d = k := by
    rcases Nat.lt_or_ge (d - k) 1 with q | q
    ·omega
    ·rw [List.getElem?_eq_none (by simpa using q)] at h; cases h
   rw [Nat.sub_self] at h
   simp only [List.getElem?_cons_zero, Option.some.injEq] at h
   subst h
   rcases he with q | ⟨q1, q2, q3, q4⟩
   ·exact .inl q
   ·refine .inr ⟨q1, q2, by omega, fun q => ?_⟩
    rw [hget _ (by omega)]
    exact fun hz => q4.1 ⟨q, hz⟩
open Go Go.Proofs Hp
def yo (tab : List Stp) (b : Stp) : List Stp := tab ++ b :: List.replicate (64 - tab.length) zs
theorem ZbJ (tab : List Stp) (b : Stp) (h : tab.length ≤ 64) : (yo tab b).length = 65 := by simp [yo]; omega
theorem QD (tab : List Stp) (b : Stp) (i : Nat) (h : i < tab.length) : (yo tab b)[i]? = some (tab.getD i zs) := by
 unfold yo
 rw [List.getElem?_append_left h, List.getD_eq_getElem?_getD, List.getElem?_eq_getElem h]; rfl
theorem Zjz (tab : List Stp) (b : Stp) : (yo tab b)[tab.length]? = some b := by
 unfold yo
 rw [List.getElem?_append_right (Nat.le_refl _)]; simp
theorem ZjA (tab : List Stp) (b e : Stp) : (yo tab b).set tab.length e = yo tab e := by
 unfold yo
 rw [List.set_append_right _ _ (Nat.le_refl _)]; simp
theorem ZjB (tab : List Stp) (b : Stp) (h : tab.length < 64) : yo tab b = yo (tab ++ [b]) zs := by
 unfold yo
 rw [List.append_assoc, List.length_append, List.length_singleton, show 64 - tab.length = (64 - (tab.length + 1)) + 1 from by omega, List.replicate_succ]
 rfl
@[simp] theorem ZmL : Program.zeroOf Tryz.prog 222 = some (.agg #[.bool false, .int .i64 0, .int .i64 0, .bool false, .int .i64 0, .int .i64 0, .bool false, .int .i64 0, .int .i64 0, .bool false, .int .i64 0, .int .i64 0, .bool false, .int .i64 0, .int .i64 0, .bool false, .int .i64 0, .int .i64 0, .bool false, .int .i64 0, .int .i64 0, .bool false, .int .i64 0, .int .i64 0, .bool false, .int .i64 0, .int .i64 0, .bool false, .int .i64 0, .int .i64 0, .bool false, .int .i64 0, .int .i64 0, .bool false, .int .i64 0, .int .i64 0, .bool false, .int .i64 0, .int .i64 0, .bool false, .int .i64 0, .int .i64 0, .bool false, .int .i64 0, .int .i64 0, .bool false, .int .i64 0, .int .i64 0, .bool false, .int .i64 0, .int .i64 0, .bool false, .int .i64 0, .int .i64 0, .bool false, .int .i64 0, .int .i64 0, .bool false, .int .i64 0, .int .i64 0, .bool false, .int .i64 0, .int .i64 0, .bool false, .int .i64 0, .int .i64 0, .bool false, .int .i64 0, .int .i64 0, .bool false, .int .i64 0, .int .i64 0, .bool false, .int .i64 0, .int .i64 0, .bool false, .int .i64 0, .int .i64 0, .bool false, .int .i64 0, .int .i64 0, .bool false, .int .i64 0, .int .i64 0, .bool false, .int .i64 0, .int .i64 0, .bool false, .int .i64 0, .int .i64 0, .bool false, .int .i64 0, .int .i64 0, .bool false, .int .i64 0, .int .i64 0, .bool false, .int .i64 0, .int .i64 0, .bool false, .int .i64 0, .int .i64 0, .bool false, .int .i64 0, .int .i64 0, .bool false, .int .i64 0, .int .i64 0, .bool false, .int .i64 0, .int .i64 0, .bool false, .int .i64 0, .int .i64 0, .bool false, .int .i64 0, .int .i64 0, .bool false, .int .i64 0, .int .i64 0, .bool false, .int .i64 0, .int .i64 0, .bool false, .int .i64 0, .int .i64 0, .bool false, .int .i64 0, .int .i64 0, .bool false, .int .i64 0, .int .i64 0, .bool false, .int .i64 0, .int .i64 0, .bool false, .int .i64 0, .int .i64 0, .bool false, .int .i64 0, .int .i64 0, .bool false, .int .i64 0, .int .i64 0, .bool false, .int .i64 0, .int .i64 0, .bool false, .int .i64 0, .int .i64 0, .bool false, .int .i64 0, .int .i64 0, .bool false, .int .i64 0, .int .i64 0, .bool false, .int .i64 0, .int .i64 0, .bool false, .int .i64 0, .int .i64 0, .bool false, .int .i64 0, .int .i64 0, .bool false, .int .i64 0, .int .i64 0, .bool false, .int .i64 0, .int .i64 0, .bool false, .int .i64 0, .int .i64 0, .bool false, .int .i64 0, .int .i64 0, .bool false, .int .i64 0, .int .i64 0, .bool false, .int .i64 0, .int .i64 0, .bool false, .int .i64 0, .int .i64 0, .bool false, .int .i64 0, .int .i64 0, .bool false, .int .i64 0, .int .i64 0, .bool false, .int .i64 0, .int .i64 0]) := by kernel_rfl
theorem ZbK {α : Type} [Enc α] : ∀ (l : List α) (k : Nat), (l.flatMap Enc.enc).take (k * Enc.sz α) = (l.take k).flatMap Enc.enc
 | [], k => by simp
 | a :: l, 0 => by simp
 | a :: l, k + 1 => by
  have ih := ZbK l k
  rw [List.flatMap_cons, List.take_succ_cons, List.flatMap_cons, Nat.add_mul, Nat.one_mul, List.take_append, Enc.len, ← ih, Nat.add_sub_cancel, List.take_of_length_le (by rw [Enc.len]; omega)]
theorem ZjC {α : Type} [Enc α] (n : Nat) (hn : Enc.sz α = n) (l : List α) (k : Nat) (v : α) (h : k < l.length) : zJ (l.flatMap Enc.enc) (k * n) (Enc.enc v) = (l.set k v).flatMap Enc.enc := by
 subst hn
 have h1 := Ja h
 have h2 : (l.flatMap Enc.enc).drop (k * Enc.sz α + Enc.sz α) = (l.drop (k + 1)).flatMap Enc.enc := by
  rw [← List.drop_drop, h1, List.drop_append, List.drop_of_length_le (by rw [Enc.len]; exact Nat.le_refl _), Enc.len, Nat.sub_self]
  simp
 rw [zJ, Enc.len, ZbK, h2, List.set_eq_take_append_cons_drop, if_pos h]
 simp
theorem ZbL (tab : List Stp) : ∀ (f s : Nat) (d : Int), s < 2 ^ 64 → jY tab f s d < 2 ^ 64
 | 0, _, _, h => h
 | f + 1, s, d, h => by
  unfold jY
  split
  ·exact h
  ·exact ZbL tab f _ _ (ZaY _ _ h)
theorem ZjD (tab : List Stp) (f s : Nat) {d : Int} (h : d < 0) : jY tab f s d = s := by
 cases f with
 | zero => rfl
 | succ f => unfold jY; rw [if_pos h]
set_option maxRecDepth 100000 in
set_option maxHeartbeats 12800000 in
theorem ZjE {S : Store} {pl : PV} {price : List Int} (c : Cust) (n : Nat) (cap : Int) (hR : RowOf S pl price) (hc : CustFits c) (hn : n ≤ 60) :
  Spec Tryz.prog 128 [.agg (zB c), I n, I cap, pl] S (fun q S' => q = .tup [L (vG c n cap price).1, B (vG c n cap price).2] ∧ S' = S) := by
 have hmin : xG (n : Int) 64 = n := by unfold xG; split <;> omega
 have hmax : jO (n : Int) 0 = n := by unfold jO; split <;> omega
 have hpr := fun S (h : RowOf S pl price) d => ZbA d h
 have hrest := fun (last d : Int) (h1 : -1 ≤ last ∧ last ≤ 64) (h2 : 0 ≤ d ∧ d ≤ 64) => ZbG c last d hc h1 h2
 have hmost := fun (th : Int) (h : -4611686018427387904 ≤ th ∧ th ≤ 4611686018427387904) => Xw c th cap hc.size h
 unfold vG
 refine y9 Tryz.func128 Tryz.ntmps128 Tryz.results128 fun nx hd => ?_
 repeat apply za
 refine pwn ?_
 intro v0
 repeat apply za
 refine pwN [] (jn2 hmin hmax) ?_
 intros
 repeat apply za
 refine pwn ?_
 intro v1
 have hw : IntKind.i64.wrap ((n : Int) + 1) = ((n + 1 : Nat) : Int) := wrN n (by omega)
 repeat apply za
 refine pwN [] hw ?_
 intros
 repeat apply za
 refine zg (zr (fun d : Nat => d ≤ n + 1) (fun d => [(1, I n), (2, I cap), (3, pl), (4, .ptr nx v0 0), (10, .ptr (nx + 1) v1 0), (22, I (n + 1 : Nat)), (23, I d)]) (fun d => [.cells v0 41 (zB c), .cells v1 222 ((yo (qb c n cap price d) zs).flatMap Enc.enc)]) (fun d => n + 1 - d) 0 [] (by simp) (by simp) (by simp [qb]; rfl) ?_)
 rintro d hd1
 have htl := Z9 c n cap price d
 have htok := Xx c n cap price d
 have htn : qb c n cap price (d + 1) = qb c n cap price d ++ [qP c n cap price (qb c n cap price d) d (d + 1)] := rfl
 by_cases hdn : d < n + 1
 case neg =>
  obtain rfl : d = n + 1 := by omega
  clear htn
  generalize qb c n cap price (n + 1) = tab at *
  have hml := ZbJ tab zs (by omega)
  obtain ⟨s, tl, a1, -, -, e1, e0⟩ := el 3 rfl (yo tab zs) n (by omega)
  have hs : tab.getD n zs = s := by have := QD tab zs n (by omega); rw [a1] at this; exact (Option.some.inj this).symm
  have hs2 : tab[n]? = some s := by rw [← hs, List.getD_eq_getElem?_getD, List.getElem?_eq_getElem (by omega)]; rfl
  have e12 := e1 2 (by omega)
  have hn65 : (n : Int) < 65 := by omega
  have z1 : 3 ≤ 195 - n * 3 := by omega
  have z2 : 1 ≤ 195 - (n * 3 + 2) := by omega
  rw [hs]
  (repeat apply za); refine pwn ?_; intros
  repeat apply za
  refine zi (by simp) ?_
  refine zo ?_
  rcases htok n s hs2 with q | ⟨hr, hl1, hl2, hl3⟩
  ·subst q
   rw [if_pos rfl]
   have e0' : ((yo tab zs).flatMap Enc.enc).drop (n * 3) = [B false, I 0, I 0] ++ tl := e0
   repeat apply za
   refine pwN [] (jn4 e0' hn65 hml z1) ?_
   intros
   repeat apply za
   refine zj rfl ?_
   (repeat apply za); refine pwn ?_; intros
   refine xq 8 rfl ?_
   repeat apply za
   exact ze ⟨_, S, rfl, ⟨by simp [zk], rfl⟩, zO hd⟩
  ·have hne : s ≠ zs := fun e => by rw [e] at hr; cases hr
   rw [if_neg hne]
   obtain ⟨sr, sk, sl⟩ := s
   simp only at hr hl1 hl2 hl3 ⊢
   subst hr
   repeat apply za
   refine pwN [] (jn4 e0 hn65 hml z1) ?_
   intros
   repeat apply za
   refine zi rfl ?_
   refine zb ?_
   (repeat apply za); refine pwn ?_; intros
   repeat apply za
   refine pwN [] (jn4 e12 hn65 hml z2) ?_
   intros
   generalize hres : jY tab 65 0 sl = res
   have hrlt : res < 2 ^ 64 := hres ▸ ZbL tab 65 0 sl (by decide)
   have hfil := Zjw c res hrlt hc
   generalize (zV c (zS res 0 64)).1 = vv at hfil ⊢
   repeat apply za
   refine zg (zr (fun st : Nat × Nat × Int => jY tab st.1 st.2.1 st.2.2 = res ∧ -1 ≤ st.2.2 ∧ st.2.2 < st.1 ∧ st.2.2 < n ∧ st.2.1 < 2 ^ 64 ∧ (0 ≤ st.2.2 → tab.getD st.2.2.toNat zs ≠ zs)) (fun (f, s, l) => [(4, .ptr nx v0 0), (10, .ptr (nx + 1) v1 0), (16, U s), (17, I l)]) (fun _ => [.cells v0 41 (zB c), .cells v1 222 ((yo tab zs).flatMap Enc.enc)]) (fun st => st.1) (65, 0, sl) [] ⟨hres, hl1, by dsimp only; omega, by dsimp only; omega, by show (0 : Nat) < 2 ^ 64; decide, hl3⟩ (by simp) (by simp) ?_)
   rintro ⟨f, s, l⟩ ⟨p1, p2, p3, p4, p5, p6⟩
   simp only at p1 p2 p3 p4 p5 p6 ⊢
   by_cases hl : l < 0
   ·have hl' : ¬ 0 ≤ l := by omega
    rw [ZjD tab f s hl] at p1
    subst p1
    repeat apply za
    refine pwN [] hl' ?_
    intros
    repeat apply za
    refine zi rfl ?_
    refine zo ?_
    repeat apply za
    refine pwn ?_
    refine pwc hfil ?_
    intros
    repeat apply za
    exact ze ⟨_, S, (by simp; rfl), ⟨by simp [zk], rfl⟩, zO hd⟩
   ·have hl' : 0 ≤ l := by omega
    obtain ⟨i, rfl⟩ := Int.eq_ofNat_of_zero_le hl'
    obtain ⟨f, rfl⟩ : ∃ g, f = g + 1 := ⟨f - 1, by omega⟩
    have p6 := p6 hl'
    rw [Int.toNat_natCast] at p6
    have hi : i < tab.length := by omega
    obtain ⟨e, tl2, b1, -, -, f1, f0⟩ := el 3 rfl (yo tab zs) i (by omega)
    have he : tab.getD i zs = e := by have := QD tab zs i hi; rw [b1] at this; exact (Option.some.inj this).symm
    have he2 : tab[i]? = some e := by rw [← he, List.getD_eq_getElem?_getD, List.getElem?_eq_getElem hi]; rfl
    have f12 := f1 2 (by omega)
    have hi65 : (i : Int) < 65 := by omega
    have y2 : 1 ≤ 195 - (i * 3 + 2) := by omega
    rw [he] at p6
    rcases htok i e he2 with q | ⟨er, el1', el2', el3'⟩
    ·exact absurd q p6
    have p1' : jY tab f (jI s i) e.l = res := by
     rw [← p1]; unfold jY; rw [if_neg (by omega), Int.toNat_natCast, he]
     cases f <;> rfl
    repeat apply za
    refine pwN [] hl' ?_
    intros
    repeat apply za
    refine zj rfl ?_
    refine zb (za (zg ?_))
    repeat apply za
    refine pwn ?_
    refine pwc (Zib s i p5) ?_
    intros
    repeat apply za
    refine pwN [] (jn4 f12 hi65 hml y2) ?_
    intros
    exact zm (f, jI s i, e.l) [] ⟨p1', el1', by dsimp only; omega, by dsimp only; omega, ZaY _ _ p5, el3'⟩ (by simp) (by simp) rfl (by simp)
 generalize qb c n cap price d = tab at *
 (repeat apply za); refine pwn ?_; intros
 repeat apply za
 refine zj (by simp; omega) ?_
 refine zb (za (zg ?_))
 (repeat apply za); refine pwn ?_; intros
 (repeat apply za); refine pwn ?_; intros
 repeat apply za
 refine zg (zr (fun j : Nat => j ≤ d + 1) (fun j => [(1, I n), (2, I cap), (3, pl), (4, .ptr nx v0 0), (10, .ptr (nx + 1) v1 0), (11, I d), (12, I ((j : Int) - 1)), (22, I (n + 1 : Nat)), (23, I d)]) (fun j => [.cells v0 41 (zB c), .cells v1 222 ((yo tab (qP c n cap price tab d j)).flatMap Enc.enc)]) (fun j => d + 1 - j) 0 [] (by simp) (by simp) (by simp [qP]) ?_)
 rintro j hj
 have hesucc := ZbI c n cap price tab d j
 have heok := QC c n cap price tab d j
 have hdd : qP c n cap price tab d (d + 1) = qP c n cap price tab d (d + 1) := rfl
 by_cases hjd : j < d + 1
 case neg =>
  obtain rfl : j = d + 1 := by omega
  (repeat apply za); refine pwn ?_; intros
  repeat apply za
  refine zi (by simp) ?_
  refine zo ?_
  (repeat apply za); refine pwn ?_; intros
  exact zm (d + 1) [] hdn (by omega) (by simp [wrN d (by omega)]) rfl (by rw [htn, ← ZjB tab _ (by omega)]; simp)
 clear hdd htn
 generalize qP c n cap price tab d j = b at *
 obtain ⟨last, hlast⟩ : ∃ last : Int, last = (j : Int) - 1 := ⟨_, rfl⟩
 rw [← hlast] at hesucc ⊢
 have hwl : IntKind.i64.wrap (last + 1) = ((j + 1 : Nat) : Int) - 1 := by rw [wr _ (by omega) (by omega)]; omega
 have hml := ZbJ tab b (by omega)
 have hd65 : (d : Int) < 65 := by omega
 have zd3 : 3 ≤ 195 - d * 3 := by omega
 have zd1 : 1 ≤ 195 - (d * 3 + 1) := by omega
 have hr := hrest last d (by omega) (by omega)
 have hrbd : -4611686018427387904 ≤ (yd c last d).1 ∧ (yd c last d).1 ≤ 4611686018427387904 := by
  have h1 := hc.rate
  have h2 := hc.size
  have h3 := hc.start
  unfold yd
  simp only
  have hp : 0 ≤ c.rate * ((if last < 0 then (d : Int) else d - last).toNat : Int) ∧ c.rate * ((if last < 0 then (d : Int) else d - last).toNat : Int) ≤ 2147483648 * 65 :=
   ⟨Int.mul_nonneg h1.1 (by omega), Int.mul_le_mul h1.2 (by split <;> omega) (by omega) (by omega)⟩
  generalize c.rate * ((if last < 0 then (d : Int) else d - last).toNat : Int) = pp at hp ⊢
  split <;> omega
 have hm := hmost _ hrbd
 have hks : ∀ (k1 : Int), k1 = (if 0 ≤ last then W ((yd c last d).2 + (tab.getD last.toNat zs).k) else (yd c last d).2) → cnK c n cap price tab d last = if d < n then W (k1 + prD price d) else k1 := fun k1 h => by unfold cnK; rw [h]
 have hokd : vE c n cap tab d last = (¬ (0 ≤ last ∧ tab.getD last.toNat zs = zs) ∧ ¬ ((yd c last d).1 < 0 ∨ (d < n ∧ qX c (yd c last d).1 cap = 0))) := rfl
 have hstay : ¬ vE c n cap tab d last → qP c n cap price tab d (j + 1) = b := fun h => by rw [hesucc]; unfold cnS; rw [if_neg h]
 have hgo : vE c n cap tab d last → qP c n cap price tab d (j + 1) = if b = zs ∨ cnK c n cap price tab d last < b.k then ⟨true, cnK c n cap price tab d last, last⟩ else b := fun h => by rw [hesucc]; unfold cnS; rw [if_pos h]
 clear hesucc
 generalize yd c last d = rr at hr hm hks hokd
 obtain ⟨th, he⟩ := rr
 simp only at hr hm hks hokd
 generalize qX c th cap = mo at hm hokd
 generalize vE c n cap tab d last = OK at hokd hstay hgo
 generalize cnK c n cap price tab d last = kk at hks hgo
 generalize hb'e : qP c n cap price tab d (j + 1) = b' at hstay hgo
 subst hokd
 (repeat apply za); refine pwn ?_; intros
 repeat apply za
 refine zj (by simp; omega) ?_
 refine zb (za (zg ?_))
 refine za ?_
 refine yD (nx := nx) (σ := Unit) (fun _ => ¬ (0 ≤ last ∧ tab.getD last.toNat zs = zs)) (fun _ => [(1, I n), (2, I cap), (3, pl), (4, .ptr nx v0 0), (10, .ptr (nx + 1) v1 0), (11, I d), (12, I last), (22, I (n + 1 : Nat)), (23, I d)]) (fun _ => S) (fun _ => [.cells v0 41 (zB c), .cells v1 222 ((yo tab b).flatMap Enc.enc)]) ?_ ?_
 ·by_cases hl : 0 ≤ last
  ·obtain ⟨i, hi⟩ := Int.eq_ofNat_of_zero_le hl
   have hit : i < tab.length := by omega
   obtain ⟨e, tl2, b1, -, -, -, f0⟩ := el 3 rfl (yo tab b) i (by omega)
   have hee : tab.getD i zs = e := by have := QD tab b i hit; rw [b1] at this; exact (Option.some.inj this).symm
   have he2 : tab[i]? = some e := by rw [← hee, List.getD_eq_getElem?_getD, List.getElem?_eq_getElem hit]; rfl
   have hi65 : (i : Int) < 65 := by omega
   have y3 : 3 ≤ 195 - i * 3 := by omega
   have hlt : last.toNat = i := by omega
   rcases htok i e he2 with q | ⟨er, -, -, -⟩
   ·subst q
    have f0' : ((yo tab b).flatMap Enc.enc).drop (i * 3) = [B false, I 0, I 0] ++ tl2 := f0
    have hb' := hstay fun h => h.1 ⟨hl, by rw [hlt]; exact hee⟩
    subst hb'
    subst hi
    repeat apply za
    refine pwN [(2, 33)] (jn5 hl f0' hi65 hml y3) ?_
    intros
    repeat apply za
    refine zj rfl ?_
    refine zo ?_
    repeat apply za
    refine pwN [] hwl ?_
    intros
    exact zm (j + 1) [] (by omega) (by omega) (by simp) rfl (by simp [hb'e])
   ·obtain ⟨r1, r2, r3⟩ := e
    simp only at er
    subst er
    subst hi
    repeat apply za
    refine pwN [(2, 33)] (jn5 hl f0 hi65 hml y3) ?_
    intros
    repeat apply za
    refine zi rfl ?_
    refine zb ?_
    exact zA () [] (by rw [hlt, hee]; rintro ⟨-, q⟩; cases q) (by simp) rfl (by simp)
  ·repeat apply za
   refine pwN [(2, 33)] (jn2 hl zv) ?_
   intros
   repeat apply za
   refine zi rfl ?_
   refine zb ?_
   exact zA () [] (fun q => hl q.1) (by simp) rfl (by simp)
 intro _ hA
 repeat apply za
 refine pwn ?_
 refine pwc hr ?_
 intros
 refine za ?_
 refine yD (nx := nx) (σ := Unit) (fun _ => ¬ (th < 0 ∨ (d < n ∧ mo = 0))) (fun _ => [(1, I n), (2, I cap), (3, pl), (4, .ptr nx v0 0), (10, .ptr (nx + 1) v1 0), (11, I d), (12, I last), (14, I he), (22, I (n + 1 : Nat)), (23, I d)]) (fun _ => S) (fun _ => [.cells v0 41 (zB c), .cells v1 222 ((yo tab b).flatMap Enc.enc)]) ?_ ?_
 ·by_cases h1 : th < 0
  ·have hb' := hstay fun h => h.2 (.inl h1)
   subst hb'
   repeat apply za
   refine pwN [(2, 49), (6, 53)] (jn2 h1 zv) ?_
   intros
   repeat apply za
   refine zj rfl ?_
   refine zo ?_
   repeat apply za
   refine pwN [] hwl ?_
   intros
   exact zm (j + 1) [] (by omega) (by omega) (by simp) rfl (by simp [hb'e])
  ·by_cases h2 : d < n
   ·by_cases h3 : mo = 0
    ·have hb' := hstay fun h => h.2 (.inr ⟨h2, h3⟩)
     subst hb'
     repeat apply za
     refine pwN [(2, 49), (6, 53)] (jn3 h1 h2 h3) ?_
     refine pwC [(2, 49), (6, 53)] hm (jn3 h1 h2 h3) ?_
     intros
     repeat apply za
     refine zj rfl ?_
     refine zo ?_
     repeat apply za
     refine pwN [] hwl ?_
     intros
     exact zm (j + 1) [] (by omega) (by omega) (by simp) rfl (by simp [hb'e])
    ·repeat apply za
     refine pwN [(2, 49), (6, 53)] (jn3 h1 h2 h3) ?_
     refine pwC [(2, 49), (6, 53)] hm (jn3 h1 h2 h3) ?_
     intros
     repeat apply za
     refine zi rfl ?_
     refine zb ?_
     exact zA () [] (by omega) (by simp) rfl (by simp)
   ·repeat apply za
    refine pwN [(2, 49), (6, 53)] (jn3 h1 h2 zv) ?_
    intros
    repeat apply za
    refine zi rfl ?_
    refine zb ?_
    exact zA () [] (by omega) (by simp) rfl (by simp)
 intro _ hB
 have hgo := hgo ⟨hA, hB⟩
 clear hstay hm hr
 repeat apply za
 refine pwn ?_
 intro v2
 obtain ⟨k1, hk1⟩ : ∃ k1, k1 = (if 0 ≤ last then W (he + (tab.getD last.toNat zs).k) else he) := ⟨_, rfl⟩
 have hks := hks k1 hk1
 refine za ?_
 refine yD (nx := nx) (σ := Unit) (fun _ => True) (fun _ => [(1, I n), (2, I cap), (3, pl), (4, .ptr nx v0 0), (10, .ptr (nx + 1) v1 0), (11, I d), (12, I last), (15, .ptr (nx + 2) v2 0), (22, I (n + 1 : Nat)), (23, I d)]) (fun _ => S) (fun _ => [.cells v0 41 (zB c), .cells v1 222 ((yo tab b).flatMap Enc.enc), .cells v2 221 [B true, I k1, I last]]) ?_ ?_
 ·(repeat apply za); refine pwn ?_; intros
  by_cases hl : 0 ≤ last
  ·rw [if_pos hl] at hk1
   obtain ⟨i, hi⟩ := Int.eq_ofNat_of_zero_le hl
   have hit : i < tab.length := by omega
   obtain ⟨e, tl2, b1, -, -, f1, f0⟩ := el 3 rfl (yo tab b) i (by omega)
   have hee : tab.getD i zs = e := by have := QD tab b i hit; rw [b1] at this; exact (Option.some.inj this).symm
   have f11 := f1 1 (by omega)
   have hi65 : (i : Int) < 65 := by omega
   have y1 : 1 ≤ 195 - (i * 3 + 1) := by omega
   have hlt : last.toNat = i := by omega
   rw [hlt, hee] at hk1
   subst hi
   repeat apply za
   refine zj (by simp) ?_
   repeat apply za
   refine pwY (some [nx + 1]) (Row.pures [0, 2, 3, 4, 5] (.alt 1 (Row.pures [6, 7] (.alt 8 (.done) .stop)) .stop)) mixed (jn4 f11 hi65 hml y1) ?_
   intros
   exact zA () [] trivial (by simp) rfl (by simp [hk1])
  ·rw [if_neg hl] at hk1
   repeat apply za
   refine zi (by simp; omega) ?_
   refine zb ?_
   exact zA () [] trivial (by simp) rfl (by simp [hk1])
 intro _ _
 clear hk1
 refine za ?_
 refine yD (nx := nx) (σ := Unit) (fun _ => True) (fun _ => [(1, I n), (2, I cap), (3, pl), (4, .ptr nx v0 0), (10, .ptr (nx + 1) v1 0), (11, I d), (12, I last), (15, .ptr (nx + 2) v2 0), (22, I (n + 1 : Nat)), (23, I d)]) (fun _ => S) (fun _ => [.cells v0 41 (zB c), .cells v1 222 ((yo tab b).flatMap Enc.enc), .cells v2 221 [B true, I kk, I last]]) ?_ ?_
 ·(repeat apply za); refine pwn ?_; intros
  by_cases h2 : d < n
  ·rw [if_pos h2] at hks
   repeat apply za
   refine zj (by simp [h2]) ?_
   repeat apply za
   refine xL (some [nx + 1]) (Row.pures [0, 2, 3] (.alt 1 (.alt 4 (Row.pures [5, 6] (.alt 7 (.done) .stop)) .stop) (.alt 4 (.alt 1 (Row.pures [5, 6] (.alt 7 (.done) .stop)) .stop) .stop))) mixed (by rfl) (by rfl) (by rfl) fun K Gp Gc Gh hK hGp hGc hGh X hX0 hX1 hX2 hX => ?_
   simp -implicitDefEqProofs [hX0, hX1, hX2, hX]
   try clear hX0 hX1 hX2 hX X
   refine ⟨?_, ?_⟩
   ·refine hGc _ _ _ _ _ _ _ (((hpr _ (hR.ext hd _) _).mono ?_).v)
    rintro _ _ ⟨rfl, rfl⟩
    refine ⟨by simp [zT], ?_⟩
    clear hGp hGc hGh
    clear Gp Gc Gh
    refine qS fun Gp Gc Gh hGp hGc hGh X hX0 hX1 hX2 hX => ?_
    simp -implicitDefEqProofs [hX0, hX1, hX2, hX]
    try clear hX0 hX1 hX2 hX X
    refine hK _ _ _ ?_
    clear hK hGp hGc hGh
    clear K Gp Gc Gh
    exact zA () [] trivial (by simp) rfl (by simp [hks])
   ·refine hGc _ _ _ _ _ _ _ (((hpr _ (hR.ext hd _) _).mono ?_).v)
    rintro _ _ ⟨rfl, rfl⟩
    refine ⟨by simp [zT], ?_⟩
    clear hGp hGc hGh
    clear Gp Gc Gh
    refine qS fun Gp Gc Gh hGp hGc hGh X hX0 hX1 hX2 hX => ?_
    simp -implicitDefEqProofs [hX0, hX1, hX2, hX]
    try clear hX0 hX1 hX2 hX X
    refine hK _ _ _ ?_
    clear hK hGp hGc hGh
    clear K Gp Gc Gh
    exact zA () [] trivial (by simp) rfl (by simp [hks])
  ·rw [if_neg h2] at hks
   repeat apply za
   refine zi (by simp; omega) ?_
   refine zb ?_
   exact zA () [] trivial (by simp) rfl (by simp [hks])
 intro _ _
 clear hks
 obtain ⟨e, tl2, b1, -, -, f1, f0⟩ := el 3 rfl (yo tab b) d (by omega)
 have hee : b = e := by have := Zjz tab b; rw [htl, b1] at this; exact (Option.some.inj this).symm
 subst hee
 have f11 := f1 1 (by omega)
 have hsp := ZjC 3 rfl (yo tab b) d ⟨true, kk, last⟩ (by omega)
 have hms := ZjA tab b ⟨true, kk, last⟩
 rw [htl] at hms
 rw [hms] at hsp
 have hsp' : zJ ((yo tab b).flatMap Enc.enc) (d * 3) [B true, I kk, I last] = (yo tab ⟨true, kk, last⟩).flatMap Enc.enc := hsp
 clear hsp hms
 have hmf : ((yo tab b).flatMap Enc.enc : List PV).length = 195 := by rw [Zjx, hml]
 rcases heok with q | ⟨hbr, -, -, -⟩
 ·subst q
  rw [if_pos (.inl rfl)] at hgo
  subst hgo
  have f0' : ((yo tab zs).flatMap Enc.enc).drop (d * 3) = [B false, I 0, I 0] ++ tl2 := f0
  repeat apply za
  refine pwY none (Row.pures [0, 1, 2, 3, 4, 5, 6, 7, 8, 9, 10, 11, 12, 13] .done) mixed (jn5 f0' hd65 hml zd3 zv) ?_
  intros
  repeat apply za
  refine zj rfl ?_
  repeat apply za
  refine pwN [] (jn4 hd65 hmf hsp' hml) ?_
  refine ⟨by omega, ?_⟩
  intros
  repeat apply za
  refine pwN [] hwl ?_
  intros
  exact zm (j + 1) [_] (by omega) (by omega) (by simp) rfl (by simp [hb'e]; rfl)
 ·obtain ⟨r1, r2, r3⟩ := b
  simp only at hbr
  subst hbr
  have hnz : ¬ ((⟨true, r2, r3⟩ : Stp) = zs) := fun e => by cases e
  by_cases hlt : kk < r2
  ·rw [if_pos (.inr hlt)] at hgo
   subst hgo
   repeat apply za
   refine pwY none (Row.pures [0, 1, 2, 3, 4, 5, 6, 7, 8, 9, 10, 11, 12, 13] .done) mixed (jn6 f0 f11 hd65 hml zd3 (jn2 zd1 hlt)) ?_
   intros
   repeat apply za
   refine zj rfl ?_
   repeat apply za
   refine pwN [] (jn4 hd65 hmf hsp' hml) ?_
   refine ⟨by omega, ?_⟩
   intros
   repeat apply za
   refine pwN [] hwl ?_
   intros
   exact zm (j + 1) [_] (by omega) (by omega) (by simp) rfl (by simp [hb'e]; rfl)
  ·rw [if_neg (by rintro (q | q); exact hnz q; exact hlt q)] at hgo
   subst hgo
   repeat apply za
   refine pwY none (Row.pures [0, 1, 2, 3, 4, 5, 6, 7, 8, 9, 10, 11, 12, 13] .done) mixed (jn6 f0 f11 hd65 hml zd3 (jn2 zd1 hlt)) ?_
   intros
   repeat apply za
   refine zi rfl ?_
   refine zb ?_
   repeat apply za
   refine pwN [] hwl ?_
   intros
   exact zm (j + 1) [_] (by omega) (by omega) (by simp) rfl (by simp [hb'e]; rfl)
open Go Go.Proofs Hp
section
variable {P : Program} {r : Rd} {n N : Nat} {Q : Exit → (Nat → PV) → Store → Prop} {F : Nat → PV} {c : Code}
theorem ZjF {S : Store} {nx : Nat} {obs : List Ob} (j : Nat) {ver e : Nat} {cs : List PV} (hj : obs[j]? = some (.cells ver e cs)) {id v e2 : Nat} {ds : List PV} (hlt : id < nx) (hs : S id = .cells v e2 ds)
  (h : PW P r n N c Q F (ext (S.set id (.cells v e2 (ds.map (yC (nx + j) ver cs)))) nx (obs.set j .dead))) : PW P r n N c Q F (ext S nx obs) := by
 have hjl : j < obs.length := (List.getElem?_eq_some_iff.1 hj).1
 refine ZiO (id := nx + j) (ver := ver) (e := e) (cs := cs) (G := F) (by rw [yU, List.getD_eq_getElem?_getD, hj]; rfl) (by rw [yU, List.getD_eq_getElem?_getD, List.getElem?_set_self hjl]; rfl) (fun o => ?_) (fun _ => .inl rfl) h
 by_cases ho : o < nx
 ·rw [zy ho, zy ho]
  by_cases hoi : o = id
  ·subst hoi; rw [Store.set_same, hs]; exact .inr (.inr rfl)
  ·rw [Store.set_other _ _ _ _ hoi]; exact .inr (.inl rfl)
 ·simp only [ext]
  rw [if_neg ho, if_neg ho, List.getD_eq_getElem?_getD, List.getD_eq_getElem?_getD, List.getElem?_set]
  split
  ·simp [hjl]
  ·exact .inr (.inl rfl)
theorem QE {S T : Store} {nx nz : Nat} {obs : List Ob} (hd : zK nx S) (hle : nx ≤ nz) (h : ∀ o, o < nx → T o = S o) (o : Nat) : S o = ext T nz obs o ∨ S o = .dead := by
 by_cases ho : o < nx
 ·rw [zy (by omega), h o ho]; exact .inl rfl
 ·exact .inr (hd o (by omega))
end
def xD (x : Inst) (sol : Cust → List Int → List Visit × Bool) (b : Int) (n : Nat) : Nat → List (List Int) → qC × Int
 | 0, _ => ([], 15)
 | k + 1, pr =>
  if (yi x sol pr).2 ≠ 0 then ([], 15)
  else if jK (yL x (yi x sol pr).1 b n) = 0 then (qj x (yi x sol pr).1 b n, 0)
  else if (yL x (yi x sol pr).1 b n).any wE = true then ([], 15)
  else xD x sol b n k (Zi (yL x (yi x sol pr).1 b n) pr n)
def uA (x : Inst) (sol : Cust → List Int → List Visit × Bool) (b : Int) (n : Nat) : qC × Int := xD x sol b n 8 (qa x n 0)
def Xy (x : Inst) (n : Nat) (sol : Cust → List Int → List Visit × Bool) : Prop := ∀ pr, xB x.cust.length n pr → (yi x sol pr).2 = 0 → VsOk x.cust.length n (yi x sol pr).1
set_option maxHeartbeats 3200000 in
theorem ZbM {x : Inst} {sol : Cust → List Int → List Visit × Bool} {b : Int} {n : Nat} (hx : InstH x) (hn : x.days = n) (hn2 : n ≤ 1000) (hs : Qx x n sol) (hv : Xy x n sol) (hb : b ≤ 9223372036854775807) :
  Pure Tryz.prog 13 [.agg (zt x), I b] (.tup [.agg [L (uA x sol b n).1], I (uA x sol b n).2]) := by
 have hm := hx.cust
 unfold uA
 have hPo := Zbt x n
 refine pwe Tryz.func13 Tryz.ntmps13 Tryz.results13 fun S nx hd => ?_
 repeat apply za
 refine pwn ?_
 intro v0 v1
 repeat apply za
 refine pwY (some [nx]) (Row.pures [0, 1, 2, 3, 4] (.alt 5 (Row.pures [6] (.alt 7 (Row.pures [8] .done) .stop)) .stop)) mixed trivial ?_
 refine ⟨by omega, ?_⟩
 intro v2 v3
 intros
 rw [ZiV]
 refine ZiQ (α := Int) (nx + 2) v2 54 (nx + 4) 3 1 x.cust.length (by simp) (jr (obs := [_, _, _, _])) fun T ws hR hT hdT => ?_
 have hT0 : T nx = .cells v0 25 (zt x) := by rw [hT nx (by omega) (by omega)]; simp
 have hT1 : T (nx + 1) = .cells v1 29 [.sc (.slice none 0 0)] := by rw [hT (nx + 1) (by omega) (by omega)]; simp
 have hT3 : T (nx + 3) = .cells v3 87 (plL x (.sc (.slice none 0 0)) b (.sc (.slice none 0 0)) (.sc (.slice none 0 0)) (.sl (nx + 2) v2 1 0 x.cust.length)) := by rw [hT (nx + 3) (by omega) (by omega)]; simp
 have hTS : ∀ o, o < nx → T o = S o := fun o ho => by rw [hT o (by omega) (by omega), zy ho]
 clear hT
 obtain ⟨nz, hnz⟩ : ∃ nz, nz = nx + 4 + x.cust.length := ⟨_, rfl⟩
 rw [← hnz] at hdT
 rw [show List.replicate x.cust.length ([] : List Int) = qa x 0 0 from (List.ext_getElem? fun j => by
  by_cases h : j < x.cust.length
  ·simp [qa, h]
  ·rw [List.getElem?_eq_none (by simp; omega), List.getElem?_eq_none (by rw [wC]; omega)])] at hR
 rw [← yr hdT]
 repeat apply za
 refine zP [] (by rfl) (by rfl) fun K Gc Gh hK hGc hGh X hX0 hX => ?_
 simp -implicitDefEqProofs [hX0, hX]
 try clear hX0 hX X
 refine hGc _ _ _ _ _ _ _ fun hsuf => (Spec.mono (Zbp (nx := nz) (by rw [yr hdT]; exact hdT) x _ _ _ _ _ _ _ n hn hn2 (by rw [yr hdT]; exact hT3)
  (fun k T' => (∃ ws', RowsAt T' (nx + 2) v2 54 (nx + 4) 3 1 ws' (qa x k 0)) ∧ (∀ o, o ≠ nx + 2 → (o < nx + 4 ∨ nx + 4 + x.cust.length ≤ o) → T' o = T o)) ⟨⟨ws, by rw [yr hdT]; exact hR⟩, fun o _ _ => by rw [yr hdT]⟩
  (fun k T' h o ho => by rw [h.2 o (by omega) (.inr (by omega))]; exact hdT o ho) (fun k hk T' h => ?_)) ?_).v
 ·obtain ⟨⟨ws', h1⟩, h2⟩ := h
  refine (Zi3 k hm (by omega) (by omega) (by omega) ((h2 (nx + 3) (by omega) (.inl (by omega))).trans hT3) h1).mono ?_
  rintro _ T2 ⟨g1, g2⟩
  exact ⟨g1, fun o o1 o2 => (g2 o o1 o2).trans (h2 o o1 o2)⟩
 rintro _ T' ⟨⟨ws', hR'⟩, hT'⟩
 have hdT' : zK nz T' := fun o ho => by rw [hT' o (by omega) (.inr (by omega))]; exact hdT o ho
 refine ⟨T', [], (yr hdT').symm, ?_⟩
 clear hGc hGh
 clear Gc Gh
 refine zL hsuf (D := []) (by rfl) fun Gc Gh hGc hGh X hX0 hX => ?_
 simp -implicitDefEqProofs [hX0, hX]
 clear hX0 hX X
 intros
 refine hK _ _ _ ?_
 clear hK hGc hGh
 clear K Gc Gh
 replace hT0 := (hT' nx (by omega) (.inl (by omega))).trans hT0
 replace hT1 := (hT' (nx + 1) (by omega) (.inl (by omega))).trans hT1
 replace hT3 := (hT' (nx + 3) (by omega) (.inl (by omega))).trans hT3
 replace hTS : ∀ o, o < nx → T' o = S o := fun o ho => (hT' o (by omega) (.inl (by omega))).trans (hTS o ho)
 clear hT' hR hdT
 generalize qa x n 0 = pr0 at *
 (repeat apply za); refine pwn ?_; intros
 repeat apply za
 refine zg (jd (σ := Nat × Store × List (List Int)) (fun s => s.1 ≤ 8 ∧ xB x.cust.length n s.2.2 ∧ xD x sol b n 8 pr0 = xD x sol b n (8 - s.1) s.2.2 ∧ (∃ ws', RowsAt s.2.1 (nx + 2) v2 54 (nx + 4) 3 1 ws' s.2.2) ∧ s.2.1 nx = .cells v0 25 (zt x) ∧ s.2.1 (nx + 1) = .cells v1 29 [.sc (.slice none 0 0)] ∧
  (∃ vP pP fP, s.2.1 (nx + 3) = .cells v3 87 (plL x vP b pP fP (.sl (nx + 2) v2 1 0 x.cust.length))) ∧ (∀ o, o < nx → s.2.1 o = S o) ∧ zK nz s.2.1)
  (fun s => [(2, .ptr nx v0 0), (4, .ptr (nx + 1) v1 0), (6, .ptr (nx + 3) v3 0), (21, I s.1)]) (fun s => s.2.1) (fun _ => []) (fun s => 8 - s.1) (zA (0, T', pr0) [] ⟨by simp, hPo, rfl, ⟨ws', hR'⟩, hT0, hT1, ⟨_, _, _, hT3⟩, hTS, hdT'⟩ (by simp) rfl (by simp)) ?_)
 clear hR' hT0 hT1 hT3 hTS hdT' hPo T'
 rintro ⟨k, T, pr⟩ ⟨hk, hP, hst, ⟨ws, hR⟩, hT0, hT1, ⟨vP, pP, fP, hT3⟩, hTS, hdT⟩
 simp only at hk hP hst hR hT0 hT1 hT3 hTS hdT ⊢
 have x0 := fun obs => (zy (S := T) (nx := nz) (obs := obs) (i := nx) (by omega)).trans hT0
 have x3 := fun obs => (zy (S := T) (nx := nz) (obs := obs) (i := nx + 3) (by omega)).trans hT3
 have g1 : ¬ nz ≤ nx + 1 := by omega
 have x1 := fun obs => (zy (S := T) (nx := nz) (obs := obs) (i := nx + 1) (by omega)).trans hT1
 (repeat apply za); refine pwn ?_; intros
 repeat apply za
 refine zn rfl (fun hc => ?_) (fun hc => ?_)
 ·simp at hc
  rw [show 8 - k = (7 - k) + 1 from by omega] at hst
  have hvs := hv pr hP
  have hch := Zjd (S := T) hm hP hR hs
  rw [show xD x sol b n (7 - k + 1) pr = (if (yi x sol pr).2 ≠ 0 then ([], 15) else if jK (yL x (yi x sol pr).1 b n) = 0 then (qj x (yi x sol pr).1 b n, 0) else if (yL x (yi x sol pr).1 b n).any wE = true then ([], 15) else xD x sol b n (7 - k) (Zi (yL x (yi x sol pr).1 b n) pr n)) from rfl] at hst
  generalize yi x sol pr = cz at hst hvs hch
  obtain ⟨v, e⟩ := cz
  simp only at hst hvs hch
  refine zb (za (zg ?_))
  repeat apply za
  refine xL none (Row.pures [0, 1, 2, 3, 4] (.alt 5 (Row.pures [6, 7, 8, 9, 10] .done) .stop)) mixed (by rfl) (by rfl) (by rfl) fun K Gp Gc Gh hK hGp hGc hGh X hX0 hX1 hX2 hX => ?_
  simp -implicitDefEqProofs [hX0, hX1, hX2, hX, x0, x3]
  try clear hX0 hX1 hX2 hX X
  refine hGc _ _ _ _ _ _ _ (Spec.mono (by rw [yr hdT]; exact hch) ?_).v
  rintro _ S2 ⟨rfl, hS2⟩
  have hS3 : S2 = ext T nz [] := hS2.trans (yr hdT).symm
  subst hS3
  clear hS2
  refine ⟨by simp [zT], ?_⟩
  clear hGp hGc hGh
  clear Gp Gc Gh
  refine qS fun Gp Gc Gh hGp hGc hGh X hX0 hX1 hX2 hX => ?_
  simp -implicitDefEqProofs [hX0, hX1, hX2, hX]
  try clear hX0 hX1 hX2 hX X
  refine hK _ _ _ ?_
  clear hK hGp hGc hGh
  clear K Gp Gc Gh
  (repeat apply za); refine pwn ?_; intros
  by_cases he : e = 0
  case neg =>
   rw [if_pos he] at hst
   rw [hst]
   repeat apply za
   refine zj (by simp [he]) ?_
   repeat apply za
   refine pwN [] (jn3 x0 x1 g1) ?_
   intros
   show PW _ _ _ _ _ _ _ (ext _ _ _)
   refine Y5 (o := nx + 1) 0 (by rw [zy (by omega)]; first | exact Store.set_same _ _ _ | exact hT1) rfl ?_
   rw [xJ _ (by omega)]
   try rw [Store.set_set]
   repeat apply za
   refine ze ⟨_, S, (by simp [zy (show nx + 1 < nz from by omega), Store.set_same]; rfl), ⟨by simp [zk], rfl⟩, ?_⟩
   exact QE hd (by omega) fun o ho => by rw [Store.set_other _ _ _ _ (by omega)]; exact hTS o ho
  rw [if_neg (by simpa using he)] at hst
  have hvs := hvs he
  repeat apply za
  refine zi (by simp [he]) ?_
  refine zb ?_
  repeat apply za
  refine zP [] (by rfl) (by rfl) fun K Gc Gh hK hGc hGh X hX0 hX => ?_
  simp -implicitDefEqProofs [hX0, hX]
  try clear hX0 hX X
  refine hGc _ _ _ _ _ _ _ fun hsuf => (Spec.mono (ZiU (nx := nz) (n := n) (by rw [yr hdT]; exact hdT) (by rw [yr hdT]; exact hT3) hx hn hn2 hvs hb) ?_).v
  rintro _ _ ⟨rfl, vD, vF, rfl⟩
  rw [yr hdT]
  refine ⟨_, _, rfl, ?_⟩
  clear hGc hGh
  clear Gc Gh
  refine zL hsuf (D := []) (by rfl) fun Gc Gh hGc hGh X hX0 hX => ?_
  simp -implicitDefEqProofs [hX0, hX]
  clear hX0 hX X
  intros
  refine hK _ _ _ ?_
  clear hK hGc hGh
  clear K Gc Gh
  have hfl := Zbf x v b n
  have hpl := Qt x v b n
  generalize yL x v b n = fs at *
  generalize qj x v b n = pl at *
  by_cases hf : jK fs = 0
  ·rw [if_pos hf] at hst
   rw [hst]
   repeat apply za
   refine zj (by simp [hf]) ?_
   show PW _ _ _ _ _ _ _ (ext _ _ _)
   refine ZjF 0 (id := nx + 3) rfl (by omega) (Store.set_same _ _ _) ?_
   rw [Store.set_set]
   have hfz : ([I x.days, I x.veh, I x.cap, I x.len, L x.cust, L x.dist, L v, I b, .sl nz vD 1 0 pl.length, .sl (nz + 1) vF 1 0 fs.length, .sl (nx + 2) v2 1 0 x.cust.length] : List PV).map (yC (nz + 0) vD (pl.flatMap Enc.enc)) = plL x (L v) b (L pl) (.sl (nz + 1) vF 1 0 fs.length) (.sl (nx + 2) v2 1 0 x.cust.length) := by
    simp [yC]
    omega
   rw [hfz]
   have y3 := fun (o : Ob) obs => (zy (S := T.set (nx + 3) o) (nx := nz) (obs := obs) (i := nx + 3) (by omega)).trans (Store.set_same _ _ _)
   have y1 := fun (o : Ob) obs => (zy (S := T.set (nx + 3) o) (nx := nz) (obs := obs) (i := nx + 1) (by omega)).trans ((Store.set_other _ _ _ _ (by omega)).trans hT1)
   repeat apply za
   refine pwN [] (jn3 y3 y1 g1) ?_
   intros
   repeat apply za
   refine ze ⟨_, S, (by simp [zy (show nx + 1 < nz from by omega), Store.set_same]; rfl), ⟨by simp [zk], rfl⟩, ?_⟩
   exact QE hd (by omega) fun o ho => by rw [Store.set_other _ _ _ _ (by omega), Store.set_other _ _ _ _ (by omega)]; exact hTS o ho
  rw [if_neg hf] at hst
  repeat apply za
  refine zi (by simp [hf]) ?_
  refine zb ?_
  have y3 := fun (o : Ob) obs => (zy (S := T.set (nx + 3) o) (nx := nz) (obs := obs) (i := nx + 3) (by omega)).trans (Store.set_same _ _ _)
  have y1 := fun (o : Ob) obs => (zy (S := T.set (nx + 3) o) (nx := nz) (obs := obs) (i := nx + 1) (by omega)).trans ((Store.set_other _ _ _ _ (by omega)).trans hT1)
  repeat apply za
  refine zP [] (by rfl) (by rfl) fun K Gc Gh hK hGc hGh X hX0 hX => ?_
  simp -implicitDefEqProofs [hX0, hX, y3]
  try clear hX0 hX X
  refine hGc _ _ _ _ _ _ _ fun hsuf => ((Zjb (idF := nz + 1) (vF := vF) fs (by rw [yU]; rfl) (by omega)).mono ?_).v
  rintro _ _ ⟨rfl, rfl⟩
  refine ⟨_, _, rfl, ?_⟩
  clear hGc hGh
  clear Gc Gh
  refine zL hsuf (D := []) (by rfl) fun Gc Gh hGc hGh X hX0 hX => ?_
  simp -implicitDefEqProofs [hX0, hX]
  clear hX0 hX X
  intros
  refine hK _ _ _ ?_
  clear hK hGc hGh
  clear K Gc Gh
  cases hbad : fs.any wE with
  | true =>
   rw [if_pos hbad] at hst
   rw [hst]
   repeat apply za
   refine zj rfl ?_
   repeat apply za
   refine pwN [] (jn2 y1 g1) ?_
   intros
   show PW _ _ _ _ _ _ _ (ext _ _ _)
   refine Y5 (o := nx + 1) 0 (by rw [zy (by omega)]; first | exact Store.set_same _ _ _ | exact (Store.set_other _ _ _ _ (by omega)).trans hT1) rfl ?_
   rw [xJ _ (by omega)]
   try rw [Store.set_set]
   repeat apply za
   refine ze ⟨_, S, (by simp [zy (show nx + 1 < nz from by omega), Store.set_same]; rfl), ⟨by simp [zk], rfl⟩, ?_⟩
   exact QE hd (by omega) fun o ho => by rw [Store.set_other _ _ _ _ (by omega), Store.set_other _ _ _ _ (by omega)]; exact hTS o ho
  | false =>
   rw [if_neg (by rw [hbad]; decide)] at hst
   repeat apply za
   refine zi rfl ?_
   refine zb ?_
   generalize hT2 : ext (T.set (nx + 3) (.cells v3 87 (plL x (L v) b (.sl nz vD 1 0 pl.length) (.sl (nz + 1) vF 1 0 fs.length) (.sl (nx + 2) v2 1 0 x.cust.length)))) nz [.cells vD 66 (pl.flatMap Enc.enc), .cells vF 30 (fs.flatMap Enc.enc)] = T2
   have q3 : T2 (nx + 3) = .cells v3 87 (plL x (L v) b (.sl nz vD 1 0 pl.length) (.sl (nz + 1) vF 1 0 fs.length) (.sl (nx + 2) v2 1 0 x.cust.length)) := by rw [← hT2, zy (by omega), Store.set_same]
   have qF : T2 (nz + 1) = .cells vF 30 (fs.flatMap Enc.enc) := by rw [← hT2, yU]; rfl
   have qo : ∀ o, o < nz → o ≠ nx + 3 → T2 o = T o := fun o h1 h2 => by rw [← hT2, zy h1, Store.set_other _ _ _ _ h2]
   have qd : zK (nz + 2) T2 := by rw [← hT2]; exact jr (obs := [_, _])
   have qR : RowsAt T2 (nx + 2) v2 54 (nx + 4) 3 1 ws pr := hR.other fun o ho => by
    rw [hP.1] at ho
    exact qo o (by omega) (by omega)
   clear hT2
   rw [← yr qd]
   repeat apply za
   refine zP [] (by rfl) (by rfl) fun K Gc Gh hK hGc hGh X hX0 hX => ?_
   simp -implicitDefEqProofs [hX0, hX]
   try clear hX0 hX X
   refine hGc _ _ _ _ _ _ _ fun hsuf => (Spec.mono (Zbp (nx := nz + 2) (by rw [yr qd]; exact qd) x _ _ _ _ _ _ _ n hn hn2 (by rw [yr qd]; exact q3)
    (fun k T' => RowsAt T' (nx + 2) v2 54 (nx + 4) 3 1 ws (Zi fs pr k) ∧ (∀ o, (o < nx + 4 ∨ nx + 4 + x.cust.length ≤ o) → T' o = T2 o)) ⟨by rw [yr qd]; exact qR, fun o _ => by rw [yr qd]⟩
    (fun k T' h o ho => by rw [h.2 o (.inr (by omega))]; exact qd o ho) (fun j hj T' h => ?_)) ?_).v
   ·obtain ⟨h1, h2⟩ := h
    refine (Zi8 (n := n) j hm hn2 hj (by omega) (by omega) ((h2 (nz + 1) (.inr (by omega))).trans qF) hfl ((h2 (nx + 3) (.inl (by omega))).trans q3) (Z6 fs hP j) h1).mono ?_
    rintro _ T3 ⟨r1, r2⟩
    exact ⟨r1, fun o o1 => (r2 o o1).trans (h2 o o1)⟩
   rintro _ T3 ⟨hR3, hT3'⟩
   have hd3 : zK (nz + 2) T3 := fun o ho => by rw [hT3' o (.inr (by omega))]; exact qd o ho
   refine ⟨T3, [], (yr hd3).symm, ?_⟩
   clear hGc hGh
   clear Gc Gh
   refine zL hsuf (D := []) (by rfl) fun Gc Gh hGc hGh X hX0 hX => ?_
   simp -implicitDefEqProofs [hX0, hX]
   clear hX0 hX X
   intros
   refine hK _ _ _ ?_
   clear hK hGc hGh
   clear K Gc Gh
   rw [yr hd3]
   refine Wu (T' := fun o => if o < nz then T3 o else .dead) (fun o => by by_cases ho : o < nz <;> simp [ho]) ?_
   generalize hT4 : (fun o => if o < nz then T3 o else Ob.dead) = T4
   have q4 : ∀ o, o < nz → T4 o = T3 o := fun o ho => by rw [← hT4]; simp [ho]
   have qd4 : zK nz T4 := fun o ho => by rw [← hT4]; simp; omega
   clear hT4
   rw [← yr qd4]
   (repeat apply za); refine pwn ?_; intros
   refine zm (k + 1, T4, Zi fs pr n) [] ⟨by dsimp only; omega, Z6 fs hP n, by rw [hst, show 8 - (k + 1) = 7 - k from by omega], ⟨ws, hR3.other fun o ho => q4 o (by rw [(Z6 fs hP n).1] at ho; omega)⟩, ?_, ?_, ⟨L v, .sl nz vD 1 0 pl.length, .sl (nz + 1) vF 1 0 fs.length, ?_⟩, fun o ho => ?_, qd4⟩ (by simp; omega) (by simp [wrN k (by omega)]) rfl (by simp)
   ·dsimp only; rw [q4 _ (by omega), hT3' _ (.inl (by omega)), qo _ (by omega) (by omega)]; exact hT0
   ·dsimp only; rw [q4 _ (by omega), hT3' _ (.inl (by omega)), qo _ (by omega) (by omega)]; exact hT1
   ·dsimp only; rw [q4 _ (by omega), hT3' _ (.inl (by omega))]; exact q3
   ·dsimp only; rw [q4 _ (by omega), hT3' _ (.inl (by omega)), qo _ (by omega) (by omega)]; exact hTS o ho
 ·simp at hc
  obtain rfl : k = 8 := by omega
  rw [hst]
  refine zo ?_
  repeat apply za
  refine pwN [] (jn2 x1 g1) ?_
  intros
  show PW _ _ _ _ _ _ _ (ext _ _ _)
  refine Y5 (o := nx + 1) 0 (by rw [zy (by omega)]; first | exact Store.set_same _ _ _ | exact hT1) rfl ?_
  rw [xJ _ (by omega)]
  try rw [Store.set_set]
  repeat apply za
  refine ze ⟨_, S, (by simp [zy (show nx + 1 < nz from by omega), Store.set_same]; rfl), ⟨by simp [zk, xD], rfl⟩, ?_⟩
  exact QE hd (by omega) fun o ho => by rw [Store.set_other _ _ _ _ (by omega)]; exact hTS o ho
open Go Go.Proofs Hp
def qY : List Int → Int
 | [] => -1
 | d :: ds => (d :: ds).getLast (by simp)
theorem Ya (ds : List Int) (d : Int) : qY (ds ++ [d]) = d := by
 cases ds with
 | nil => rfl
 | cons a ds => show (a :: (ds ++ [d])).getLast _ = d; rw [List.getLast_cons (by simp), List.getLast_append_of_ne_nil _ (by simp)]; rfl
def ZbN (c : Cust) (cap : Int) (last d : Int) : Prop := 0 ≤ (yd c last d).1 ∧ qX c (yd c last d).1 cap ≠ 0
inductive FilS (c : Cust) (cap : Int) (n : Nat) : List Int → Prop where
 | nil : FilS c cap n []
 | snoc {ds : List Int} {d : Int} (h : FilS c cap n ds) (h1 : qY ds < d) (h2 : d < n) (h3 : ZbN c cap (qY ds) d) : FilS c cap n (ds ++ [d])
theorem FilS.lo {c : Cust} {cap : Int} {n : Nat} {ds : List Int} (h : FilS c cap n ds) : -1 ≤ qY ds ∧ (∀ d ∈ ds, 0 ≤ d ∧ d < n ∧ d ≤ qY ds) := by
 induction h with
 | nil => exact ⟨by decide, by simp⟩
 | snoc h h1 h2 h3 ih =>
  rw [Ya]
  refine ⟨by omega, fun d hd => ?_⟩
  rcases List.mem_append.1 hd with hd | hd
  ·have := ih.2 d hd; omega
  ·rw [List.mem_singleton.1 hd]; omega
theorem FilS.inc {c : Cust} {cap : Int} {n : Nat} {ds : List Int} (h : FilS c cap n ds) : ds.Pairwise (· < ·) := by
 induction h with
 | nil => exact .nil
 | snoc h h1 h2 h3 ih =>
  rw [List.pairwise_append]
  refine ⟨ih, by simp, fun a ha b hb => ?_⟩
  rw [List.mem_singleton.1 hb]
  have := h.lo.2 a ha; omega
theorem Xz (c : Cust) (ds : List Int) : (zV c ds).2 = qY ds := by
 rcases List.eq_nil_or_concat ds with rfl | ⟨l, d, rfl⟩
 ·rfl
 ·rw [List.concat_eq_append, Zk, Ya]; rfl
theorem XA (c : Cust) : ∀ ds : List Int, (zV c ds).1.map (·.d) = ds := by
 have : ∀ (ds : List Int) (st : List Visit × Int), (ds.foldl (xZ c) st).1.map (·.d) = st.1.map (·.d) ++ ds := by
  intro ds
  induction ds with
  | nil => intro st; simp
  | cons d ds ih => intro st; rw [List.foldl_cons, ih]; simp [xZ]
 intro ds
 unfold zV; rw [this]; simp
theorem XB {c : Cust} (hc : CustFits c) {cap last d : Int} (h : ZbN c cap last d) : W (c.size - (yd c last d).1) = c.size - (yd c last d).1 ∧ 1 ≤ c.size - (yd c last d).1 ∧ c.size - (yd c last d).1 ≤ 2147483648 ∧ (c.rule = 1 → c.size - (yd c last d).1 ≤ cap) := by
 obtain ⟨h1, h2⟩ := h
 have hs := hc.size
 generalize (yd c last d).1 = th at *
 unfold qX at h2
 split at h2
 ·exact absurd rfl h2
 rename_i h3
 refine ⟨wr _ (by omega) (by omega), by omega, by omega, fun hr => ?_⟩
 split at h2
 ·assumption
 ·first | exact absurd rfl h2 | exact absurd hr (by assumption) | (rw [if_pos hr] at h2; exact absurd rfl h2)
theorem ZbO {c : Cust} (hc : CustFits c) {cap : Int} {n : Nat} (hn : n ≤ 60) {ds : List Int} (h : FilS c cap n ds) : GoodV n (zV c ds).1 := by
 have hlen : ds.length ≤ 64 := by
  have h1 := Zji (m := n) ds (h.inc.imp fun h => Int.ne_of_lt h) (fun d hd => by have := h.lo.2 d hd; omega)
  omega
 refine ⟨by rw [ZbH]; exact hlen, ?_, by rw [XA]; exact h.inc.imp fun h => Int.ne_of_lt h⟩
 induction h with
 | nil => intro s hs; cases hs
 | @snoc ds d h h1 h2 h3 ih =>
  intro s hs
  rw [Zk] at hs
  simp only [xZ] at hs
  rcases List.mem_append.1 hs with hs | hs
  ·exact ih (by simp at hlen; omega) s hs
  ·rw [List.mem_singleton.1 hs]
   rw [Xz]
   obtain ⟨q1, q2, q3, -⟩ := XB hc h3
   have := h.lo.1
   refine ⟨by dsimp only; omega, ?_⟩
   dsimp only
   rw [q1]; omega
def vH (tab : List Stp) : Nat → Int → List Int
 | 0, _ => []
 | f + 1, d => if d < 0 then [] else d :: vH tab f (tab.getD d.toNat zs).l
def QF (c : Cust) (n : Nat) (cap : Int) (tab : List Stp) : Prop := ∀ (d : Nat) (e : Stp), tab[d]? = some e → e ≠ zs → -1 ≤ e.l ∧ e.l < d ∧ (0 ≤ e.l → tab.getD e.l.toNat zs ≠ zs) ∧ 0 ≤ (yd c e.l d).1 ∧ (d < n → qX c (yd c e.l d).1 cap ≠ 0)
theorem ZbP (c : Cust) (n : Nat) (cap : Int) (price : List Int) : ∀ k, QF c n cap (qb c n cap price k)
 | 0 => by intro d e h; cases h
 | k + 1 => by
  have ih := ZbP c n cap price k
  have hl := Z9 c n cap price k
  have he := QC c n cap price (qb c n cap price k) k (k + 1)
  have hok := Xx c n cap price (k + 1)
  intro d e h hne
  have hok := hok d e h
  simp only [qb] at h hok ⊢
  rcases hok with q | ⟨-, q2, q3, q4⟩
  ·exact absurd q hne
  refine ⟨q2, q3, q4, ?_⟩
  by_cases hd : d < k
  ·rw [List.getElem?_append_left (by omega)] at h
   exact (ih d e h hne).2.2.2
  ·rw [List.getElem?_append_right (by omega), hl] at h
   obtain rfl : d = k := by
    rcases Nat.lt_or_ge (d - k) 1 with q | q
    ·omega
    ·rw [List.getElem?_eq_none (by simpa using q)] at h; cases h
   rw [Nat.sub_self] at h
   simp only [List.getElem?_cons_zero, Option.some.injEq] at h
   subst h
   rcases he with q | ⟨-, -, -, p4⟩
   ·exact absurd q hne
   ·have := p4.2
    exact ⟨by omega, fun hdn hm => this (.inr ⟨hdn, hm⟩)⟩
theorem XC {c : Cust} {n : Nat} {cap : Int} {tab : List Stp} (h : QF c n cap tab) : ∀ (f : Nat) (d : Int), -1 ≤ d → d < f → d < n → (0 ≤ d → tab.getD d.toNat zs ≠ zs) → FilS c cap n (vH tab f d).reverse ∧ qY (vH tab f d).reverse = d
 | 0, d, h1, h2, _, _ => by
  obtain rfl : d = -1 := by omega
  exact ⟨.nil, rfl⟩
 | f + 1, d, h1, h2, h3, h4 => by
  unfold vH
  by_cases hd : d < 0
  ·rw [if_pos hd]
   obtain rfl : d = -1 := by omega
   exact ⟨.nil, rfl⟩
  ·rw [if_neg hd, List.reverse_cons]
   have h4 := h4 (by omega)
   obtain ⟨i, rfl⟩ := Int.eq_ofNat_of_zero_le (show 0 ≤ d by omega)
   rw [Int.toNat_natCast] at h4 ⊢
   have he : ∃ e, tab[i]? = some e ∧ tab.getD i zs = e := by
    cases hq : tab[i]? with
    | none => exfalso; apply h4; rw [List.getD_eq_getElem?_getD, hq]; rfl
    | some e => exact ⟨e, rfl, by rw [List.getD_eq_getElem?_getD, hq]; rfl⟩
   obtain ⟨e, he1, he2⟩ := he
   rw [he2] at h4 ⊢
   obtain ⟨g1, g2, g3, g4, g5⟩ := h i e he1 h4
   obtain ⟨p1, p2⟩ := XC h f e.l g1 (by omega) (by omega) g3
   exact ⟨.snoc p1 (by rw [p2]; exact g2) h3 (by rw [p2]; exact ⟨g4, g5 (by omega)⟩), Ya _ _⟩
theorem ZjG (s : Nat) (d i : Nat) (hd : d < 64) : zX (jI s d) i = 1 ↔ zX s i = 1 ∨ i = d := by
 have h : ((jI s d).testBit i) = (s.testBit i || decide (d = i)) := by
  unfold jI
  rw [if_pos (by omega), Int.toNat_natCast, Nat.testBit_or, Nat.testBit_two_pow]
 rw [Z4, Z4] at h
 have h2 : decide (zX (jI s d) i = 1) = (decide (zX s i = 1) || decide (d = i)) := by simpa using h
 constructor
 ·intro q
  rw [decide_eq_true q] at h2
  have := h2.symm
  rw [Bool.or_eq_true, decide_eq_true_eq, decide_eq_true_eq] at this
  omega
 ·intro q
  have : (decide (zX s i = 1) || decide (d = i)) = true := by
   rw [Bool.or_eq_true, decide_eq_true_eq, decide_eq_true_eq]; omega
  rw [this] at h2
  exact of_decide_eq_true h2
theorem ZbQ {c : Cust} {n : Nat} {cap : Int} {tab : List Stp} (h : QF c n cap tab) (hn : n ≤ 60) : ∀ (f s : Nat) (d : Int), -1 ≤ d → d < n → (0 ≤ d → tab.getD d.toNat zs ≠ zs) → ∀ i : Nat, zX (jY tab f s d) i = 1 ↔ zX s i = 1 ∨ (i : Int) ∈ vH tab f d
 | 0, s, d, _, _, _ => fun i => by simp [jY, vH]
 | f + 1, s, d, h1, h3, h4 => fun i => by
  unfold jY vH
  by_cases hd : d < 0
  ·rw [if_pos hd, if_pos hd]; simp
  ·rw [if_neg hd, if_neg hd]
   have h4 := h4 (by omega)
   obtain ⟨k, rfl⟩ := Int.eq_ofNat_of_zero_le (show 0 ≤ d by omega)
   rw [Int.toNat_natCast] at h4 ⊢
   have he : ∃ e, tab[k]? = some e ∧ tab.getD k zs = e := by
    cases hq : tab[k]? with
    | none => exfalso; apply h4; rw [List.getD_eq_getElem?_getD, hq]; rfl
    | some e => exact ⟨e, rfl, by rw [List.getD_eq_getElem?_getD, hq]; rfl⟩
   obtain ⟨e, he1, he2⟩ := he
   rw [he2] at h4 ⊢
   obtain ⟨g1, g2, g3, -⟩ := h k e he1 h4
   rw [ZbQ h hn f _ e.l g1 (by omega) g3 i, ZjG s k i (by omega), List.mem_cons, Int.natCast_inj, or_assoc]
theorem ZjH : ∀ {a b : List Int}, a.Pairwise (· < ·) → b.Pairwise (· < ·) → (∀ z, z ∈ a ↔ z ∈ b) → a = b := by
 intro a b ha hb h
 have hp : a.Perm b := (List.perm_ext_iff_of_nodup (ha.imp fun h => Int.ne_of_lt h) (hb.imp fun h => Int.ne_of_lt h)).2 h
 exact Zaa hp (ha.imp fun h => Int.le_of_lt h) (hb.imp fun h => Int.le_of_lt h)
theorem ZbR (s a k : Nat) : (zS s a k).Pairwise (· < ·) := by
 unfold zS
 rw [List.pairwise_map]
 have h : (List.range k).Pairwise (· < ·) := List.pairwise_lt_range
 exact (h.sublist List.filter_sublist).imp fun h => by omega
theorem ZjI {c : Cust} {n : Nat} {cap : Int} {tab : List Stp} (h : QF c n cap tab) (hn : n ≤ 60) {d : Int} (h1 : -1 ≤ d) (h3 : d < n) (h4 : 0 ≤ d → tab.getD d.toNat zs ≠ zs) : zS (jY tab 65 0 d) 0 64 = (vH tab 65 d).reverse := by
 obtain ⟨hf, -⟩ := XC h 65 d h1 (by omega) h3 h4
 refine ZjH (ZbR _ _ _) hf.inc fun z => ?_
 have hb := ZbQ h hn 65 0 d h1 h3 h4
 have h0 : ∀ i, ¬ zX 0 i = 1 := by intro i; simp [zX]
 rw [List.mem_reverse]
 constructor
 ·intro hz
  obtain ⟨i, rfl, _, hi⟩ := Qy hz
  exact ((hb i).1 hi).resolve_left (h0 i)
 ·intro hz
  have hlo := hf.lo.2 z (List.mem_reverse.2 hz)
  obtain ⟨i, rfl⟩ := Int.eq_ofNat_of_zero_le hlo.1
  simp only [zS, List.mem_map, List.mem_filter, List.mem_range, Bool.and_eq_true, decide_eq_true_eq]
  exact ⟨i, ⟨by omega, by omega, (hb i).2 (.inr hz)⟩, rfl⟩
theorem ZbS {c : Cust} {n : Nat} (hn : n ≤ 60) {cap : Int} {price : List Int} (h : (vG c n cap price).2 = true) : ∃ ds, FilS c cap n ds ∧ 0 ≤ (yd c (qY ds) n).1 ∧ (vG c n cap price).1 = (zV c ds).1 := by
 have hfit := ZbP c n cap price (n + 1)
 have hl := Z9 c n cap price (n + 1)
 unfold vG at h ⊢
 generalize qb c n cap price (n + 1) = tab at *
 split at h
 ·cases h
 rename_i hne
 rw [if_neg hne]
 have he : ∃ e, tab[n]? = some e ∧ tab.getD n zs = e := ⟨_, List.getElem?_eq_getElem (by omega), by rw [List.getD_eq_getElem?_getD, List.getElem?_eq_getElem (by omega)]; rfl⟩
 obtain ⟨e, he1, he2⟩ := he
 rw [he2] at hne ⊢
 obtain ⟨g1, g2, g3, g4, -⟩ := hfit n e he1 hne
 obtain ⟨p1, p2⟩ := XC hfit 65 e.l g1 (by omega) g2 g3
 exact ⟨_, p1, by rw [p2]; exact g4, by rw [ZjI hfit hn g1 g2 g3]⟩
def jC (n : Nat) (cap : Int) (c : Cust) (price : List Int) : List Visit × Bool :=
 if c.kind = 1 then jB c cap price else if c.rule = 1 then vG c n cap price else uz c n cap price
set_option maxRecDepth 20000 in
theorem ZjJ {S : Store} {pl : PV} {price : List Int} (c : Cust) (n : Nat) (cap : Int) (hR : RowOf S pl price) (hp : ∀ z ∈ price, I64 z) (hpl : price.length ≤ 1000) (hm : CustMade c n) (hpc : c.pats.length ≤ 1000) (hn : n ≤ 60) :
  Spec Tryz.prog 88 [.agg (zB c), I n, I cap, pl] S (fun q S' => q = .tup [L (jC n cap c price).1, B (jC n cap c price).2] ∧ S' = S) := by
 unfold jC
 by_cases hk : c.kind = 1
 ·rw [if_pos hk]
  exact Zby c n cap hk hR hp hpl hpc hm.pats
 rw [if_neg hk]
 by_cases hr : c.rule = 1
 ·rw [if_pos hr]
  have hs := fun S (hR : RowOf S pl price) => ZjE c n cap hR hm.fits hn
  generalize vG c n cap price = r at *
  obtain ⟨v, ok⟩ := r
  simp only at hs ⊢
  refine y9 Tryz.func88 Tryz.ntmps88 Tryz.results88 fun nx hd => ?_
  repeat apply za
  refine pwn ?_
  intro v0
  repeat apply za
  refine zg ?_
  repeat apply za
  refine pwN [] hk ?_
  intros
  repeat apply za
  refine zi (by simp [hk]) ?_
  repeat apply za
  refine pwN [] hr ?_
  intros
  repeat apply za
  refine zj (by simp [hr]) ?_
  repeat apply za
  refine zP [] (by rfl) (by rfl) fun K Gc Gh hK hGc hGh X hX0 hX => ?_
  simp -implicitDefEqProofs [hX0, hX]
  try clear hX0 hX X
  refine hGc _ _ _ _ _ _ _ fun hsuf => ((hs _ (hR.ext hd _)).mono ?_).v
  rintro _ _ ⟨rfl, rfl⟩
  refine ⟨_, _, rfl, ?_⟩
  clear hGc hGh
  clear Gc Gh
  refine zL hsuf (D := []) (by rfl) fun Gc Gh hGc hGh X hX0 hX => ?_
  simp -implicitDefEqProofs [hX0, hX]
  clear hX0 hX X
  intros
  refine hK _ _ _ ?_
  clear hK hGc hGh
  clear K Gc Gh
  repeat apply za
  exact ze ⟨_, S, (by simp; rfl), ⟨by simp [zk], rfl⟩, zO hd⟩
 ·rw [if_neg hr]
  have hs := fun S (hR : RowOf S pl price) => Zjv c n cap hR hm.fits (by omega)
  generalize uz c n cap price = r at *
  obtain ⟨v, ok⟩ := r
  simp only at hs ⊢
  refine y9 Tryz.func88 Tryz.ntmps88 Tryz.results88 fun nx hd => ?_
  repeat apply za
  refine pwn ?_
  intro v0
  repeat apply za
  refine zg ?_
  repeat apply za
  refine pwN [] hk ?_
  intros
  repeat apply za
  refine zi (by simp [hk]) ?_
  repeat apply za
  refine pwN [] hr ?_
  intros
  repeat apply za
  refine zi (by simp [hr]) ?_
  refine zb ?_
  repeat apply za
  refine zP [] (by rfl) (by rfl) fun K Gc Gh hK hGc hGh X hX0 hX => ?_
  simp -implicitDefEqProofs [hX0, hX]
  try clear hX0 hX X
  refine hGc _ _ _ _ _ _ _ fun hsuf => ((hs _ (hR.ext hd _)).mono ?_).v
  rintro _ _ ⟨rfl, rfl⟩
  refine ⟨_, _, rfl, ?_⟩
  clear hGc hGh
  clear Gc Gh
  refine zL hsuf (D := []) (by rfl) fun Gc Gh hGc hGh X hX0 hX => ?_
  simp -implicitDefEqProofs [hX0, hX]
  clear hX0 hX X
  intros
  refine hK _ _ _ ?_
  clear hK hGc hGh
  clear K Gc Gh
  repeat apply za
  exact ze ⟨_, S, (by simp; rfl), ⟨by simp [zk], rfl⟩, zO hd⟩
theorem ZjK {c : Cust} {n : Nat} (hm : CustMade c n) (hk : c.kind = 1) {p : Nat} (hp : p ∈ c.pats) : GoodV n (qO c p) := by
 obtain ⟨h1, h2⟩ := hm.per hk
 refine ⟨by simp only [qO, List.length_map]; exact ur _ _ _, fun s hs => ?_, by simp only [qO, List.map_map]; exact (by simpa [Function.comp_def] using ZiW p 0 64)⟩
 simp only [qO, List.mem_map] at hs
 obtain ⟨d, hd, rfl⟩ := hs
 have h0 : 0 ≤ d := by
  simp only [zS, List.mem_map] at hd
  obtain ⟨i, _, rfl⟩ := hd; omega
 exact ⟨⟨h0, h1 p hp d hd⟩, h2⟩
theorem ZbT {c : Cust} {cap : Int} {price : List Int} (h : (jB c cap price).2 = true) : ∃ p ∈ c.pats, (p = 0 ∨ c.demand ≤ cap) ∧ (jB c cap price).1 = qO c p := by
 unfold jB at h ⊢
 split at h
 ·cases h
 rename_i hn
 rw [if_neg hn]
 have hb := Xv price (qK c cap) (qK c cap).length
 have hlt : (yR price (qK c cap) (qK c cap).length).1.toNat < (qK c cap).length := by omega
 have hm : (qK c cap).getD (yR price (qK c cap) (qK c cap).length).1.toNat 0 ∈ qK c cap := by
  rw [List.getD_eq_getElem?_getD, List.getElem?_eq_getElem hlt]; exact List.getElem_mem hlt
 obtain ⟨h1, h2⟩ := List.mem_filter.1 hm
 exact ⟨_, h1, by simpa using h2, rfl⟩
theorem ZbU {c : Cust} {n : Nat} (hm : CustMade c n) (hn : n ≤ 60) (cap : Int) (price : List Int) (h : (jC n cap c price).2 = true) : GoodV n (jC n cap c price).1 := by
 unfold jC at h ⊢
 by_cases hk : c.kind = 1
 ·rw [if_pos hk] at h ⊢
  obtain ⟨p, hp, -, e⟩ := ZbT h
  rw [e]; exact ZjK hm hk hp
 rw [if_neg hk] at h ⊢
 by_cases hr : c.rule = 1
 ·rw [if_pos hr] at h ⊢
  obtain ⟨ds, h1, -, e⟩ := ZbS hn h
  rw [e]; exact ZbO hm.fits hn h1
 ·rw [if_neg hr] at h ⊢
  have hD : GoodV n (zI 0 (xC c n cap).1) := Zbk (ux hm.fits (QA hm.fits cap) n).2 (Nat.le_of_eq (uv _ _ _)) (by omega)
  have hL : GoodV n (zI 0 (xY c n cap).1) := Zbk (ux hm.fits (QB hm.fits cap) n).2 (Nat.le_of_eq (uv _ _ _)) (by omega)
  unfold uz at h ⊢
  split
  ·exact hL
  ·rename_i h1
   rw [if_neg h1] at h
   split
   ·exact hD
   ·rename_i h2; rw [if_neg h2] at h; cases h
structure InstA (x : Inst) (n : Nat) : Prop where
 h : InstH x
 days : x.days = n
 n60 : n ≤ 60
 made : ∀ c ∈ x.cust, CustMade c n
 pats : ∀ c ∈ x.cust, c.pats.length ≤ 1000
theorem ZjL {x : Inst} {n : Nat} (h : InstA x n) : Qx x n (jC n x.cap) := by
 intro c hc l hl hi S pl hR
 rw [h.days]
 have := h.n60
 exact ZjJ c n x.cap hR hi (by omega) (h.made c hc) (h.pats c hc) h.n60
theorem ZbV {x : Inst} {sol : Cust → List Int → List Visit × Bool} {pr : List (List Int)} (h : (yi x sol pr).2 = 0) : (yi x sol pr).1.length = x.cust.length ∧ ∀ i c, x.cust[i]? = some c → (yi x sol pr).1[i]? = some (sol c (pr.getD i [])).1 ∧ (sol c (pr.getD i [])).2 = true := by
 unfold yi at h ⊢
 split at h
 ·rename_i hall
  rw [if_pos hall]
  refine ⟨by simp [xn], fun i c hc => ?_⟩
  have hi := (List.getElem?_eq_some_iff.1 hc).1
  have hg : x.cust.getD i default = c := by rw [List.getD_eq_getElem?_getD, hc]; rfl
  refine ⟨by simp only [xn, List.map_map, List.getElem?_map, List.getElem?_range hi, Option.map_some, Function.comp_apply, hg], ?_⟩
  have := List.all_eq_true.1 hall _ (Zbu x sol pr hi)
  rw [hg] at this; exact this
 ·cases h
theorem ZbW {x : Inst} {n : Nat} (h : InstA x n) : Xy x n (jC n x.cap) := by
 intro pr hP h0
 obtain ⟨h1, h2⟩ := ZbV h0
 have key : ∀ l ∈ (yi x (jC n x.cap) pr).1, GoodV n l := by
  intro l hl
  obtain ⟨i, hi, rfl⟩ := List.getElem_of_mem hl
  have hic : i < x.cust.length := by omega
  obtain ⟨e1, e2⟩ := h2 i _ (List.getElem?_eq_getElem hic)
  rw [List.getElem?_eq_getElem hi] at e1
  rw [Option.some.inj e1]
  exact ZbU (h.made _ (List.getElem_mem hic)) h.n60 _ _ e2
 exact ⟨h1, fun l hl w hw => (key l hl).ok w hw, fun l hl => (key l hl).nd, fun l hl => by have := (key l hl).len; omega⟩
def jn (x : Inst) (b : Int) : qC × Int := uA x (jC x.days.toNat x.cap) b x.days.toNat
theorem ZjM {x : Inst} {n : Nat} (h : InstA x n) {b : Int} (hb : b ≤ 9223372036854775807) : Pure Tryz.prog 13 [.agg (zt x), I b] (.tup [.agg [L (jn x b).1], I (jn x b).2]) := by
 have hd : x.days.toNat = n := by rw [h.days]; rfl
 unfold jn
 rw [hd]
 exact ZbM h.h h.days (by have := h.n60; omega) (ZjL h) (ZbW h) hb
theorem ZjN (x : Inst) (c l : Int) : InstA (Zjh x 6 c l) (zN x).days.toNat := by
 have hd := Qz x
 refine ⟨⟨Nat.le_trans (JO x) (by decide), ZaQ x, ZaK x, by show (0 : Int) ≤ 6; decide⟩, ?_, by omega, fun c hc => ?_, fun c hc => ?_⟩
 ·show (zN x).days = _; omega
 ·obtain ⟨c0, rfl⟩ := Xt x hc
  exact Zjg c0 _ hd.1 hd.2
 ·obtain ⟨c0, rfl⟩ := Xt x hc
  unfold qE
  split
  ·simp
  ·simp only [vZ]; split
   ·simp
   ·simp; omega
theorem ZbX (x : Inst) : InstA (zN x) (zN x).days.toNat := by
 have hd := Qz x
 have h := ZjN x (zN x).cap (zN x).len
 exact ⟨⟨Nat.le_trans (JO x) (by decide), ZaQ x, ZaK x, ZhY x⟩, by omega, h.n60, h.made, h.pats⟩
open Go Go.Proofs Hp
def woP (c : Int) (p : qC) : qC := p.map (qV c)
set_option maxHeartbeats 1600000 in
theorem ZjO (p : qC) (c : Int) (hp : p.length ≤ 1000) (hd0 : ∀ d ∈ p, d.length ≤ 1048576) (ht : ∀ d ∈ p, ∀ t ∈ d, t.length ≤ 1048576) : Pure Tryz.prog 28 [.agg [L p], I c] (.agg [L (woP c p)]) := by
 unfold woP
 refine pwe Tryz.func28 Tryz.ntmps28 Tryz.results28 fun S nx hd => ?_
 repeat apply za
 refine pwn ?_
 intro v0 v1
 repeat apply za
 refine pwn ?_
 intro v2
 refine qB 2 0 66 1 rfl rfl fun v3 => ?_
 (repeat apply za); refine pwn ?_; intros
 repeat apply za
 refine zg (zr (fun s : Nat × qC × Nat => s.1 ≤ p.length ∧ s.2.1 = (p.take s.1).map (qV c)) (fun (k, q, w) => [(1, I c), (4, .ptr (nx + 1) v1 0), (5, .ptr (nx + 2) v2 0), (11, L p), (12, I p.length), (13, I k)]) (fun (k, q, w) => [.cells v0 29 [L p], .cells v1 29 [yx], .cells v2 29 [.sl (nx + 3) w 1 0 q.length], .cells w 66 (q.flatMap Enc.enc)]) (fun s => p.length - s.1) (0, [], v3) [] (by simp) (by simp) (by simp) ?_)
 rintro ⟨k, q, w⟩ ⟨hk, hq⟩
 simp only at hk hq ⊢
 have hql : q.length = k := by rw [hq]; simp; omega
 (repeat apply za); refine pwn ?_; intros
 repeat apply za
 refine zn rfl (fun hc => ?_) (fun hc => ?_)
 ·simp at hc
  obtain ⟨d, tl, a1, a2, a3, e0⟩ := el1 rfl p k hc
  have hdm := List.mem_of_getElem? a1
  have hr := Zg8 d c (hd0 d hdm) (ht d hdm)
  generalize hrd : qV c d = rd at hr
  have hk1 : 1 ≤ p.length - k := by omega
  have hqf : (q.flatMap Enc.enc : List PV).length = q.length := js q
  have hqt : (q.flatMap Enc.enc : List PV).take q.length = q.flatMap Enc.enc := List.take_of_length_le (by omega)
  refine zb (za (zg ?_))
  repeat apply za
  refine pwN [] (jn3 hc e0 hk1) ?_
  intro v4
  repeat apply za
  refine pwn ?_
  refine pwc hr ?_
  intro v5
  intros
  repeat apply za
  refine pwN [] (jn2 hqf hqt) ?_
  refine ⟨by omega, ?_⟩
  intros
  (repeat apply za); refine pwn ?_; intros
  exact zm (k + 1, q ++ [rd], w + 1) [_, _] ⟨hc, by rw [a3, List.map_append, hq, ← hrd]; rfl⟩ (by simp; omega) (by simp [wrN k (by omega)]) rfl (by simp; exact ⟨rfl, rfl⟩)
 ·simp at hc
  obtain rfl : k = p.length := by omega
  rw [List.take_length] at hq
  refine zo ?_
  refine zM 3 rfl ?_
  (repeat apply za); refine pwn ?_; intros
  repeat apply za
  exact ze (zh hd (by simp; rfl) (by simp [zk, hq]))
open Go Go.Proofs Hp
def vI : Cust := ⟨1, 1, [1], 0, 0, 0, 0, 0⟩
def x19 : Inst := ⟨1, 1, 9, 9, [vI], [[0, 3], [4, 0]]⟩
def uB (c : Cust) (l : List Int) : List Visit × Bool := jB c 9 l
theorem XE : InstH x19 := by
 refine ⟨by decide, by decide, Zaj fun row hr d hd => ?_, by decide⟩
 simp only [x19, List.mem_cons, List.not_mem_nil, or_false] at hr
 rcases hr with rfl | rfl <;> simp only [List.mem_cons, List.not_mem_nil, or_false] at hd <;> rcases hd with rfl | rfl <;> decide
theorem ZjP (l : List Int) : jB vI 9 l = ([⟨0, 1⟩], true) := by
 have h1 : qK vI 9 = [1] := by decide
 have h2 : qO vI 1 = [⟨0, 1⟩] := by decide
 unfold jB
 rw [h1]
 have h3 : (yR l [1] 1).1 = 0 := by
  unfold yR
  rw [if_pos (.inl (by simp [yR]))]; rfl
 simp only [List.length_cons, List.length_nil, Nat.zero_add, h3]
 rw [if_neg (by decide)]
 show (qO vI 1, true) = _
 rw [h2]
theorem ZjQ : Qx x19 1 uB := by
 intro c hc l hl hi S pl hR
 have : c = vI := by simpa [x19] using hc
 subst this
 exact Zby vI 1 9 rfl hR hi (by omega) (by decide) (by decide)
theorem ZbY (pr : List (List Int)) : yi x19 uB pr = ([[⟨0, 1⟩]], 0) := by
 have h : xn x19 uB pr x19.cust.length = [([⟨0, 1⟩], true)] := by
  show [uB vI (pr.getD 0 [])] = _
  unfold uB; rw [ZjP]
 unfold yi
 rw [h]; rfl
theorem ZbZ : VsOk 1 1 [[⟨0, 1⟩]] := by
 refine ⟨rfl, fun l hl w hw => ?_, fun l hl => ?_, fun l hl => ?_⟩
 ·simp at hl; subst hl; simp at hw; subst hw; decide
 ·simp at hl; subst hl; simp
 ·simp at hl; subst hl; simp
theorem ZjR : Xy x19 1 uB := by
 intro pr _ _
 rw [ZbY]; exact ZbZ
theorem ZjS {d : Day} {s : Stop} (h : d.flatten.Perm [s]) (hn : ∀ t ∈ d, t ≠ []) : d = [[s]] := by
 have h1 : d.flatten = [s] := List.perm_singleton.1 h
 match d, h1, hn with
 | [], h1, _ => simp at h1
 | [t], h1, _ => simpa using h1
 | t :: u :: r, h1, hn =>
  exfalso
  have a := hn t (by simp)
  have b := hn u (by simp)
  have := congrArg List.length h1
  simp only [List.flatten_cons, List.length_append, List.length_cons, List.length_nil] at this
  have := List.length_pos_iff.2 a
  have := List.length_pos_iff.2 b
  omega
theorem ZjT {x : Inst} {s : Stop} (h : SOk x [s]) (h0 : arc x 0 0 = 0) (hf : qG x [s] = 0) (hv : 1 ≤ x.veh) (b : Int) : yZ x b [s] = ([[s]], 0) := by
 have he : (yZ x b [s]).2 = 0 := by
  apply Classical.byContradiction
  intro hne
  rcases (Zh8 h b hne).2 with q | q
  ·exact q hf
  ·simp at q; omega
 obtain ⟨-, h2, h3, -⟩ := ZaX h h0 b he
 have := ZjS h3 (V7 h2)
 exact Prod.ext this he
theorem ZjU : uA x19 uB 0 1 = ([[[⟨0, 1⟩]]], 0) := by
 have hs : yy [[⟨0, 1⟩]] (0 : Nat) 1 = [⟨0, 1⟩] := by decide
 have hk := Qr XE ZbZ 0
 have hb : uu x19 [[⟨0, 1⟩]] 0 1 = [([[⟨0, 1⟩]], 0)] := by
  show [yZ x19 0 (yy [[⟨0, 1⟩]] (0 : Nat) 1)] = _
  rw [hs]
  rw [show yy [[(⟨0, 1⟩ : Visit)]] 0 x19.cust.length = [⟨0, 1⟩] from hs] at hk
  rw [ZjT hk XE.diag (by decide) (by decide) 0]
 have h1 : yL x19 [[⟨0, 1⟩]] 0 1 = [0] := by unfold yL; rw [hb]; rfl
 have h2 : qj x19 [[⟨0, 1⟩]] 0 1 = [[[⟨0, 1⟩]]] := by unfold qj; rw [hb]; rfl
 unfold uA xD
 rw [ZbY]
 simp only [h1, h2]
 rfl
theorem ZjV : Pure Tryz.prog 13 [.agg (zt x19), I 0] (.tup [.agg [L ([[[⟨0, 1⟩]]] : qC)], I 0]) := by
 have h := ZbM (b := 0) XE (n := 1) rfl (by decide) ZjQ ZjR (by decide)
 rw [ZjU] at h
 exact h
set_option maxRecDepth 20000 in
theorem ZjW : Pure Tryz.prog 17 [] (B true) := by
 have h1 := ZjV
 have h2 := ZjO [[[⟨0, 1⟩]]] 0 (by decide) (by decide) (by decide)
 rw [show woP 0 [[[(⟨0, 1⟩ : Stop)]]] = [[]] from by decide] at h2
 refine pwe Tryz.func17 Tryz.ntmps17 Tryz.results17 fun S nx hd => ?_
 (repeat apply za); refine pwn ?_; intros
 repeat apply za
 refine pwn ?_
 intro v0
 repeat apply za
 refine pwn ?_
 refine pwc h1 ?_
 intro v1
 intros
 repeat apply za
 refine pwN [(2, 18), (8, 24), (17, 33)] trivial ?_
 refine pwC [(2, 18), (8, 24), (17, 33)] h2 trivial ?_
 intros
 repeat apply za
 exact ze (zh hd (by simp; rfl) rfl)
open Go Go.Proofs Hp
theorem ZjX {x : Inst} (hx : InstH x) {v : List (List Visit)} {n : Nat} (hv : VsOk x.cust.length n v) (b : Int) : ∀ d ∈ qj x v b n, DayOk d ∧ d.length ≤ 1000 ∧ d.flatten.length ≤ 1000 := by
 intro d hd
 obtain ⟨r, hr, rfl⟩ := List.mem_map.1 hd
 obtain ⟨k, -, rfl⟩ := List.mem_map.1 hr
 exact Zh7 (Qr hx hv k) hx.diag b
open Go Go.Proofs Hp
set_option maxRecDepth 20000 in
theorem Zb0 (a b : List Visit) (hl : a.length ≤ 1048576) : Pure Tryz.prog 60 [L a, L b] (B (decide (a = b))) := by
 by_cases hab : a.length = b.length
 case neg =>
  have : a ≠ b := fun e => hab (by rw [e])
  refine pwe Tryz.func60 Tryz.ntmps60 Tryz.results60 fun S nx hd => ?_
  (repeat apply za); refine pwn ?_; intros
  (repeat apply za); refine pwn ?_; intros
  repeat apply za
  refine zj (by simp; omega) ?_
  (repeat apply za); refine pwn ?_; intros
  repeat apply za
  exact ze (zh hd rfl (by simp [this]))
 refine pwe Tryz.func60 Tryz.ntmps60 Tryz.results60 fun S nx hd => ?_
 (repeat apply za); refine pwn ?_; intros
 (repeat apply za); refine pwn ?_; intros
 repeat apply za
 refine zi (by simp; omega) ?_
 refine zb ?_
 (repeat apply za); refine pwn ?_; intros
 repeat apply za
 refine zg (zr (fun k : Nat => k ≤ a.length ∧ a.take k = b.take k) (fun k => [(0, L a), (1, L b), (5, I k)]) (fun _ => []) (fun k => a.length - k) 0 [] (by simp) (by simp) (by simp) ?_)
 rintro k ⟨hk, hkt⟩
 (repeat apply za); refine pwn ?_; intros
 repeat apply za
 refine zn rfl (fun hc => ?_) (fun hc => ?_)
 ·simp at hc
  obtain ⟨y, tl, a1, -, a3, -, e0⟩ := el 2 rfl a k hc
  obtain ⟨z, tz, z1, -, z3, -, e1⟩ := el 2 rfl b k (by omega)
  have hib : k < b.length := by omega
  refine zb (za (zg ?_))
  repeat apply za
  refine pwY none (Row.pures [0, 1, 2, 3, 4, 5, 6, 7, 8] .done) mixed (jn4 e0 e1 hc hib) ?_
  intros
  by_cases hyz : y = z
  ·subst hyz
   repeat apply za
   refine zi (by simp) ?_
   refine zb ?_
   (repeat apply za); refine pwn ?_; intros
   exact zm (k + 1) [] ⟨hc, by rw [a3, z3, hkt]⟩ (by omega) (by simp [wrN k (by omega)]) rfl (by simp)
  ·have hne : ¬ y.d = z.d ∨ ¬ y.q = z.q := by
    by_cases h1 : y.d = z.d
    ·right
     intro h2
     apply hyz
     cases y; cases z
     cases h1; cases h2; rfl
    ·exact .inl h1
   have : a ≠ b := fun e => hyz (by rw [e, z1] at a1; exact (Option.some.inj a1).symm)
   repeat apply za
   refine zj (by simp; exact hne) ?_
   (repeat apply za); refine pwn ?_; intros
   repeat apply za
   exact ze (zh hd rfl (by simp [this]))
 ·simp at hc
  obtain rfl : k = a.length := by omega
  rw [List.take_length, hab, List.take_length] at hkt
  refine zo ?_
  (repeat apply za); refine pwn ?_; intros
  repeat apply za
  exact ze (zh hd rfl (by simp [hkt]))
structure SuitsP (c : Cust) (n : Nat) (cap : Int) (v : List Visit) : Prop where
 cap : ∀ w ∈ v, w.q ≤ cap
 per : c.kind = 1 → ∃ p ∈ c.pats, v = qO c p
 tank : c.kind ≠ 1 → v = zI 0 (zH v n) ∧ jJ c (zH v n) = 0
set_option maxRecDepth 20000 in
theorem ZjY (c : Cust) (n : Nat) (cap : Int) (v : List Visit) (hm : CustMade c n) (hpc : c.pats.length ≤ 1000) (hv : VisOk v) (h : SuitsP c n cap v) : Pure Tryz.prog 19 [.agg (zB c), I n, I cap, L v] (B true) := by
 have hvn := hv.n
 refine pwe Tryz.func19 Tryz.ntmps19 Tryz.results19 fun S nx hd => ?_
 repeat apply za
 refine pwn ?_
 intro v0
 (repeat apply za); refine pwn ?_; intros
 repeat apply za
 refine zg (zr (fun k : Nat => k ≤ v.length) (fun k => [(1, I n), (2, I cap), (3, L v), (4, .ptr nx v0 0), (9, I k)]) (fun _ => [.cells v0 41 (zB c)]) (fun k => v.length - k) 0 [] (by simp) (by simp) (by simp) ?_)
 ·rintro k hk
  (repeat apply za); refine pwn ?_; intros
  repeat apply za
  refine zn rfl (fun hc => ?_) (fun hc => ?_)
  ·simp at hc
   obtain ⟨s, tl, a1, -, -, e1, e2⟩ := el 2 rfl v k hc
   have hq := h.cap s (List.mem_of_getElem? a1)
   have e11 := e1 1 (by omega)
   refine zb (za (zg ?_))
   repeat apply za
   refine pwN [] (jn4 e1 e11 e2 hc) ?_
   intros
   repeat apply za
   refine zi (by simp; omega) ?_
   refine zb ?_
   (repeat apply za); refine pwn ?_; intros
   exact zm (k + 1) [] hc (by omega) (by simp [wrN k (by omega)]) rfl (by simp)
  ·simp at hc
   obtain rfl : k = v.length := by omega
   refine zo ?_
   by_cases hk1 : c.kind = 1
   ·obtain ⟨p, hp, hvp⟩ := h.per hk1
    obtain ⟨m, hmlt, hmp⟩ := List.getElem_of_mem hp
    repeat apply za
    refine pwN [] hk1 ?_
    intros
    repeat apply za
    refine zj (by simp [hk1]) ?_
    (repeat apply za); refine pwn ?_; intros
    repeat apply za
    refine zg (zr (fun k : Nat => k ≤ m) (fun k => [(1, I n), (2, I cap), (3, L v), (4, .ptr nx v0 0), (10, I k)]) (fun _ => [.cells v0 41 (zB c)]) (fun k => m - k) 0 [] (by simp) (by simp) (by simp) ?_)
    rintro k hk
    have hkl : k < c.pats.length := by omega
    (repeat apply za); refine pwn ?_; intros
    repeat apply za
    refine zn rfl (fun hc => ?_) (fun hc => ?_)
    ·obtain ⟨q, tl, a1, a2, a3, e0⟩ := el1 rfl c.pats k hkl
     have hq := ZiY c q (hm.pats q (List.mem_of_getElem? a1))
     have hS := Zb0 v (qO c q) hvn
     refine zb (za (zg ?_))
     repeat apply za
     refine pwY (some [nx]) (Row.pures [0, 1, 2, 3, 4, 5, 6, 7, 8, 9] .done) mixed (jn2 e0 hkl) ?_
     refine pwP (hq) (jn2 e0 hkl) ?_
     refine pwP (hS) (jn2 e0 hkl) ?_
     intros
     (repeat apply za); refine pwn ?_; intros
     by_cases hz : v = qO c q
     ·repeat apply za
      refine zj (by simp [hz]) ?_
      (repeat apply za); refine pwn ?_; intros
      repeat apply za
      exact ze (zh hd rfl rfl)
     ·repeat apply za
      refine zi (by simp [hz]) ?_
      refine zb ?_
      (repeat apply za); refine pwn ?_; intros
      have hkm : k ≠ m := by
       intro e
       have : q = p := by
        subst e
        rw [List.getElem?_eq_getElem hmlt] at a1
        exact (Option.some.inj a1).symm.trans hmp
       exact hz (by rw [hvp, this])
      exact zm (k + 1) [] (by omega) (by omega) (by simp [wrN k (by omega)]) rfl (by simp)
    ·simp at hc; omega
   ·obtain ⟨g1, g2⟩ := h.tank hk1
    have hb := ZiA v n hv
    have hbl : (zH v n).length ≤ 1048576 := by rw [Z2]; omega
    have hvq := ZiX (zH v n) hbl
    have hh := Ziz c (zH v n) hm.fits hbl
    rw [← g1] at hvq
    rw [g2] at hh
    have hS : Pure Tryz.prog 60 [L v, L v] (B true) := by have := Zb0 v v hvn; simpa using this
    generalize zH v n = q at *
    (repeat apply za); refine pwn ?_; intros
    repeat apply za
    refine zi (by simp [hk1]) ?_
    refine zb ?_
    repeat apply za
    refine pwn ?_
    refine pwc hb ?_
    intros
    repeat apply za
    refine pwn ?_
    refine pwc hvq ?_
    refine pwc hS ?_
    intros
    repeat apply za
    refine pwN [(1, 55)] trivial ?_
    refine pwC [(1, 55)] hh trivial ?_
    intros
    repeat apply za
    exact ze (zh hd (by simp; rfl) rfl)
set_option maxHeartbeats 3200000 in
theorem ZjZ (x : Inst) (b : Int) (hx : InstOk x) (hb : I64 b) (hsuit : ∀ b', (jn (zN x) b').2 = 0 → (jn (zN x) b').1.length = (zN x).days ∧ PlanSz (jn (zN x) b').1 ∧ ∀ (i : Nat) (c : Cust), (zN x).cust[i]? = some c → SuitsP c (zN x).days.toNat (zN x).cap (yJ i (told 0 (jn (zN x) b').1)) ∧ VisOk (yJ i (told 0 (jn (zN x) b').1))) : Pure Tryz.prog 4 [.agg (zt x), I b] (B true) := by
 have hgd := Qz x
 have hG := Zd5 x hx
 have hA := ZbX x
 have h6 := JO x
 have hlv := ZjW
 have hSm := ZiM b
 have hbb : Ze b ≤ 9223372036854775807 := by unfold Ze; unfold I64 at hb; split <;> omega
 obtain ⟨n, hn⟩ : ∃ n : Nat, (zN x).days = n := ⟨(zN x).days.toNat, by omega⟩
 have hnt : (zN x).days.toNat = n := by omega
 have hSt := ZjM hA hbb
 have hsu := hsuit (Ze b)
 clear hsuit
 rw [hnt] at hsu hA
 generalize Ze b = bb at *
 generalize zN x = y at *
 generalize jn y bb = r at *
 obtain ⟨p, e⟩ := r
 simp only at hSt hsu
 refine pwe Tryz.func4 Tryz.ntmps4 Tryz.results4 fun S nx hd => ?_
 repeat apply za
 refine pwn ?_
 intro v0
 repeat apply za
 refine pwn ?_
 refine pwc hG ?_
 intro v1
 intros
 repeat apply za
 refine pwY (some [nx + 1]) (Row.pures [0, 1, 2, 3, 4, 5, 6] (.alt 7 (.alt 8 (Row.pures [9] .done) .stop) .stop)) mixed trivial ?_
 refine pwP (hSm) trivial ?_
 refine pwP (hSt) trivial ?_
 intro v2
 intros
 by_cases he : e = 0
 case neg =>
  (repeat apply za); refine pwn ?_; intros
  repeat apply za
  refine zj (by simp [he]) ?_
  repeat apply za
  refine pwn ?_
  refine pwc hlv ?_
  intros
  repeat apply za
  exact ze (zh hd (by simp; rfl) rfl)
 subst he
 obtain ⟨hpl, hps, hcu⟩ := hsu rfl
 (repeat apply za); refine pwn ?_; intros
 repeat apply za
 refine zi (by simp) ?_
 refine zb ?_
 (repeat apply za); refine pwn ?_; intros
 repeat apply za
 refine zg (zr (fun k : Nat => k ≤ y.cust.length) (fun k => [(5, .ptr (nx + 1) v1 0), (6, .ptr (nx + 2) v2 0), (8, I k)]) (fun _ => [.cells v0 25 (zt x), .cells v1 25 (zt y), .cells v2 29 [L p]]) (fun k => y.cust.length - k) 0 [] (by simp) (by simp) (by simp) ?_)
 rintro k hk
 (repeat apply za); refine pwn ?_; intros
 repeat apply za
 refine zn rfl (fun hc => ?_) (fun hc => ?_)
 ·simp at hc
  obtain ⟨c, tl, a1, -, -, -, e0⟩ := el 8 rfl y.cust k hc
  obtain ⟨g1, g2⟩ := hcu k c a1
  have hV := ZiB p k hps.ok
  have hS := ZjY c n y.cap _ (hA.made c (List.mem_of_getElem? a1)) (hA.pats c (List.mem_of_getElem? a1)) g2 g1
  rw [← hn] at hS
  generalize yJ k (told 0 p) = v at *
  refine zb (za (zg ?_))
  repeat apply za
  refine pwY (some [nx + 1, nx + 2]) (Row.pures [0, 1, 2, 3, 4, 5, 6, 7, 8, 9, 10, 11, 12, 13] .done) mixed (jn2 e0 hc) ?_
  refine pwP (hV) (jn2 e0 hc) ?_
  refine pwP (hS) (jn2 e0 hc) ?_
  intros
  repeat apply za
  refine zi (by simp) ?_
  refine zb ?_
  (repeat apply za); refine pwn ?_; intros
  exact zm (k + 1) [] hc (by omega) (by simp [wrN k (by omega)]) rfl (by simp)
 ·simp at hc
  obtain rfl : k = y.cust.length := by omega
  refine zo ?_
  repeat apply za
  refine pwN [(6, 48)] hpl ?_
  refine pwC [(6, 48)] hlv trivial ?_
  intros
  repeat apply za
  exact ze (zh hd (by simp; rfl) rfl)
open Go Go.Proofs Hp
theorem Zb1 {x : Inst} {sol : Cust → List Int → List Visit × Bool} {b : Int} {n : Nat} : ∀ (k : Nat) (pr : List (List Int)), xB x.cust.length n pr → (xD x sol b n k pr).2 = 0 → ∃ pr', xB x.cust.length n pr' ∧ (yi x sol pr').2 = 0 ∧ jK (yL x (yi x sol pr').1 b n) = 0 ∧ (xD x sol b n k pr).1 = qj x (yi x sol pr').1 b n
 | 0, _, _, h => by simp [xD] at h
 | k + 1, pr, hp, h => by
  unfold xD at h ⊢
  by_cases h1 : (yi x sol pr).2 ≠ 0
  ·rw [if_pos h1] at h; cases h
  rw [if_neg h1] at h ⊢
  by_cases h2 : jK (yL x (yi x sol pr).1 b n) = 0
  ·rw [if_pos h2] at h ⊢
   exact ⟨pr, hp, by simpa using h1, h2, rfl⟩
  rw [if_neg h2] at h ⊢
  by_cases h3 : (yL x (yi x sol pr).1 b n).any wE = true
  ·rw [if_pos h3] at h; cases h
  rw [if_neg h3] at h ⊢
  exact Zb1 k _ (Z6 _ hp n) h
def qZ (v : List Visit) : Prop := (v.map (·.d)).Pairwise (· < ·)
theorem Zb2 : ∀ (v : List Visit), qZ v → ∀ k : Nat, (v.filter fun w => decide (w.d < ((k + 1 : Nat) : Int))) = (v.filter fun w => decide (w.d < (k : Int))) ++ (v.filter fun w => decide (w.d = (k : Int)))
 | [], _, _ => rfl
 | w :: v, h, k => by
  have h' : qZ v := by unfold qZ at h ⊢; rw [List.map_cons, List.pairwise_cons] at h; exact h.2
  have h1 : ∀ u ∈ v, w.d < u.d := by
   unfold qZ at h; rw [List.map_cons, List.pairwise_cons] at h
   exact fun u hu => h.1 _ (List.mem_map_of_mem hu)
  have ih := Zb2 v h' k
  by_cases c1 : w.d < (k : Int)
  ·have c2 : w.d < ((k + 1 : Nat) : Int) := by omega
   have c3 : ¬ w.d = (k : Int) := by omega
   rw [List.filter_cons_of_pos (by simpa using c2), List.filter_cons_of_pos (by simpa using c1), List.filter_cons_of_neg (by simpa using c3), ih]
   rfl
  ·have e0 : (v.filter fun w => decide (w.d < (k : Int))) = [] := by
    rw [List.filter_eq_nil_iff]; intro u hu; have := h1 u hu; simp; omega
   rw [e0] at ih
   by_cases c3 : w.d = (k : Int)
   ·have c2 : w.d < ((k + 1 : Nat) : Int) := by omega
    rw [List.filter_cons_of_pos (by simpa using c2), List.filter_cons_of_neg (by simpa using c1), List.filter_cons_of_pos (by simpa using c3), ih, e0]
    rfl
   ·have c2 : ¬ w.d < ((k + 1 : Nat) : Int) := by omega
    rw [List.filter_cons_of_neg (by simpa using c2), List.filter_cons_of_neg (by simpa using c1), List.filter_cons_of_neg (by simpa using c3), ih, e0]
theorem Zb3 {v : List Visit} (h : qZ v) (h0 : ∀ w ∈ v, 0 ≤ w.d) : ∀ k : Nat, (List.range k).flatMap (fun d : Nat => v.filter fun w => decide (w.d = (d : Int))) = v.filter fun w => decide (w.d < (k : Int))
 | 0 => by
  symm
  rw [List.range_zero, List.flatMap_nil, List.filter_eq_nil_iff]; intro u hu; have := h0 u hu; simp; omega
 | k + 1 => by rw [List.range_succ, List.flatMap_append, Zb3 h h0 k, Zb2 v h k]; simp
theorem Zb4 {v : List Visit} {n : Nat} (h : qZ v) (h0 : ∀ w ∈ v, 0 ≤ w.d ∧ w.d < n) : (List.range n).flatMap (fun d : Nat => v.filter fun w => decide (w.d = (d : Int))) = v := by
 rw [Zb3 h fun w hw => (h0 w hw).1]
 rw [List.filter_eq_self]; intro w hw; simpa using (h0 w hw).2
theorem Zb5 {v : List Visit} (h : qZ v) (d : Int) : (v.filter fun w => decide (w.d = d)) = [] ∨ ∃ w, w.d = d ∧ (v.filter fun w => decide (w.d = d)) = [w] := by
 have h1 := Zbc (l := v) (h.imp fun h => Int.ne_of_lt h) d
 generalize he : (v.filter fun w => decide (w.d = d)) = m at *
 match m, h1, he with
 | [], _, _ => exact .inl rfl
 | [w], _, he =>
  refine .inr ⟨w, ?_, rfl⟩
  have : w ∈ v.filter fun w => decide (w.d = d) := by rw [he]; simp
  simpa using (List.mem_filter.1 this).2
 | _ :: _ :: _, h1, _ => simp at h1
theorem Zb6 (f : Nat → Int) : ∀ (k i : Nat), zI i ((List.range' i k).map f) = (List.range' i k).flatMap fun d => if 0 < f d then [⟨(d : Int), f d⟩] else []
 | 0, i => by simp [zI]
 | k + 1, i => by
  rw [List.range'_succ, List.map_cons, List.flatMap_cons, ← Zb6 f k (i + 1)]
  simp only [zI]
  split <;> rfl
theorem Zj0 (f : Nat → Int) (k : Nat) : zI 0 ((List.range k).map f) = (List.range k).flatMap fun d => if 0 < f d then [⟨(d : Int), f d⟩] else [] := by
 rw [List.range_eq_range']; exact Zb6 f k 0
theorem Zj1 {v : List Visit} {n : Nat} (hg : GoodV n v) (hn : n ≤ 60) (h : qZ v) : zI 0 (zH v n) = v := by
 unfold zH
 have e : (min (max (n : Int) 0) 64).toNat = n := by omega
 rw [e, Zj0]
 conv => rhs; rw [← Zb4 h fun w hw => (hg.ok w hw).1]
 have key : ∀ d : Nat, (if 0 < ((v.filter fun s => decide (s.d = (d : Int))).map (·.q)).sum then [(⟨(d : Int), ((v.filter fun s => decide (s.d = (d : Int))).map (·.q)).sum⟩ : Visit)] else []) = v.filter fun w => decide (w.d = (d : Int)) := by
  intro d
  rcases Zb5 h d with q | ⟨w, q1, q2⟩
  ·rw [q]; rfl
  ·have hw : w ∈ v := by
    have : w ∈ v.filter fun w => decide (w.d = (d : Int)) := by rw [q2]; simp
    exact (List.mem_filter.1 this).1
   have := (hg.ok w hw).2
   rw [q2]
   simp only [List.map_cons, List.map_nil, List.sum_cons, List.sum_nil, Int.add_zero]
   rw [if_pos (by omega), ← q1]
 have ef : (fun d : Nat => if 0 < ((v.filter fun s => decide (s.d = (d : Int))).map (·.q)).sum then [(⟨(d : Int), ((v.filter fun s => decide (s.d = (d : Int))).map (·.q)).sum⟩ : Visit)] else []) = fun d : Nat => v.filter fun w => decide (w.d = (d : Int)) := funext key
 rw [ef]
theorem XF : ∀ (l : List Int) (i : Nat), qZ (zI i l)
 | [], _ => .nil
 | z :: l, i => by
  have ih := XF l (i + 1)
  simp only [zI]
  split
  ·unfold qZ at ih ⊢
   rw [List.map_cons, List.pairwise_cons]
   refine ⟨fun d hd => ?_, ih⟩
   obtain ⟨s, hs, rfl⟩ := List.mem_map.1 hd
   have := Qw l (i + 1) s hs
   show (i : Int) < s.d
   omega
  ·exact ih
theorem Zb7 : ∀ (l : List Int) (i d : Nat), Qs l → (((zI i l).filter fun s => decide (s.d = ((i + d : Nat) : Int))).map (·.q)).sum = l.getD d 0
 | [], i, d, _ => by simp [zI]
 | z :: l, i, d, h => by
  have hz := h z (by simp)
  have hge := Qw l (i + 1)
  have ih := fun d => Zb7 l (i + 1) d fun x hx => h x (by simp [hx])
  cases d with
  | zero =>
   have e : ((zI (i + 1) l).filter fun s => decide (s.d = ((i + 0 : Nat) : Int))) = [] := by
    rw [List.filter_eq_nil_iff]; intro s hs; have := hge s hs; simp; omega
   simp only [zI]
   split
   ·rw [List.filter_cons_of_pos (by simp), e]; simp
   ·rw [e]; simp; omega
  | succ d =>
   have ih := ih d
   rw [show i + 1 + d = i + (d + 1) by omega] at ih
   simp only [zI]
   split
   ·rw [List.filter_cons_of_neg (by simp; omega), ih]; simp
   ·rw [ih]; simp
theorem Zj2 {l : List Int} {n : Nat} (hl : l.length = n) (hn : n ≤ 60) (h : Qs l) : zH (zI 0 l) n = l := by
 apply List.ext_getElem?
 intro d
 have e : (min (max (n : Int) 0) 64).toNat = n := by omega
 by_cases hd : d < n
 ·have := Zb7 l 0 d h
  rw [Nat.zero_add] at this
  unfold zH
  rw [List.getElem?_map, e, List.getElem?_range hd, Option.map_some, this, List.getD_eq_getElem?_getD, List.getElem?_eq_getElem (by omega)]; rfl
 ·rw [List.getElem?_eq_none (by rw [Z2]; omega), List.getElem?_eq_none (by omega)]
theorem Zb8 : ∀ (p : qC) (i : Nat) (d : Day), told i (p ++ [d]) = told i p ++ d.flatten.map (·, i + p.length)
 | [], i, d => by simp [told]
 | e :: p, i, d => by
  rw [List.cons_append, told, Zb8 p (i + 1) d, told, List.append_assoc, List.length_cons, show i + 1 + p.length = i + (p.length + 1) by omega]
theorem Zb9 {m n : Nat} {v : List (List Visit)} (h : VsOk m n v) (day : Int) (i : Nat) : ∀ k : Nat, (yy v day k).filter (fun s => decide (s.c = (i : Int))) = if i < k then jX v day i else []
 | 0 => by simp [yy]
 | k + 1 => by
  rw [Xp, List.filter_append, Zb9 h day i k]
  have hm : ∀ s ∈ jX v day k, s.c = k := fun s hs => (Zbe h hs).1
  by_cases hik : i = k
  ·subst hik
   rw [if_neg (by omega), if_pos (by omega), List.nil_append, List.filter_eq_self]
   intro s hs; simpa using hm s hs
  ·have : (jX v day k).filter (fun s => decide (s.c = (i : Int))) = [] := by
    rw [List.filter_eq_nil_iff]; intro s hs; have := hm s hs; simp; omega
   rw [this, List.append_nil]
   by_cases h1 : i < k
   ·rw [if_pos h1, if_pos (by omega)]
   ·rw [if_neg h1, if_neg (by omega)]
theorem Zj3 {α : Type} {a b : List α} (h : a.Perm b) (hb : b.length ≤ 1) : a = b := by
 match b, hb, h with
 | [], _, h => exact List.perm_nil.1 h
 | [s], _, h => exact List.perm_singleton.1 h
 | _ :: _ :: _, hb, _ => simp at hb
theorem Zj4 {m n : Nat} {v : List (List Visit)} (h : VsOk m n v) {d : Day} {k i : Nat} (hd : d.flatten.Perm (yy v k m)) (hi : i < m) : yJ i (d.flatten.map (·, k)) = (v.getD i []).filter fun w => decide (w.d = (k : Int)) := by
 have h1 : (d.flatten.filter fun s => decide (s.c = (i : Int))) = jX v k i := by
  have := hd.filter fun s => decide (s.c = (i : Int))
  rw [Zb9 h k i m, if_pos hi] at this
  exact Zj3 this (Zbd h k i)
 unfold yJ
 rw [List.filter_map, List.map_map]
 have e2 : ((fun x : Stop × Nat => decide (x.1.c = (i : Int))) ∘ fun x : Stop => (x, k)) = fun s : Stop => decide (s.c = (i : Int)) := rfl
 rw [e2, h1]
 unfold jX
 rw [List.map_map]
 conv => rhs; rw [← List.map_id (List.filter _ _)]
 apply List.map_congr_left
 intro w hw
 have := (List.mem_filter.1 hw).2
 simp only [decide_eq_true_eq] at this
 show (⟨(k : Int), w.q⟩ : Visit) = w
 rw [← this]
theorem Zca {x : Inst} (hx : InstH x) {v : List (List Visit)} {b : Int} {n : Nat} (h : VsOk x.cust.length n v) {i : Nat} (hi : i < x.cust.length) : ∀ k : Nat, (∀ d < k, (yZ x b (yy v (d : Nat) x.cust.length)).2 = 0) → yJ i (told 0 (qj x v b k)) = (List.range k).flatMap fun d : Nat => (v.getD i []).filter fun w => decide (w.d = (d : Int))
 | 0, _ => rfl
 | k + 1, h0 => by
  have hk := h0 k (by omega)
  obtain ⟨-, -, hp, -⟩ := ZaX (Qr hx h k) hx.diag b hk
  rw [Zbg, Zb8, Z1, Zca hx h hi k fun d hd => h0 d (by omega), Nat.zero_add, Qt, Zj4 h hp hi, List.range_succ, List.flatMap_append]
  simp
open Go Go.Proofs Hp
theorem QG (r : Int) (k : Nat) : r * ((k + 1 : Nat) : Int) = r * (k : Int) + r := by rw [Int.natCast_add, Int.mul_add]; simp
theorem Zcb (size rate : Int) : ∀ (a b : List Int) (there : Int), zQ size rate there (a ++ b) = (zQ size rate there a).bind fun l => (zQ size rate (there + a.sum - rate * a.length) b).map (l ++ ·)
 | [], b, there => by
  have e : there + ([] : List Int).sum - rate * (([] : List Int).length : Int) = there := by simp
  show zQ size rate there b = (zQ size rate (there + ([] : List Int).sum - rate * (([] : List Int).length : Int)) b).map ([] ++ ·)
  rw [e]
  cases zQ size rate there b <;> rfl
 | q :: a, b, there => by
  rw [List.cons_append, zQ, zQ]
  split
  ·rfl
  ·rw [Zcb size rate a b]
   have e : there + q - rate + a.sum - rate * (a.length : Int) = there + (q :: a).sum - rate * ((q :: a).length : Int) := by
    rw [List.sum_cons, List.length_cons, QG]; omega
   rw [e]
   cases zQ size rate (there + q - rate) a with
   | none => rfl
   | some l =>
    simp only [Option.bind_some, Option.map_some]
    cases zQ size rate (there + (q :: a).sum - rate * ((q :: a).length : Int)) b <;> simp
theorem XG {size rate : Int} (hr : 0 ≤ rate) : ∀ (k : Nat) (t : Int), t ≤ size → 0 ≤ t - rate * k → ∃ l, zQ size rate t (List.replicate k 0) = some l
 | 0, t, _, _ => ⟨[], rfl⟩
 | k + 1, t, h1, h2 => by
  rw [QG] at h2
  have hk : 0 ≤ rate * (k : Int) := Int.mul_nonneg hr (by omega)
  obtain ⟨l, hl⟩ := XG (size := size) hr k (t + 0 - rate) (by omega) (by omega)
  rw [List.replicate_succ, zQ, if_neg (by omega), hl]
  exact ⟨_, rfl⟩
theorem Zcc : ∀ k : Nat, (List.replicate k (0 : Int)).sum = 0
 | 0 => rfl
 | k + 1 => by rw [List.replicate_succ, List.sum_cons, Zcc k]; rfl
theorem Zcd (rate size : Int) : ∀ (a b : List Int) (n m : List Int), a.length = n.length → qi rate size (a ++ b) (n ++ m) = (qi rate size a n || qi rate size b m)
 | [], b, [], m, _ => by simp [qi]
 | z :: a, b, x :: n, m, h => by
  rw [List.cons_append, List.cons_append, qi, qi, Zcd rate size a b n m (by simpa using h), Bool.or_assoc]
 | [], b, _ :: _, m, h => by simp at h
 | _ :: _, b, [], m, h => by simp at h
theorem XH (rate size : Int) : ∀ (k : Nat) (l : List Int), qi rate size (List.replicate k 0) l = false
 | 0, l => rfl
 | k + 1, [] => by simp [List.replicate_succ, qi]
 | k + 1, x :: l => by simp [List.replicate_succ, qi, XH rate size k l]
theorem Zce {size rate : Int} : ∀ (q : List Int) (there : Int) (l : List Int), zQ size rate there q = some l → l.length = q.length
 | [], _, l, h => by simp only [zQ, Option.some.injEq] at h; subst h; rfl
 | q :: qs, there, l, h => by
  rw [zQ] at h
  split at h
  ·cases h
  ·obtain ⟨m, hm, rfl⟩ := Option.map_eq_some_iff.1 h
   rw [List.length_cons, List.length_cons, Zce qs _ m hm]
theorem vJ (v : List Visit) {n : Nat} (hn : n ≤ 60) : (zH v n).length = n := by rw [Z2]; omega
theorem Zj5 (v : List Visit) {w : Visit} {d m : Nat} (hw : w.d = d) (hv : ∀ u ∈ v, u.d < d) (hdm : d < m) (hm : m ≤ 60) : zH (v ++ [w]) m = zH v d ++ w.q :: List.replicate (m - d - 1) 0 := by
 apply List.ext_getElem?
 intro i
 have em : (min (max (m : Int) 0) 64).toNat = m := by omega
 have ed : (min (max (d : Int) 0) 64).toNat = d := by omega
 by_cases hi : i < m
 ·have hL : (zH (v ++ [w]) m)[i]? = some ((((v ++ [w]).filter fun s => decide (s.d = (i : Int))).map (·.q)).sum) := by
   unfold zH; rw [List.getElem?_map, em, List.getElem?_range hi]; rfl
  rw [hL, List.filter_append]
  rcases Nat.lt_trichotomy i d with h | h | h
  ·rw [List.getElem?_append_left (by rw [vJ v (by omega)]; exact h)]
   have : (zH v d)[i]? = some ((((v.filter fun s => decide (s.d = (i : Int))).map (·.q)).sum)) := by
    unfold zH; rw [List.getElem?_map, ed, List.getElem?_range h]; rfl
   rw [this, List.filter_cons_of_neg (by simp; omega)]; simp
  ·subst h
   have e0 : (v.filter fun s => decide (s.d = (i : Int))) = [] := by
    rw [List.filter_eq_nil_iff]; intro u hu; have := hv u hu; simp; omega
   rw [e0, List.getElem?_append_right (by rw [vJ v (by omega)]; exact Nat.le_refl _), vJ v (by omega), Nat.sub_self, List.filter_cons_of_pos (by simpa using hw)]
   simp
  ·have e0 : (v.filter fun s => decide (s.d = (i : Int))) = [] := by
    rw [List.filter_eq_nil_iff]; intro u hu; have := hv u hu; simp; omega
   rw [e0, List.getElem?_append_right (by rw [vJ v (by omega)]; omega), vJ v (by omega), List.filter_cons_of_neg (by simp; omega)]
   obtain ⟨j, hj⟩ : ∃ j, i - d = j + 1 := ⟨i - d - 1, by omega⟩
   rw [hj, List.getElem?_cons_succ, List.getElem?_replicate, if_pos (by omega)]; simp
 ·rw [List.getElem?_eq_none (by rw [vJ _ hm]; omega), List.getElem?_eq_none (by simp [vJ v (show d ≤ 60 by omega)]; omega)]
theorem Zcf (c : Cust) (last d : Int) : (yd c last d).1 = (if last < 0 then c.start else c.size) - c.rate * ((if last < 0 then d else d - last).toNat : Int) := rfl
theorem Zj6 {c : Cust} (hc : CustFits c) (hst : c.start ≤ c.size) {cap : Int} {n : Nat} (hn : n ≤ 60) {ds : List Int} (h : FilS c cap n ds) : ∀ m : Nat, qY ds < m → m ≤ n → 0 ≤ (yd c (qY ds) m).1 → ∃ l, zQ c.size c.rate c.start (zH (zV c ds).1 m) = some l ∧ qi c.rate c.size (zH (zV c ds).1 m) l = false ∧ c.start + (zH (zV c ds).1 m).sum - c.rate * (m : Int) = (yd c (qY ds) m).1 := by
 have hr := hc.rate.1
 induction h with
 | nil =>
  intro m _ hm h0
  have e : zH (zV c []).1 m = List.replicate m 0 := by
   show zH [] m = _
   rw [Za5, show (min (max (m : Int) 0) 64).toNat = m by omega]
  have e9 : (yd c (qY []) m).1 = c.start - c.rate * (m : Int) := by rw [Zcf]; simp [qY]
  rw [e9] at h0 ⊢
  obtain ⟨l, hl⟩ := XG (size := c.size) hr m c.start hst (by omega)
  refine ⟨l, by rw [e, hl], by rw [e]; exact XH _ _ _ _, by rw [e]; simp⟩
 | @snoc ds d h h1 h2 h3 ih =>
  intro m hm hmn h0
  rw [Ya] at hm h0 ⊢
  have hlo := h.lo
  obtain ⟨k, rfl⟩ := Int.eq_ofNat_of_zero_le (show 0 ≤ d by omega)
  obtain ⟨l, e1, e2, e3⟩ := ih k h1 (by omega) h3.1
  obtain ⟨q1, q2, q3, q4⟩ := XB hc h3
  have hb : zH (zV c (ds ++ [(k : Int)])).1 m = zH (zV c ds).1 k ++ (c.size - (yd c (qY ds) k).1) :: List.replicate (m - k - 1) 0 := by
   have hf : (zV c (ds ++ [(k : Int)])).1 = (zV c ds).1 ++ [⟨k, c.size - (yd c (qY ds) k).1⟩] := by
    rw [Zk]; simp only [xZ]; rw [Xz, q1]
   rw [hf]
   refine Zj5 _ rfl (fun u hu => ?_) (by omega) (by omega)
   have : u.d ∈ (zV c ds).1.map (·.d) := List.mem_map_of_mem hu
   rw [XA] at this
   have := hlo.2 _ this
   show u.d < (k : Int)
   omega
  have hbl := vJ (zV c ds).1 (n := k) (by omega)
  rw [Zcf c k m] at h0 ⊢
  rw [if_neg (by omega), if_neg (by omega)] at h0 ⊢
  have ek : ((m : Int) - (k : Int)).toNat = (m - k - 1) + 1 := by omega
  rw [ek, QG] at h0 ⊢
  obtain ⟨l2, hl2⟩ := XG (size := c.size) hr (m - k - 1) (c.size - c.rate) (by omega) (by omega)
  have hthere : c.start + (zH (zV c ds).1 k).sum - c.rate * ((zH (zV c ds).1 k).length : Int) + (c.size - (yd c (qY ds) k).1) = c.size := by rw [hbl, e3]; omega
  have hk0 : 0 ≤ c.rate * ((m - k - 1 : Nat) : Int) := Int.mul_nonneg hr (by omega)
  have hrun : zQ c.size c.rate c.start (zH (zV c (ds ++ [(k : Int)])).1 m) = some (l ++ (c.size - c.rate) :: l2) := by
   rw [hb, Zcb, e1, Option.bind_some, zQ, hthere, if_neg (by omega), hl2]; rfl
  refine ⟨_, hrun, ?_, ?_⟩
  ·rw [hb, Zcd _ _ _ _ _ _ (Zce _ _ _ e1).symm, e2, qi, XH]
   simp
  ·rw [hb, List.sum_append, List.sum_cons]
   have : (m : Int) = (k : Int) + ((m - k - 1 + 1 : Nat) : Int) := by omega
   have e4 : c.rate * (m : Int) = c.rate * (k : Int) + (c.rate * ((m - k - 1 : Nat) : Int) + c.rate) := by rw [this, Int.mul_add, QG]
   rw [e4, Zcc]
   omega
open Go Go.Proofs Hp
theorem Zj7 {c : Cust} {cap : Int} {n : Nat} {ds : List Int} (h : FilS c cap n ds) : qY ds < n := by
 cases h with
 | nil => show (-1 : Int) < n; omega
 | snoc h h1 h2 h3 => rw [Ya]; exact h2
theorem Zj8 (c : Cust) (p : Nat) : qZ (qO c p) := by
 have e : (qO c p).map (·.d) = zS p 0 64 := by simp [qO, Function.comp_def]
 unfold qZ; rw [e]; exact ZbR p 0 64
theorem XI {c : Cust} {cap : Int} {n : Nat} {ds : List Int} (h : FilS c cap n ds) : qZ (zV c ds).1 := by
 unfold qZ; rw [XA]; exact h.inc
theorem Zj9 {c : Cust} (hc : CustFits c) (hr : c.rule = 1) {cap : Int} {n : Nat} {ds : List Int} (h : FilS c cap n ds) : ∀ w ∈ (zV c ds).1, w.q ≤ cap := by
 induction h with
 | nil => intro w hw; cases hw
 | @snoc ds d h h1 h2 h3 ih =>
  intro w hw
  obtain ⟨q1, -, -, q4⟩ := XB hc h3
  rw [Zk] at hw
  simp only [xZ] at hw
  rcases List.mem_append.1 hw with hw | hw
  ·exact ih w hw
  ·rw [List.mem_singleton.1 hw, Xz]
   dsimp only
   rw [q1]; exact q4 hr
theorem Zka {v : List Visit} {n : Nat} (hg : GoodV n v) (h : qZ v) : Qs (zH v n) := by
 intro z hz
 unfold zH at hz
 obtain ⟨d, -, rfl⟩ := List.mem_map.1 hz
 rcases Zb5 h d with q | ⟨w, -, q2⟩
 ·rw [q]; simp
 ·have hw : w ∈ v := by
   have : w ∈ v.filter fun w => decide (w.d = (d : Int)) := by rw [q2]; simp
   exact (List.mem_filter.1 this).1
  have := (hg.ok w hw).2
  rw [q2]; simp; omega
theorem Zkb {c : Cust} {q l : List Int} (hq : Qs q) (h : zQ c.size c.rate c.start q = some l) : yn c q = (l, 0) := by
 have : q.any qJ = false := by
  rw [List.any_eq_false]; intro z hz; have := hq z hz; simp [qJ]; omega
 unfold yn
 rw [this, h]; rfl
theorem Zkc {c : Cust} {n : Nat} {cap : Int} {price : List Int} (hk : c.kind = 1) (h : (jB c cap price).2 = true) : SuitsP c n cap (jB c cap price).1 ∧ qZ (jB c cap price).1 := by
 obtain ⟨p, hp, hc, e⟩ := ZbT h
 rw [e]
 refine ⟨⟨fun w hw => ?_, fun _ => ⟨p, hp, rfl⟩, fun h => absurd hk h⟩, Zj8 c p⟩
 simp only [qO, List.mem_map] at hw
 obtain ⟨d, hd, rfl⟩ := hw
 rcases hc with rfl | hc
 ·simp [zS, zX] at hd
 ·exact hc
theorem Zkd {c : Cust} {n : Nat} {cap : Int} (hc : CustFits c) (hst : c.start ≤ c.size) (hn : n ≤ 60) (hk : c.kind ≠ 1) (hr : c.rule = 1) {ds : List Int} (h : FilS c cap n ds) (h0 : 0 ≤ (yd c (qY ds) n).1) : SuitsP c n cap (zV c ds).1 := by
 have hg := ZbO hc hn h
 refine ⟨Zj9 hc hr h, fun h => absurd h hk, fun _ => ⟨(Zj1 hg hn (XI h)).symm, ?_⟩⟩
 obtain ⟨l, e1, e2, -⟩ := Zj6 hc hst hn h n (Zj7 h) (Nat.le_refl n) h0
 unfold jJ
 rw [Zkb (Zka hg (XI h)) e1]
 simp [e2]
theorem Zcg : ∀ (l : List Int) (i : Nat), ∀ w ∈ zI i l, 0 < w.q ∧ w.q ∈ l
 | [], _ => by intro w hw; cases hw
 | z :: l, i => by
  have ih := Zcg l (i + 1)
  intro w hw
  simp only [zI] at hw
  split at hw
  ·rcases List.mem_cons.1 hw with rfl | hw
   ·exact ⟨by assumption, by simp⟩
   ·have := ih w hw; exact ⟨this.1, by simp [this.2]⟩
  ·have := ih w hw; exact ⟨this.1, by simp [this.2]⟩
theorem Zch (c : Cust) (f : Int → Int) : ∀ k : Nat, ∀ z ∈ (yc c f k).1, ∃ t, z = f t
 | 0 => by intro z hz; cases hz
 | k + 1 => by
  intro z hz
  simp only [yc] at hz
  rcases List.mem_append.1 hz with hz | hz
  ·exact Zch c f k z hz
  ·exact ⟨_, List.mem_singleton.1 hz⟩
theorem Zci (c : Cust) (t cap : Int) : qX c t cap ≤ cap ∨ qX c t cap = 0 := by
 unfold qX
 split
 ·exact .inr rfl
 ·split
  ·left; assumption
  ·split
   ·exact .inr rfl
   ·left; omega
theorem Zcj {c : Cust} {n : Nat} {cap : Int} {f : Int → Int} (hc : CustFits c) (hn : n ≤ 60) (hk : c.kind ≠ 1) (hb : ∀ t, 0 ≤ f t ∧ f t ≤ 2147483648) (hf : ∀ t, f t ≤ cap ∨ f t = 0) (h : jJ c (yc c f n).1 = 0) : SuitsP c n cap (zI 0 (yc c f n).1) := by
 have hq := (ux hc hb n).2
 have hl := uv c f n
 refine ⟨fun w hw => ?_, fun h => absurd h hk, fun _ => ?_⟩
 ·obtain ⟨h1, h2⟩ := Zcg _ _ w hw
  obtain ⟨t, ht⟩ := Zch c f n _ h2
  rcases hf t with q | q <;> omega
 ·rw [Zj2 hl hn hq]; exact ⟨rfl, h⟩
theorem Zke {c : Cust} {n : Nat} (hm : CustMade c n) (hst : c.start ≤ c.size) (hn : n ≤ 60) (cap : Int) (price : List Int) (h : (jC n cap c price).2 = true) : SuitsP c n cap (jC n cap c price).1 ∧ qZ (jC n cap c price).1 := by
 unfold jC at h ⊢
 by_cases hk : c.kind = 1
 ·rw [if_pos hk] at h ⊢
  exact Zkc hk h
 rw [if_neg hk] at h ⊢
 by_cases hr : c.rule = 1
 ·rw [if_pos hr] at h ⊢
  obtain ⟨ds, h1, h0, e⟩ := ZbS hn h
  rw [e]; exact ⟨Zkd hm.fits hst hn hk hr h1 h0, XI h1⟩
 ·rw [if_neg hr] at h ⊢
  have hD := fun h => Zcj (cap := cap) (n := n) hm.fits hn hk (QA hm.fits cap) (fun t => Zci c _ cap) h
  have hL := fun h => Zcj (cap := cap) (n := n) hm.fits hn hk (QB hm.fits cap) (fun t => by unfold wF; split; exact .inr rfl; exact Zci c _ cap) h
  unfold uz at h ⊢
  split
  ·rename_i h1
   have := h1.1
   unfold xY at this
   exact ⟨hL (of_decide_eq_true this), XF _ 0⟩
  ·rename_i h1
   rw [if_neg h1] at h
   split
   ·rename_i h2
    unfold xC at h2
    exact ⟨hD (of_decide_eq_true h2), XF _ 0⟩
   ·rename_i h2; rw [if_neg h2] at h; cases h
theorem Zkf (x : Inst) : ∀ c ∈ (zN x).cust, c.start ≤ c.size := by
 intro c hc
 obtain ⟨c0, rfl⟩ := Xt x hc
 unfold qE
 split
 ·have b := xv c0.size 1 30 (by omega)
  exact (xv c0.start 0 (rnd c0.size 1 30) (by omega)).2
 ·exact Int.le_refl _
theorem Zck : ∀ p : qC, (∀ d ∈ p, d.flatten.length ≤ 1000) → Z7 p ≤ 1000 * p.length
 | [], _ => by simp [Z7]
 | d :: p, h => by
  have := Zck p fun e he => h e (by simp [he])
  have := h d (by simp)
  simp only [Z7, List.map_cons, List.sum_cons, List.length_cons] at *
  omega
theorem Zkg {x : Inst} {n : Nat} (h : InstA x n) {b : Int} (h0 : (jn x b).2 = 0) : ∃ v pr, VsOk x.cust.length n v ∧ xB x.cust.length n pr ∧ (jn x b).1 = qj x v b n ∧ (∀ d : Nat, d < n → (yZ x b (yy v d x.cust.length)).2 = 0) ∧ ∀ i c, x.cust[i]? = some c → v[i]? = some (jC n x.cap c (pr.getD i [])).1 ∧ (jC n x.cap c (pr.getD i [])).2 = true := by
 have hd : x.days.toNat = n := by rw [h.days]; rfl
 unfold jn uA at h0 ⊢
 rw [hd] at h0 ⊢
 obtain ⟨pr, hp, e1, e2, e3⟩ := Zb1 8 _ (Zbt x n) h0
 have hv := ZbW h pr hp e1
 obtain ⟨c1, c2⟩ := ZbV e1
 refine ⟨_, pr, hv, hp, e3, fun d hdn => ?_, c2⟩
 refine (ZiI _).1 e2 _ (List.mem_map.2 ⟨_, List.mem_map.2 ⟨d, List.mem_range.2 hdn, rfl⟩, rfl⟩)
theorem Zkh {x : Inst} {n : Nat} (h : InstA x n) {v : List (List Visit)} {b : Int} {i : Nat} {l : List Visit} (hv : VsOk x.cust.length n v) (hl : v[i]? = some l) (hr : qZ l) (h0 : ∀ d : Nat, d < n → (yZ x b (yy v d x.cust.length)).2 = 0) : yJ i (told 0 (qj x v b n)) = l := by
 have hi : i < x.cust.length := by rw [← hv.len]; exact (List.getElem?_eq_some_iff.1 hl).1
 rw [Zca h.h hv hi n h0]
 have e : v.getD i [] = l := by rw [List.getD_eq_getElem?_getD, hl]; rfl
 rw [e]
 exact Zb4 hr fun w hw => (hv.ok l (List.mem_of_getElem? hl) w hw).1
theorem Zki (x : Inst) (b : Int) (h0 : (jn (zN x) b).2 = 0) : (jn (zN x) b).1.length = (zN x).days ∧ PlanSz (jn (zN x) b).1 ∧ ∀ (i : Nat) (c : Cust), (zN x).cust[i]? = some c → SuitsP c (zN x).days.toNat (zN x).cap (yJ i (told 0 (jn (zN x) b).1)) ∧ VisOk (yJ i (told 0 (jn (zN x) b).1)) := by
 have hA := ZbX x
 have hgs := Zkf x
 have hgd := Qz x
 obtain ⟨n, hn⟩ : ∃ n : Nat, (zN x).days = n := ⟨(zN x).days.toNat, by omega⟩
 have hnt : (zN x).days.toNat = n := by omega
 rw [hnt] at hA ⊢
 generalize zN x = y at *
 obtain ⟨v, pr, hv, hp, e, hd, hc⟩ := Zkg hA h0
 rw [e]
 have hsz := ZjX hA.h hv b
 have hpl := Qt y v b n
 have hcn := Zck _ fun d hd => (hsz d hd).2.2
 refine ⟨by rw [hpl, hn], ⟨⟨by omega, fun d hd => by have := (hsz d hd).2.1; omega, fun d hd => (hsz d hd).1.t, by rw [Zbw]; omega⟩, fun d hd => by have := (hsz d hd).2.2; omega⟩, fun i c hic => ?_⟩
 obtain ⟨q1, q2⟩ := hc i c hic
 have hcm := List.mem_of_getElem? hic
 obtain ⟨s1, s2⟩ := Zke (hA.made c hcm) (hgs c hcm) hA.n60 y.cap _ q2
 have hg := ZbU (hA.made c hcm) hA.n60 _ _ q2
 rw [Zkh hA hv q1 s2 hd]
 exact ⟨s1, ⟨by have := hg.len; omega, fun s hs => by have := hg.ok s hs; omega, fun s hs => by have := hg.ok s hs; have := hA.n60; unfold I64; omega⟩⟩
theorem Zkj (x : Inst) (b : Int) (hx : InstOk x) (hb : I64 b) : Pure Tryz.prog 4 [.agg (zt x), I b] (B true) := ZjZ x b hx hb (Zki x)
end Go.Proofs.YtaiplainginmaaaGreat.Pv
namespace Go.Proofs.YtaiplainginmaaaGreat
open Go Go.ChangeShapes Go.WideShapes Go.ChangeAt Go.RowKit Pv
set_option maxRecDepth 100000 in
theorem Zkk (os : Os) (started : os.Started) (H : Type) (enc : TypeId × Value → H) :
  ReturnsInHanded {} Tryz.checked os 4 .any (Rows.horizonEachSpec.pre6 enc Tryz.prog Tryz.f4 Rows.horizonEachRow.domain false) (Rows.horizonEachSpec.post enc Tryz.prog Tryz.f4 false true false false) := by
 refine returnsInHanded_of_change (C := Tryz.checked) Zdx started (by kernel_rfl) Tryz.func4
  (ChangeSpec.witness6 (enc := enc) (C := Tryz.checked) false ⟨#[], #[.agg #[.int .i64 0, .int .i64 0, .int .i64 0, .int .i64 0, .slice none 0 0, .slice none 0 0], .int .i64 0], []⟩ 8 (by kernel_rfl) (by kernel_rfl) (by kernel_rfl) (by kernel_rfl)) ?_
 intro W base args ds gs before hval0 hW hcnd _
 have hval : ∀ (j : Nat) t v, Tryz.f4.params[j]? = some t → args[j]? = some v → Value.okWide Tryz.prog W .any base t v := hval0
 have hW' := hW
 obtain ⟨p, q, hA0, hV, rfl, hfz, hnd⟩ := hW
 have hA : DataW.TrodAll enc Tryz.prog W 0 (fun _ => true) true Tryz.f4.params.toList args.toList ds p := hA0
 rw [Tryz.params4] at hA hval
 obtain ⟨v0, v1, d0, d1, p0, p1, rfl, rfl, rfl, h0, h1⟩ := trodAll_two hA
 obtain ⟨rfl, rfl⟩ := trodVars_none hV
 obtain ⟨c0, rfl, _⟩ := okWide_struct Tryz.underlying25 (hval 0 _ v0 rfl rfl)
 obtain ⟨a0, k0, r0⟩ := Zdv (Zd7 W) h0
 obtain ⟨z1, rfl⟩ := okWide_int Tryz.underlying3 (hval 1 _ v1 rfl rfl)
 obtain ⟨a1, k1, r1⟩ := Zdw ((j5 Tryz.underlying3 : wP Tryz.prog W 3 Int I64)) rfl h1
 have r1 := r1 _ rfl
 refine (Zdz ((Zkj a0 a1 k0 k1)) rfl (fun i c v hc hv => ?_)).mono fun e W' hq => ?_
 ·match i with
  | 0 => cases hc; cases hv; exact r0
  | 1 => cases hc; cases hv; exact r1
  | i + 2 => cases hc
 exact ⟨_, hq.1, ZdA rfl rfl (of_decide_eq_true (by kernel_rfl)) hW' rfl rfl rfl hq.2⟩
set_option maxRecDepth 100000 in
theorem Zkl : Rows.horizonEachRow.wf (OpenSpec.ofChange Rows.horizonEachSpec) = true := by kernel_rfl
set_option maxRecDepth 100000 in
theorem Zkm : Tryz.f4.params.all (Tryz.pinned.checked.prog.readableRec ·) = true := by kernel_rfl
set_option maxRecDepth 100000 in
theorem Zkn : namedTie Tryz.pinned.checked.prog Rows.horizonEachRow.named Rows.horizonEachSpec.vars = true := by kernel_rfl
set_option maxRecDepth 100000 in
theorem Zko : (Rows.horizonEachRow.inPlace == Tryz.pinned.checked.prog.inPlace 4) = true := by kernel_rfl
set_option maxRecDepth 100000 in
theorem Zkp : (Rows.horizonEachRow.unfollowed == Tryz.pinned.checked.prog.unfollowed 4) = true := by kernel_rfl
set_option maxRecDepth 100000 in
theorem Zkq : (Rows.horizonEachRow.recurses == Tryz.pinned.checked.prog.recurses 4) = true := by kernel_rfl
set_option maxRecDepth 100000 in
theorem Zkr : (Rows.horizonEachRow.named == Tryz.pinned.checked.prog.varsNamed 4) = true := by kernel_rfl
set_option maxRecDepth 100000 in
theorem Zks : (Rows.horizonEachRow.maps == (Tryz.f4.params.toList ++ Rows.horizonEachSpec.plain.varTypes Tryz.pinned.checked.prog).any (Tryz.pinned.checked.prog.mapsRec ·)) = true := by kernel_rfl
set_option maxRecDepth 100000 in
theorem Zkt : (Rows.horizonEachRow.ifaces == (Tryz.f4.params.toList ++ Rows.horizonEachSpec.plain.varTypes Tryz.pinned.checked.prog).any (Tryz.pinned.checked.prog.ifacesRec ·)) = true := by kernel_rfl
set_option maxRecDepth 100000 in
theorem Zku : (Rows.horizonEachRow.mapsOut == Tryz.pinned.checked.prog.mapsAmong Tryz.f4.resultTypes.toList) = true := by kernel_rfl
set_option maxRecDepth 100000 in
theorem Zkv : (Rows.horizonEachRow.loops == (Tryz.f4.params.toList ++ Rows.horizonEachSpec.plain.varTypes Tryz.pinned.checked.prog).any (Tryz.pinned.checked.prog.loopsFrom ·)) = true := by kernel_rfl
set_option maxRecDepth 100000 in
theorem Zkw : (Rows.horizonEachRow.wideKeys == (Tryz.f4.params.toList ++ Rows.horizonEachSpec.plain.varTypes Tryz.pinned.checked.prog ++ Tryz.f4.resultTypes.toList).any (Tryz.pinned.checked.prog.wideKeysFrom ·)) = true := by kernel_rfl
set_option maxRecDepth 100000 in
theorem Zkx : Rows.horizonEachSpec.vars.all (Tryz.pinned.checked.prog.varReadable ·) = true := by kernel_rfl
set_option maxRecDepth 100000 in
theorem Zky : Tryz.f4.resultTypes.all (fun t => Tryz.pinned.checked.prog.readableRec t && decide (t < Tryz.pinned.checked.prog.types.size)) = true := by kernel_rfl
set_option maxRecDepth 100000 in
theorem Zkz : (Rows.horizonEachRow.ifacesOut == Tryz.f4.resultTypes.toList.any (Tryz.pinned.checked.prog.ifacesRec ·)) = true := by kernel_rfl
set_option maxRecDepth 100000 in
theorem ZkA : (Rows.horizonEachRow.loopsOut == Tryz.f4.resultTypes.toList.any (Tryz.pinned.checked.prog.loopsFrom ·)) = true := by kernel_rfl
set_option maxRecDepth 100000 in
theorem ZkB : (Rows.horizonEachRow.plainKeys == Tryz.pinned.checked.prog.plainKeys) = true := by kernel_rfl
set_option maxRecDepth 100000 in
theorem ZkC : (Rows.horizonEachRow.lifted == Tryz.pinned.checked.prog.liftsFinal) = true := by kernel_rfl
set_option maxRecDepth 100000 in
theorem ZkD : (Tryz.pinned.checked.prog.make == some Rows.horizonEachRow.make) = true := by kernel_rfl
set_option maxRecDepth 100000 in
theorem ZkE : (Rows.horizonEachRow.kinds == (if Rows.horizonEachRow.domain.isEmpty then [] else Tryz.f4.params.toList.map fun t => match Tryz.pinned.checked.prog.underlying t with | some (.int k) => some k | _ => none)) = true := by kernel_rfl
set_option maxRecDepth 100000 in
theorem ZkF : (Rows.horizonEachRow.veiled == (Tryz.f4.params.toList ++ Rows.horizonEachSpec.plain.varTypes Tryz.pinned.checked.prog ++ Tryz.f4.resultTypes.toList).any (Tryz.pinned.checked.prog.veiledRec ·)) = true := by kernel_rfl
set_option maxRecDepth 100000 in
theorem ZkG : Rows.horizonEachRow.veiledFits Tryz.pinned.checked.prog Tryz.f4.params.toList (Tryz.f4.params.toList ++ Rows.horizonEachSpec.plain.varTypes Tryz.pinned.checked.prog ++ Tryz.f4.resultTypes.toList) = true := by kernel_rfl
theorem ZkH : Tryz.pinned.checked.prog.funcNamed Rows.horizonEachRow.func = some 4 := by kernel_rfl
theorem ZkI : Tryz.f4.isInstance Tryz.pinned.checked.prog Rows.horizonEachRow.origin Rows.horizonEachRow.targs := of_decide_eq_true (by kernel_rfl)
theorem ZkJ : Tryz.f4.isWrapper Tryz.pinned.checked.prog Rows.horizonEachRow.wrapper Rows.horizonEachRow.mainSum := by unfold Func.isWrapper; first | (rw [if_pos (by decide +kernel)]; kernel_rfl) | (rw [if_neg (by decide +kernel)]; exact ⟨rfl, rfl⟩)
set_option maxRecDepth 20000 in
theorem horizonEach_holds : Rows.HorizonEachSaid :=
 OpenClaim.holds_of_wide 4 Tryz.f4 rfl rfl rfl rfl rfl rfl rfl ⟨rfl, rfl, rfl, rfl, rfl⟩ rfl rfl rfl rfl rfl ZkH Tryz.func4 (ZdB Zkl ZdC ZdD Zkm Zkn rfl ZdE rfl ZdF Zko Zkp Zkq Zkr Zks Zkt Zku Zkv Zkw Zkx Zky Zkz ZkA ZkB rfl ZdG ZdH ZkC ZkD ZkE rfl ZkF ZkG)
  ZkI ZkJ
  (fun os started H enc _ => Zkk os started H enc)
end Go.Proofs.YtaiplainginmaaaGreat
