/- A part of the proof of the statement that the last text of this claim proves; no condition is added. Packed by a program of the prover. -/
import Derived.Test.YtaiplainginmaaaGreatQ4
namespace Go.Proofs.YtaiplainginmaaaGreat.Pv
open Go Go.Proofs Go.Shelf Go.RowKit Go.Lib
theorem ZgD {P : Program} (b o : Nat) (vs : List Value) (w : World) (cur : Array Value) (t : TypeId) (hw : w.heap[b]? = some (.cells cur t (0, 0))) (hl : o + vs.length ≤ cur.size) (h1 : ∀ v ∈ vs, v.oneCell' = true) :
  w.setCells b o vs = w.setRow b (cur.toList.take o ++ vs ++ cur.toList.drop (o + vs.length)).toArray := by
 have a := run_storeCells_cells (P := P) b o vs 0 w (fun j hj => by simp [World.cell?, hw]; omega) (fun j _ => by simp [World.frozen?, hw]) h1
 have c := run_storeCells_at (P := P) b o t vs 0 cur w hw (by simpa using hl) h1
 rw [a] at c
 simpa using c
theorem ZgE (zc : Array Value) : (Builtin.zeroCells zc 1).toList = zc.toList := by
 apply List.ext_getElem
 ·simp [Builtin.zeroCells]
 ·intro i h1 h2
  simp [Builtin.zeroCells, Nat.mod_eq_of_lt (show i < zc.size by simpa using h2)]
  exact getElem!_pos zc i (by simpa using h2)
theorem ZgF {P : Program} (w : World) (t e ty : TypeId) (zc : Array Value) (ht : P.underlying t = some (.slice e)) (hv : ∀ w, (zeroValue e).run P w = .ok (.agg zc) w) (h1 : ∀ v ∈ zc.toList, v.oneCell' = true) (b o c : Nat) (cur : Array Value) (t' : TypeId) (hw : w.heap[b]? = some (.cells cur t' (0, 0))) (hl : o + zc.size ≤ cur.size) :
  (Builtin.clear_ #[t] ty #[.slice (some ⟨b, o, none⟩) 1 c]).run P w = .ok (.tuple #[]) (w.setRow b (cur.toList.take o ++ zc.toList ++ cur.toList.drop (o + zc.size)).toArray) := by
 have c := run_storeCells_at (P := P) b o t' zc.toList 0 cur w hw (by simpa using hl) h1
 simp only [Nat.add_zero, Array.length_toList] at c
 simp [Builtin.clear_, run_underlying ht, hv, ZgE, c]
set_option maxHeartbeats 4000000 in
set_option maxRecDepth 100000 in
theorem ZgG (b n c i : Nat) (V : List Value) (w : World) (i0 : TypeInfo) (hi0 : Tryz.prog.info? 50 = some i0) (hzs : i0.size = 2) (cur : Array Value) (hcur : w.heap[b]? = some (.cells cur 50 (0, 0))) (hcc : cur.size = c * 2)
  (hi : i < n) (hnc : n ≤ c) (hc63 : c ≤ 9223372036854775807) (hn : n ≤ 1048576) (hV : V.length = n * 2) (hcV : cur.toList.take (n * 2) = V) (h1 : ∀ v ∈ V, v.oneCell' = true) (R1 R2 : Array Value)
  (hR1 : R1 = (cur.toList.take (i * 2) ++ V.drop ((i + 1) * 2) ++ cur.toList.drop (i * 2 + (V.drop ((i + 1) * 2)).length)).toArray) (hR2 : R2 = (R1.toList.take ((i + (n - (i + 1))) * 2) ++ ([.int .i64 0, .int .i64 0] : List Value) ++ R1.toList.drop ((i + (n - (i + 1))) * 2 + 2)).toArray) :
  Calls Tryz.prog 248 #[.slice (some ⟨b, 0, none⟩) n c, .int .i64 i, .int .i64 ((i : Int) + 1)] w fun e w' =>
   e = .returned (.slice (some ⟨b, 0, none⟩) (i + (n - (i + 1))) c) ∧ w' = (w.drew.setRow b R1).setRow b R2 := by
 obtain ⟨news, hnews⟩ : ∃ news, news = V.drop ((i + 1) * 2) := ⟨_, rfl⟩
 have hlen : news.length = (n - (i + 1)) * 2 := by rw [hnews, List.length_drop, hV]; omega
 have hget : ∀ t u, news[t]? = some u → w.drew.cell? ⟨b, (i + 1) * 2 + t, none⟩ = some u := by
  intro t u hu
  rw [hnews, List.getElem?_drop, ← hcV, List.getElem?_take] at hu
  split at hu
  ·rw [Array.getElem?_toList] at hu
   show w.cell? _ = _
   simp [World.cell?, hcur, hu]
  ·cases hu
 obtain ⟨A, hA, hsrc⟩ : ∃ A : Addr, (if c = i + 1 then some (⟨b, 0, none⟩ : Addr) else some ⟨b, (i + 1) * 2, none⟩) = some A ∧ Hid (∀ t u, news[t]? = some u → w.drew.cell? (A.add t) = some u) := by
  by_cases h : c = i + 1
  ·refine ⟨⟨b, 0, none⟩, by simp [h], fun t u hu => ?_⟩
   have h0 : news.length = 0 := by rw [hlen]; omega
   rw [List.length_eq_zero_iff.1 h0] at hu
   simp at hu
  ·refine ⟨⟨b, (i + 1) * 2, none⟩, by simp [h], fun t u hu => ?_⟩
   rw [Addr.add_lit]
   exact hget t u hu
 have s1 : Hid (news.length = (n - (i + 1)) * 2) := hlen
 have s2 : Hid (∀ u ∈ news, u.oneCell' = true) := fun u hu => h1 u (by rw [hnews] at hu; exact List.mem_of_mem_drop hu)
 have s3 : Hid (∀ t, t < news.length → (w.drew.cell? ⟨b, 0 + i * 2 + t, none⟩).isSome = true ∧ w.drew.frozen? ⟨b, 0 + i * 2 + t, none⟩ = false) := by
  intro t ht
  rw [hlen] at ht
  refine ⟨?_, ?_⟩
  ·show (w.cell? _).isSome = true
   simp [World.cell?, hcur]; omega
  ·show w.frozen? _ = false
   simp [World.frozen?, hcur]
 obtain ⟨W1, hW1⟩ : ∃ W1, W1 = w.drew.setCells b (0 + i * 2) news := ⟨_, rfl⟩
 have hW1' : W1 = w.drew.setRow b R1 := by
  rw [hW1, ZgD (P := Tryz.prog) b (0 + i * 2) news w.drew cur 50 hcur (by rw [hlen, hcc]; omega) s2, hR1, hnews, Nat.zero_add]
 have hW1h : W1.heap[b]? = some (.cells R1 50 (0, 0)) := by rw [hW1']; exact setRow_heap _ _ _ _ _ _ hcur
 have hR1s : R1.size = c * 2 := by rw [hR1, ← hnews]; simp [hlen]; omega
 have hcl : ∀ ty, (Builtin.clear_ #[46] ty #[.slice (some ⟨b, (i + (n - (i + 1))) * 2, none⟩) (n - (i + (n - (i + 1)))) (c - (i + (n - (i + 1))))]).run Tryz.prog W1 = .ok (.tuple #[]) (W1.setRow b R2) := fun ty => by
  have := ZgF (P := Tryz.prog) W1 46 50 ty #[.int .i64 0, .int .i64 0] Tryz.underlying46 Tryz.zeroValue50 (by intro v hv; simp at hv; rcases hv with rfl | rfl <;> rfl) b ((i + (n - (i + 1))) * 2) (c - (i + (n - (i + 1)))) R1 50 hW1h (by simp; omega)
  rw [show n - (i + (n - (i + 1))) = 1 by omega, this, hR2]
  simp
 have hW : Hid (W1 = w.drew.setCells b (0 + i * 2) news) := hW1
 have hX : Hid (W1 = w.drew.setRow b R1) := hW1'
 clear hW1 hW1' hW1h hR1 hR2 hR1s hcur hcV hget hnews hlen h1 hV hcc
 have hic : i ≤ c := by omega
 have hjc : i + 1 ≤ c := by omega
 have hin : i ≤ n := by omega
 have hjn : i + 1 ≤ n := by omega
 have hne : ¬ (i : Int) = (i : Int) + 1 := by omega
 have hb1 : (0 : Int) ≤ (i : Int) + 1 := by omega
 have htn : ((i : Int) + 1).toNat = i + 1 := by omega
 have hb2 : (i : Int) + 1 ≤ (n : Int) := by omega
 have hb3 : (i : Int) ≤ (i : Int) + 1 := by omega
 have hcn : ¬ c = i + (n - (i + 1)) := by omega
 have hnn : i + (n - (i + 1)) ≤ n := by omega
 have mixed : Tryz.prog.follows .mixedOrders = true := by kernel_rfl
 go_enter Tryz.func248, Tryz.ntmps248
 go_wp2_with fail
 go_region_law_o (refine step_append_room rfl (.tmp 22) (.tmp 25) 46 rfl 50 i0 2 Tryz.underlying46 hi0 hzs b 0 i c (by simp [Act.eval, Act.put]) A (n - (i + 1)) (c - (i + 1)) news (by simp [Act.eval, Act.put]) s1.out hsrc.out s2.out (by omega) s3.out ?_; rw [← hW.out])
 go_wp2
 go_ret
 exact ⟨rfl, by rw [hX.out]⟩
theorem ZgH (l : List Stop) (i : Nat) (h : i < l.length) : zF (l.eraseIdx i) = (zF l).take (i * 2) ++ (zF l).drop ((i + 1) * 2) := by
 rw [List.eraseIdx_eq_take_drop_succ, YN, W5 l i (by omega), W6 l (i + 1) (by omega)]
theorem ZgI {S : Store} {id ver : Nat} (cs : List Stop) (i : Nat) (hi : i < cs.length) (hn : cs.length ≤ 1000000) (hid : S id = .cells ver 50 (cs.flatMap Enc.enc)) :
  Spec Tryz.prog 248 [.sl id ver 2 0 cs.length, I i, I ((i : Int) + 1)] S (fun p S' => p = .sl id (ver + 1) 2 0 (cs.eraseIdx i).length ∧ S' = S.set id (.cells (ver + 1) 50 ((cs.eraseIdx i).flatMap Enc.enc))) := by
 refine ⟨yL Tryz.func248 (by rfl) rfl, ?_⟩
 intro C w vs hS hl hr
 obtain ⟨u, v, x, rfl⟩ := W7 hl
 obtain rfl := vY (hr 1 _ v rfl rfl)
 obtain rfl := vY (hr 2 _ x rfl rfl)
 have hu := hr 0 _ u rfl rfl
 have hvl : (zF cs).length = cs.length * 2 := uM cs
 have hel : (cs.eraseIdx i).length = i + (cs.length - (i + 1)) := by rw [List.length_eraseIdx_of_lt hi]; omega
 have hnew := ZgH cs i hi
 have hnl : (zF (cs.eraseIdx i)).length = (i + (cs.length - (i + 1))) * 2 := by rw [uM, hel]
 rw [W4] at hid ⊢
 rw [hel]
 generalize cs.eraseIdx i = es at *
 obtain ⟨i0, hi0⟩ := Option.isSome_iff_exists.1 i50
 have hc := c50
 simp only [Program.cellsOf, hi0, Option.map_some, Option.getD_some] at hc
 cases hu with
 | sl h1 h2 h3 =>
  obtain ⟨ad, cap, rfl, q1, q2, q3, q4⟩ := h1
  have hloc := (h3 ver (by rw [hid]; rfl)).2 rfl
  rcases hS.cells id ver _ _ hid with ⟨hno, hnil⟩ | ⟨b, k, c, g1, g2, g3, g4, g5, g6⟩
  ·have := congrArg List.length hnil
   simp [hvl] at this
   exfalso; omega
  rcases hloc with ⟨z1, _⟩ | ⟨b', k', ad', cap', z1, z2, z3, z4⟩
  ·rw [g1] at z1; cases z1
  rw [g1] at z1; cases z1; cases z2
  obtain ⟨rfl, hcap⟩ := z3 rfl
  rw [List.length_map, hvl] at g4
  have hcells : ∀ (j : Nat) v, (zF cs)[j]? = some v → c[j]? = some v := by
   intro j v hj
   have hjl := (List.getElem?_eq_some_iff.1 hj).1
   have e2 : c[j]? = some c[j] := Array.getElem?_eq_getElem (by omega)
   have := g6 j (.sc v) _ (by rw [List.getElem?_map, hj]; rfl) e2
   rw [e2]
   generalize c[j] = y at this
   cases this; rfl
  have hcur : c.toList.take (cs.length * 2) = zF cs := by
   apply List.ext_getElem?
   intro j
   by_cases hj : j < cs.length * 2
   ·rw [List.getElem?_take_of_lt hj, Array.getElem?_toList]
    have e : (zF cs)[j]? = some (zF cs)[j] := List.getElem?_eq_getElem (by omega)
    rw [e, hcells j _ e]
   ·rw [List.getElem?_eq_none (by simp; omega), List.getElem?_eq_none (by omega)]
  have hcsz : c.size = cap * 2 := g3.trans hcap.symm
  have hdl : ((zF cs).drop ((i + 1) * 2)).length = (cs.length - (i + 1)) * 2 := by rw [List.length_drop, hvl]; omega
  obtain ⟨R1, hR1⟩ : ∃ R1 : Array Value, R1 = (c.toList.take (i * 2) ++ (zF cs).drop ((i + 1) * 2) ++ c.toList.drop (i * 2 + ((zF cs).drop ((i + 1) * 2)).length)).toArray := ⟨_, rfl⟩
  obtain ⟨R2, hR2⟩ : ∃ R2 : Array Value, R2 = (R1.toList.take ((i + (cs.length - (i + 1))) * 2) ++ ([.int .i64 0, .int .i64 0] : List Value) ++ R1.toList.drop ((i + (cs.length - (i + 1))) * 2 + 2)).toArray := ⟨_, rfl⟩
  have htk : c.toList.take (i * 2) = (zF cs).take (i * 2) := by rw [← hcur, List.take_take, Nat.min_eq_left (by omega)]
  have hR1l : R1.toList.take ((i + (cs.length - (i + 1))) * 2) = zF es := by
   rw [hR1]
   simp only []
   rw [htk, ← hnew, ← hnl, List.take_left]
  have hR1s : R1.size = cap * 2 := by rw [hR1]; simp [hdl]; omega
  have hR2l : R2.toList = zF es ++ (([.int .i64 0, .int .i64 0] : List Value) ++ R1.toList.drop ((i + (cs.length - (i + 1))) * 2 + 2)) := by
   rw [hR2, hR1l]
   simp
  have hR2s : R2.size = cap * 2 := by
   rw [← Array.length_toList, hR2l]
   simp [hnl, hR1s]
   omega
  refine (ZgG b cs.length cap i (zF cs) w i0 hi0 hc c g2 hcsz hi q1 (by unfold maxLen at q3; omega) (by omega) hvl hcur (uN cs) R1 R2 hR1 hR2).mono ?_
  rintro e w' ⟨rfl, rfl⟩
  obtain ⟨r1, r2⟩ := Jh (C := C) (S := S) (w := w) hR2l (uN _)
  have hb1 := setRow_heap w.drew b c R1 _ _ g2
  obtain ⟨t1, t2⟩ := hS.turn (l := some (b, cap * 2)) (ver' := ver + 1) (cs' := (zF es).map .sc) hid (by omega) (fun h => absurd h (by omega)) (w' := (w.drew.setRow b R1).setRow b R2)
   (by
    rw [g1]
    refine ⟨⟨rfl, rfl, rfl, by simp [World.setRow], fun j hj hne => ?_⟩, Nat.le_succ _⟩
    have hjb : j ≠ b := fun e => hne (by rw [e]; rfl)
    rw [setRow_other _ _ _ _ hjb, setRow_other _ _ _ _ hjb]; rfl)
   (.inr ⟨b, cap * 2, R2, rfl, .inr (by rw [g1]; rfl), setRow_heap _ _ _ _ _ _ hb1, hR2s, by rw [List.length_map, hnl]; omega, r1, r2⟩)
  refine ⟨_, _, _, _, rfl, ⟨rfl, rfl⟩, ?_, t1, t2⟩
  refine .sl ⟨_, _, rfl, by omega, by unfold qv; omega, q3, fun _ => ⟨_, _, rfl⟩⟩ ⟨h2.1, by simp only [Ctx.at]; omega⟩ fun v0 hv0 => ?_
  rw [Store.set_same] at hv0; cases hv0
  exact ⟨Nat.le_refl _, fun _ => .inr ⟨b, _, _, _, by simp [Ctx.at], rfl, fun _ => ⟨rfl, rfl⟩, fun _ => rfl⟩⟩
open Go Go.Proofs
def x7 (c : Int) (l : List Stop) : Int := ((l.filter fun s => decide (s.c = c)).map (·.q)).sum
theorem Zar (c : Int) (d : Day) : JS c d = W (x7 c d.flatten) := rfl
theorem Zas (c : Int) (l : List Stop) (s : Stop) : x7 c (l ++ [s]) = x7 c l + if s.c = c then s.q else 0 := by
 unfold x7
 rw [List.filter_append, List.map_append, List.sum_append]
 by_cases h : s.c = c <;> simp [h]
theorem Zat (c : Int) (l : List Stop) (s : Stop) : yk c (l ++ [s]) = yk c l ++ if s.c = c then [] else [s] := by
 unfold yk
 rw [List.filter_append]
 by_cases h : s.c = c <;> simp [h]
theorem Zau (c : Int) (d : Day) (t : zo) : yr c (d ++ [t]) = yr c d ++ if (yk c t).length = 0 then [] else [yk c t] := by
 rw [ZfY]
 congr 1
 unfold yr
 rw [List.map_cons, List.map_nil]
 generalize yk c t = u
 cases u <;> simp
theorem Qb (c : Int) (t : zo) : (yk c t).length ≤ t.length := List.length_filter_le _ _
theorem J1 (c : Int) (d : Day) : (yr c d).length ≤ d.length := by
 unfold yr
 exact Nat.le_trans (List.length_filter_le _ _) (by simp)
set_option maxRecDepth 20000 in
set_option maxHeartbeats 1600000 in
theorem ZgJ (d : Day) (c : Int) (hdn : d.length ≤ 1048576) (hdt : ∀ t ∈ d, t.length ≤ 1048576) : Pure Tryz.prog 68 [.agg [L d], I c] (.tup [.agg [L (yr c d)], I (JS c d)]) := by
 rw [Zar]
 refine pwe Tryz.func68 Tryz.ntmps68 Tryz.results68 fun S nx hd => ?_
 repeat apply za
 refine pwn ?_
 intro v0 v1
 repeat apply za
 refine pwn ?_
 intro v2
 refine qa 2 0 72 1 rfl rfl fun v3 => ?_
 (repeat apply za); refine pwn ?_; intros
 (repeat apply za); refine pwn ?_; intros
 repeat apply za
 refine ze (zq (fun (s : Nat × Nat) => s.1 ≤ d.length) (fun (k, v3) => [(1, I c), (4, .ptr (nx + 1) v1 0), (6, .ptr (nx + 2) v2 0), (7, I (W (x7 c (d.take k).flatten))), (14, L d), (15, I d.length), (16, I k)]) (fun (k, v3) => [.cells v0 66 [L d], .cells v1 66 [zS], .cells v2 66 [.sl (nx + 3) v3 1 0 (yr c (d.take k)).length], .cells v3 72 ((yr c (d.take k)).flatMap Enc.enc)]) (fun s => d.length - s.1) (0, v3) [] (by simp) (by simp [x7]) (by simp [yr]) ?_)
 rintro ⟨k, v3⟩ hk
 simp only at hk ⊢
 (repeat apply za); refine pwn ?_; intros
 repeat apply za
 refine zl rfl (fun hc => ?_) (fun hc => ?_)
 ·simp at hc
  obtain ⟨t, tl, a1, a2, a3, e0⟩ := el1 rfl d k hc
  have hk1 : 1 ≤ d.length - k := by omega
  have htm := List.mem_of_getElem? a1
  have htn := hdt t htm
  have hrd := Zau c (d.take k) t
  rw [← a3] at hrd
  have hfl : (d.take (k + 1)).flatten = (d.take k).flatten ++ t := by rw [a3, List.flatten_append]; simp
  generalize (d.take k).flatten = pre at *
  have hrl : (yr c (d.take k)).length ≤ 1048576 := Nat.le_trans (J1 _ _) (by rw [List.length_take]; omega)
  refine zd (za (ze ?_))
  generalize hrk : yr c (d.take k) = rk at *
  have hfz : ∀ id v cs, (rk.flatMap Enc.enc).map (yo id v cs) = (rk.flatMap Enc.enc : List PV) := fun id v cs => JY id v cs rk
  have hrf : (rk.flatMap Enc.enc : List PV).length = rk.length := qm rk
  have hrt : (rk.flatMap Enc.enc : List PV).take rk.length = rk.flatMap Enc.enc := List.take_of_length_le (by omega)
  repeat apply za
  refine pwN [] (jn3 hc e0 hk1) ?_
  intro v4
  (repeat apply za); refine pwn ?_; intros
  refine yA 10 50 2 rfl fun v5 => ?_
  (repeat apply za); refine pwn ?_; intros
  repeat apply za
  refine ze (zq (fun (s : Nat × Nat) => s.1 ≤ t.length) (fun (j, v5) => [(1, I c), (4, .ptr (nx + 1) v1 0), (6, .ptr (nx + 2) v2 0), (7, I (W (x7 c (pre ++ t.take j)))), (10, .sl (nx + 5) v5 2 0 (yk c (t.take j)).length), (14, L d), (15, I d.length), (16, I k), (21, L t), (22, I t.length), (23, I j)]) (fun (j, v5) => [.cells v0 66 [L d], .cells v1 66 [zS], .cells v2 66 [.sl (nx + 3) v3 1 0 rk.length], .cells v3 72 (rk.flatMap Enc.enc), .cells v4 72 [L t], .cells v5 50 ((yk c (t.take j)).flatMap Enc.enc)]) (fun s => t.length - s.1) (0, v5) [] (by simp) (by simp [yk]) (by simp [yk]) ?_)
  rintro ⟨j, v5⟩ hj
  simp only at hj ⊢
  (repeat apply za); refine pwn ?_; intros
  repeat apply za
  refine zl rfl (fun hcj => ?_) (fun hcj => ?_)
  ·simp at hcj
   obtain ⟨s, ts, b1, b2, b3, b4, b5⟩ := el 2 rfl t j hcj
   have hj2 : 2 ≤ t.length * 2 - j * 2 := by omega
   have hsum := Zas c (pre ++ t.take j) s
   rw [List.append_assoc, ← b3] at hsum
   have hrs := Zat c (t.take j) s
   rw [← b3] at hrs
   have hul : (yk c (t.take j)).length ≤ 1048576 := Nat.le_trans (Qb _ _) (by rw [List.length_take]; omega)
   generalize yk c (t.take j) = u at *
   have huf : (u.flatMap Enc.enc : List PV).length = u.length * 2 := xi u
   have hut : (u.flatMap Enc.enc : List PV).take (u.length * 2) = u.flatMap Enc.enc := List.take_of_length_le (by omega)
   refine zd (za (ze ?_))
   repeat apply za
   refine pwN [] (jn3 hcj b5 hj2) ?_
   intro v6
   (repeat apply za); refine pwn ?_; intros
   repeat apply za
   refine zl rfl (fun hq => ?_) (fun hq => ?_)
   ·simp at hq
    rw [if_pos hq] at hsum hrs
    rw [List.append_nil] at hrs
    (repeat apply za); refine pwn ?_; intros
    (repeat apply za); refine pwn ?_; intros
    exact zk (j + 1, v5) [_] (by simp; omega) (by simp; omega) (by simp [wrN j (by omega), hsum, xg, hrs]) rfl (by simp [hrs]; rfl)
   ·simp at hq
    rw [if_neg hq] at hsum hrs
    rw [Int.add_zero] at hsum
    have hul' : ((yk c (t.take (j + 1))).flatMap Enc.enc : List PV) = u.flatMap Enc.enc ++ [I s.c, I s.q] := by rw [hrs, List.flatMap_append]; rfl
    repeat apply za
    refine pwN [] (jn2 huf hut) ?_
    refine ⟨by omega, ?_⟩
    intros
    (repeat apply za); refine pwn ?_; intros
    exact zk (j + 1, v5 + 1) [_] (by simp; omega) (by simp; omega) (by simp [wrN j (by omega), hsum, hrs]) rfl (by simp [hul']; rfl)
  ·simp at hcj
   obtain rfl : j = t.length := by omega
   refine zm ?_
   rw [List.take_length]
   have hul : (yk c t).length ≤ 1048576 := Nat.le_trans (Qb _ _) htn
   generalize yk c t = u at *
   have huf : (u.flatMap Enc.enc : List PV).length = u.length * 2 := xi u
   refine zC 5 rfl ?_
   simp only [List.map_cons, List.map_nil, List.set_cons_succ, List.set_cons_zero, qD, hfz]
   (repeat apply za); refine pwn ?_; intros
   repeat apply za
   refine zl rfl (fun hq => ?_) (fun hq => ?_)
   ·simp at hq
    rw [if_neg (by omega)] at hrd
    have hrl' : ((rk ++ [u]).flatMap Enc.enc : List PV) = rk.flatMap Enc.enc ++ [L u] := by rw [List.flatMap_append]; rfl
    repeat apply za
    refine pwN [] (jn2 hrf hrt) ?_
    refine ⟨by omega, ?_⟩
    intros
    (repeat apply za); refine pwn ?_; intros
    exact zk (k + 1, v3 + 1) [_, _] (by simp; omega) (by simp; omega) (by simp [wrN k (by omega), hfl]) rfl (by simp [hrd, hrl']; exact ⟨rfl, rfl⟩)
   ·simp at hq
    rw [if_pos (by rw [hq]; rfl), List.append_nil] at hrd
    refine zd ?_
    (repeat apply za); refine pwn ?_; intros
    exact zk (k + 1, v3) [_, _] (by simp; omega) (by simp; omega) (by simp [wrN k (by omega), hfl]) rfl (by simp [hrd]; exact ⟨rfl, rfl⟩)
 ·simp at hc
  obtain rfl : k = d.length := by omega
  refine zm ?_
  refine zC 3 rfl ?_
  have g1 : d.take d.length = d := List.take_length
  (repeat apply za); refine pwn ?_; intros
  repeat apply za
  exact zb (zg hd (by simp; rfl) (by simp [zi, g1]))
open Go Hp
theorem Zav {x : Inst} (h : ∀ row ∈ x.dist, ∀ d ∈ row, 0 ≤ d ∧ d ≤ 2147483648) : yq x := by
 intro a b
 unfold arc
 split
 ·omega
 ·rw [List.getD_eq_getElem?_getD, List.getD_eq_getElem?_getD]
  cases hr : x.dist[a.toNat]? with
  | none => simp
  | some row =>
   simp only [Option.getD_some]
   cases hd : row[b.toNat]? with
   | none => simp
   | some d => exact h row (List.mem_of_getElem? hr) d (List.mem_of_getElem? hd)
open Go Go.Proofs
theorem uV {α : Type} {a b : List α} {k : Nat} {x y : α} (hx : a[k]? = some x) (hy : b[k]? = some y) (h : x ≠ y) : a ≠ b := by
 rintro rfl; rw [hx] at hy; cases hy; exact h rfl
theorem ZgK {x : Inst} {d : Day} {s : Stop} (hx : x.cust.length ≤ 1048576) (hdo : DayOk d) (hd1 : d.length ≤ 1000000) (hf : d.flatten.length ≤ 1000000) : DayOk (zW x d s).1 := by
 unfold zW
 cases hb : (jM (yd x d s)).2 with
 | false => exact hdo
 | true =>
  have hm := Y0 hb
  have hp := JP hm
  have hs := Zak hx (ZN hm).1
  simp only [cond_true]
  have hfl : (yT d (jM (yd x d s)).1 s).flatten.length ≤ 1000001 := by rw [hp.length_eq, List.length_cons]; omega
  refine ⟨?_, fun t ht => ?_, fun t ht a ha => ?_⟩
  ·unfold yT; split
   ·simp; omega
   ·simp; omega
  ·have := (jZ ht).length_le; omega
  ·have := hp.subset ((jZ ht).subset ha)
   rw [List.mem_cons] at this
   rcases this with rfl | h
   ·exact hs
   ·obtain ⟨u, hu, hau⟩ := List.mem_flatten.1 h
    exact hdo.s u hu a hau
open Go Go.Proofs
def xI (l : List Int) : Int := if 1 < l.length then W (l.getD 1 0 - l.getD 0 0) else 1099511627776
def jN (c : Stop → List Int) : List Stop → Nat → Int → Int → Int
 | [], _, place, _ => place
 | s :: l, i, place, most => if (c s).length = 0 then (i : Int) else if place < 0 ∨ most < xI (c s) then jN c l (i + 1) (i : Int) (xI (c s)) else jN c l (i + 1) place most
def x8 (x : Inst) (d : Day) (l : List Stop) : Int := jN (uU x d) l 0 (-1) 0
theorem J2 (c : Stop → List Int) : ∀ (l : List Stop) (i : Nat) (place most : Int), (l ≠ [] ∨ 0 ≤ place) → place < i → 0 ≤ jN c l i place most ∧ jN c l i place most < (i + l.length : Nat)
 | [], i, place, most, h, hp => by
  rcases h with h | h
  ·exact absurd rfl h
  ·simp only [jN, List.length_nil]; omega
 | s :: l, i, place, most, _, hp => by
  unfold jN
  split
  ·simp only [List.length_cons]; omega
  ·split
   ·have := J2 c l (i + 1) i (xI (c s)) (.inr (by omega)) (by omega)
    simp only [List.length_cons]; omega
   ·rename_i hc
    have := J2 c l (i + 1) place most (.inr (by omega)) (by omega)
    simp only [List.length_cons]; omega
theorem Zaw {x : Inst} {d : Day} {l : List Stop} (h : l ≠ []) : ∃ k : Nat, x8 x d l = k ∧ k < l.length := by
 have := J2 (uU x d) l 0 (-1) 0 (.inl h) (by omega)
 exact ⟨(x8 x d l).toNat, by unfold x8; omega, by unfold x8; omega⟩
def jO (x : Inst) : Nat → Day → List Stop → Day × Bool
 | 0, d, _ => (d, true)
 | n + 1, d, l => bif (zW x d (l.getD (x8 x d l).toNat default)).2 then jO x n (zW x d (l.getD (x8 x d l).toNat default)).1 (l.eraseIdx (x8 x d l).toNat) else (d, false)
def yM (x : Inst) (l : List Stop) : Day × Bool := jO x l.length [] l
structure RgOk (x : Inst) (d : Day) (l : List Stop) : Prop where
 ok : DayOk d
 may : zH x d = 0
 len : d.flatten.length + l.length ≤ 1000
theorem RgOk.dl {x : Inst} {d : Day} {l : List Stop} (h : RgOk x d l) : d.length ≤ 1000 := by
 have h1 := ZM d (Y7 h.may)
 have h2 := h.len
 omega
theorem RgOk.step {x : Inst} {d : Day} {l : List Stop} (hx : x.cust.length ≤ 1048576) (h : RgOk x d l) {i : Nat} (hi : i < l.length) {s : Stop} (hs : (zW x d s).2 = true) : RgOk x (zW x d s).1 (l.eraseIdx i) := by
 have hf := h.len
 have hl := h.dl
 refine ⟨ZgK hx h.ok (by omega) (by omega), ?_, ?_⟩
 ·unfold zW at hs ⊢
  cases hb : (jM (yd x d s)).2 with
  | false => rw [hb] at hs; cases hs
  | true => exact JR (Y0 hb)
 ·rw [(V1 hs).length_eq, List.length_cons, List.length_eraseIdx_of_lt hi]; omega
theorem Zax {x : Inst} (hv : 0 ≤ x.veh) {l : List Stop} (hl : l.length ≤ 1000) : RgOk x [] l :=
 ⟨⟨by simp, by simp, by simp⟩, (jm x []).2 ⟨by simp, by simp, by simpa using hv⟩, by simpa using hl⟩
theorem ZgL {c : Stop → List Int} {l : List Stop} {k : Nat} {s : Stop} {place most : Int} (hd : l.drop k = s :: l.drop (k + 1)) :
  jN c (l.drop k) k place most = if (c s).length = 0 then (k : Int) else if place < 0 ∨ most < xI (c s) then jN c (l.drop (k + 1)) (k + 1) (k : Int) (xI (c s)) else jN c (l.drop (k + 1)) (k + 1) place most := by
 rw [hd]; rfl
set_option maxRecDepth 20000 in
set_option maxHeartbeats 1600000 in
theorem ZgM (x : Inst) (d : Day) (l : List Stop) (hx : x.cust.length ≤ 1048576) (h : RgOk x d l) {S : Store} {id ver : Nat} (hid : S id = .cells ver 50 (l.flatMap Enc.enc)) :
  Spec Tryz.prog 247 [.agg (xF x d), .sl id ver 2 0 l.length] S (fun p S' => p = I (x8 x d l) ∧ S' = S) := by
 have hf := h.len
 have hl := h.dl
 have hco := fun s => ZgC x d s hx h.ok h.may (by omega) (by omega)
 have hu : x8 x d l = jN (uU x d) (l.drop 0) 0 (-1) 0 := rfl
 rw [hu]
 clear hu
 obtain ⟨on, tw, fs, bd, ls, ws, hlk⟩ : ∃ on tw fs bd ls ws, xF x d = jY x d on tw fs bd ls ws := ⟨_, _, _, _, _, _, rfl⟩
 rw [hlk] at hco ⊢
 clear hlk
 generalize hcz : uU x d = cz at *
 refine jg Tryz.func247 Tryz.ntmps247 Tryz.results247 fun nx hd => ?_
 have hlt : id < nx := yQ hd hid (by simp)
 have xid := fun obs => zy (S := S) (obs := obs) hlt
 repeat apply za
 refine pwn ?_
 intro v0
 (repeat apply za); refine pwn ?_; intros
 (repeat apply za); refine pwn ?_; intros
 repeat apply za
 refine ze (zq (fun s' : Nat × Int × Int => s'.1 ≤ l.length ∧ jN cz (l.drop s'.1) s'.1 s'.2.1 s'.2.2 = jN cz (l.drop 0) 0 (-1) 0) (fun (k, place, most) => [(2, .ptr nx v0 0), (5, I place), (6, I most), (11, .sl id ver 2 0 l.length), (12, I l.length), (13, I k)]) (fun _ => [.cells v0 149 (jY x d on tw fs bd ls ws)]) (fun s' => l.length - s'.1) (0, -1, 0) [] ⟨by simp, rfl⟩ (by simp) (by simp) ?_)
 rintro ⟨k, place, most⟩ ⟨hk, hg⟩
 simp only at hk hg ⊢
 rw [← hg]
 (repeat apply za); refine pwn ?_; intros
 repeat apply za
 refine zl rfl (fun hc => ?_) (fun hc => ?_)
 ·simp at hc
  obtain ⟨s, tl, a1, a2, a3, e1, e0⟩ := el 2 rfl l k hc
  have hk2 : 2 ≤ l.length * 2 - k * 2 := by omega
  have hun := ZgL (c := cz) (place := place) (most := most) a2
  have hcs := hco s
  generalize hc0 : cz s = c at *
  have wk := wrN k (by omega)
  refine zd (za (ze ?_))
  repeat apply za
  refine pwN [] (jn5 xid hid e0 hc hk2) ?_
  intro v1
  repeat apply za
  refine pwn ?_
  refine pwc hcs ?_
  intros
  by_cases h0 : c.length = 0
  ·rw [if_pos h0] at hun
   repeat apply za
   refine pwN [] h0 ?_
   intros
   repeat apply za
   refine zh rfl ?_
   (repeat apply za); refine pwn ?_; intros
   repeat apply za
   exact zb ⟨_, S, (by simp; rfl), ⟨by simp [zi, hun], rfl⟩, zL hd⟩
  rw [if_neg h0] at hun
  (repeat apply za); refine pwn ?_; intros
  repeat apply za
  refine zj (by simp; exact fun e => h0 (by rw [e]; rfl)) ?_
  refine zd ?_
  (repeat apply za); refine pwn ?_; intros
  repeat apply za
  refine zR (nx := nx) (fun _ : Unit => True) (fun _ => [(2, .ptr nx v0 0), (5, I place), (6, I most), (7, I k), (10, I (xI c)), (11, .sl id ver 2 0 l.length), (12, I l.length), (13, I k)]) (fun _ => S) (fun _ => [.cells v0 149 (jY x d on tw fs bd ls ws)]) ?_ ?_
  ·by_cases h1 : 1 < c.length
   ·obtain ⟨a, ta, q1, -, -, q0⟩ := el1 rfl c 1 h1
    obtain ⟨b, tb, r1, -, -, r0⟩ := el1 rfl c 0 (by omega)
    have hab : xI c = W (a - b) := by unfold xI; rw [if_pos h1, List.getD_eq_getElem?_getD, List.getD_eq_getElem?_getD, q1, r1]; rfl
    have g1 : 1 ≤ c.length - 1 := by omega
    have g2 : 0 < c.length := by omega
    have g3 : 1 ≤ c.length := by omega
    have r0' : (c.flatMap Enc.enc : List PV) = Enc.enc b ++ tb := by simpa using r0
    have h1' : (1 : Int) < c.length := by omega
    repeat apply za
    refine zh (by simp; omega) ?_
    rw [r0'] at q0
    have htb : tb = I a :: ta := by simpa using q0
    rw [htb] at r0'
    repeat apply za
    refine pwY none (Row.pures [0, 1, 2, 3, 4, 5, 6, 7] .done) mixed (jn6 r0' h1 h1' g1 g2 g3) ?_
    intros
    exact zt () [_] trivial (by simp [hab]) rfl (by simp; rfl)
   ·have hab : xI c = 1099511627776 := by unfold xI; rw [if_neg h1]
    repeat apply za
    refine zj (by simp; omega) ?_
    refine zd ?_
    exact zt () [_] trivial (by simp [hab]) rfl (by simp; rfl)
  ·rintro ⟨⟩ -
   generalize xI c = ab at *
   by_cases hq : place < 0
   ·rw [if_pos (.inl hq)] at hun
    repeat apply za
    refine pwN [(2, 37)] (jn2 hq zn) ?_
    intros
    repeat apply za
    refine zh rfl ?_
    (repeat apply za); refine pwn ?_; intros
    (repeat apply za); refine pwn ?_; intros
    exact zk (k + 1, (k : Int), ab) [] ⟨hc, by rw [← hun, hg]⟩ (by simp; omega) (by simp [wk]) rfl (by simp)
   ·by_cases hq2 : most < ab
    ·rw [if_pos (.inr hq2)] at hun
     repeat apply za
     refine pwN [(2, 37)] (jn2 hq hq2) ?_
     intros
     repeat apply za
     refine zh rfl ?_
     (repeat apply za); refine pwn ?_; intros
     (repeat apply za); refine pwn ?_; intros
     exact zk (k + 1, (k : Int), ab) [] ⟨hc, by rw [← hun, hg]⟩ (by simp; omega) (by simp [wk]) rfl (by simp)
    ·rw [if_neg (by rintro (q | q); exact hq q; exact hq2 q)] at hun
     repeat apply za
     refine pwN [(2, 37)] (jn2 hq hq2) ?_
     intros
     repeat apply za
     refine zj rfl ?_
     refine zd ?_
     (repeat apply za); refine pwn ?_; intros
     exact zk (k + 1, place, most) [] ⟨hc, by rw [← hun, hg]⟩ (by simp; omega) (by simp [wk]) rfl (by simp)
 ·simp at hc
  obtain rfl : k = l.length := by omega
  refine zm ?_
  have hgl : jN cz (l.drop l.length) l.length place most = place := by rw [List.drop_length]; rfl
  (repeat apply za); refine pwn ?_; intros
  repeat apply za
  exact zb ⟨_, S, (by simp; rfl), ⟨by simp [zi]; rfl, rfl⟩, zL hd⟩
open Go Go.Proofs
theorem ZgN {x : Inst} {d : Day} {l : List Stop} {k : Nat} {s : Stop} (hu : x8 x d l = k) (hk : l[k]? = some s) :
  jO x l.length d l = bif (zW x d s).2 then jO x (l.eraseIdx k).length (zW x d s).1 (l.eraseIdx k) else (d, false) := by
 have hlt := (List.getElem?_eq_some_iff.1 hk).1
 obtain ⟨n, hn⟩ : ∃ n, l.length = n + 1 := ⟨l.length - 1, by omega⟩
 have he : (l.eraseIdx k).length = n := by rw [List.length_eraseIdx_of_lt hlt]; omega
 have hg : l.getD k default = s := by rw [List.getD_eq_getElem?_getD, hk]; rfl
 rw [hn, he, jO, hu, Int.toNat_natCast, hg]
theorem ZgO {x : Inst} {d : Day} {l : List Stop} (h : RgOk x d l) : d.length ≤ 1000 ∧ d.flatten.length ≤ 1000 ∧ l.length ≤ 1000 := by
 have h1 := h.dl
 have h2 := h.len
 omega
set_option maxRecDepth 20000 in
set_option maxHeartbeats 1600000 in
theorem ZgP (x : Inst) (l : List Stop) (hx : x.cust.length ≤ 1048576) (hv : 0 ≤ x.veh) (hl : l.length ≤ 1000) : Pure Tryz.prog 221 [.agg (zp x), L l] (.tup [.agg [L (yM x l).1], B (yM x l).2]) := by
 have hb := Zax hv hl
 unfold yM
 by_cases h0 : 0 < l.length
 case neg =>
  obtain rfl : l = [] := List.eq_nil_of_length_eq_zero (by omega)
  have hcl := YX [] (by simp)
  refine pwe Tryz.func221 Tryz.ntmps221 Tryz.results221 fun S nx hd => ?_
  repeat apply za
  refine pwn ?_
  intro v0 v1
  repeat apply za
  refine pwn ?_
  intro v2
  refine vU 2 0 rfl rfl ?_
  repeat apply za
  refine pwn ?_
  refine pwc hcl ?_
  intros
  repeat apply za
  refine ze (zq (fun _ : Nat => True) (fun _ => [(2, .ptr nx v0 0), (4, .ptr (nx + 1) v1 0), (6, .ptr (nx + 2) v2 0), (7, L ([] : List Stop))]) (fun _ => [.cells v0 25 (zp x), .cells v1 66 [zS], .cells v2 66 [L ([] : Day)]]) (fun k => k) 0 [] trivial (by simp) (by simp) ?_)
  rintro k -
  (repeat apply za); refine pwn ?_; intros
  repeat apply za
  refine zj rfl ?_
  refine zm ?_
  (repeat apply za); refine pwn ?_; intros
  repeat apply za
  exact zb (zg hd (by simp; rfl) (by simp [zi, jO]))
 refine pwe Tryz.func221 Tryz.ntmps221 Tryz.results221 fun S nx hd => ?_
 repeat apply za
 refine pwn ?_
 intro v0 v1
 repeat apply za
 refine pwn ?_
 intro v2
 refine vU 2 0 rfl rfl ?_
 repeat apply za
 refine zN [] (by rfl) (by rfl) fun K Gc Gh hK hGc hGh X hX0 hX => ?_
 simp -implicitDefEqProofs [hX0, hX]
 try clear hX0 hX X
 refine hGc _ _ _ _ _ _ _ fun hsuf => ((JL l h0 (by omega) _ _ xT).mono ?_).v
 rintro _ _ ⟨v3, rfl, rfl⟩
 refine ⟨_, _, qj _, ?_⟩
 clear hGc hGh
 clear Gc Gh
 refine zI hsuf (D := []) (by rfl) fun Gc Gh hGc hGh X hX0 hX => ?_
 simp -implicitDefEqProofs [hX0, hX]
 clear hX0 hX X
 intros
 refine hK _ _ _ ?_
 clear hK hGc hGh
 clear K Gc Gh
 repeat apply za
 refine ze (zq (fun s' : Day × List Stop × Nat => jO x s'.2.1.length s'.1 s'.2.1 = jO x l.length [] l ∧ RgOk x s'.1 s'.2.1) (fun (d, m, v3) => [(2, .ptr nx v0 0), (4, .ptr (nx + 1) v1 0), (6, .ptr (nx + 2) v2 0), (7, .sl (nx + 3) v3 2 0 m.length)]) (fun (d, m, v3) => [.cells v0 25 (zp x), .cells v1 66 [zS], .cells v2 66 [L d], .cells v3 50 (m.flatMap Enc.enc)]) (fun s' => s'.2.1.length) ([], l, v3) [] ⟨rfl, hb⟩ (by simp) (by simp) ?_)
 rintro ⟨d, m, v3⟩ ⟨hr, hok⟩
 simp only at hr hok ⊢
 rw [← hr]
 by_cases hm : m = []
 ·subst hm
  (repeat apply za); refine pwn ?_; intros
  repeat apply za
  refine zj rfl ?_
  refine zm ?_
  (repeat apply za); refine pwn ?_; intros
  repeat apply za
  exact zb (zg hd (by simp; rfl) (by simp [zi, jO]))
 ·have hm0 : 0 < m.length := List.length_pos_iff.2 hm
  obtain ⟨k, hu, hk⟩ := Zaw (x := x) (d := d) hm
  obtain ⟨s, tl, a1, a2, a3, e1, e0⟩ := el 2 rfl m k hk
  have hk2 : 2 ≤ m.length * 2 - k * 2 := by omega
  have hst := ZgN hu a1
  obtain ⟨b1, b2, b3⟩ := ZgO hok
  have hsee := VO x d hx hok.ok (by omega)
  have hins := Zao x d s hx hok.ok (by omega)
  have hnx := fun h => hok.step hx hk (s := s) h
  have hurg := fun (S : Store) (id ver : Nat) h => ZgM x d m hx hok (S := S) (id := id) (ver := ver) h
  rw [hu] at hurg
  obtain ⟨on, tw, fs, bd, ls, ws, hlk⟩ : ∃ on tw fs bd ls ws, xF x d = jY x d on tw fs bd ls ws := ⟨_, _, _, _, _, _, rfl⟩
  rw [hlk] at hsee hurg
  clear hlk
  have hno := V2 (x := x) (d := d) (s := s)
  generalize hi : zW x d s = r at *
  obtain ⟨d2, ok⟩ := r
  simp only at hst hnx hno
  have wk := wrN k (by omega)
  have hm0' : (0 : Int) < m.length := by omega
  repeat apply za
  refine pwN [] hm0' ?_
  intros
  repeat apply za
  refine zh (by simp; exact hm0) ?_
  refine zd (ze ?_)
  repeat apply za
  refine zN [] (by rfl) (by rfl) fun K Gc Gh hK hGc hGh X hX0 hX => ?_
  simp -implicitDefEqProofs [hX0, hX]
  try clear hX0 hX X
  refine hGc _ _ _ _ _ _ _ fun hsuf => ((hsee _).mono ?_).v
  rintro _ _ ⟨rfl, rfl⟩
  refine ⟨_, _, rfl, ?_⟩
  clear hGc hGh
  clear Gc Gh
  refine zI hsuf (D := []) (by rfl) fun Gc Gh hGc hGh X hX0 hX => ?_
  simp -implicitDefEqProofs [hX0, hX]
  clear hX0 hX X
  refine hGc _ _ _ _ _ _ _ fun hsuf => ((hurg _ _ _ (by rw [yP]; rfl)).mono ?_).v
  rintro _ _ ⟨rfl, rfl⟩
  refine ⟨_, _, rfl, ?_⟩
  clear hGc hGh
  clear Gc Gh
  refine zI hsuf (D := []) (by rfl) fun Gc Gh hGc hGh X hX0 hX => ?_
  simp -implicitDefEqProofs [hX0, hX]
  clear hX0 hX X
  intros
  refine hK _ _ _ ?_
  clear hK hGc hGh
  clear K Gc Gh
  repeat apply za
  refine pwY (some [nx, nx + 2, nx + 3]) (Row.pures [0, 1, 2, 3, 4, 5, 6, 7, 8, 9] (.alt 10 (.alt 11 (Row.pures [12] .done) .stop) .stop)) mixed (jn3 e0 hk hk2) ?_
  refine pwP (hins) trivial ?_
  intro v4
  intros
  (repeat apply za); refine pwn ?_; intros
  cases ok with
  | false =>
   simp only [cond_false] at hst
   repeat apply za
   refine zh rfl ?_
   (repeat apply za); refine pwn ?_; intros
   repeat apply za
   exact zb (zg hd (by simp; rfl) (by simp [zi, hst]))
  | true =>
   simp only [cond_true] at hst
   repeat apply za
   refine zj rfl ?_
   refine zd ?_
   have hkl := List.length_eraseIdx_of_lt hk
   repeat apply za
   refine xV (some [nx + 4]) (Row.pures [0, 1, 2, 3, 4] (.alt 5 (.alt 6 (Row.pures [7] .done) .stop) .stop)) mixed (by rfl) (by rfl) (by rfl) fun K Gp Gc Gh hK hGp hGc hGh X hX0 hX1 hX2 hX => ?_
   simp -implicitDefEqProofs [hX0, hX1, hX2, hX, wk]
   try clear hX0 hX1 hX2 hX X
   refine hGc _ _ _ _ _ _ _ ?_
   refine ((ZgI m k hk (by omega) (by rw [yP]; rfl)).mono ?_).v
   rintro _ _ ⟨rfl, rfl⟩
   rw [qg _ (by omega) (by simp), Nat.add_sub_cancel_left]
   refine ⟨by simp [yf], ?_⟩
   clear hGp hGc hGh
   clear Gp Gc Gh
   refine ju fun Gp Gc Gh hGp hGc hGh X hX0 hX1 hX2 hX => ?_
   simp -implicitDefEqProofs [hX0, hX1, hX2, hX]
   try clear hX0 hX1 hX2 hX X
   refine hK _ _ _ ?_
   clear hK hGp hGc hGh
   clear K Gp Gc Gh
   exact zk (d2, m.eraseIdx k, v3 + 1) [_] ⟨hst.symm, hnx rfl⟩ (by simp only; omega) (by simp) rfl (by simp; rfl)
open Go Go.Proofs
def jn (step : Day → Option Day) : Nat → Day → Day
 | 0, d => d
 | n + 1, d => match step d with
  | none => d
  | some e => jn step n e
def xJ (step : Day → Option Day) : Nat → Day → Nat
 | 0, _ => 0
 | n + 1, d => match step d with
  | none => 0
  | some e => xJ step n e + 1
def Zay (x : Inst) (step : Day → Option Day) (G : Day → Prop) : Prop := ∀ d, G d → ∃ mk ma mb mi mj least, Pure Tryz.prog 115 [.agg (zp x), .agg [L d]] (.tup [.agg [I mk, I ma, I mb, I mi, I mj], I least, B (step d).isSome]) ∧
 ∀ e, step d = some e → Pure Tryz.prog 116 [.agg (zp x), .agg [L d], .agg [I mk, I ma, I mb, I mi, I mj]] (.tup [.agg [L e], I 0]) ∧ G e
set_option maxRecDepth 20000 in
set_option maxHeartbeats 1600000 in
theorem ZgQ (x : Inst) (d : Day) (b : Int) (step : Day → Option Day) (G : Day → Prop) (hb : b ≤ 9223372036854775807) (hdn : d.length ≤ 1048576) (hdt : ∀ t ∈ d, t.length ≤ 1048576) (hd' : 0 < b → G d) (hs : Zay x step G) : Pure Tryz.prog 76 [.agg (zp x), .agg [L d], I b] (.tup [.agg [L (jn step b.toNat d)], I (if xJ step b.toNat d < b.toNat then (xJ step b.toNat d : Int) else wY b 0)]) := by
 refine pwe Tryz.func76 Tryz.ntmps76 Tryz.results76 fun S nx hd => ?_
 repeat apply za
 refine pwn ?_
 intro v0 v1 v2
 repeat apply za
 refine pwn ?_
 intro v3
 refine qa 3 0 72 1 rfl rfl fun v4 => ?_
 (repeat apply za); refine pwn ?_; intros
 repeat apply za
 refine ze (zq (fun s' : Nat × Nat => s'.1 ≤ d.length) (fun (k, v4) => [(2, I b), (3, .ptr nx v0 0), (6, .ptr (nx + 2) v2 0), (7, I 0), (8, .ptr (nx + 3) v3 0), (16, L d), (17, I d.length), (18, I k)]) (fun (k, v4) => [.cells v0 25 (zp x), .cells v1 66 [L d], .cells v2 66 [zS], .cells v3 66 [.sl (nx + 4) v4 1 0 k], .cells v4 72 ((d.take k).flatMap Enc.enc)]) (fun s' => d.length - s'.1) (0, v4) [] (by simp) (by simp) (by simp) ?_)
 rintro ⟨k, v4⟩ hk
 simp only at hk ⊢
 (repeat apply za); refine pwn ?_; intros
 repeat apply za
 refine zl rfl (fun hc => ?_) (fun hc => ?_)
 ·simp at hc
  obtain ⟨t, tl, a1, a2, a3, e0⟩ := el1 rfl d k hc
  have hk1 : 1 ≤ d.length - k := by omega
  have hcl := YX t (hdt t (List.mem_of_getElem? a1))
  have hcl' : ((d.take k).flatMap Enc.enc : List PV).length = k := by rw [qm, List.length_take]; omega
  have hct : ((d.take k).flatMap Enc.enc : List PV).take k = (d.take k).flatMap Enc.enc := List.take_of_length_le (by omega)
  have hcn : ((d.take (k + 1)).flatMap Enc.enc : List PV) = (d.take k).flatMap Enc.enc ++ [L t] := by rw [a3, List.flatMap_append]; rfl
  generalize ((d.take k).flatMap Enc.enc : List PV) = cs at *
  refine zd (za (ze ?_))
  repeat apply za
  refine pwN [] (jn3 e0 hc hk1) ?_
  intro v5
  repeat apply za
  refine pwY (some [nx + 5]) (Row.pures [0, 2, 3, 4, 5, 6] (.alt 1 (.alt 7 (Row.pures [8] (.alt 9 (.done) .stop)) .stop) .stop)) mixed (jn2 hcl' hct) ?_
  refine pwP (hcl) (jn2 hcl' hct) ?_
  refine ⟨by omega, ?_⟩
  intros
  (repeat apply za); refine pwn ?_; intros
  exact zk (k + 1, v4 + 1) [_] hc (by simp; omega) (by simp [wrN k (by omega)]) rfl (by simp [hcn]; rfl)
 ·simp at hc
  obtain rfl : k = d.length := by omega
  have g1 : d.take d.length = d := List.take_length
  refine zm ?_
  rw [g1]
  refine zC 4 rfl ?_
  (repeat apply za); refine pwn ?_; intros
  clear hk hc g1
  repeat apply za
  refine ze (zq (fun s' : Nat × Day => s'.1 ≤ b.toNat ∧ (0 < b → G s'.2) ∧ jn step (b.toNat - s'.1) s'.2 = jn step b.toNat d ∧ s'.1 + xJ step (b.toNat - s'.1) s'.2 = xJ step b.toNat d) (fun (k, e) => [(2, I b), (3, .ptr nx v0 0), (6, .ptr (nx + 2) v2 0), (8, .ptr (nx + 3) v3 0), (11, I k)]) (fun (k, e) => [.cells v0 25 (zp x), .cells v1 66 [L d], .cells v2 66 [zS], .cells v3 66 [L e]]) (fun s' => b.toNat - s'.1) (0, d) [.dead] ⟨by simp, hd', by simp, by simp⟩ (by simp) (by simp) ?_)
  rintro ⟨k, e⟩ ⟨hk, hG, hi, hco⟩
  simp only at hk hG hi hco ⊢
  rw [← hi]
  (repeat apply za); refine pwn ?_; intros
  repeat apply za
  refine zl rfl (fun hc => ?_) (fun hc => ?_)
  ·simp at hc
   obtain ⟨mk, ma, mb, mi, mj, least, hB, hM⟩ := hs e (hG (by omega))
   obtain ⟨n, hn⟩ : ∃ n, b.toNat - k = n + 1 := ⟨b.toNat - k - 1, by omega⟩
   refine zd (za (ze ?_))
   repeat apply za
   refine pwn ?_
   refine pwc hB ?_
   intro v5
   intros
   (repeat apply za); refine pwn ?_; intros
   cases hst : step e with
   | none =>
    have hr : jn step (b.toNat - k) e = e := by rw [hn]; unfold jn; rw [hst]
    have hr2 : xJ step (b.toNat - k) e = 0 := by rw [hn]; unfold xJ; rw [hst]
    rw [hr2] at hco
    rw [hr, ← hco, if_pos (by omega)]
    repeat apply za
    refine zh rfl ?_
    (repeat apply za); refine pwn ?_; intros
    repeat apply za
    exact zb (zg hd (by simp; rfl) (by simp [zi]))
   | some e2 =>
    have hr : jn step (b.toNat - k) e = jn step (b.toNat - (k + 1)) e2 := by rw [hn, show b.toNat - (k + 1) = n by omega]; conv => lhs; unfold jn; rw [hst]
    have hr2 : xJ step (b.toNat - k) e = xJ step (b.toNat - (k + 1)) e2 + 1 := by rw [hn, show b.toNat - (k + 1) = n by omega]; conv => lhs; unfold xJ; rw [hst]
    obtain ⟨hM1, hG2⟩ := hM e2 hst
    repeat apply za
    refine zj rfl ?_
    refine zd ?_
    repeat apply za
    refine pwn ?_
    refine pwc hM1 ?_
    intros
    (repeat apply za); refine pwn ?_; intros
    exact zk (k + 1, e2) [_] ⟨by simp; omega, fun _ => hG2, hr.symm, by simp only; omega⟩ (by simp; omega) (by simp [wrN k (by omega)]) rfl (by simp; rfl)
  ·simp at hc
   have hz : b.toNat - k = 0 := by omega
   rw [hz] at hco ⊢
   have hco' : xJ step b.toNat d = k := by rw [← hco]; rfl
   rw [hco', if_neg (by omega)]
   refine zm ?_
   (repeat apply za); refine pwn ?_; intros
   repeat apply za
   exact zb (zg hd (by simp; rfl) (by simp [zi, jn]))
open Go Go.Proofs
structure Pc where
 t : Nat
 f : Nat
 o : Nat
 b : Bool
 deriving DecidableEq
def pc0 : Pc := ⟨0, 0, 0, false⟩
abbrev pcL (p : Pc) : List PV := [I p.t, I p.f, I p.o, B p.b]
structure Rw5 where
 a : Pc
 b : Pc
 c : Pc
 d : Pc
 e : Pc
abbrev rwL (r : Rw5) : List PV := [I r.a.t, I r.a.f, I r.a.o, B r.a.b, I r.b.t, I r.b.f, I r.b.o, B r.b.b, I r.c.t, I r.c.f, I r.c.o, B r.c.b, I r.d.t, I r.d.f, I r.d.o, B r.d.b, I r.e.t, I r.e.f, I r.e.o, B r.e.b]
def Rw5.l (r : Rw5) : List Pc := [r.a, r.b, r.c, r.d, r.e]
def rw0 : Rw5 := ⟨pc0, pc0, pc0, pc0, pc0⟩
structure Mv where
 k : Nat
 a : Nat
 b : Nat
 i : Nat
 j : Nat
 deriving DecidableEq
abbrev mvL (m : Mv) : List PV := [I m.k, I m.a, I m.b, I m.i, I m.j]
abbrev vwL (m : Mv) (la lb : Nat) : List PV := [I m.k, I m.a, I m.b, I m.i, I m.j, I la, I lb]
def jz (m : Mv) (la lb : Nat) : Bool :=
 if m.k = 0 then decide (m.b = m.a ∧ m.i < m.j ∧ m.j < la)
 else if m.k = 1 then decide (m.i < la ∧ (if m.a = m.b then m.j < lb else m.j ≤ lb))
 else if m.k = 2 then decide (¬ (m.b < m.a ∨ m.a = m.b ∧ m.j ≤ m.i) ∧ m.i < la ∧ m.j < lb)
 else decide (m.a < m.b ∧ m.i ≤ la ∧ m.j ≤ lb)
def qA (m : Mv) (la lb : Nat) : Rw5 × Rw5 :=
 if m.k = 0 then (⟨⟨m.a, 0, m.i, false⟩, ⟨m.a, m.i, m.j + 1, true⟩, ⟨m.a, m.j + 1, la, false⟩, pc0, pc0⟩, rw0)
 else if m.k = 1 then
  (if m.a ≠ m.b then (⟨⟨m.a, 0, m.i, false⟩, ⟨m.a, m.i + 1, la, false⟩, pc0, pc0, pc0⟩, ⟨⟨m.b, 0, m.j, false⟩, ⟨m.a, m.i, m.i + 1, false⟩, ⟨m.b, m.j, lb, false⟩, pc0, pc0⟩)
  else if m.i < m.j then (⟨⟨m.a, 0, m.i, false⟩, ⟨m.a, m.i + 1, m.j + 1, false⟩, ⟨m.a, m.i, m.i + 1, false⟩, ⟨m.a, m.j + 1, la, false⟩, pc0⟩, rw0)
  else (⟨⟨m.a, 0, m.j, false⟩, ⟨m.a, m.i, m.i + 1, false⟩, ⟨m.a, m.j, m.i, false⟩, ⟨m.a, m.i + 1, la, false⟩, pc0⟩, rw0))
 else if m.k = 2 then
  (if m.a = m.b then (⟨⟨m.a, 0, m.i, false⟩, ⟨m.b, m.j, m.j + 1, false⟩, ⟨m.a, m.i + 1, m.j, false⟩, ⟨m.a, m.i, m.i + 1, false⟩, ⟨m.a, m.j + 1, la, false⟩⟩, rw0)
  else (⟨⟨m.a, 0, m.i, false⟩, ⟨m.b, m.j, m.j + 1, false⟩, ⟨m.a, m.i + 1, la, false⟩, pc0, pc0⟩, ⟨⟨m.b, 0, m.j, false⟩, ⟨m.a, m.i, m.i + 1, false⟩, ⟨m.b, m.j + 1, lb, false⟩, pc0, pc0⟩))
 else (⟨⟨m.a, 0, m.i, false⟩, ⟨m.b, m.j, lb, false⟩, pc0, pc0, pc0⟩, ⟨⟨m.b, 0, m.j, false⟩, ⟨m.a, m.i, la, false⟩, pc0, pc0, pc0⟩)
set_option maxRecDepth 20000 in
theorem ZgR (m : Mv) (la lb : Nat) (hk : m.k = 0) : Pure Tryz.prog 231 [.agg (vwL m la lb)] (B (jz m la lb)) := by
 unfold jz
 rw [if_pos hk]
 refine pwe Tryz.func231 Tryz.ntmps231 Tryz.results231 fun S nx hd => ?_
 repeat apply za
 refine pwn ?_
 intro v0
 by_cases h1 : m.b = m.a
 case neg =>
  have h1' : ¬ (m.b : Int) = m.a := by omega
  repeat apply za
  refine pwN [(7, 10), (13, 16), (22, 25)] (jn2 h1' zn) ?_
  intros
  repeat apply za
  exact zb (zg hd rfl (by simp [h1, zi]))
 have h1' : (m.b : Int) = m.a := by omega
 by_cases h2 : m.i < m.j
 case neg =>
  have h2' : ¬ (m.i : Int) < m.j := by omega
  repeat apply za
  refine pwN [(7, 10), (13, 16), (22, 25)] (jn3 h1' h2 zn) ?_
  intros
  repeat apply za
  exact zb (zg hd rfl (by simp [h2, zi]))
 by_cases h3 : m.j < la
 case neg =>
  repeat apply za
  refine pwN [(7, 10), (13, 16), (22, 25)] (jn4 h1' h2 h3 zn) ?_
  intros
  repeat apply za
  exact zb (zg hd rfl (by simp [h3, zi]))
 repeat apply za
 refine pwN [(7, 10), (13, 16), (22, 25)] (jn3 h1' h2 h3) ?_
 intros
 repeat apply za
 exact zb (zg hd rfl (by simp [h1, h2, h3, zi]))
set_option maxRecDepth 20000 in
theorem ZgS (m : Mv) (la lb : Nat) (hk : m.k = 1) (hlb : lb ≤ 1048576) : Pure Tryz.prog 233 [.agg (vwL m la lb)] (B (jz m la lb)) := by
 unfold jz
 rw [if_neg (by omega), if_pos hk]
 refine pwe Tryz.func233 Tryz.ntmps233 Tryz.results233 fun S nx hd => ?_
 repeat apply za
 refine pwn ?_
 intro v0
 (repeat apply za); refine pwn ?_; intros
 refine za ?_
 refine zR (nx := nx) (fun z : Int => (m.j : Int) ≤ z ↔ (if m.a = m.b then m.j < lb else m.j ≤ lb)) (fun z => [(1, .ptr nx v0 0), (3, I z)]) (fun _ => S) (fun _ => [.cells v0 265 (vwL m la lb)]) ?_ ?_
 ·by_cases h1 : m.a = m.b
  ·have h1' : (m.a : Int) = m.b := by omega
   have w1 : IntKind.i64.wrap ((lb : Int) - 1) = (lb : Int) - 1 := wr _ (by omega) (by omega)
   repeat apply za
   refine pwN [] h1' ?_
   intros
   repeat apply za
   refine zh rfl ?_
   repeat apply za
   refine pwN [] w1 ?_
   intros
   exact zt ((lb : Int) - 1) [] (by rw [if_pos h1]; omega) (by simp) rfl (by simp)
  ·have h1' : ¬ (m.a : Int) = m.b := by omega
   repeat apply za
   refine pwN [] h1' ?_
   intros
   repeat apply za
   refine zj rfl ?_
   refine zd ?_
   exact zt (lb : Int) [] (by rw [if_neg h1]; omega) (by simp) rfl (by simp)
 ·intro z hz
  by_cases h2 : m.i < la
  case neg =>
   repeat apply za
   refine pwN [(4, 19), (12, 27), (18, 33)] (jn2 h2 zn) ?_
   intros
   repeat apply za
   exact zb (zg hd rfl (by simp [h2, zi]))
  by_cases h3 : (m.j : Int) ≤ z
  case neg =>
   have h4 := (not_congr hz).1 h3
   repeat apply za
   refine pwN [(4, 19), (12, 27), (18, 33)] (jn2 h2 h3) ?_
   intros
   repeat apply za
   exact zb (zg hd rfl (by simp [h2, h4, zi]))
  have h4 := hz.1 h3
  repeat apply za
  refine pwN [(4, 19), (12, 27), (18, 33)] (jn2 h2 h3) ?_
  intros
  repeat apply za
  exact zb (zg hd rfl (by simp [h2, h4, zi]))
set_option maxRecDepth 20000 in
theorem ZgT (m : Mv) (la lb : Nat) (hk : m.k = 2) : Pure Tryz.prog 235 [.agg (vwL m la lb)] (B (jz m la lb)) := by
 unfold jz
 rw [if_neg (by omega), if_neg (by omega), if_pos hk]
 refine pwe Tryz.func235 Tryz.ntmps235 Tryz.results235 fun S nx hd => ?_
 repeat apply za
 refine pwn ?_
 intro v0
 have rest : ∀ (P : Prop), (m.i < la → m.j < lb → P) → (¬ (m.i < la ∧ m.j < lb) → P) → P := fun P a b => by
  by_cases q : m.i < la ∧ m.j < lb
  ·exact a q.1 q.2
  ·exact b q
 by_cases h1 : m.b < m.a
 ·repeat apply za
  refine pwN [(7, 10), (15, 18)] (jn2 h1 zn) ?_
  intros
  repeat apply za
  refine zh rfl ?_
  (repeat apply za); refine pwn ?_; intros
  repeat apply za
  exact zb (zg hd rfl (by simp [h1, zi]))
 by_cases h2 : m.a = m.b
 ·have h2' : (m.a : Int) = m.b := by omega
  by_cases h3 : m.j ≤ m.i
  ·have h1' : ¬ m.b < m.b := by omega
   repeat apply za
   refine pwN [(7, 10), (15, 18)] (jn3 h2' h1' h3) ?_
   intros
   repeat apply za
   refine zh rfl ?_
   (repeat apply za); refine pwn ?_; intros
   repeat apply za
   exact zb (zg hd rfl (by simp [h2, h3, zi]))
  ·have h1' : ¬ m.b < m.b := by omega
   have h0 : ¬ (m.b < m.a ∨ m.a = m.b ∧ m.j ≤ m.i) := by omega
   repeat apply za
   refine pwN [(7, 10), (15, 18)] (jn3 h2' h1' h3) ?_
   intros
   repeat apply za
   refine zj rfl ?_
   refine zd ?_
   by_cases h4 : m.i < la
   case neg =>
    repeat apply za
    refine pwN [(4, 32), (12, 40), (18, 46)] (jn2 h4 zn) ?_
    intros
    repeat apply za
    exact zb (zg hd rfl (by simp [h4, zi]))
   by_cases h5 : m.j < lb
   case neg =>
    repeat apply za
    refine pwN [(4, 32), (12, 40), (18, 46)] (jn2 h4 h5) ?_
    intros
    repeat apply za
    exact zb (zg hd rfl (by simp [h5, zi]))
   repeat apply za
   refine pwN [(4, 32), (12, 40), (18, 46)] (jn2 h4 h5) ?_
   intros
   repeat apply za
   exact zb (zg hd rfl (by simp [h0, h4, h5, zi]))
 ·have h2' : ¬ (m.a : Int) = m.b := by omega
  have h0 : ¬ (m.b < m.a ∨ m.a = m.b ∧ m.j ≤ m.i) := by omega
  repeat apply za
  refine pwN [(7, 10), (15, 18)] (jn3 h1 h2' zn) ?_
  intros
  repeat apply za
  refine zj rfl ?_
  refine zd ?_
  by_cases h4 : m.i < la
  case neg =>
   repeat apply za
   refine pwN [(4, 32), (12, 40), (18, 46)] (jn2 h4 zn) ?_
   intros
   repeat apply za
   exact zb (zg hd rfl (by simp [h4, zi]))
  by_cases h5 : m.j < lb
  case neg =>
   repeat apply za
   refine pwN [(4, 32), (12, 40), (18, 46)] (jn2 h4 h5) ?_
   intros
   repeat apply za
   exact zb (zg hd rfl (by simp [h5, zi]))
  repeat apply za
  refine pwN [(4, 32), (12, 40), (18, 46)] (jn2 h4 h5) ?_
  intros
  repeat apply za
  exact zb (zg hd rfl (by simp [h0, h4, h5, zi]))
set_option maxRecDepth 20000 in
theorem ZgU (m : Mv) (la lb : Nat) (hk : 3 ≤ m.k) : Pure Tryz.prog 237 [.agg (vwL m la lb)] (B (jz m la lb)) := by
 unfold jz
 rw [if_neg (by omega), if_neg (by omega), if_neg (by omega)]
 refine pwe Tryz.func237 Tryz.ntmps237 Tryz.results237 fun S nx hd => ?_
 repeat apply za
 refine pwn ?_
 intro v0
 by_cases h1 : m.a < m.b
 case neg =>
  repeat apply za
  refine pwN [(7, 10), (13, 16), (21, 24), (27, 30)] (jn2 h1 zn) ?_
  intros
  repeat apply za
  exact zb (zg hd rfl (by simp [h1, zi]))
 by_cases h2 : m.i ≤ la
 case neg =>
  repeat apply za
  refine pwN [(7, 10), (13, 16), (21, 24), (27, 30)] (jn3 h1 h2 zn) ?_
  intros
  repeat apply za
  exact zb (zg hd rfl (by simp [h2, zi]))
 by_cases h3 : m.j ≤ lb
 case neg =>
  repeat apply za
  refine pwN [(7, 10), (13, 16), (21, 24), (27, 30)] (jn3 h1 h2 h3) ?_
  intros
  repeat apply za
  exact zb (zg hd rfl (by simp [h3, zi]))
 repeat apply za
 refine pwN [(7, 10), (13, 16), (21, 24), (27, 30)] (jn3 h1 h2 h3) ?_
 intros
 repeat apply za
 exact zb (zg hd rfl (by simp [h1, h2, h3, zi]))
set_option maxRecDepth 20000 in
theorem ZgV (m : Mv) (la lb : Nat) (hk : m.k = 0) (hi : m.i ≤ 1048576) (hj : m.j ≤ 1048576) : Pure Tryz.prog 232 [.agg (vwL m la lb)] (.tup [.agg (rwL (qA m la lb).1), .agg (rwL (qA m la lb).2)]) := by
 have wi := wrN m.i (by omega)
 have wj := wrN m.j (by omega)
 unfold qA
 rw [if_pos hk]
 refine pwe Tryz.func232 Tryz.ntmps232 Tryz.results232 fun S nx hd => ?_
 repeat apply za
 refine pwn ?_
 intro v0 v1 v2
 repeat apply za
 refine pwY (some [nx]) (Row.pures [0, 1, 2, 3, 4, 5, 6, 7, 8, 9, 10, 11] .done) mixed trivial ?_
 intros
 repeat apply za
 refine pwN [] wj ?_
 intros
 repeat apply za
 exact zb (zg hd (by simp; rfl) (by simp [zi, rw0, pc0]))
set_option maxRecDepth 20000 in
theorem ZgW (m : Mv) (la lb : Nat) (hk : 3 ≤ m.k) : Pure Tryz.prog 238 [.agg (vwL m la lb)] (.tup [.agg (rwL (qA m la lb).1), .agg (rwL (qA m la lb).2)]) := by
 unfold qA
 rw [if_neg (by omega), if_neg (by omega), if_neg (by omega)]
 refine pwe Tryz.func238 Tryz.ntmps238 Tryz.results238 fun S nx hd => ?_
 repeat apply za
 refine pwn ?_
 intro v0 v1 v2
 repeat apply za
 refine pwY (some [nx]) (Row.pures [0, 1, 2, 3, 4, 5, 6, 7, 8, 9, 10, 11, 12, 13, 14, 15] .done) mixed trivial ?_
 intros
 repeat apply za
 refine pwY (some [nx]) (Row.pures [0, 1, 2, 3, 4, 5, 6, 7, 8, 9, 10, 11, 12, 13, 14, 15, 16, 17] (.alt 18 (.alt 19 (.done) .stop) .stop)) mixed trivial ?_
 intros
 repeat apply za
 exact zb (zg hd (by simp; rfl) (by simp [zi, rw0, pc0]))
set_option maxRecDepth 20000 in
theorem ZgX (m : Mv) (la lb : Nat) (hk : m.k = 1) (hi : m.i ≤ 1048576) (hj : m.j ≤ 1048576) : Pure Tryz.prog 234 [.agg (vwL m la lb)] (.tup [.agg (rwL (qA m la lb).1), .agg (rwL (qA m la lb).2)]) := by
 have wi := wrN m.i (by omega)
 have wj := wrN m.j (by omega)
 unfold qA
 rw [if_neg (by omega), if_pos hk]
 refine pwe Tryz.func234 Tryz.ntmps234 Tryz.results234 fun S nx hd => ?_
 repeat apply za
 refine pwn ?_
 intro v0 v1 v2
 repeat apply za
 refine pwY (some [nx]) (Row.pures [0, 1, 2, 3, 4, 5, 6, 7, 8, 9, 10, 11, 12, 13, 14, 15] .done) mixed trivial ?_
 intros
 repeat apply za
 refine pwN [] wi ?_
 intro v3
 refine za (ze ?_)
 by_cases h1 : m.a = m.b
 case neg =>
  have h1' : ¬ (m.a : Int) = m.b := by omega
  rw [if_pos h1]
  repeat apply za
  refine pwN [] h1' ?_
  intros
  repeat apply za
  refine zh rfl ?_
  repeat apply za
  refine pwY (some [nx, nx + 3]) (Row.pures [0, 1, 2, 3, 4, 5, 6, 7, 8, 9, 10, 11, 12, 13, 14, 15, 16, 17, 18, 19] (.alt 20 (.alt 21 (.done) .stop) .stop)) mixed wi ?_
  intros
  repeat apply za
  exact zb (zg hd (by simp; rfl) (by simp [zi, rw0, pc0]))
 have h1' : (m.a : Int) = m.b := by omega
 rw [if_neg (by simpa using h1)]
 repeat apply za
 refine pwN [] h1' ?_
 intros
 repeat apply za
 refine zj rfl ?_
 by_cases h2 : m.i < m.j
 ·rw [if_pos h2]
  repeat apply za
  refine pwN [] h2 ?_
  intros
  repeat apply za
  refine zh rfl ?_
  repeat apply za
  refine pwN [] (jn2 wi wj) ?_
  intros
  repeat apply za
  exact zb (zg hd (by simp; rfl) (by simp [zi, rw0, pc0, h1]))
 ·rw [if_neg h2]
  repeat apply za
  refine pwN [] h2 ?_
  intros
  repeat apply za
  refine zj rfl ?_
  refine zd ?_
  repeat apply za
  refine pwN [] (jn2 wi wj) ?_
  intros
  repeat apply za
  exact zb (zg hd (by simp; rfl) (by simp [zi, rw0, pc0, h1]))
set_option maxRecDepth 20000 in
theorem ZgY (m : Mv) (la lb : Nat) (hk : m.k = 2) (hi : m.i ≤ 1048576) (hj : m.j ≤ 1048576) : Pure Tryz.prog 236 [.agg (vwL m la lb)] (.tup [.agg (rwL (qA m la lb).1), .agg (rwL (qA m la lb).2)]) := by
 have wi := wrN m.i (by omega)
 have wj := wrN m.j (by omega)
 unfold qA
 rw [if_neg (by omega), if_neg (by omega), if_pos hk]
 refine pwe Tryz.func236 Tryz.ntmps236 Tryz.results236 fun S nx hd => ?_
 repeat apply za
 refine pwn ?_
 intro v0 v1 v2
 repeat apply za
 refine pwY (some [nx]) (Row.pures [0, 1, 2, 3, 4, 5, 6, 7, 8, 9, 10, 11, 12, 13, 14, 15] .done) mixed trivial ?_
 intros
 repeat apply za
 refine pwN [] (jn2 wi wj) ?_
 intro v3 v4
 by_cases h1 : m.a = m.b
 ·have h1' : (m.a : Int) = m.b := by omega
  rw [if_pos h1]
  repeat apply za
  refine pwN [] h1' ?_
  intros
  repeat apply za
  refine zh rfl ?_
  repeat apply za
  refine pwN [] (jn2 wi wj) ?_
  intros
  repeat apply za
  exact zb (zg hd (by simp; rfl) (by simp [zi, rw0, pc0, h1]))
 ·have h1' : ¬ (m.a : Int) = m.b := by omega
  rw [if_neg h1]
  repeat apply za
  refine pwN [] h1' ?_
  intros
  repeat apply za
  refine zj rfl ?_
  refine zd ?_
  repeat apply za
  refine pwY (some [nx, nx + 3, nx + 4]) (Row.pures [0, 1, 2, 3, 4, 5, 6, 7, 8, 9, 10, 11, 12, 13, 14, 15, 16, 17, 18, 19, 20, 21] (.alt 22 (.alt 23 (.done) .stop) .stop)) mixed (jn2 wi wj) ?_
  intros
  repeat apply za
  exact zb (zg hd (by simp; rfl) (by simp [zi, rw0, pc0]))
open Go Go.Proofs
abbrev Qc : List PV := [.fn (.func 231) [] [], .fn (.func 232) [] [], .fn (.func 233) [] [], .fn (.func 234) [] [], .fn (.func 235) [] [], .fn (.func 236) [] [], .fn (.func 237) [] [], .fn (.func 238) [] []]
set_option maxRecDepth 20000 in
theorem Zaz : Pure Tryz.prog 197 [] (.agg Qc) := by
 refine pwe Tryz.func197 Tryz.ntmps197 Tryz.results197 fun S nx hd => ?_
 repeat apply za
 refine pwn ?_
 intro v0
 (repeat apply za); refine pwn ?_; intros
 repeat apply za
 exact zb (zg hd (by simp; rfl) rfl)
def tlen (d : Day) (t : Nat) : Nat := (d.getD t []).length
def qP (d : Day) (m : Mv) : Bool := decide (m.k ≤ 3 ∧ m.a < d.length ∧ m.b < d.length) && jz m (tlen d m.a) (tlen d m.b)
def zE (d : Day) (m : Mv) : Rw5 × Rw5 := qA m (tlen d m.a) (tlen d m.b)
def x9 (d : Day) (m : Mv) : Rw5 × Rw5 × Bool := if qP d m = true then ((zE d m).1, (zE d m).2, true) else (rw0, rw0, false)
set_option maxRecDepth 20000 in
set_option maxHeartbeats 1600000 in
theorem J3 (d : Day) (m : Mv) (hdn : d.length ≤ 1048576) (hdt : ∀ t ∈ d, t.length ≤ 1048576) (hk : m.k ≤ 3) (ha : m.a < d.length) (hb : m.b < d.length) (hi : m.i ≤ 1048576) (hj : m.j ≤ 1048576) : Pure Tryz.prog 155 [.agg [L d], .agg (mvL m)]
  (.tup [.agg (rwL (x9 d m).1), .agg (rwL (x9 d m).2.1), B (x9 d m).2.2]) := by
 obtain ⟨ta, xa, a1, -, -, a0⟩ := el1 rfl d m.a ha
 obtain ⟨tb, xb, b1, -, -, b0⟩ := el1 rfl d m.b hb
 have ha1 : 1 ≤ d.length - m.a := by omega
 have hb1 : 1 ≤ d.length - m.b := by omega
 have la : tlen d m.a = ta.length := by unfold tlen; rw [List.getD_eq_getElem?_getD, a1]; rfl
 have lb : tlen d m.b = tb.length := by unfold tlen; rw [List.getD_eq_getElem?_getD, b1]; rfl
 have hbl := hdt tb (List.mem_of_getElem? b1)
 have hmay : qP d m = jz m ta.length tb.length := by unfold qP; rw [la, lb, decide_eq_true ⟨hk, ha, hb⟩]; rfl
 have hcut : zE d m = qA m ta.length tb.length := by unfold zE; rw [la, lb]
 unfold x9
 rw [hmay, hcut]
 clear hmay hcut la lb
 have call : ∀ f g : Nat, m.k = m.k → True := fun _ _ _ => trivial
 clear call
 have g1 : ¬ (m.k : Int) < 0 := by omega
 have g2 : ¬ (3 : Int) < m.k := by omega
 have g3 : ¬ (m.a : Int) < 0 := by omega
 have g4 : ¬ d.length ≤ m.a := by omega
 have g5 : ¬ (m.b : Int) < 0 := by omega
 have g6 : ¬ d.length ≤ m.b := by omega
 refine pwe Tryz.func155 Tryz.ntmps155 Tryz.results155 fun S nx hd => ?_
 repeat apply za
 refine pwn ?_
 intro v0 v1 v2 v3
 (repeat apply za); refine pwn ?_; intros
 repeat apply za
 refine pwN [(3, 18), (8, 23), (13, 28), (19, 34), (24, 39)] (jn6 g1 g2 g3 g4 g5 g6) ?_
 intros
 repeat apply za
 refine zj rfl ?_
 refine zd ?_
 repeat apply za
 refine pwY (some [nx, nx + 1]) (Row.pures [0, 1, 2, 3, 4, 5, 6, 7, 8, 9, 10, 11, 12, 13, 14, 15, 16, 17] (.alt 18 (.alt 19 (.done) .stop) .stop)) mixed (jn6 a0 b0 ha hb ha1 hb1) ?_
 intro v4
 obtain ⟨mf, cf, hmf, hcf, hidx⟩ : ∃ mf cf : Nat, Pure Tryz.prog mf [.agg (vwL m ta.length tb.length)] (B (jz m ta.length tb.length)) ∧ Pure Tryz.prog cf [.agg (vwL m ta.length tb.length)] (.tup [.agg (rwL (qA m ta.length tb.length).1), .agg (rwL (qA m ta.length tb.length).2)]) ∧
   ∃ k : Nat, (k : Int) = m.k ∧ k < 4 ∧ (Qc.drop (k * 2)).take 2 = [.fn (.func mf) [] [], .fn (.func cf) [] []] := by
  have h4 : m.k = 0 ∨ m.k = 1 ∨ m.k = 2 ∨ m.k = 3 := by omega
  rcases h4 with h | h | h | h
  ·exact ⟨_, _, ZgR m _ _ h, ZgV m _ _ h hi hj, 0, by omega, by omega, rfl⟩
  ·exact ⟨_, _, ZgS m _ _ h hbl, ZgX m _ _ h hi hj, 1, by omega, by omega, rfl⟩
  ·exact ⟨_, _, ZgT m _ _ h, ZgY m _ _ h hi hj, 2, by omega, by omega, rfl⟩
  ·exact ⟨_, _, ZgU m _ _ (by omega), ZgW m _ _ (by omega), 3, by omega, by omega, rfl⟩
 obtain ⟨k, hkk, hk4, hkt⟩ := hidx
 obtain rfl : k = m.k := by omega
 have hk4' : (m.k : Int) < 4 := by omega
 have hk5 : 2 ≤ 8 - m.k * 2 := by omega
 generalize hmz : jz m ta.length tb.length = mz at *
 generalize hcz : qA m ta.length tb.length = cz at *
 obtain ⟨r1, r2⟩ := cz
 generalize hkl : Qc = kl at hkt
 have hkinds := Zaz
 rw [hkl] at hkinds
 have hkll : kl.length = 8 := by rw [← hkl]; rfl
 clear hkl
 repeat apply za
 refine pwY (some [nx + 1]) (Row.pures [0, 1, 2, 3] (.alt 4 (.alt 5 (.done) .stop) .stop)) mixed (jn5 hkt hk4 hk4' hkll hk5) ?_
 refine pwP (hkinds) (jn5 hkt hk4 hk4' hkll hk5) ?_
 intro v5
 intros
 repeat apply za
 refine pwn ?_
 refine pwc hmf ?_
 intros
 cases mz with
 | false =>
  repeat apply za
  refine zh rfl ?_
  (repeat apply za); refine pwn ?_; intros
  repeat apply za
  exact zb (zg hd (by simp; rfl) (by simp [zi, rw0, pc0]))
 | true =>
  repeat apply za
  refine zj rfl ?_
  refine zd ?_
  repeat apply za
  refine pwn ?_
  refine pwc hcf ?_
  intro v6 v7
  intros
  repeat apply za
  refine pwY (some [nx + 6, nx + 7]) (Row.pures [0, 1] (.alt 2 (.alt 3 (Row.pures [4] .done) .stop) .stop)) mixed trivial ?_
  intros
  repeat apply za
  exact zb (zg hd (by simp; rfl) (by simp [zi]))
open Go Go.Proofs
theorem ZaA (l : List Stop) (k : Nat) (s : Stop) (h : k < l.length) : zJ (l.flatMap Enc.enc) (k * 2) [I s.c, I s.q] = (l.set k s).flatMap Enc.enc := by
 unfold zJ
 rw [List.set_eq_take_append_cons_drop, if_pos h, List.flatMap_append, List.flatMap_cons, ← w9 Enc.enc 2 (fun _ => rfl) l k, ← uB Enc.enc 2 (fun _ => rfl) l (k + 1)]
 simp [show k * 2 + 2 = (k + 1) * 2 by omega]
def yU (l : List Stop) (k : Nat) : List Stop := (List.range l.length).map fun q => if q < k ∨ l.length - 1 - q < k then l.getD (l.length - 1 - q) default else l.getD q default
theorem j7 (l : List Stop) (k : Nat) : (yU l k).length = l.length := by simp [yU]
theorem uW {l : List Stop} {k q : Nat} (hq : q < l.length) : (yU l k)[q]? = some (if q < k ∨ l.length - 1 - q < k then l.getD (l.length - 1 - q) default else l.getD q default) := by
 unfold yU; rw [List.getElem?_map, List.getElem?_range hq]; rfl
theorem ZgZ (l : List Stop) : yU l 0 = l := by
 apply List.ext_getElem?
 intro q
 by_cases h : q < l.length
 ·rw [uW h, if_neg (by omega), List.getD_eq_getElem?_getD, List.getElem?_eq_getElem h]; rfl
 ·rw [List.getElem?_eq_none (by rw [j7]; omega), List.getElem?_eq_none (by omega)]
theorem Zg0 {l : List Stop} {k : Nat} (hk : l.length - 1 ≤ k + k) : yU l k = l.reverse := by
 apply List.ext_getElem?
 intro q
 by_cases h : q < l.length
 ·rw [uW h, List.getElem?_reverse h]
  by_cases h1 : q < k ∨ l.length - 1 - q < k
  ·rw [if_pos h1, List.getD_eq_getElem?_getD, List.getElem?_eq_getElem (by omega)]; rfl
  ·rw [if_neg h1, List.getD_eq_getElem?_getD]
   have : q = l.length - 1 - q := by omega
   rw [← this, List.getElem?_eq_getElem h]; rfl
 ·rw [List.getElem?_eq_none (by rw [j7]; omega), List.getElem?_eq_none (by simp; omega)]
theorem Zg1 {l : List Stop} {k : Nat} (h : k < l.length - 1 - k) {a b : Stop} (ha : (yU l k)[k]? = some a) (hb : (yU l k)[l.length - 1 - k]? = some b) : ((yU l k).set k b).set (l.length - 1 - k) a = yU l (k + 1) := by
 rw [uW (by omega), if_neg (by omega)] at ha
 rw [uW (by omega), if_neg (by omega)] at hb
 cases ha; cases hb
 apply List.ext_getElem?
 intro q
 by_cases hq : q < l.length
 ·rw [uW hq, List.getElem?_set, List.getElem?_set]
  by_cases e1 : l.length - 1 - k = q
  ·rw [if_pos e1, if_pos (by rw [List.length_set, j7]; omega), if_pos (by omega)]
   congr 2; omega
  ·rw [if_neg e1]
   by_cases e2 : k = q
   ·subst e2
    rw [if_pos rfl, if_pos (by rw [j7]; exact hq), if_pos (by omega)]
   ·rw [if_neg e2, uW hq]
    by_cases h1 : q < k ∨ l.length - 1 - q < k
    ·rw [if_pos h1, if_pos (by omega)]
    ·rw [if_neg h1, if_neg (by omega)]
 ·rw [List.getElem?_eq_none (by rw [List.length_set, List.length_set, j7]; omega), List.getElem?_eq_none (by rw [j7]; omega)]
theorem Qd (S : Store) (i : Nat) (a b : Ob) : (S.set i a).set i b = S.set i b := by
 funext o
 by_cases h : o = i
 ·subst h; rw [Store.set_same, Store.set_same]
 ·rw [Store.set_other _ _ _ _ h, Store.set_other _ _ _ _ h, Store.set_other _ _ _ _ h]
set_option maxRecDepth 20000 in
set_option maxHeartbeats 1600000 in
theorem Zg2 {S : Store} {id ver : Nat} (pre l : List Stop) (hn : (pre ++ l).length ≤ 1048576) (hid : S id = .cells ver 50 ((pre ++ l).flatMap Enc.enc)) :
  Spec Tryz.prog 201 [.sl id ver 2 (pre.length * 2) l.length] S (fun _ S' => S' = S.set id (.cells ver 50 ((pre ++ l.reverse).flatMap Enc.enc))) := by
 refine jg Tryz.func201 Tryz.ntmps201 Tryz.results201 fun nx hd => ?_
 have hlt : id < nx := yQ hd hid (by simp)
 simp only [List.length_append] at hn
 have w0 : IntKind.i64.wrap ((l.length : Int) - 1) = (l.length : Int) - 1 := wr _ (by omega) (by omega)
 repeat apply za
 refine pwN [] w0 ?_
 intros
 repeat apply za
 refine ze (qV (σ := Nat) (fun k => k ≤ l.length) (fun k => [(0, .sl id ver 2 (pre.length * 2) l.length), (2, I k), (3, I ((l.length : Int) - 1 - k))]) (fun k => S.set id (.cells ver 50 ((pre ++ yU l k).flatMap Enc.enc))) (fun _ => []) (fun k => l.length - k) (zt 0 [] (by simp) (by simp) (by rw [ZgZ]; exact uL S id _ hid) (by simp)) ?_)
 rintro k hk
 show PW _ _ _ _ _ _ _ (ext (S.set id (.cells ver 50 ((pre ++ yU l k).flatMap Enc.enc))) nx [])
 obtain ⟨T, hT⟩ : ∃ T, T = S.set id (.cells ver 50 ((pre ++ yU l k).flatMap Enc.enc)) := ⟨_, rfl⟩
 rw [← hT]
 (repeat apply za); refine pwn ?_; intros
 repeat apply za
 refine zl rfl (fun hc => ?_) (fun hc => ?_)
 ·simp at hc
  have h1 : k < l.length - 1 - k := by omega
  have x1 := j7 l k
  obtain ⟨a, ta, a1, -, -, -, a0⟩ := el 2 rfl (pre ++ yU l k) (pre.length + k) (by simp [j7]; omega)
  obtain ⟨b, tb, b1, -, -, -, b0⟩ := el 2 rfl (pre ++ yU l k) (pre.length + (l.length - 1 - k)) (by simp [j7]; omega)
  have hst := Zg1 h1 (a := a) (b := b) (by rw [← a1, List.getElem?_append_right (by omega), Nat.add_sub_cancel_left]) (by rw [← b1, List.getElem?_append_right (by omega), Nat.add_sub_cancel_left])
  have sp1 := ZaA (pre ++ yU l k) (pre.length + k) b (by simp [j7]; omega)
  have sp2 := ZaA ((pre ++ yU l k).set (pre.length + k) b) (pre.length + (l.length - 1 - k)) a (by simp [j7]; omega)
  have hs2 : ((pre ++ yU l k).set (pre.length + k) b).set (pre.length + (l.length - 1 - k)) a = pre ++ yU l (k + 1) := by
   rw [List.set_append_right _ _ (by omega), List.set_append_right _ _ (by omega), Nat.add_sub_cancel_left, Nat.add_sub_cancel_left, hst]
  rw [hs2] at sp2
  have hjj : (l.length : Int) - 1 - k = ((l.length - 1 - k : Nat) : Int) := by omega
  generalize l.length - 1 - k = j at *
  generalize hw0 : ((pre ++ yU l k).flatMap Enc.enc : List PV) = c0 at *
  generalize hw1 : (((pre ++ yU l k).set (pre.length + k) b).flatMap Enc.enc : List PV) = c1 at *
  have l0 : c0.length = (pre.length + l.length) * 2 := by rw [← hw0, xi]; simp [j7]
  have l1 : c1.length = (pre.length + l.length) * 2 := by rw [← hw1, xi]; simp [j7]
  have hTid : T id = .cells ver 50 c0 := by rw [hT]; exact Store.set_same _ _ _
  have xid := fun obs => zy (S := T) (obs := obs) hlt
  have xid1 := fun obs => zy (S := T.set id (.cells ver 50 c1)) (obs := obs) hlt
  have hs1 : (T.set id (.cells ver 50 c1)) id = .cells ver 50 c1 := Store.set_same _ _ _
  have hq1 : k + 1 ≤ l.length := by omega
  have q1 : pre.length * 2 + k * 2 = (pre.length + k) * 2 := by omega
  have q2 : pre.length * 2 + j * 2 = (pre.length + j) * 2 := by omega
  have q3 : j < l.length := by omega
  have q4 : k < l.length := by omega
  have q5 : ¬ nx ≤ id := by omega
  refine zd (za (ze ?_))
  rw [hjj]
  repeat apply za
  refine pwY (some []) (Row.pures [0, 1, 2, 3, 4, 5, 6, 8, 9, 10] (.alt 7 (.alt 11 (Row.pures [12] (.alt 13 (Row.pures [14] (.alt 15 (.done) .stop)) .stop)) .stop) (.alt 11 (.alt 7 (Row.pures [12] (.alt 13 (Row.pures [14] (.alt 15 (.done) .stop)) .stop)) .stop) .stop))) mixed (jn6 xid hTid q1 q2 a0 (jn2 (jn6 b0 q3 q4 q5 l0 sp1) (jn4 hs1 xid1 sp2 l1))) ?_
  have wj : IntKind.i64.wrap ((j : Int) - 1) = (l.length : Int) - 1 - ((k + 1 : Nat) : Int) := by rw [wr _ (by omega) (by omega)]; omega
  have wk := wrN k (by omega)
  have hfin : S.set id (.cells ver 50 ((pre ++ yU l (k + 1)).flatMap Enc.enc)) = (T.set id (.cells ver 50 c1)).set id (.cells ver 50 ((pre ++ yU l (k + 1)).flatMap Enc.enc)) := by rw [hT, Qd, Qd]
  have happ : ((pre ++ yU l (k + 1)).flatMap Enc.enc : List PV) = pre.flatMap Enc.enc ++ (yU l (k + 1)).flatMap Enc.enc := by rw [List.flatMap_append]
  rw [happ] at hfin
  refine ⟨?_, ?_⟩
  ·refine ⟨by omega, by omega, ?_⟩
   intros
   repeat apply za
   refine pwN [] (jn2 wk wj) ?_
   intros
   exact zk (k + 1) [] hq1 (by omega) (by simp) (by rw [happ, hT]; simp only [Qd]) (by simp)
  ·refine ⟨by omega, by omega, ?_⟩
   intros
   repeat apply za
   refine pwN [] (jn2 wk wj) ?_
   intros
   exact zk (k + 1) [] hq1 (by omega) (by simp) (by rw [happ, hT]; simp only [Qd]) (by simp)
 ·simp at hc
  refine zm ?_
  refine ⟨[], T, rfl, ?_, zL ?_⟩
  ·rw [hT, Zg0 (by omega)]
  ·rw [hT]
   intro i hi
   rw [Store.set_other _ _ _ _ (by omega)]; exact hd i hi
open Go Go.Proofs
def yl (d : Day) (p : Pc) : List Stop := if p.f < p.o then (bif p.b then (((d.getD p.t []).drop p.f).take (p.o - p.f)).reverse else ((d.getD p.t []).drop p.f).take (p.o - p.f)) else []
def zT (d : Day) (r : Rw5) : List Stop := r.l.flatMap (yl d)
def uX (d : Day) (p : Pc) : Prop := p.f < p.o → p.t < d.length ∧ p.o ≤ tlen d p.t
def j8 (d : Day) (r : Rw5) : Prop := ∀ p ∈ r.l, uX d p
theorem Zg3 (d : Day) : j8 d rw0 := by
 intro p hp h
 simp [Rw5.l, rw0] at hp
 subst hp
 exact absurd h (by decide)
theorem Qe (r : Rw5) {k : Nat} (h : k < 5) : ∃ p, r.l[k]? = some p ∧ ((rwL r).drop (k * 4)).take 4 = pcL p ∧ r.l.take (k + 1) = r.l.take k ++ [p] := by
 have h5 : k = 0 ∨ k = 1 ∨ k = 2 ∨ k = 3 ∨ k = 4 := by omega
 rcases h5 with rfl | rfl | rfl | rfl | rfl <;> exact ⟨_, rfl, rfl, rfl⟩
theorem ZaB {d : Day} {p : Pc} {m : Nat} (h : ∀ t ∈ d, t.length ≤ m) : (yl d p).length ≤ m := by
 have hg : (d.getD p.t []).length ≤ m := by
  rw [List.getD_eq_getElem?_getD]
  cases hq : d[p.t]? with
  | none => simp
  | some l => exact h l (List.mem_of_getElem? hq)
 unfold yl
 generalize d.getD p.t [] = l at *
 split
 ·cases p.b <;> simp <;> omega
 ·simp
set_option maxRecDepth 20000 in
set_option maxHeartbeats 1600000 in
theorem ZaC (d : Day) (r : Rw5) (hdn : d.length ≤ 1048576) (hdt : ∀ t ∈ d, t.length ≤ 1000) (hr : j8 d r) : Pure Tryz.prog 158 [.agg [L d], .agg (rwL r)] (L (zT d r)) := by
 have hat := fun k (h : k < 5) => Qe r h
 have hz : zT d r = (r.l.take 5).flatMap (yl d) := by unfold zT; rw [List.take_of_length_le (by simp [Rw5.l])]
 rw [hz]
 clear hz
 have hcl : (rwL r).length = 20 := rfl
 have hct : (rwL r).take 20 = rwL r := rfl
 have hpl := fun p => ZaB (d := d) (p := p) hdt
 have hgl : ∀ k, ((r.l.take k).flatMap (yl d)).length ≤ 1000 * k := by
  intro k
  induction k with
  | zero => simp
  | succ k ih =>
   by_cases hk : k < 5
   ·obtain ⟨p, -, -, e⟩ := hat k hk
    rw [e, List.flatMap_append, List.length_append]
    have := hpl p
    simp only [List.flatMap_cons, List.flatMap_nil, List.append_nil]; omega
   ·rw [List.take_of_length_le (by simp [Rw5.l]; omega)] at ih ⊢; omega
 have hrl : r.l.length = 5 := rfl
 generalize hrc : rwL r = rc at *
 refine pwe Tryz.func158 Tryz.ntmps158 Tryz.results158 fun S nx hd => ?_
 repeat apply za
 refine pwn ?_
 intro v0 v1
 (repeat apply za); refine pwn ?_; intros
 refine za (yA 5 50 2 rfl fun v2 => ?_)
 repeat apply za
 refine pwN [] (jn2 hcl hct) ?_
 intros
 repeat apply za
 refine ze (zq (fun s' : Nat × Nat => s'.1 ≤ 5) (fun (k, v2) => [(2, .ptr nx v0 0), (3, .ptr (nx + 1) v1 0), (5, .sl (nx + 2) v2 2 0 ((r.l.take k).flatMap (yl d)).length), (9, .agg rc), (10, I k)]) (fun (k, v2) => [.cells v0 66 [L d], .cells v1 202 rc, .cells v2 50 (((r.l.take k).flatMap (yl d)).flatMap Enc.enc)]) (fun s' => 5 - s'.1) (0, v2) [] (by simp) (by simp) (by simp) ?_)
 rintro ⟨k, v2⟩ hk
 simp only at hk ⊢
 by_cases hk5 : k < 5
 ·obtain ⟨p, hp1, hp2, hp3⟩ := hat k hk5
  have hk5' : (k : Int) < 5 := by omega
  have hk6 : 4 ≤ 20 - k * 4 := by omega
  have hok := hr p (List.mem_of_getElem? hp1)
  have hol := hgl k
  have hnx : (r.l.take (k + 1)).flatMap (yl d) = (r.l.take k).flatMap (yl d) ++ yl d p := by rw [hp3, List.flatMap_append]; simp
  have hol2 := hpl p
  generalize (r.l.take k).flatMap (yl d) = out at *
  have wk := wrN k (by omega)
  repeat apply za
  refine pwN [] hk5' ?_
  intros
  repeat apply za
  refine zh rfl ?_
  refine zd (za (ze ?_))
  repeat apply za
  refine pwN [] (jn5 hp2 hk5 hk5' hcl hk6) ?_
  intro v3
  by_cases hfo : p.f < p.o
  case neg =>
   have hpz : yl d p = [] := by unfold yl; rw [if_neg hfo]
   have hfo' : p.o ≤ p.f := by omega
   repeat apply za
   refine pwN [] hfo' ?_
   intros
   repeat apply za
   refine zh (by simp [hfo']) ?_
   refine zm ?_
   (repeat apply za); refine pwn ?_; intros
   exact zk (k + 1, v2) [_] (by simp; omega) (by simp; omega) (by simp [wk, hnx, hpz]) rfl (by simp [hnx, hpz]; rfl)
  obtain ⟨ht, ho⟩ := hok hfo
  obtain ⟨t, tt, t1, -, -, t0⟩ := el1 rfl d p.t ht
  have ht1 : 1 ≤ d.length - p.t := by omega
  have htg : d.getD p.t [] = t := by rw [List.getD_eq_getElem?_getD, t1]; rfl
  unfold tlen at ho
  rw [htg] at ho
  have hpz : yl d p = bif p.b then ((t.drop p.f).take (p.o - p.f)).reverse else (t.drop p.f).take (p.o - p.f) := by unfold yl; rw [if_pos hfo, htg]
  have hfo' : ¬ p.o ≤ p.f := by omega
  have hsl : ((t.flatMap Enc.enc : List PV).drop (p.f * 2)).take ((p.o - p.f) * 2) = ((t.drop p.f).take (p.o - p.f)).flatMap Enc.enc := by rw [uB Enc.enc 2 (fun _ => rfl) t p.f, w9 Enc.enc 2 (fun _ => rfl) (t.drop p.f) (p.o - p.f)]
  have hsl2 : ((t.drop p.f).take (p.o - p.f)).length = p.o - p.f := by simp; omega
  have hsl3 : (((t.drop p.f).take (p.o - p.f)).flatMap Enc.enc : List PV).length = (p.o - p.f) * 2 := by rw [xi, hsl2]
  generalize (t.drop p.f).take (p.o - p.f) = sg at *
  have hof : (out.flatMap Enc.enc : List PV).length = out.length * 2 := xi out
  have hot : (out.flatMap Enc.enc : List PV).take (out.length * 2) = out.flatMap Enc.enc := List.take_of_length_le (by omega)
  have q1 : p.f ≤ p.o := by omega
  have htl := hdt t (List.mem_of_getElem? t1)
  repeat apply za
  refine pwN [] hfo' ?_
  intros
  repeat apply za
  refine zj (by simp [hfo']) ?_
  refine zd ?_
  (repeat apply za); refine pwn ?_; intros
  repeat apply za
  refine pwY (some [nx, nx + 3]) (Row.pures [0, 1, 2, 3, 4, 5, 6, 7, 8, 9, 10, 11, 12] (.alt 13 (Row.pures [14] .done) .stop)) mixed (jn6 t0 ht ht1 hof hot (jn4 hsl hsl2 q1 ho)) ?_
  refine ⟨by omega, ?_⟩
  intros
  have hsgl : sg.length ≤ 1000 := by
   have h1 := hdt t (List.mem_of_getElem? t1)
   omega
  cases hpb : p.b with
  | false =>
   rw [hpb] at hpz
   simp only [cond_false] at hpz
   repeat apply za
   refine pwN [] hpb ?_
   intros
   repeat apply za
   refine zj rfl ?_
   refine zd ?_
   (repeat apply za); refine pwn ?_; intros
   exact zk (k + 1, v2 + 1) [_] (by simp; omega) (by simp; omega) (by simp [wk, hnx, hpz, hsl2]) rfl (by simp [hnx, hpz]; rfl)
  | true =>
   rw [hpb] at hpz
   simp only [cond_true] at hpz
   have hrev := fun (S : Store) (id ver : Nat) h => Zg2 (S := S) (id := id) (ver := ver) out sg (by simp; omega) h
   rw [hsl2] at hrev
   repeat apply za
   refine pwN [] hpb ?_
   intros
   repeat apply za
   refine zh rfl ?_
   repeat apply za
   refine zN [] (by rfl) (by rfl) fun K Gc Gh hK hGc hGh X hX0 hX => ?_
   simp -implicitDefEqProofs [hX0, hX]
   try clear hX0 hX X
   refine hGc _ _ _ _ _ _ _ fun hsuf => ((hrev _ _ _ (by rw [yP, List.flatMap_append]; rfl)).mono ?_).v
   rintro _ _ rfl
   refine ⟨_, _, qg _ (by omega) (by simp), ?_⟩
   clear hGc hGh
   clear Gc Gh
   refine zI hsuf (D := []) (by rfl) fun Gc Gh hGc hGh X hX0 hX => ?_
   simp -implicitDefEqProofs [hX0, hX, (show nx + 2 - nx = 2 by omega)]
   clear hX0 hX X
   intros
   refine hK _ _ _ ?_
   clear hK hGc hGh
   clear K Gc Gh
   (repeat apply za); refine pwn ?_; intros
   exact zk (k + 1, v2 + 1) [_] (by simp; omega) (by simp; omega) (by simp [wk, hnx, hpz, hsl2]) rfl (by simp [hnx, hpz]; rfl)
 ·obtain rfl : k = 5 := by omega
  generalize (r.l.take 5).flatMap (yl d) = out at *
  (repeat apply za); refine pwn ?_; intros
  repeat apply za
  refine zj rfl ?_
  refine zm ?_
  refine zC 2 rfl ?_
  (repeat apply za); refine pwn ?_; intros
  repeat apply za
  exact zb (zg hd (by simp; rfl) (by simp [zi]))
open Go Hp
theorem ZaD {α : Type} {d : List α} (hn : d.Nodup) {i j : Nat} {t : α} (hi : d[i]? = some t) (hj : d[j]? = some t) : i = j := by
 obtain ⟨g1, g2⟩ := List.getElem?_eq_some_iff.1 hi
 obtain ⟨g3, g4⟩ := List.getElem?_eq_some_iff.1 hj
 have hp := List.pairwise_iff_getElem.1 hn
 rcases Nat.lt_trichotomy i j with h | h | h
 ·exact absurd (g2.trans g4.symm) (hp i j g1 g3 h)
 ·exact h
 ·exact absurd (g4.trans g2.symm) (hp j i g3 g1 h)
def qr (f : zo → Bool) : Day → Int
 | [] => -1
 | t :: d => if 0 ≤ qr f d then qr f d + 1 else if f t then 0 else -1
theorem ZaE (f : zo → Bool) : ∀ d : Day, (qr f d = -1 ∧ ∀ t ∈ d, f t = false) ∨ ∃ (k : Nat) (t : zo), d[k]? = some t ∧ f t = true ∧ qr f d = k
 | [] => .inl ⟨rfl, fun t h => by cases h⟩
 | u :: d => by
  unfold qr
  rcases ZaE f d with ⟨h1, h2⟩ | ⟨k, t, h1, h2, h3⟩
  ·rw [h1, if_neg (by omega)]
   cases hu : f u with
   | true => exact .inr ⟨0, u, rfl, hu, by simp⟩
   | false =>
    refine .inl ⟨by simp, fun t ht => ?_⟩
    rcases List.mem_cons.1 ht with rfl | ht
    ·exact hu
    ·exact h2 t ht
  ·rw [h3, if_pos (by omega)]
   exact .inr ⟨k + 1, t, by simpa using h1, h2, by simp⟩
def J4 (d : Day) (a b : Nat) (t : zo) (k : Nat) : Day := (List.range k).flatMap fun j => if j = a then [t] else if j = b then [] else [d.getD j []]
def wL (c : Int) (t : zo) : Bool := decide (wI t = some c)
def wM (c : Int) (t : zo) : Bool := decide (vk t = some c)
def wN (x : Inst) (d : Day) (p : Pr) : Day :=
 if qr (wL p.a) d < 0 ∨ qr (wM p.b) d < 0 ∨ qr (wL p.a) d = qr (wM p.b) d ∨ (p.s ≤ 0 ∧ (d.length : Int) ≤ x.veh) then d
 else if zr x (d.getD (qr (wL p.a) d).toNat [] ++ d.getD (qr (wM p.b) d).toNat []) = 0 then
  J4 d (qr (wL p.a) d).toNat (qr (wM p.b) d).toNat (d.getD (qr (wL p.a) d).toNat [] ++ d.getD (qr (wM p.b) d).toNat []) d.length
 else d
theorem J5 {α β γ : Type} {f : α → List γ} {g : β → List γ} : ∀ (A : List α) (B : List β), A.length = B.length → (∀ (j : Nat) a b, A[j]? = some a → B[j]? = some b → f a = g b) → A.flatMap f = B.flatMap g
 | [], [], _, _ => rfl
 | a :: A, b :: B, hl, h => by
  rw [List.flatMap_cons, List.flatMap_cons, h 0 a b rfl rfl, J5 A B (by simpa using hl) fun j a b ha hb => h (j + 1) a b (by simpa using ha) (by simpa using hb)]
 | [], _ :: _, hl, _ => by simp at hl
 | _ :: _, [], hl, _ => by simp at hl
theorem J6 {α : Type} (p : α → Bool) : ∀ l : List α, l.filter p = l.flatMap fun a => if p a then [a] else []
 | [] => rfl
 | a :: l => by
  rw [List.flatMap_cons, ← J6 p l, List.filter_cons]
  cases p a <;> simp
structure Apt (T : Day) : Prop where
 u : ∀ (i j : Nat) t s s', T[i]? = some t → s ∈ t → ∀ t', T[j]? = some t' → s' ∈ t' → s.c = s'.c → i = j
theorem JI.apt {ss : List Stop} {T : Day} {g : Int → Option Int} (h : JI ss T g) : Apt T := ⟨fun i j t s s' hi hs t' hj hs' e => by
 have e1 := h.g i t s hi hs
 have e2 := h.g j t' s' hj hs'
 rw [e, e2] at e1
 have := Option.some.inj e1
 omega⟩
abbrev ne (t : zo) : Bool := !t.isEmpty
theorem ZR {t : zo} (h : ne t = true) : ∃ s, s ∈ t := by
 cases t with
 | nil => cases h
 | cons s t => exact ⟨s, by simp⟩
theorem ZS {t : zo} {s : Stop} (h : s ∈ t) : ne t = true := by
 cases t with
 | nil => cases h
 | cons s t => rfl
def uY (ta tb u : zo) : Day := if u = ta then [ta ++ tb] else if u = tb then [] else [u]
theorem Zg4 {T : Day} (hA : Apt T) {i k : Nat} {ta tb : zo} (hi : T[i]? = some ta) (hk : T[k]? = some tb) (hik : i ≠ k) (ha : ne ta = true) (hb : ne tb = true) :
  ((T.set i (ta ++ tb)).set k []).filter ne = (T.filter ne).flatMap (uY ta tb) := by
 rw [J6 ne T, List.flatMap_assoc, J6]
 refine J5 _ _ (by simp) fun j u v hu hv => ?_
 obtain ⟨sa, hsa⟩ := ZR ha
 obtain ⟨sb, hsb⟩ := ZR hb
 have hjl := (List.getElem?_eq_some_iff.1 hv).1
 by_cases h1 : k = j
 ·subst h1
  rw [List.getElem?_set_self (by simpa using hjl)] at hu
  cases hu
  obtain rfl : tb = v := by rw [hk] at hv; exact Option.some.inj hv
  have hne : tb ≠ ta := by
   rintro rfl
   exact hik (hA.u i k tb sb sb hi hsb tb hk hsb rfl)
  rw [if_pos hb]
  simp [uY, hne]
 ·rw [List.getElem?_set_ne h1] at hu
  by_cases h2 : i = j
  ·subst h2
   rw [List.getElem?_set_self hjl] at hu
   cases hu
   obtain rfl : ta = v := by rw [hi] at hv; exact Option.some.inj hv
   rw [if_pos ha, if_pos (ZS (s := sa) (by simp [hsa]))]
   simp [uY]
  ·rw [List.getElem?_set_ne h2] at hu
   obtain rfl : u = v := by rw [hv] at hu; exact (Option.some.inj hu).symm
   cases hn : ne u with
   | false => simp
   | true =>
    obtain ⟨su, hsu⟩ := ZR hn
    have n1 : u ≠ ta := by rintro rfl; exact h2 (hA.u i j u su su hi hsu u hv hsu rfl)
    have n2 : u ≠ tb := by rintro rfl; exact h1 (hA.u k j u su su hk hsu u hv hsu rfl)
    simp [uY, n1, n2]
theorem Zg5 {T : Day} (hA : Apt T) : (T.filter ne).Nodup := by
 rw [List.nodup_iff_pairwise_ne, List.pairwise_filter, List.pairwise_iff_getElem]
 intro i j hi hj hij h1 h2 e
 obtain ⟨s, hs⟩ := ZR h1
 have := hA.u i j T[i] s s (List.getElem?_eq_getElem hi) hs T[j] (List.getElem?_eq_getElem hj) (e ▸ hs) rfl
 omega
theorem Zg6 {d : Day} (hn : d.Nodup) {a b : Nat} {ta tb : zo} (ha : d[a]? = some ta) (hb : d[b]? = some tb) : J4 d a b (ta ++ tb) d.length = d.flatMap (uY ta tb) := by
 unfold J4
 refine J5 _ _ (by simp) fun j n u hj hu => ?_
 rw [List.getElem?_range (List.getElem?_eq_some_iff.1 hu).1] at hj
 cases hj
 have same : ∀ {k : Nat} {t : zo}, d[k]? = some t → (j = k ↔ u = t) := by
  intro k t hk
  constructor
  ·rintro rfl; rw [hu] at hk; exact Option.some.inj hk
  ·rintro rfl; exact ZaD hn hu hk
 have e1 := same ha
 have e2 := same hb
 have hg : d.getD j [] = u := by rw [List.getD_eq_getElem?_getD, hu]; rfl
 unfold uY
 by_cases h1 : j = a
 ·rw [if_pos h1, if_pos (e1.1 h1)]
 ·rw [if_neg h1, if_neg fun e => h1 (e1.2 e)]
  by_cases h2 : j = b
  ·rw [if_pos h2, if_pos (e2.1 h2)]
  ·rw [if_neg h2, if_neg fun e => h2 (e2.2 e), hg]
theorem ZaF {T : Day} (hA : Apt T) {i : Nat} {t : zo} {s : Stop} (hi : T[i]? = some t) (hs : s ∈ t) (f : zo → Bool) (hf : ∀ u, f u = true → ∃ s' ∈ u, s'.c = s.c) :
  (f t = false ∧ qr f (T.filter ne) = -1) ∨ (f t = true ∧ ∃ k : Nat, (T.filter ne)[k]? = some t ∧ qr f (T.filter ne) = k) := by
 have uniq : ∀ u ∈ T.filter ne, f u = true → u = t := by
  intro u hu hfu
  obtain ⟨s', hs', e⟩ := hf u hfu
  obtain ⟨j, hj⟩ := List.mem_iff_getElem?.1 (List.mem_filter.1 hu).1
  have := hA.u i j t s s' hi hs u hj hs' e.symm
  subst this
  rw [hi] at hj; exact (Option.some.inj hj).symm
 have ht : t ∈ T.filter ne := List.mem_filter.2 ⟨List.mem_of_getElem? hi, ZS hs⟩
 rcases ZaE f (T.filter ne) with ⟨h1, h2⟩ | ⟨k, u, h1, h2, h3⟩
 ·exact .inl ⟨h2 t ht, h1⟩
 ·have := uniq u (List.mem_of_getElem? h1) h2
  subst this
  exact .inr ⟨h2, k, h1, h3⟩
theorem Zg7 {c : Int} {t : zo} (h : wL c t = true) : ∃ s ∈ t, s.c = c := by
 have h : wI t = some c := of_decide_eq_true h
 unfold wI at h
 obtain ⟨s, h1, h2⟩ := Option.map_eq_some_iff.1 h
 exact ⟨s, List.mem_of_getElem? h1, h2⟩
theorem Zg8 {c : Int} {t : zo} (h : wM c t = true) : ∃ s ∈ t, s.c = c := by
 have h : vk t = some c := of_decide_eq_true h
 unfold vk at h
 obtain ⟨s, h1, h2⟩ := Option.map_eq_some_iff.1 h
 exact ⟨s, List.mem_of_getElem? h1, h2⟩
theorem J7 (p : zo → Bool) : ∀ T : Day, ((T.filter p).length : Int) = (T.map fun t => if p t then (1 : Int) else 0).sum
 | [] => rfl
 | t :: T => by
  rw [List.filter_cons, List.map_cons, List.sum_cons, ← J7 p T]
  cases p t <;> simp <;> omega
theorem Zg9 {T : Day} {i k : Nat} {ta tb : zo} (hi : T[i]? = some ta) (hk : T[k]? = some tb) (hik : i ≠ k) (ha : ne ta = true) (hb : ne tb = true) :
  ((((T.set i (ta ++ tb)).set k []).filter ne).length : Int) = ((T.filter ne).length : Int) - 1 := by
 obtain ⟨sa, hsa⟩ := ZR ha
 rw [J7, J7, uS _ _ k tb [] (by rw [List.getElem?_set_ne hik]; exact hk), uS _ _ i ta (ta ++ tb) hi]
 have hn : ne (ta ++ tb) = true := ZS (s := sa) (by simp [hsa])
 simp only [ha, hb, hn, if_true]
 simp
theorem Zha {x : Inst} {ss : List Stop} {st : Day × Int} {g : Int → Option Int} (h : JI ss st.1 g) (hnum : st.2 = ((st.1.filter ne).length : Int)) {p : Pr} (hpa : p.a ∈ ss.map (·.c)) (hpb : p.b ∈ ss.map (·.c)) :
  wN x (st.1.filter ne) p = (yE x st p).1.filter ne ∧ (yE x st p).2 = (((yE x st p).1.filter ne).length : Int) ∧ ∃ g', JI ss (yE x st p).1 g' := by
 obtain ⟨i, a, sa, hia, hsa, hsac, hga, hpi⟩ := h.there hpa
 obtain ⟨k, b, sb, hkb, hsb, hsbc, hgb, hpk⟩ := h.there hpb
 have hgi : st.1.getD i [] = a := by rw [List.getD_eq_getElem?_getD, hia]; rfl
 have hgk : st.1.getD k [] = b := by rw [List.getD_eq_getElem?_getD, hkb]; rfl
 have hdef : yE x st p = bif yh x st.2 p i k a b then ((st.1.set i (a ++ b)).set k [], st.2 - 1) else st := by
  unfold yE uP
  simp only [hpi, hpk, hgi, hgk]
 have hA := h.apt
 have hna := ZS hsa
 have hnb := ZS hsb
 have hnd := Zg5 hA
 rw [hdef]
 have stay : yh x st.2 p i k a b = false → wN x (st.1.filter ne) p = st.1.filter ne → wN x (st.1.filter ne) p = (bif yh x st.2 p i k a b then ((st.1.set i (a ++ b)).set k [], st.2 - 1) else st).1.filter ne ∧ (bif yh x st.2 p i k a b then ((st.1.set i (a ++ b)).set k [], st.2 - 1) else st).2 = (((bif yh x st.2 p i k a b then ((st.1.set i (a ++ b)).set k [], st.2 - 1) else st).1.filter ne).length : Int) ∧ ∃ g', JI ss (bif yh x st.2 p i k a b then ((st.1.set i (a ++ b)).set k [], st.2 - 1) else st).1 g' := by
  intro e1 e2
  rw [e1]
  exact ⟨e2, hnum, g, h⟩
 rcases ZaF hA hia hsa (wL p.a) (fun u hu => by rw [hsac]; exact Zg7 hu) with ⟨fa, la⟩ | ⟨fa, ka, ha1, la⟩
 ·have e1 : wI a ≠ some p.a := of_decide_eq_false fa
  refine stay (by simp [yh, e1]) ?_
  unfold wN; rw [if_pos (.inl (by omega))]
 rcases ZaF hA hkb hsb (wM p.b) (fun u hu => by rw [hsbc]; exact Zg8 hu) with ⟨fb, lb⟩ | ⟨fb, kb, hb1, lb⟩
 ·have e1 : vk b ≠ some p.b := of_decide_eq_false fb
  refine stay (by simp [yh, e1]) ?_
  unfold wN; rw [if_pos (.inr (.inl (by omega)))]
 have e1 : wI a = some p.a := of_decide_eq_true fa
 have e2 : vk b = some p.b := of_decide_eq_true fb
 have hab : ka = kb ↔ i = k := by
  constructor
  ·rintro rfl
   obtain rfl : a = b := by rw [ha1] at hb1; exact Option.some.inj hb1
   exact hA.u i k a sa sa hia hsa a hkb hsa rfl
  ·rintro rfl
   obtain rfl : a = b := by rw [hia] at hkb; exact Option.some.inj hkb
   exact ZaD hnd ha1 hb1
 have ga : (st.1.filter ne).getD (ka : Int).toNat [] = a := by rw [Int.toNat_natCast, List.getD_eq_getElem?_getD, ha1]; rfl
 have gb : (st.1.filter ne).getD (kb : Int).toNat [] = b := by rw [Int.toNat_natCast, List.getD_eq_getElem?_getD, hb1]; rfl
 by_cases hik : i = k
 ·refine stay (by simp [yh, hik]) ?_
  unfold wN; rw [if_pos (.inr (.inr (.inl (by rw [la, lb, hab.2 hik]))))]
 by_cases hfew : p.s ≤ 0 ∧ st.2 ≤ x.veh
 ·refine stay (by simp [yh, hfew.1, hfew.2]) ?_
  unfold wN; rw [if_pos (.inr (.inr (.inr ⟨hfew.1, by omega⟩)))]
 have hcond : ¬ (qr (wL p.a) (st.1.filter ne) < 0 ∨ qr (wM p.b) (st.1.filter ne) < 0 ∨ qr (wL p.a) (st.1.filter ne) = qr (wM p.b) (st.1.filter ne) ∨ (p.s ≤ 0 ∧ ((st.1.filter ne).length : Int) ≤ x.veh)) := by
  rw [la, lb]
  rintro (q | q | q | q)
  ·omega
  ·omega
  ·exact hik (hab.1 (by omega))
  ·exact hfew ⟨q.1, by omega⟩
 by_cases hmay : zr x (a ++ b) = 0
 ·have hc : yh x st.2 p i k a b = true := by
   unfold yh
   simp only [hik, e1, e2, hmay, Bool.and_eq_true, decide_eq_true_eq, ne_eq, not_false_eq_true, Bool.not_eq_true', Bool.and_eq_false_iff, decide_eq_false_iff_not, and_true, true_and]
   by_cases q : p.s ≤ 0
   ·exact .inr fun e => hfew ⟨q, e⟩
   ·exact .inl q
  rw [hc]
  simp only [cond_true]
  refine ⟨?_, ?_, _, h.join hia hkb hik⟩
  ·unfold wN
   rw [if_neg hcond, la, lb, ga, gb, if_pos hmay, Zg4 hA hia hkb hik hna hnb, ← Zg6 hnd ha1 hb1]
   rfl
  ·rw [Zg9 hia hkb hik hna hnb, hnum]
 ·refine stay (by simp [yh, hmay]) ?_
  unfold wN
  rw [if_neg hcond, la, lb, ga, gb, if_neg hmay]
theorem Zhb (ss : List Stop) : (ss.map fun s => [s]).filter ne = yp ss := by
 unfold yp; rw [List.filter_eq_self]; intro t ht; obtain ⟨s, _, rfl⟩ := List.mem_map.1 ht; rfl
open Go Hp
theorem J8 (l : List Stop) : (yp l).length = l.length := by simp [yp]
theorem Zhc {x : Inst} {ss : List Stop} {T : Day} {g : Int → Option Int} (h : JI ss T g) (hss : ss.length ≤ 1000) : (T.filter ne).length ≤ 1000 ∧ (T.filter ne).flatten.length ≤ 1000 ∧ ∀ t ∈ T.filter ne, t ≠ [] := by
 have hf : (T.filter ne).flatten = T.flatten := by
  induction T with
  | nil => rfl
  | cons t T ih =>
   clear h
   have key : ∀ T : Day, (T.filter ne).flatten = T.flatten := by
    intro T
    induction T with
    | nil => rfl
    | cons t T ih =>
     rw [List.filter_cons]
     cases t with
     | nil => simpa using ih
     | cons s t => simp [ih]
   exact key _
 have hne : ∀ t ∈ T.filter ne, t ≠ [] := fun t ht e => by
  have := (List.mem_filter.1 ht).2
  rw [e] at this; cases this
 have hl := h.perm.length_eq
 have h1 := ZM (T.filter ne) hne
 rw [hf] at h1
 exact ⟨by omega, by rw [hf]; omega, hne⟩
open Go Go.Proofs Hp
structure SOk (x : Inst) (l : List Stop) : Prop where
 cust : x.cust.length ≤ 1048576
 arc : yq x
 veh : 0 ≤ x.veh
 len : l.length ≤ 1000
 sm : ∀ s ∈ l, small s.c
 nd : (l.map (·.c)).Nodup
def wO (x : Inst) (l : List Stop) : List Day := [ji x l, yp l] ++ (bif (yM x l).2 then [(yM x l).1] else [])
def xK (x : Inst) (imp : Day → Day) (l : List Stop) : List Day := [yp l, imp (ji x l), imp (yp l)] ++ (bif (yM x l).2 then [imp (yM x l).1] else [])
theorem ZaG {x : Inst} (hx : x.cust.length ≤ 1048576) : ∀ (n : Nat) (d : Day) (l : List Stop), l.length = n → RgOk x d l → RgOk x (jO x n d l).1 [] ∧ ((jO x n d l).2 = true → (jO x n d l).1.flatten.Perm (d.flatten ++ l))
 | 0, d, l, hl, h => by
  obtain rfl : l = [] := List.eq_nil_of_length_eq_zero hl
  exact ⟨h, fun _ => by simp [jO]⟩
 | n + 1, d, l, hl, h => by
  have hne : l ≠ [] := fun e => by rw [e] at hl; cases hl
  obtain ⟨k, hu, hk⟩ := Zaw (x := x) (d := d) hne
  have hg : l.getD k default = l[k] := by rw [List.getD_eq_getElem?_getD, List.getElem?_eq_getElem hk]; rfl
  unfold jO
  rw [hu, Int.toNat_natCast, hg]
  cases hi : (zW x d l[k]).2 with
  | false =>
   refine ⟨⟨h.ok, h.may, ?_⟩, fun e => by cases e⟩
   have := h.len
   simp only [cond_false, List.length_nil]; omega
  | true =>
   simp only [cond_true]
   obtain ⟨h1, h2⟩ := ZaG hx n (zW x d l[k]).1 (l.eraseIdx k) (by rw [List.length_eraseIdx_of_lt hk]; omega) (h.step hx hk hi)
   refine ⟨h1, fun e => (h2 e).trans ?_⟩
   have hp := V1 hi
   refine (hp.append_right _).trans ?_
   have he : (l[k] :: l.eraseIdx k).Perm l := by
    rw [List.eraseIdx_eq_take_drop_succ]
    have := List.perm_middle (a := l[k]) (l₁ := l.take k) (l₂ := l.drop (k + 1))
    refine this.symm.trans ?_
    rw [← List.drop_eq_getElem_cons hk, List.take_append_drop]
   rw [List.cons_append]
   refine List.perm_middle.symm.trans ?_
   exact he.append_left _
section
variable {x : Inst} {l : List Stop} (h : SOk x l)
include h
theorem SOk.apart : DayOk (yp l) ∧ (yp l).flatten = l ∧ (yp l).length ≤ 1000 := by
 have hf : (yp l).flatten = l := by
  unfold yp
  clear h
  induction l with
  | nil => rfl
  | cons s l ih => simpa using ih
 refine ⟨⟨?_, fun t ht => ?_, fun t ht a ha => ?_⟩, hf, ?_⟩
 ·rw [J8]; have := h.len; omega
 ·obtain ⟨s, _, rfl⟩ := List.mem_map.1 ht; simp
 ·obtain ⟨s, hs, rfl⟩ := List.mem_map.1 ht
  simp at ha; subst ha; exact h.sm _ hs
 ·rw [J8]; exact h.len
theorem SOk.join : DayOk (ji x l) ∧ (ji x l).flatten.Perm l ∧ (ji x l).length ≤ 1000 ∧ ∀ t ∈ ji x l, t ≠ [] := by
 obtain ⟨g, hg⟩ := JI.begin l [] [] _ JI.nil (by simpa using h.nd)
 have key : ∀ (ps : List Pr) (st : Day × Int), (∃ g, JI l st.1 g) → st.2 = ((st.1.filter ne).length : Int) → (∀ p ∈ ps, p.a ∈ l.map (·.c) ∧ p.b ∈ l.map (·.c)) → ∃ g, JI l (ps.foldl (yE x) st).1 g := by
  intro ps
  induction ps with
  | nil => intro st hg _ _; exact hg
  | cons p ps ih =>
   rintro st ⟨g, hg⟩ hn hp
   obtain ⟨h1, h2⟩ := hp p (by simp)
   obtain ⟨e1, e2, e3⟩ := Zha (x := x) hg hn h1 h2
   rw [List.foldl_cons]
   exact ih _ e3 e2 fun q hq => hp q (by simp [hq])
 obtain ⟨g', hg'⟩ := key (yG x (l.map (·.c))) (l.map fun s => [s], (l.length : Int)) ⟨g, by simpa using hg⟩ (by rw [Zhb]; simp [yp]) fun p hp => by
  have := ZK.1 ((ue x _).subset hp)
  exact ⟨this.1, this.2.1⟩
 have hjp : ji x l = ((yG x (l.map (·.c))).foldl (yE x) (l.map fun s => [s], (l.length : Int))).1.filter ne := rfl
 obtain ⟨w1, w2, w3⟩ := Zhc (x := x) hg' h.len
 have hfl : ∀ T : Day, (T.filter ne).flatten = T.flatten := by
  intro T
  induction T with
  | nil => rfl
  | cons t T ih =>
   rw [List.filter_cons]
   cases t with
   | nil => simpa using ih
   | cons s t => simp [ih]
 have hp : (ji x l).flatten.Perm l := by rw [hjp, hfl]; exact hg'.perm
 rw [← hjp] at w1 w2 w3
 refine ⟨⟨by omega, fun t ht => ?_, fun t ht a ha => ?_⟩, hp, w1, w3⟩
 ·have := (jZ ht).length_le; omega
 ·exact h.sm a (hp.subset ((jZ ht).subset ha))
theorem SOk.regret : RgOk x (yM x l).1 [] ∧ ((yM x l).2 = true → (yM x l).1.flatten.Perm l) := by
 have := ZaG h.cust l.length [] l rfl (Zax h.veh h.len)
 simpa [yM] using this
end
def ZaH (x : Inst) (b : Int) (imp : Day → Day) (ds : List Day) : Prop := ∀ d ∈ ds, (∃ n, Pure Tryz.prog 76 [.agg (zp x), .agg [L d], I b] (.tup [.agg [L (imp d)], I n])) ∧ DayOk (imp d) ∧ (imp d).flatten.length ≤ 1048576
theorem Zhd (x : Inst) (l : List Stop) (b : Int) (imp : Day → Day) (h : SOk x l) (hI : qy x l = 0 → ZaH x b imp (wO x l)) :
  Pure Tryz.prog 130 [.agg (zp x), L l, I b] (.tup [.agg [L (qO x (qy x l) (xK x imp l)).1], I (qO x (qy x l) (xK x imp l)).2]) := by
 have hF := ZdU x l h.cust (by have := h.len; omega)
 by_cases he : qy x l = 0
 case neg => exact VK x (L l) b _ _ (ug l) h.cust hF (fun e => absurd e he) fun e => absurd e he
 have hI := hI he
 have hA := ZdT l (by have := h.len; omega)
 have hJ := ZfA x l h.arc h.cust h.len h.sm h.nd
 have hR := ZgP x l h.cust h.veh h.len
 obtain ⟨⟨n1, i1⟩, o1, f1⟩ := hI (ji x l) (by simp [wO])
 obtain ⟨⟨n2, i2⟩, o2, f2⟩ := hI (yp l) (by simp [wO])
 obtain ⟨a1, a2, a3⟩ := h.apart
 have h3 : (yM x l).2 = true → (∃ n, Pure Tryz.prog 76 [.agg (zp x), .agg [L (yM x l).1], I b] (.tup [.agg [L (imp (yM x l).1)], I n])) ∧ DayOk (imp (yM x l).1) ∧ (imp (yM x l).1).flatten.length ≤ 1048576 := fun e => hI _ (by simp [wO, e])
 have hlen := h.len
 have hit := ZfF (fsL x (L l) b) [some (yp l), some (imp (ji x l)), some (imp (yp l)), bif (yM x l).2 then some (imp (yM x l).1) else none] rfl (by simp) (by
  intro k f hf
  match k with
  | 0 => cases hf; exact ⟨_, _, L (yp l), rfl, ZfC (L l) (yp l) (ug l) hA, fun d hd => by cases hd; rfl⟩
  | 1 => cases hf; exact ⟨_, _, L (imp (ji x l)), rfl, ZfD x (L l) b _ _ _ (ug l) hJ i1, fun d hd => by cases hd; rfl⟩
  | 2 => cases hf; exact ⟨_, _, L (imp (yp l)), rfl, ZfE x (L l) b _ _ _ (ug l) hA i2, fun d hd => by cases hd; rfl⟩
  | 3 =>
   cases hf
   cases hall : (yM x l).2 with
   | true =>
    obtain ⟨⟨n3, i3⟩, -⟩ := h3 hall
    rw [hall] at hR
    exact ⟨_, _, L (imp (yM x l).1), rfl, VJ x (L l) b _ _ true n3 (ug l) hR (fun _ => i3), fun d hd => by cases hd; rfl⟩
   | false =>
    rw [hall] at hR
    exact ⟨_, _, zS, rfl, VJ x (L l) b _ [] false 0 (ug l) hR (fun e => by cases e), fun d hd => by cases hd⟩
  | k + 4 => cases hf)
 have hds : ([some (yp l), some (imp (ji x l)), some (imp (yp l)), bif (yM x l).2 then some (imp (yM x l).1) else none] : List (Option Day)).filterMap id = xK x imp l := by
  unfold xK
  cases (yM x l).2 <;> rfl
 rw [hds] at hit
 refine VK x (L l) b (qy x l) (xK x imp l) (ug l) h.cust hF (fun _ => hit) fun _ d hd => ?_
 unfold xK at hd
 simp only [List.cons_append, List.nil_append, List.mem_cons] at hd
 rcases hd with rfl | rfl | rfl | hd
 ·exact ⟨a1, by rw [a2]; omega⟩
 ·exact ⟨o1, f1⟩
 ·exact ⟨o2, f2⟩
 ·cases hall : (yM x l).2 with
  | true =>
   rw [hall] at hd
   simp at hd; subst hd
   exact (h3 hall).2
  | false => rw [hall] at hd; simp at hd
open Go Go.Proofs Hp
theorem Zhe {P : Program} {r : Rd} {n : Nat} {F : Nat → PV} {S : Store} {o : Oper} {t e : TypeId} {len : Nat} {parts : Array (Nat × Operand)} {cs : List PV} {K : PV → Store → Prop} (ho : o.op = .buildSlice t len parts) (ht : P.underlying t = some (.slice e)) (h0 : P.cellsOf e ≠ 0) (hlen : len ≤ 1048576)
  (hl : wz P e len (parts.toList.map fun x => (x.1, ev F x.2)) = some cs)
  (hK : ∀ C : Ctx, S C.next = .dead → ∃ id v, Fresh C S id v ∧ K (.sl id v (P.cellsOf e) 0 len) (S.set id (.cells v e cs))) : PO P r n o F S K := by
 intro G hG C w a N st next Q' hnext
 have hmap : parts.toList.map (fun x => (x.1, ev G x.2)) = parts.toList.map (fun x => (x.1, ev F x.2)) := List.map_congr_left fun x hx => by
  rw [hG x.2 (by simp only [ho, Op.operands, List.mem_toArray, List.mem_map]; first | exact ⟨x, hx, rfl⟩ | (simp; exact ⟨x.1, by simpa using hx⟩))]
 rw [← hmap] at hl
 obtain ⟨vs, hrun, hr, hsz⟩ := X1 (w := w) ht (ev G) a.eval st.ev hl
 obtain ⟨id, ver, hfr, hK⟩ := hK C st.sim.free
 obtain ⟨k1, k2⟩ := st.sim.object' hfr e vs cs (Nat.le_of_eq hr.1) (fun i v _ hv => hr.2.1 i v hv) hr.2.2
 refine yN (x := .value (.slice (some ⟨w.heap.size, 0, none⟩) len len)) (w' := w.alloc (.cells vs e)) (by intro c hc; rw [ho] at hc; cases hc) ?_
  (hnext _ _ _ _ _ hK (Zn C S w _ _ _ _ _ _ _ _ rfl (Nat.le_refl _) (by unfold qv; omega) (by unfold maxLen; omega) hsz.symm) k1 k2)
 unfold execOp
 simp only [ho]
 have e1 : (parts.map fun x => (x.1, a.eval x.2)) = (parts.toList.map fun x => (x.1, a.eval x.2)).toArray := by
  apply Array.toList_inj.1; simp
 simp only [e1, hrun, Sem.run_bind, Sem.run_pure, Result.andThen_ok]
theorem Zhf {P : Program} {r : Rd} {n nx : Nat} {F : Nat → PV} {S : Store} {obs : List Ob} {o : Oper} {t e : TypeId} {len : Nat} {parts : Array (Nat × Operand)} {cs : List PV} {K : PV → Store → Prop} (ho : o.op = .buildSlice t len parts) (ht : P.underlying t = some (.slice e)) (h0 : P.cellsOf e ≠ 0) (hlen : len ≤ 1048576)
  (hl : wz P e len (parts.toList.map fun x => (x.1, ev F x.2)) = some cs) (hK : ∀ v, K (.sl (nx + obs.length) v (P.cellsOf e) 0 len) (ext S nx (obs ++ [.cells v e cs]))) : PO P r n o F (ext S nx obs) K :=
 Zhe ho ht h0 hlen hl (xQ (X := fun id v => K (.sl id v (P.cellsOf e) 0 len) ((ext S nx obs).set id (.cells v e cs))) _ xT fun v => by rw [qj]; exact hK v)
open Go Go.Proofs
theorem Zhg {P : Program} {r : Rd} {n nx N : Nat} {Q : Exit → (Nat → PV) → Store → Prop} {F : Nat → PV} {S : Store} {obs : List Ob} {A : Prop} {R : Nat → KT → CT → HT → Prop} {id : Nat} {ops : Array Oper} {o : Oper} {os : List Oper} {t e : TypeId} {len : Nat} {parts : Array (Nat × Operand)}
  (D : List (Nat × Nat)) (cs : List PV) (ht : P.underlying t = some (.slice e)) (a : A) (h : ∀ v, R v (fun F' S' obs' => Q .normal F' (ext S' nx obs')) (CQ P r n nx ops fun F' S' obs' => Q .normal F' (ext S' nx obs')) (HQ P r n nx ops fun F' S' obs' => Q .normal F' (ext S' nx obs')))
  (hops : ops.toList = o :: os := by rfl) (hg : o.guard = none := by rfl) (ho : o.op = .buildSlice t len parts := by rfl) (h0 : P.cellsOf e ≠ 0 := by simp) (hlen : len ≤ 1048576 := by decide)
  (hl : wz P e len (parts.toList.map fun x => (x.1, ev F x.2)) = some cs := by simp [wz, wy]) (hN : jd N ops = true := by rfl) (hD : xA ops D = true := by rfl)
  (hR : A → ∀ v, XQ P nx D os (zx F o.dst (.sl (nx + obs.length) v (P.cellsOf e) 0 len)) S (obs ++ [.cells v e cs]) (R v) := by intro a v K Gc Gh X hX0 hX h; simp -implicitDefEqProofs [hX0, hX, a]; exact h) : PW P r n N (.region id ops false) Q F (ext S nx obs) := by
 refine Q5 hN ?_
 rw [hops]
 unfold XS
 have : gd ops F o = some true := by unfold gd; rw [hg]
 rw [this]
 exact Zhf ho ht h0 hlen hl fun v => ⟨_, _, rfl, Zw (by rw [hops]; exact List.suffix_cons _ _) hD (hR a v) (h v)⟩
def fzZ (x : Inst) (t : zo) : Nat → Int
 | 0 => 0
 | i + 1 => fzZ x t i + arc x ((t.getD i default).c + 1) ((t.getD (i + 1) default).c + 1)
def bzZ (x : Inst) (t : zo) : Nat → Int
 | 0 => 0
 | i + 1 => bzZ x t i + arc x ((t.getD (i + 1) default).c + 1) ((t.getD i default).c + 1)
theorem uZ {x : Inst} (h : yq x) (t : zo) : ∀ i : Nat, 0 ≤ fzZ x t i ∧ fzZ x t i ≤ 2147483648 * (i : Int)
 | 0 => by simp [fzZ]
 | i + 1 => by
  have h1 := uZ h t i
  have h2 := h ((t.getD i default).c + 1) ((t.getD (i + 1) default).c + 1)
  unfold fzZ; omega
theorem u5 {x : Inst} (h : yq x) (t : zo) : ∀ i : Nat, 0 ≤ bzZ x t i ∧ bzZ x t i ≤ 2147483648 * (i : Int)
 | 0 => by simp [bzZ]
 | i + 1 => by
  have h1 := u5 h t i
  have h2 := h ((t.getD (i + 1) default).c + 1) ((t.getD i default).c + 1)
  unfold bzZ; omega
structure Sm where
 f : List Int
 b : List Int
 l : List Int
 n : Int
instance : Enc Sm := ⟨fun s => [L s.f, L s.b, L s.l, I s.n], 4, fun _ => rfl, fun _ => rfl⟩
@[simp] theorem ZlR (s : Sm) : Enc.enc s = [L s.f, L s.b, L s.l, I s.n] := rfl
@[simp high] theorem ZaI (l : List Sm) : (l.flatMap Enc.enc).length = l.length * 4 := jf l
@[simp high] theorem ZlS (l : List Sm) : (l.flatMap Enc.enc).take (l.length * 4) = l.flatMap Enc.enc := vf l
def smZ (x : Inst) (t : zo) : Sm := ⟨(List.range t.length).map (fzZ x t), (List.range t.length).map (bzZ x t), (List.range (t.length + 1)).map fun i => zu (t.take i), zB x (t.map (·.c))⟩
abbrev rdL (x : Inst) (d : Day) : List PV := [I x.days, I x.veh, I x.cap, I x.len, L x.cust, L x.dist, L d, L (d.map (smZ x))]
structure MvDay (d : Day) : Prop where
 n : d.length ≤ 1000
 t : ∀ t ∈ d, t.length ≤ 1000
 s : ∀ t ∈ d, ∀ s ∈ t, small s.c ∧ 0 ≤ s.q ∧ s.q ≤ 2147483648
theorem Zhh {t : zo} {i : Nat} {s : Stop} (h : t.take (i + 1) = t.take i ++ [s]) : zu (t.take (i + 1)) = zu (t.take i) + s.q := by rw [h, ZA]
theorem J9 {α : Type} (f : Nat → α) (k : Nat) : (List.range (k + 1)).map f = (List.range k).map f ++ [f k] := by rw [List.range_succ, List.map_append]; rfl
theorem Zhi (id v : Nat) (cs : List PV) (l : List Sm) : (l.flatMap Enc.enc).map (yo id v cs) = (l.flatMap Enc.enc : List PV) := by
 induction l with
 | nil => rfl
 | cons s l ih => rw [List.flatMap_cons, List.map_append, ih]; rfl
set_option maxRecDepth 20000 in
set_option maxHeartbeats 3200000 in
theorem Zhj (x : Inst) (d : Day) (hx : yq x) (hd' : MvDay d) : Pure Tryz.prog 153 [.agg (zp x), .agg [L d]] (.ip (rdL x d)) := by
 have hdn := hd'.n
 refine pwe Tryz.func153 Tryz.ntmps153 Tryz.results153 fun S nx hd => ?_
 repeat apply za
 refine pwn ?_
 intro v0 v1
 repeat apply za
 refine pwn ?_
 intro v2
 refine qa 2 7 255 4 rfl rfl fun v3 => ?_
 (repeat apply za); refine pwn ?_; intros
 repeat apply za
 refine ze (zq (fun s' : Nat × Nat => s'.1 ≤ d.length) (fun (k, v3) => [(2, .ptr nx v0 0), (5, .ptr (nx + 2) v2 0), (20, L d), (21, I d.length), (22, I k)]) (fun (k, v3) => [.cells v0 25 (zp x), .cells v1 66 [L d], .cells v2 253 [I x.days, I x.veh, I x.cap, I x.len, L x.cust, L x.dist, L d, .sl (nx + 3) v3 4 0 k], .cells v3 255 (((d.map (smZ x)).take k).flatMap Enc.enc)]) (fun s' => d.length - s'.1) (0, v3) [] (by simp) (by simp) (by simp) ?_)
 rintro ⟨k, v3⟩ hk
 simp only at hk ⊢
 (repeat apply za); refine pwn ?_; intros
 repeat apply za
 refine zl rfl (fun hc => ?_) (fun hc => ?_)
 ·simp at hc
  obtain ⟨t, tl, a1, a2, a3, e0⟩ := el1 rfl d k hc
  have hk1 : 1 ≤ d.length - k := by omega
  have htm := List.mem_of_getElem? a1
  have htl := hd'.t t htm
  have hts := hd'.s t htm
  have hlw := ZD x t (by omega) (fun s hs => (hts s hs).1)
  have hwz := uj hx (t.map (·.c))
  rw [List.length_map] at hwz
  rw [show W (zB x (t.map (·.c))) = zB x (t.map (·.c)) from wr _ (by omega) (by omega)] at hlw
  refine zd (za (ze ?_))
  repeat apply za
  refine pwN [] (jn3 e0 hc hk1) ?_
  intro v4
  repeat apply za
  refine Zhg [] [I 0] Tryz.underlying54 trivial ?_
  intro v5
  refine pwc hlw ?_
  intro v6
  (repeat apply za); refine pwn ?_; intros
  refine qa 6 0 3 1 rfl rfl fun v7 => ?_
  refine qa 6 1 3 1 rfl rfl fun v8 => ?_
  (repeat apply za); refine pwn ?_; intros
  generalize hpc : (((d.map (smZ x)).take k).flatMap Enc.enc : List PV) = pc at *
  generalize hwl : zB x (t.map (·.c)) = wl at *
  repeat apply za
  refine ze (zq (fun s' : Nat × Nat × Nat × Nat => s'.1 ≤ t.length) (fun (i, v5, v7, v8) => [(2, .ptr nx v0 0), (5, .ptr (nx + 2) v2 0), (7, .ptr (nx + 4) v4 0), (8, .ptr (nx + 6) v6 0), (9, I (fzZ x t (i - 1))), (10, I (bzZ x t (i - 1))), (20, L d), (21, I d.length), (22, I k), (32, L t), (33, I t.length), (34, I i)])
   (fun (i, v5, v7, v8) => [.cells v0 25 (zp x), .cells v1 66 [L d], .cells v2 253 [I x.days, I x.veh, I x.cap, I x.len, L x.cust, L x.dist, L d, .sl (nx + 3) v3 4 0 k], .cells v3 255 pc, .cells v4 72 [L t], .cells v5 3 (((List.range (i + 1)).map fun i => zu (t.take i)).flatMap Enc.enc),
    .cells v6 255 [.sl (nx + 7) v7 1 0 i, .sl (nx + 8) v8 1 0 i, .sl (nx + 5) v5 1 0 (i + 1), I wl], .cells v7 3 (((List.range i).map (fzZ x t)).flatMap Enc.enc), .cells v8 3 (((List.range i).map (bzZ x t)).flatMap Enc.enc)]) (fun s' => t.length - s'.1) (0, v5, v7, v8) [] (by simp) (by simp [fzZ, bzZ]) (by simp [zu]) ?_)
  rintro ⟨i, v5, v7, v8⟩ hi
  simp only at hi ⊢
  (repeat apply za); refine pwn ?_; intros
  repeat apply za
  refine zl rfl (fun hci => ?_) (fun hci => ?_)
  ·simp at hci
   obtain ⟨s, ts, s1, s2, s3, -, s0⟩ := el 2 rfl t i hci
   have hi2 : 2 ≤ t.length * 2 - i * 2 := by omega
   obtain ⟨hsm, hq0, hq1⟩ := hts s (List.mem_of_getElem? s1)
   have hgs : t.getD i default = s := by rw [List.getD_eq_getElem?_getD, s1]; rfl
   have wi := wrN i (by omega)
   have f1 := J9 (fzZ x t) i
   have f2 := J9 (bzZ x t) i
   have f3 := J9 (fun i => zu (t.take i)) (i + 1)
   have hlz := Zhh s3
   have hlb := JN (t := t.take i) (fun a ha => (hts a (List.mem_of_mem_take ha)).2)
   have hlt : (t.take i).length ≤ 1000 := by rw [List.length_take]; omega
   have wl1 : IntKind.i64.wrap (zu (t.take i) + s.q) = zu (t.take (i + 1)) := by rw [hlz]; exact wr _ (by omega) (by omega)
   have g1 : (((List.range i).map (fzZ x t)).flatMap Enc.enc : List PV).length = i := by rw [qk]; simp
   have g2 : (((List.range i).map (bzZ x t)).flatMap Enc.enc : List PV).length = i := by rw [qk]; simp
   have g3 : (((List.range (i + 1)).map fun i => zu (t.take i)).flatMap Enc.enc : List PV).length = i + 1 := by rw [qk]; simp
   obtain ⟨lz, tlz, z1, -, -, z0⟩ := el1 rfl ((List.range (i + 1)).map fun i => zu (t.take i)) i (by simp)
   have hlzz : lz = zu (t.take i) := by simpa using z1.symm
   have c1 : (((List.range (i + 1)).map (fzZ x t)).flatMap Enc.enc : List PV) = ((List.range i).map (fzZ x t)).flatMap Enc.enc ++ [I (fzZ x t i)] := by rw [f1, List.flatMap_append]; rfl
   have c2 : (((List.range (i + 1)).map (bzZ x t)).flatMap Enc.enc : List PV) = ((List.range i).map (bzZ x t)).flatMap Enc.enc ++ [I (bzZ x t i)] := by rw [f2, List.flatMap_append]; rfl
   have c3 : (((List.range (i + 1 + 1)).map fun i => zu (t.take i)).flatMap Enc.enc : List PV) = ((List.range (i + 1)).map fun i => zu (t.take i)).flatMap Enc.enc ++ [I (zu (t.take (i + 1)))] := by rw [f3, List.flatMap_append]; rfl
   rw [hlzz] at z0
   clear f1 f2 f3 z1 hlzz hlz
   generalize (((List.range i).map (fzZ x t)).flatMap Enc.enc : List PV) = fc at *
   generalize (((List.range i).map (bzZ x t)).flatMap Enc.enc : List PV) = bc at *
   generalize (((List.range (i + 1)).map fun i => zu (t.take i)).flatMap Enc.enc : List PV) = lc at *
   have t1 : fc.take i = fc := List.take_of_length_le (by omega)
   have t2 : bc.take i = bc := List.take_of_length_le (by omega)
   have t3 : lc.take (i + 1) = lc := List.take_of_length_le (by omega)
   refine zd (za (ze ?_))
   repeat apply za
   refine pwN [] (jn3 s0 hci hi2) ?_
   intro v9
   refine za ?_
   refine zR (nx := nx) (fun _ : Unit => True) (fun _ => [(2, .ptr nx v0 0), (5, .ptr (nx + 2) v2 0), (7, .ptr (nx + 4) v4 0), (8, .ptr (nx + 6) v6 0), (9, I (fzZ x t i)), (10, I (bzZ x t i)), (11, I i), (12, .ptr (nx + 9) v9 0), (20, L d), (21, I d.length), (22, I k), (32, L t), (33, I t.length), (34, I i)]) (fun _ => S)
    (fun _ => [.cells v0 25 (zp x), .cells v1 66 [L d], .cells v2 253 [I x.days, I x.veh, I x.cap, I x.len, L x.cust, L x.dist, L d, .sl (nx + 3) v3 4 0 k], .cells v3 255 pc, .cells v4 72 [L t], .cells v5 3 lc,
    .cells v6 255 [.sl (nx + 7) v7 1 0 i, .sl (nx + 8) v8 1 0 i, .sl (nx + 5) v5 1 0 (i + 1), I wl], .cells v7 3 fc, .cells v8 3 bc, .cells v9 50 [I s.c, I s.q]]) ?_ ?_
   ·by_cases h0 : 0 < i
    ·obtain ⟨j, rfl⟩ : ∃ j, i = j + 1 := ⟨i - 1, by omega⟩
     obtain ⟨p, tp, p1, -, -, -, p0⟩ := el 2 rfl t j (by omega)
     obtain ⟨hpm, -, -⟩ := hts p (List.mem_of_getElem? p1)
     have hgp : t.getD j default = p := by rw [List.getD_eq_getElem?_getD, p1]; rfl
     have hj2 : 2 ≤ t.length * 2 - j * 2 := by omega
     have hjl : j < t.length := by omega
     have wj : IntKind.i64.wrap (j : Int) = (j : Int) := wr _ (by omega) (by omega)
     have wp := xD hpm
     have ws := xD hsm
     have ar1 := jT x (p.c + 1) (s.c + 1)
     have ar2 := jT x (s.c + 1) (p.c + 1)
     have hfz : fzZ x t (j + 1) = fzZ x t j + arc x (p.c + 1) (s.c + 1) := by conv => lhs; unfold fzZ; rw [hgs, hgp]
     have hbz : bzZ x t (j + 1) = bzZ x t j + arc x (s.c + 1) (p.c + 1) := by conv => lhs; unfold bzZ; rw [hgs, hgp]
     have b1 := uZ hx t (j + 1)
     have b2 := u5 hx t (j + 1)
     have wf : IntKind.i64.wrap (fzZ x t j + arc x (p.c + 1) (s.c + 1)) = fzZ x t (j + 1) := by rw [hfz] at b1 ⊢; exact wr _ (by omega) (by omega)
     have wb : IntKind.i64.wrap (bzZ x t j + arc x (s.c + 1) (p.c + 1)) = bzZ x t (j + 1) := by rw [hbz] at b2 ⊢; exact wr _ (by omega) (by omega)
     simp only [Nat.add_sub_cancel]
     have h0' : (0 : Int) < ((j + 1 : Nat) : Int) := by omega
     repeat apply za
     refine pwN [] (jn2 h0 h0') ?_
     intros
     repeat apply za
     refine zh (by simp) ?_
     repeat apply za
     refine pwY (some [nx + 4, nx + 9]) (Row.pures [0, 1, 2, 3, 4, 5, 6, 7, 8, 9, 10, 11, 12] .done) mixed (jn6 wj p0 hjl hj2 wp ws) ?_
     intros
     repeat apply za
     refine pwn ?_
     refine pwC [] ar1 wf ?_
     intros
     repeat apply za
     refine pwn ?_
     refine pwC [] ar2 wb ?_
     intros
     exact zt () [] trivial (by simp) rfl (by simp)
    ·obtain rfl : i = 0 := by omega
     (repeat apply za); refine pwn ?_; intros
     repeat apply za
     refine zj rfl ?_
     refine zd ?_
     exact zt () [] trivial (by simp) rfl (by simp)
   ·rintro ⟨⟩ -
    refine za ?_
    refine zR (nx := nx) (fun _ : Unit => True) (fun _ => [(2, .ptr nx v0 0), (5, .ptr (nx + 2) v2 0), (7, .ptr (nx + 4) v4 0), (8, .ptr (nx + 6) v6 0), (9, I (fzZ x t i)), (10, I (bzZ x t i)), (11, I i), (12, .ptr (nx + 9) v9 0), (20, L d), (21, I d.length), (22, I k), (32, L t), (33, I t.length), (34, I i)]) (fun _ => S)
     (fun _ => [.cells v0 25 (zp x), .cells v1 66 [L d], .cells v2 253 [I x.days, I x.veh, I x.cap, I x.len, L x.cust, L x.dist, L d, .sl (nx + 3) v3 4 0 k], .cells v3 255 pc, .cells v4 72 [L t], .cells v5 3 lc,
     .cells v6 255 [.sl (nx + 7) (v7 + 1) 1 0 (i + 1), .sl (nx + 8) (v8 + 1) 1 0 (i + 1), .sl (nx + 5) v5 1 0 (i + 1), I wl], .cells (v7 + 1) 3 (fc ++ [I (fzZ x t i)]), .cells (v8 + 1) 3 (bc ++ [I (bzZ x t i)]), .cells v9 50 [I s.c, I s.q]]) ?_ ?_
    ·repeat apply za
     refine pwY (some []) (Row.pures [0, 2, 3, 5, 7, 8] (.alt 1 (.alt 4 (.alt 6 (Row.pures [10] (.alt 9 (.alt 11 (Row.pures [12] (.alt 13 (.done) .stop)) .stop) .stop)) .stop) (.alt 6 (.alt 4 (Row.pures [10] (.alt 9 (.alt 11 (Row.pures [12] (.alt 13 (.done) .stop)) .stop) .stop)) .stop) .stop)) (.alt 6 (.alt 1 (.alt 4 (Row.pures [10] (.alt 9 (.alt 11 (Row.pures [12] (.alt 13 (.done) .stop)) .stop) .stop)) .stop) .stop) .stop))) mixed (jn4 g1 g2 t1 t2) ?_
     repeat' (first | refine And.intro (by omega) ?_ | apply And.intro)
     all_goals exact zt () [] trivial (by simp) rfl (by simp)
    ·rintro ⟨⟩ -
     have z1 : (i : Int) < (i : Int) + 1 := by omega
     have z2 : i < i + 1 := by omega
     have z3 : 1 ≤ i + 1 - i := by omega
     repeat apply za
     refine pwY (some [nx + 9]) (Row.pures [0, 2, 4, 7, 8] (.alt 1 (.alt 3 (Row.pures [5] (.alt 6 (Row.pures [9, 10] (.alt 11 (Row.pures [12] (.alt 13 (.done) .stop)) .stop)) .stop)) .stop) (.alt 3 (Row.pures [5] (.alt 1 (.alt 6 (Row.pures [9, 10] (.alt 11 (Row.pures [12] (.alt 13 (.done) .stop)) .stop)) .stop) (.alt 6 (Row.pures [9, 10] (.alt 1 (.alt 11 (Row.pures [12] (.alt 13 (.done) .stop)) .stop) .stop)) .stop))) .stop))) mixed (jn6 z0 z1 z2 z3 wl1 (jn2 g3 t3)) ?_
     repeat' (first | refine And.intro (by omega) ?_ | apply And.intro)
     all_goals
      intros
      repeat apply za
      refine pwN [] wi ?_
      intros
      exact zk (i + 1, v5 + 1, v7 + 1, v8 + 1) [_] hci (by simp; omega) (by simp [wi]) rfl (by simp [c1, c2, c3]; rfl)
  ·simp at hci
   obtain rfl : i = t.length := by omega
   refine zm ?_
   clear hi hci
   have hsm : smZ x t = ⟨(List.range t.length).map (fzZ x t), (List.range t.length).map (bzZ x t), (List.range (t.length + 1)).map fun i => zu (t.take i), wl⟩ := by unfold smZ; rw [hwl]
   have g1 : (((List.range t.length).map (fzZ x t)).flatMap Enc.enc : List PV).length = t.length := by rw [qk]; simp
   have g2 : (((List.range t.length).map (bzZ x t)).flatMap Enc.enc : List PV).length = t.length := by rw [qk]; simp
   have g3 : (((List.range (t.length + 1)).map fun i => zu (t.take i)).flatMap Enc.enc : List PV).length = t.length + 1 := by rw [qk]; simp
   have hfz : ∀ id v cs, pc.map (yo id v cs) = pc := fun id v cs => by rw [← hpc]; exact Zhi id v cs _
   have hpl : pc.length = k * 4 := by rw [← hpc, ZaI]; simp; omega
   have hpt : pc.take (k * 4) = pc := List.take_of_length_le (by omega)
   have hnew : (((d.map (smZ x)).take (k + 1)).flatMap Enc.enc : List PV) = pc ++ [L ((List.range t.length).map (fzZ x t)), L ((List.range t.length).map (bzZ x t)), L ((List.range (t.length + 1)).map fun i => zu (t.take i)), I wl] := by
    rw [← hpc, ← List.map_take, a3, List.map_append, List.flatMap_append, ← List.map_take, List.map_cons, hsm]; rfl
   have l1 : ((List.range t.length).map (fzZ x t)).length = t.length := by simp
   have l2 : ((List.range t.length).map (bzZ x t)).length = t.length := by simp
   have l3 : ((List.range (t.length + 1)).map fun i => zu (t.take i)).length = t.length + 1 := by simp
   generalize (List.range t.length).map (fzZ x t) = fl at *
   generalize (List.range t.length).map (bzZ x t) = bl at *
   generalize ((List.range (t.length + 1)).map fun i => zu (t.take i)) = ll at *
   clear g1 g2 g3
   refine zC 8 rfl ?_
   simp only [List.map_cons, List.map_nil, List.set_cons_succ, List.set_cons_zero, qD, hfz]
   refine zC 7 rfl ?_
   simp only [List.map_cons, List.map_nil, List.set_cons_succ, List.set_cons_zero, qD, hfz]
   refine zC 5 rfl ?_
   simp only [List.map_cons, List.map_nil, List.set_cons_succ, List.set_cons_zero, qD, hfz]
   repeat apply za
   refine pwY (some [nx + 6]) (Row.pures [0, 1, 2, 3, 5, 6] (.alt 4 (.alt 7 (Row.pures [8, 9] (.alt 10 (.done) .stop)) .stop) .stop)) mixed (jn5 l1 l2 l3 hpl hpt) ?_
   refine ⟨by omega, ?_⟩
   intros
   (repeat apply za); refine pwn ?_; intros
   exact zk (k + 1, v3 + 1) [_, _, _, _, _] hc (by simp; omega) (by simp [wrN k (by omega)]) rfl (by simp [hnew, l1, l2, l3]; exact ⟨rfl, rfl, rfl, rfl, rfl⟩)
 ·simp at hc
  obtain rfl : k = d.length := by omega
  rw [List.take_of_length_le (by simp)]
  refine zm ?_
  have hml : ((d.map (smZ x)).flatMap Enc.enc : List PV).length = d.length * 4 := by rw [ZaI]; simp
  refine zC 3 rfl ?_
  repeat apply za
  refine pwN [] hml ?_
  intros
  refine xh 2 rfl ?_
  repeat apply za
  exact zb (zg hd (by simp; rfl) (by simp [zi, hml]))
open Go Go.Proofs
def qt (x : Inst) : Int → List Int → Int
 | _, [] => 0
 | a, c :: l => arc x a (c + 1) + qt x (c + 1) l
theorem Xa (x : Inst) : ∀ (l : List Int) (a : Int) (m : List Int), qt x a (l ++ m) = qt x a l + qt x (z8 a l) m
 | [], a, m => by simp [qt, z8]
 | c :: l, a, m => by
  simp only [List.cons_append, qt, z8]
  rw [Xa x l (c + 1) m]; omega
theorem Xb : ∀ (l : List Int) (a : Int) (m : List Int), z8 a (l ++ m) = z8 (z8 a l) m
 | [], a, m => rfl
 | c :: l, a, m => by simp only [List.cons_append, z8]; exact Xb l (c + 1) m
theorem ZaJ (x : Inst) : ∀ (l : List Int) (a : Int), zY x a l = qt x a l + arc x (z8 a l) 0
 | [], a => by simp [zY, qt, z8]
 | c :: l, a => by
  simp only [zY, qt, z8]
  rw [ZaJ x l (c + 1)]; omega
def jo (t : zo) (f n : Nat) : zo := (t.drop f).take n
theorem ZT {t : zo} {f n : Nat} {s : Stop} (h : t[f + n]? = some s) : jo t f (n + 1) = jo t f n ++ [s] := by
 have h' : (t.drop f)[n]? = some s := by rw [List.getElem?_drop]; exact h
 obtain ⟨h1, h2⟩ := List.getElem?_eq_some_iff.1 h'
 unfold jo
 rw [List.take_succ_eq_append_getElem h1, h2]
theorem getD_some {t : zo} {i : Nat} {s : Stop} (h : t[i]? = some s) : t.getD i default = s := by rw [List.getD_eq_getElem?_getD, h]; rfl
theorem ZaK (x : Inst) (t : zo) (f : Nat) (a : Int) : ∀ n, f + n < t.length → qt x a ((jo t f (n + 1)).map (·.c)) = arc x a ((t.getD f default).c + 1) + (fzZ x t (f + n) - fzZ x t f) ∧ z8 a ((jo t f (n + 1)).map (·.c)) = (t.getD (f + n) default).c + 1
 | 0, h => by
  have h0 : t[f + 0]? = some t[f] := List.getElem?_eq_getElem (by omega)
  rw [ZT h0]
  have : jo t f 0 = [] := by simp [jo]
  rw [this, getD_some h0]
  simp only [Nat.add_zero] at *
  rw [getD_some h0]
  simp [qt, z8]
 | n + 1, h => by
  obtain ⟨i1, i2⟩ := ZaK x t f a n (by omega)
  have h0 : t[f + (n + 1)]? = some t[f + (n + 1)] := List.getElem?_eq_getElem (by omega)
  rw [ZT h0, List.map_append, Xa, Xb, i1, i2, getD_some h0]
  simp only [List.map_cons, List.map_nil, qt, z8]
  have e : fzZ x t (f + (n + 1)) = fzZ x t (f + n) + arc x ((t.getD (f + n) default).c + 1) ((t.getD (f + (n + 1)) default).c + 1) := rfl
  rw [e, getD_some h0]
  exact ⟨by omega, trivial⟩
theorem ZaL (x : Inst) (t : zo) (f : Nat) : ∀ (n : Nat) (a : Int), f + n < t.length → qt x a ((jo t f (n + 1)).reverse.map (·.c)) = arc x a ((t.getD (f + n) default).c + 1) + (bzZ x t (f + n) - bzZ x t f) ∧ z8 a ((jo t f (n + 1)).reverse.map (·.c)) = (t.getD f default).c + 1
 | 0, a, h => by
  have h0 : t[f + 0]? = some t[f] := List.getElem?_eq_getElem (by omega)
  rw [ZT h0]
  have : jo t f 0 = [] := by simp [jo]
  rw [this, getD_some h0]
  simp only [Nat.add_zero] at *
  rw [getD_some h0]
  simp [qt, z8]
 | n + 1, a, h => by
  have h0 : t[f + (n + 1)]? = some t[f + (n + 1)] := List.getElem?_eq_getElem (by omega)
  obtain ⟨i1, i2⟩ := ZaL x t f n ((t.getD (f + (n + 1)) default).c + 1) (by omega)
  rw [ZT h0, List.reverse_append]
  simp only [List.reverse_cons, List.reverse_nil, List.nil_append, List.cons_append, List.map_cons, qt, z8]
  rw [getD_some h0] at i1 i2 ⊢
  rw [i1, i2]
  have e : bzZ x t (f + (n + 1)) = bzZ x t (f + n) + arc x ((t.getD (f + (n + 1)) default).c + 1) ((t.getD (f + n) default).c + 1) := rfl
  rw [e, getD_some h0]
  exact ⟨by omega, rfl⟩
theorem ZaM (t : zo) (f : Nat) : ∀ n, f + n ≤ t.length → zu (jo t f n) = zu (t.take (f + n)) - zu (t.take f)
 | 0, _ => by simp [jo, zu]
 | n + 1, h => by
  have h0 : t[f + n]? = some t[f + n] := List.getElem?_eq_getElem (by omega)
  have e : t.take (f + n + 1) = t.take (f + n) ++ [t[f + n]] := List.take_succ_eq_append_getElem (by omega)
  rw [ZT h0, ZA, ZaM t f n (by omega), ← Nat.add_assoc, e, ZA]; omega
def yV (x : Inst) (d : Day) (st : Int × Int) (p : Pc) : Int × Int :=
 if p.f < p.o then
  (bif p.b then (((d.getD p.t []).getD p.f default).c + 1, st.2 + (arc x st.1 (((d.getD p.t []).getD (p.o - 1) default).c + 1) + bzZ x (d.getD p.t []) (p.o - 1) - bzZ x (d.getD p.t []) p.f))
  else (((d.getD p.t []).getD (p.o - 1) default).c + 1, st.2 + (arc x st.1 (((d.getD p.t []).getD p.f default).c + 1) + fzZ x (d.getD p.t []) (p.o - 1) - fzZ x (d.getD p.t []) p.f)))
 else st
def qY (x : Inst) (d : Day) (r : Rw5) : Int := (r.l.foldl (yV x d) (0, 0)).2 + arc x (r.l.foldl (yV x d) (0, 0)).1 0
def ldS (d : Day) (st : Int) (p : Pc) : Int := if p.f < p.o then st + (zu ((d.getD p.t []).take p.o) - zu ((d.getD p.t []).take p.f)) else st
def ldR (d : Day) (r : Rw5) : Int := r.l.foldl (ldS d) 0
theorem Zhk {x : Inst} {d : Day} {p : Pc} (h : uX d p) (g : List Stop) : yV x d (z8 0 (g.map (·.c)), qt x 0 (g.map (·.c))) p = (z8 0 ((g ++ yl d p).map (·.c)), qt x 0 ((g ++ yl d p).map (·.c))) := by
 unfold yV yl
 by_cases hfo : p.f < p.o
 ·obtain ⟨ht, ho⟩ := h hfo
  unfold tlen at ho
  rw [if_pos hfo, if_pos hfo]
  generalize d.getD p.t [] = t at *
  obtain ⟨n, hn⟩ : ∃ n, p.o = p.f + n + 1 := ⟨p.o - p.f - 1, by omega⟩
  have e1 : p.o - 1 = p.f + n := by omega
  have e2 : p.o - p.f = n + 1 := by omega
  rw [e1, e2, List.map_append, Xa, Xb]
  cases p.b with
  | true =>
   simp only [cond_true]
   obtain ⟨i1, i2⟩ := ZaL x t p.f n (z8 0 (g.map (·.c))) (by omega)
   unfold jo at i1 i2
   rw [i1, i2]
   congr 1; omega
  | false =>
   simp only [cond_false]
   obtain ⟨i1, i2⟩ := ZaK x t p.f (z8 0 (g.map (·.c))) n (by omega)
   unfold jo at i1 i2
   rw [i1, i2]
   congr 1; omega
 ·rw [if_neg hfo, if_neg hfo, List.append_nil]
theorem ZaN {x : Inst} {d : Day} : ∀ (l : List Pc) (g : List Stop), (∀ p ∈ l, uX d p) → l.foldl (yV x d) (z8 0 (g.map (·.c)), qt x 0 (g.map (·.c))) = (z8 0 ((g ++ l.flatMap (yl d)).map (·.c)), qt x 0 ((g ++ l.flatMap (yl d)).map (·.c)))
 | [], g, _ => by simp
 | p :: l, g, h => by
  rw [List.foldl_cons, Zhk (h p (by simp)), ZaN l _ fun q hq => h q (by simp [hq]), List.flatMap_cons, List.append_assoc]
theorem Xc {x : Inst} {d : Day} {r : Rw5} (h : j8 d r) (h0 : arc x 0 0 = 0) : qY x d r = zB x ((zT d r).map (·.c)) := by
 have := ZaN (x := x) r.l [] h
 simp only [List.map_nil, z8, qt, List.nil_append] at this
 unfold qY
 rw [this]
 simp only
 unfold zT zB
 split
 ·rename_i e
  rw [e]; simp [qt, z8, h0]
 ·rw [ZaJ]
theorem Zhl {d : Day} {p : Pc} (h : uX d p) (g : List Stop) : ldS d (zu g) p = zu (g ++ yl d p) := by
 unfold ldS yl
 by_cases hfo : p.f < p.o
 ·obtain ⟨ht, ho⟩ := h hfo
  unfold tlen at ho
  rw [if_pos hfo, if_pos hfo, ZfU]
  generalize d.getD p.t [] = t at *
  have := ZaM t p.f (p.o - p.f) (by omega)
  rw [show p.f + (p.o - p.f) = p.o by omega] at this
  have hr : ∀ l : zo, zu l.reverse = zu l := fun l => by unfold zu; exact ZfT ((List.reverse_perm l).map _)
  unfold jo at this
  cases p.b with
  | true => simp only [cond_true]; rw [hr, this]
  | false => simp only [cond_false]; rw [this]
 ·rw [if_neg hfo, if_neg hfo, List.append_nil]
theorem Zhm {d : Day} {r : Rw5} (h : j8 d r) : ldR d r = zu (zT d r) := by
 have key : ∀ (l : List Pc) (g : List Stop), (∀ p ∈ l, uX d p) → l.foldl (ldS d) (zu g) = zu (g ++ l.flatMap (yl d)) := by
  intro l
  induction l with
  | nil => intro g _; simp
  | cons p l ih =>
   intro g h
   rw [List.foldl_cons, Zhl (h p (by simp)), ih _ fun q hq => h q (by simp [hq]), List.flatMap_cons, List.append_assoc]
 have := key r.l [] h
 simpa [ldR, zT, zu] using this
open Go Go.Proofs
abbrev rdG (x : Inst) (d : Day) (sms : List Sm) : List PV := [I x.days, I x.veh, I x.cap, I x.len, L x.cust, L x.dist, L d, L sms]
theorem u6 {x : Inst} (h : yq x) (a b : Int) : 0 ≤ arc x a b ∧ arc x a b ≤ 2147483648 := h a b
theorem Qf {x : Inst} {d : Day} {sms : List Sm} (hs : sms = d.map (smZ x)) {k : Nat} (h : k < d.length) : ∃ (t : zo) (td tf : List PV), d[k]? = some t ∧ d.getD k [] = t ∧ (d.flatMap Enc.enc : List PV).drop k = L t :: td ∧
  (sms.flatMap Enc.enc : List PV).drop (k * 4) = [L (smZ x t).f, L (smZ x t).b, L (smZ x t).l, I (smZ x t).n] ++ tf := by
 obtain ⟨t, td, a1, -, -, e0⟩ := el1 rfl d k h
 rw [hs]
 obtain ⟨s, ts, b1, -, -, -, f0⟩ := el 4 rfl (d.map (smZ x)) k (by simpa using h)
 have : s = smZ x t := by rw [List.getElem?_map, a1] at b1; exact (Option.some.inj b1).symm
 subst this
 exact ⟨t, td, ts, a1, by rw [List.getD_eq_getElem?_getD, a1]; rfl, e0, f0⟩
theorem u7 {α : Type} [Enc α] (n : Nat) (hn : Enc.sz α = 1) (f : Nat → α) {i : Nat} (h : i < n) : ∃ tl, (((List.range n).map f).flatMap Enc.enc : List PV).drop i = Enc.enc (f i) ++ tl := by
 obtain ⟨s, ts, b1, -, -, f0⟩ := el1 hn ((List.range n).map f) i (by simpa using h)
 have : s = f i := by rw [List.getElem?_map, List.getElem?_range h] at b1; exact (Option.some.inj b1).symm
 subst this
 exact ⟨ts, f0⟩
set_option maxRecDepth 20000 in
set_option maxHeartbeats 3200000 in
theorem Xd (x : Inst) (d : Day) (r : Rw5) (hx : yq x) (hd' : MvDay d) (hr : j8 d r) : Pure Tryz.prog 199 [.ip (rdL x d), .agg (rwL r)] (I (qY x d r)) := by
 obtain ⟨sms, hsms⟩ : ∃ sms, sms = d.map (smZ x) := ⟨_, rfl⟩
 have hml : sms.length = d.length := by rw [hsms]; simp
 rw [show rdL x d = rdG x d sms from by rw [hsms]]
 have hdn := hd'.n
 have hat := fun k (h : k < 5) => Qe r h
 have hz : qY x d r = ((r.l.take 5).foldl (yV x d) (0, 0)).2 + arc x ((r.l.take 5).foldl (yV x d) (0, 0)).1 0 := by unfold qY; rw [List.take_of_length_le (by simp [Rw5.l])]
 rw [hz]
 clear hz
 have hcl : (rwL r).length = 20 := rfl
 have hct : (rwL r).take 20 = rwL r := rfl
 generalize hrc : rwL r = rc at *
 refine pwe Tryz.func199 Tryz.ntmps199 Tryz.results199 fun S nx hd => ?_
 repeat apply za
 refine pwn ?_
 intro v0
 (repeat apply za); refine pwn ?_; intros
 repeat apply za
 refine pwN [] (jn2 hcl hct) ?_
 intros
 repeat apply za
 refine ze (zq (fun k : Nat => k ≤ 5 ∧ -(8796093022208 * (k : Int)) ≤ ((r.l.take k).foldl (yV x d) (0, 0)).2 ∧ ((r.l.take k).foldl (yV x d) (0, 0)).2 ≤ 8796093022208 * k) (fun k => [(0, .ip (rdG x d sms)), (3, .ptr nx v0 0), (5, I ((r.l.take k).foldl (yV x d) (0, 0)).1), (6, I ((r.l.take k).foldl (yV x d) (0, 0)).2), (13, .agg rc), (14, I k)]) (fun _ => [.cells v0 202 rc]) (fun k => 5 - k) 0 [] (by simp) (by simp) (by simp) ?_)
 rintro k ⟨hk, hb1, hb2⟩
 by_cases hk5 : k < 5
 ·obtain ⟨p, hp1, hp2, hp3⟩ := hat k hk5
  have hk5' : (k : Int) < 5 := by omega
  have hk6 : 4 ≤ 20 - k * 4 := by omega
  have hok := hr p (List.mem_of_getElem? hp1)
  have hnx : (r.l.take (k + 1)).foldl (yV x d) (0, 0) = yV x d ((r.l.take k).foldl (yV x d) (0, 0)) p := by rw [hp3, List.foldl_append]; rfl
  generalize (r.l.take k).foldl (yV x d) (0, 0) = st at *
  obtain ⟨at_, all⟩ := st
  simp only at hb1 hb2 ⊢
  have wk := wrN k (by omega)
  repeat apply za
  refine pwN [] hk5' ?_
  intros
  repeat apply za
  refine zh rfl ?_
  refine zd (za (ze ?_))
  repeat apply za
  refine pwN [] (jn5 hp2 hk5 hk5' hcl hk6) ?_
  intro v3
  by_cases hfo : p.f < p.o
  case neg =>
   have hpz : yV x d (at_, all) p = (at_, all) := by unfold yV; rw [if_neg hfo]
   rw [hpz] at hnx
   have hfo' : p.o ≤ p.f := by omega
   repeat apply za
   refine pwN [] hfo' ?_
   intros
   repeat apply za
   refine zh (by simp [hfo']) ?_
   refine zm ?_
   (repeat apply za); refine pwn ?_; intros
   exact zk (k + 1) [_] ⟨by omega, by rw [hnx]; simp only; omega, by rw [hnx]; simp only; omega⟩ (by omega) (by simp [wk, hnx]) rfl (by simp; rfl)
  obtain ⟨ht, ho⟩ := hok hfo
  obtain ⟨t, td, tf, a1, hgt, e0, f0⟩ := Qf hsms ht
  unfold tlen at ho
  rw [hgt] at ho
  have htm := List.mem_of_getElem? a1
  have htl := hd'.t t htm
  have hts := hd'.s t htm
  have ht1 : 1 ≤ d.length - p.t := by omega
  have ht4 : 4 ≤ d.length * 4 - p.t * 4 := by omega
  obtain ⟨n, hn⟩ : ∃ n, p.o = n + 1 := ⟨p.o - 1, by omega⟩
  have hfo' : ¬ p.o ≤ p.f := by omega
  have hst : yV x d (at_, all) p = bif p.b then ((t.getD p.f default).c + 1, all + (arc x at_ ((t.getD n default).c + 1) + bzZ x t n - bzZ x t p.f)) else ((t.getD n default).c + 1, all + (arc x at_ ((t.getD p.f default).c + 1) + fzZ x t n - fzZ x t p.f)) := by
   unfold yV; rw [if_pos hfo, hgt, show p.o - 1 = n by omega]
  rw [hst] at hnx
  clear hst
  obtain ⟨sf, tsf, s1, -, -, -, s0⟩ := el 2 rfl t p.f (by omega)
  obtain ⟨sl, tsl, l1, -, -, -, l0⟩ := el 2 rfl t n (by omega)
  have hgf : t.getD p.f default = sf := getD_some s1
  have hgl : t.getD n default = sl := getD_some l1
  rw [hgf, hgl] at hnx
  have q1 : p.f < t.length := by omega
  have q2 : n < t.length := by omega
  have q3 : 2 ≤ t.length * 2 - p.f * 2 := by omega
  have q4 : 2 ≤ t.length * 2 - n * 2 := by omega
  have wo : IntKind.i64.wrap ((p.o : Int) - 1) = (n : Int) := by rw [wr _ (by omega) (by omega)]; omega
  have wsf := xD (hts sf (List.mem_of_getElem? s1)).1
  have wsl := xD (hts sl (List.mem_of_getElem? l1)).1
  have bf1 := uZ hx t p.f
  have bf2 := uZ hx t n
  have bb1 := u5 hx t p.f
  have bb2 := u5 hx t n
  have hlen : ((List.range t.length).map (fzZ x t)).length = t.length ∧ ((List.range t.length).map (bzZ x t)).length = t.length := by simp
  obtain ⟨z1, hz1⟩ := u7 t.length rfl (fzZ x t) q1
  obtain ⟨z2, hz2⟩ := u7 t.length rfl (fzZ x t) q2
  obtain ⟨z3, hz3⟩ := u7 t.length rfl (bzZ x t) q1
  obtain ⟨z4, hz4⟩ := u7 t.length rfl (bzZ x t) q2
  have q5 : 1 ≤ t.length - p.f := by omega
  have q6 : 1 ≤ t.length - n := by omega
  simp only [smZ] at f0
  generalize hfl : (List.range t.length).map (fzZ x t) = fl at *
  generalize hbl : (List.range t.length).map (bzZ x t) = bl at *
  generalize ((List.range (t.length + 1)).map fun i => zu (t.take i)) = ll at *
  generalize zB x (t.map (·.c)) = wl at *
  obtain ⟨hl1, hl2⟩ := hlen
  have hfll : (fl.flatMap Enc.enc : List PV).length = t.length := by rw [qk, hl1]
  have hbll : (bl.flatMap Enc.enc : List PV).length = t.length := by rw [qk, hl2]
  repeat apply za
  refine pwN [] hfo' ?_
  intros
  repeat apply za
  refine zj (by simp [hfo']) ?_
  refine zd ?_
  repeat apply za
  refine pwY (some [nx + 1]) (Row.pures [0, 1, 2, 3, 4, 5, 6, 7, 8, 9, 10, 11, 12, 13, 14, 15, 16, 17, 18, 19, 20] .done) mixed (jn6 e0 f0 ht ht1 ht4 hml) ?_
  intros
  repeat apply za
  refine pwY (some [nx + 1]) (Row.pures [0, 1, 2, 3, 4, 5, 6] .done) mixed wo ?_
  intros
  refine za ?_
  cases hpb : p.b with
  | false =>
   rw [hpb] at hnx
   simp only [cond_false] at hnx
   have har := u6 hx at_ (sf.c + 1)
   have ar := jT x at_ (sf.c + 1)
   have w1 : IntKind.i64.wrap (arc x at_ (sf.c + 1) + fzZ x t n) = arc x at_ (sf.c + 1) + fzZ x t n := wr _ (by omega) (by omega)
   have w2 : IntKind.i64.wrap (arc x at_ (sf.c + 1) + fzZ x t n - fzZ x t p.f) = arc x at_ (sf.c + 1) + fzZ x t n - fzZ x t p.f := wr _ (by omega) (by omega)
   have w3 : IntKind.i64.wrap (all + (arc x at_ (sf.c + 1) + fzZ x t n - fzZ x t p.f)) = all + (arc x at_ (sf.c + 1) + fzZ x t n - fzZ x t p.f) := wr _ (by omega) (by omega)
   repeat apply za
   refine pwN [] hpb ?_
   intros
   repeat apply za
   refine zj rfl ?_
   refine zd ?_
   repeat apply za
   refine pwY (some [nx + 1]) (Row.pures [0, 1, 2, 3, 4, 5, 6, 7, 8, 9, 10, 11, 12, 13, 14, 15, 16, 17, 18, 19, 20, 21, 22, 23, 24, 25, 26, 27] .done) mixed (jn6 s0 q1 q3 wsf wo (jn2 (jn6 hz1 hz2 hfll hl1 q2 q5) (jn4 q6 w1 w2 w3))) ?_
   refine pwP (ar) (jn6 s0 q1 q3 wsf wo (jn2 (jn6 hz1 hz2 hfll hl1 q2 q5) (jn4 q6 w1 w2 w3))) ?_
   intros
   repeat apply za
   refine pwN [] (jn4 l0 q2 q4 wsl) ?_
   intros
   (repeat apply za); refine pwn ?_; intros
   exact zk (k + 1) [_] ⟨by omega, by rw [hnx]; simp only; omega, by rw [hnx]; simp only; omega⟩ (by omega) (by simp [wk, hnx]) rfl (by simp; rfl)
  | true =>
   rw [hpb] at hnx
   simp only [cond_true] at hnx
   have har := u6 hx at_ (sl.c + 1)
   have ar := jT x at_ (sl.c + 1)
   have w1 : IntKind.i64.wrap (arc x at_ (sl.c + 1) + bzZ x t n) = arc x at_ (sl.c + 1) + bzZ x t n := wr _ (by omega) (by omega)
   have w2 : IntKind.i64.wrap (arc x at_ (sl.c + 1) + bzZ x t n - bzZ x t p.f) = arc x at_ (sl.c + 1) + bzZ x t n - bzZ x t p.f := wr _ (by omega) (by omega)
   have w3 : IntKind.i64.wrap (all + (arc x at_ (sl.c + 1) + bzZ x t n - bzZ x t p.f)) = all + (arc x at_ (sl.c + 1) + bzZ x t n - bzZ x t p.f) := wr _ (by omega) (by omega)
   repeat apply za
   refine pwN [] hpb ?_
   intros
   repeat apply za
   refine zh rfl ?_
   repeat apply za
   refine pwY (some [nx + 1]) (Row.pures [0, 1, 2, 3, 4, 5, 6, 7, 8, 9, 10, 11, 12, 13] .done) mixed (jn4 f0 ht ht4 hml) ?_
   intros
   repeat apply za
   refine pwY (some [nx + 1]) (Row.pures [0, 1, 2, 3, 4, 5, 6, 7, 8, 9, 10, 11, 12, 13, 14, 15, 16, 17, 18, 19, 20, 21, 22, 23, 24, 25, 26, 27] .done) mixed (jn6 l0 q2 q4 wsl wo (jn2 (jn6 hz3 hz4 hbll hl2 q1 q5) (jn4 q6 w1 w2 w3))) ?_
   refine pwP (ar) (jn6 l0 q2 q4 wsl wo (jn2 (jn6 hz3 hz4 hbll hl2 q1 q5) (jn4 q6 w1 w2 w3))) ?_
   intros
   repeat apply za
   refine pwN [] (jn4 s0 q1 q3 wsf) ?_
   intros
   (repeat apply za); refine pwn ?_; intros
   exact zk (k + 1) [_] ⟨by omega, by rw [hnx]; simp only; omega, by rw [hnx]; simp only; omega⟩ (by omega) (by simp [wk, hnx]) rfl (by simp; rfl)
 ·obtain rfl : k = 5 := by omega
  generalize (r.l.take 5).foldl (yV x d) (0, 0) = st at *
  obtain ⟨at_, all⟩ := st
  simp only at hb1 hb2 ⊢
  have har := u6 hx at_ 0
  have ar := jT x at_ 0
  have w1 : IntKind.i64.wrap (all + arc x at_ 0) = all + arc x at_ 0 := wr _ (by omega) (by omega)
  (repeat apply za); refine pwn ?_; intros
  repeat apply za
  refine zj rfl ?_
  refine zm ?_
  repeat apply za
  refine pwn ?_
  refine pwC [] ar w1 ?_
  intros
  repeat apply za
  exact zb (zg hd rfl rfl)
open Go Go.Proofs
set_option maxRecDepth 20000 in
set_option maxHeartbeats 3200000 in
theorem Zhn (x : Inst) (d : Day) (r : Rw5) (hd' : MvDay d) (hr : j8 d r) : Pure Tryz.prog 200 [.ip (rdL x d), .agg (rwL r)] (I (ldR d r)) := by
 obtain ⟨sms, hsms⟩ : ∃ sms, sms = d.map (smZ x) := ⟨_, rfl⟩
 have hml : sms.length = d.length := by rw [hsms]; simp
 rw [show rdL x d = rdG x d sms from by rw [hsms]]
 have hdn := hd'.n
 have hat := fun k (h : k < 5) => Qe r h
 have hz : ldR d r = (r.l.take 5).foldl (ldS d) 0 := by unfold ldR; rw [List.take_of_length_le (by simp [Rw5.l])]
 rw [hz]
 clear hz
 have hcl : (rwL r).length = 20 := rfl
 have hct : (rwL r).take 20 = rwL r := rfl
 generalize hrc : rwL r = rc at *
 refine pwe Tryz.func200 Tryz.ntmps200 Tryz.results200 fun S nx hd => ?_
 repeat apply za
 refine pwn ?_
 intro v0
 (repeat apply za); refine pwn ?_; intros
 repeat apply za
 refine pwN [] (jn2 hcl hct) ?_
 intros
 repeat apply za
 refine ze (zq (fun k : Nat => k ≤ 5 ∧ -(8796093022208 * (k : Int)) ≤ (r.l.take k).foldl (ldS d) 0 ∧ (r.l.take k).foldl (ldS d) 0 ≤ 8796093022208 * k) (fun k => [(0, .ip (rdG x d sms)), (3, .ptr nx v0 0), (5, I ((r.l.take k).foldl (ldS d) 0)), (8, .agg rc), (9, I k)]) (fun _ => [.cells v0 202 rc]) (fun k => 5 - k) 0 [] (by simp) (by simp) (by simp) ?_)
 rintro k ⟨hk, hb1, hb2⟩
 by_cases hk5 : k < 5
 ·obtain ⟨p, hp1, hp2, hp3⟩ := hat k hk5
  have hk5' : (k : Int) < 5 := by omega
  have hk6 : 4 ≤ 20 - k * 4 := by omega
  have hok := hr p (List.mem_of_getElem? hp1)
  have hnx : (r.l.take (k + 1)).foldl (ldS d) 0 = ldS d ((r.l.take k).foldl (ldS d) 0) p := by rw [hp3, List.foldl_append]; rfl
  generalize (r.l.take k).foldl (ldS d) 0 = all at *
  have wk := wrN k (by omega)
  repeat apply za
  refine pwN [] hk5' ?_
  intros
  repeat apply za
  refine zh rfl ?_
  refine zd (za (ze ?_))
  repeat apply za
  refine pwN [] (jn5 hp2 hk5 hk5' hcl hk6) ?_
  intro v3
  by_cases hfo : p.f < p.o
  case neg =>
   have hpz : ldS d all p = all := by unfold ldS; rw [if_neg hfo]
   rw [hpz] at hnx
   repeat apply za
   refine pwN [] hfo ?_
   intros
   repeat apply za
   refine zj (by simp [hfo]) ?_
   refine zd ?_
   (repeat apply za); refine pwn ?_; intros
   exact zk (k + 1) [_] ⟨by omega, by rw [hnx]; omega, by rw [hnx]; omega⟩ (by omega) (by simp [wk, hnx]) rfl (by simp; rfl)
  obtain ⟨ht, ho⟩ := hok hfo
  obtain ⟨t, td, tf, a1, hgt, e0, f0⟩ := Qf hsms ht
  unfold tlen at ho
  rw [hgt] at ho
  have htm := List.mem_of_getElem? a1
  have htl := hd'.t t htm
  have hts := hd'.s t htm
  have ht4 : 4 ≤ d.length * 4 - p.t * 4 := by omega
  have hst : ldS d all p = all + (zu (t.take p.o) - zu (t.take p.f)) := by unfold ldS; rw [if_pos hfo, hgt]
  rw [hst] at hnx
  have b1 := JN (t := t.take p.o) (fun a ha => (hts a (List.mem_of_mem_take ha)).2)
  have b2 := JN (t := t.take p.f) (fun a ha => (hts a (List.mem_of_mem_take ha)).2)
  have b3 : (t.take p.o).length ≤ 1000 := by rw [List.length_take]; omega
  have b4 : (t.take p.f).length ≤ 1000 := by rw [List.length_take]; omega
  have w1 : IntKind.i64.wrap (zu (t.take p.o) - zu (t.take p.f)) = zu (t.take p.o) - zu (t.take p.f) := wr _ (by omega) (by omega)
  have w2 : IntKind.i64.wrap (all + (zu (t.take p.o) - zu (t.take p.f))) = all + (zu (t.take p.o) - zu (t.take p.f)) := wr _ (by omega) (by omega)
  obtain ⟨z1, hz1⟩ := u7 (t.length + 1) rfl (fun i => zu (t.take i)) (show p.o < t.length + 1 by omega)
  obtain ⟨z2, hz2⟩ := u7 (t.length + 1) rfl (fun i => zu (t.take i)) (show p.f < t.length + 1 by omega)
  have hll : ((List.range (t.length + 1)).map fun i => zu (t.take i)).length = t.length + 1 := by simp
  simp only [smZ] at f0
  generalize (List.range t.length).map (fzZ x t) = fl at *
  generalize (List.range t.length).map (bzZ x t) = bl at *
  generalize ((List.range (t.length + 1)).map fun i => zu (t.take i)) = ll at *
  generalize zB x (t.map (·.c)) = wl at *
  generalize zu (t.take p.o) = lo at *
  generalize zu (t.take p.f) = lf at *
  have hlf : (ll.flatMap Enc.enc : List PV).length = t.length + 1 := by rw [qk, hll]
  have q1 : p.o < t.length + 1 := by omega
  have q2 : p.f < t.length + 1 := by omega
  have q3 : 1 ≤ t.length + 1 - p.o := by omega
  have q4 : 1 ≤ t.length + 1 - p.f := by omega
  have q5 : (p.o : Int) < (t.length : Int) + 1 := by omega
  have q6 : (p.f : Int) < (t.length : Int) + 1 := by omega
  repeat apply za
  refine pwN [] hfo ?_
  intros
  repeat apply za
  refine zh (by simp [hfo]) ?_
  repeat apply za
  refine pwY (some [nx + 1]) (Row.pures [0, 1, 2, 3, 4, 5, 6, 7, 8, 9, 10, 11, 12, 13, 14, 15, 16, 17, 18, 19, 20, 21, 22, 23, 24, 25, 26, 27, 28, 29] .done) mixed (jn6 f0 ht ht4 hml hz1 (jn2 (jn6 hz2 hll hlf q1 q2 q3) (jn5 q4 q5 q6 w1 w2))) ?_
  intros
  (repeat apply za); refine pwn ?_; intros
  exact zk (k + 1) [_] ⟨by omega, by rw [hnx]; omega, by rw [hnx]; omega⟩ (by omega) (by simp [wk, hnx]) rfl (by simp; rfl)
 ·obtain rfl : k = 5 := by omega
  (repeat apply za); refine pwn ?_; intros
  repeat apply za
  refine zj rfl ?_
  refine zm ?_
  (repeat apply za); refine pwn ?_; intros
  repeat apply za
  exact zb (zg hd rfl rfl)
def ZU (x : Inst) (d : Day) (m : Mv) (r1 r2 : Rw5) : Int := qY x d r1 - zB x ((d.getD m.a []).map (·.c)) + (if m.a = m.b then 0 else qY x d r2 - zB x ((d.getD m.b []).map (·.c)))
theorem ZaO {x : Inst} (hx : yq x) {d : Day} (hd' : MvDay d) {r : Rw5} (hr : j8 d r) : -52776558133248 ≤ qY x d r ∧ qY x d r ≤ 52776558133248 := by
 have key : ∀ k : Nat, k ≤ 5 → -(8796093022208 * (k : Int)) ≤ ((r.l.take k).foldl (yV x d) (0, 0)).2 ∧ ((r.l.take k).foldl (yV x d) (0, 0)).2 ≤ 8796093022208 * k := by
  intro k
  induction k with
  | zero => intro _; simp
  | succ k ih =>
   intro hk
   obtain ⟨h1, h2⟩ := ih (by omega)
   obtain ⟨p, hp1, -, hp3⟩ := Qe r (show k < 5 by omega)
   have hok := hr p (List.mem_of_getElem? hp1)
   rw [hp3, List.foldl_append, List.foldl_cons, List.foldl_nil]
   generalize (r.l.take k).foldl (yV x d) (0, 0) = st at *
   unfold yV
   by_cases hfo : p.f < p.o
   ·obtain ⟨ht, ho⟩ := hok hfo
    have htm : d.getD p.t [] ∈ d := List.mem_of_getElem? (i := p.t) (by rw [List.getD_eq_getElem?_getD, List.getElem?_eq_getElem ht]; rfl)
    have htl := hd'.t _ htm
    unfold tlen at ho
    generalize d.getD p.t [] = t at *
    have b1 := uZ hx t p.f
    have b2 := uZ hx t (p.o - 1)
    have b3 := u5 hx t p.f
    have b4 := u5 hx t (p.o - 1)
    rw [if_pos hfo]
    cases p.b with
    | true =>
     have := u6 hx st.1 ((t.getD (p.o - 1) default).c + 1)
     simp only [cond_true]; omega
    | false =>
     have := u6 hx st.1 ((t.getD p.f default).c + 1)
     simp only [cond_false]; omega
   ·rw [if_neg hfo]; omega
 have h5 := key 5 (by omega)
 rw [List.take_of_length_le (by simp [Rw5.l])] at h5
 have := u6 hx (r.l.foldl (yV x d) (0, 0)).1 0
 unfold qY
 omega
set_option maxRecDepth 20000 in
set_option maxHeartbeats 3200000 in
theorem Zho (x : Inst) (d : Day) (m : Mv) (r1 r2 : Rw5) (hx : yq x) (hd' : MvDay d) (hr1 : j8 d r1) (hr2 : j8 d r2) (ha : m.a < d.length) (hb : m.b < d.length) : Pure Tryz.prog 156 [.ip (rdL x d), .agg (mvL m), .agg (rwL r1), .agg (rwL r2)] (I (ZU x d m r1 r2)) := by
 have l1 := Xd x d r1 hx hd' hr1
 have l2 := Xd x d r2 hx hd' hr2
 have b1 := ZaO hx hd' hr1
 have b2 := ZaO hx hd' hr2
 obtain ⟨sms, hsms⟩ : ∃ sms, sms = d.map (smZ x) := ⟨_, rfl⟩
 have hml : sms.length = d.length := by rw [hsms]; simp
 rw [show rdL x d = rdG x d sms from by rw [hsms]] at l1 l2 ⊢
 have hdn := hd'.n
 obtain ⟨ta, tda, tfa, a1, hga, -, fa⟩ := Qf hsms ha
 obtain ⟨tb, tdb, tfb, c1, hgb, -, fb⟩ := Qf hsms hb
 have wa := uj hx (ta.map (·.c))
 have wb := uj hx (tb.map (·.c))
 rw [List.length_map] at wa wb
 have hta := hd'.t ta (List.mem_of_getElem? a1)
 have htb := hd'.t tb (List.mem_of_getElem? c1)
 have hdef : ZU x d m r1 r2 = qY x d r1 - zB x (ta.map (·.c)) + (if m.a = m.b then 0 else qY x d r2 - zB x (tb.map (·.c))) := by unfold ZU; rw [hga, hgb]
 rw [hdef]
 clear hdef
 simp only [smZ] at fa fb
 generalize qY x d r1 = k1 at *
 generalize qY x d r2 = k2 at *
 generalize zB x (ta.map (·.c)) = wl at *
 generalize zB x (tb.map (·.c)) = wm at *
 have ha4 : 4 ≤ d.length * 4 - m.a * 4 := by omega
 have hb4 : 4 ≤ d.length * 4 - m.b * 4 := by omega
 have w1 : IntKind.i64.wrap (k1 - wl) = k1 - wl := wr _ (by omega) (by omega)
 have w2 : IntKind.i64.wrap (k2 - wm) = k2 - wm := wr _ (by omega) (by omega)
 have w3 : IntKind.i64.wrap (k1 - wl + (k2 - wm)) = k1 - wl + (k2 - wm) := wr _ (by omega) (by omega)
 have hc1 : (rwL r1).length = 20 := rfl
 have ht1 : (rwL r1).take 20 = rwL r1 := rfl
 have hc2 : (rwL r2).length = 20 := rfl
 have ht2 : (rwL r2).take 20 = rwL r2 := rfl
 generalize hrc1 : rwL r1 = rc1 at *
 generalize hrc2 : rwL r2 = rc2 at *
 refine pwe Tryz.func156 Tryz.ntmps156 Tryz.results156 fun S nx hd => ?_
 repeat apply za
 refine pwn ?_
 intro v0 v1 v2
 repeat apply za
 refine pwY (some [nx, nx + 1]) (Row.pures [0, 1, 2, 3, 4, 5, 6, 7, 8, 9, 10, 11, 12, 13] .done) mixed (jn6 hc1 ht1 fa ha ha4 (jn2 hml w1)) ?_
 refine pwP (l1) (jn6 hc1 ht1 fa ha ha4 (jn2 hml w1)) ?_
 intros
 by_cases hab : m.a = m.b
 ·have hab' : (m.a : Int) = m.b := by omega
  rw [if_pos hab]
  repeat apply za
  refine pwN [] hab' ?_
  intros
  repeat apply za
  refine zj (by simp [hab']) ?_
  refine zd ?_
  (repeat apply za); refine pwn ?_; intros
  repeat apply za
  exact zb (zg hd rfl (by simp [zi]))
 ·have hab' : ¬ (m.a : Int) = m.b := by omega
  rw [if_neg hab]
  repeat apply za
  refine pwN [] hab' ?_
  intros
  repeat apply za
  refine zh (by simp [hab']) ?_
  repeat apply za
  refine pwY (some [nx, nx + 2]) (Row.pures [0, 1, 2, 3, 4, 5, 6, 7, 8, 9, 10, 11, 12, 13, 14, 15] .done) mixed (jn6 hc2 ht2 fb hb hb4 (jn3 hml w2 w3)) ?_
  refine pwP (l2) (jn6 hc2 ht2 fb hb hb4 (jn3 hml w2 w3)) ?_
  intros
  (repeat apply za); refine pwn ?_; intros
  repeat apply za
  exact zb (zg hd rfl (by simp [zi]))
set_option maxRecDepth 20000 in
theorem ZaP (x : Inst) (d : Day) (r : Rw5) (hx : yq x) (hd' : MvDay d) (hr : j8 d r) : Pure Tryz.prog 157 [.ip (rdL x d), .agg (rwL r)] (B (decide (ldR d r ≤ x.cap ∧ qY x d r ≤ x.len))) := by
 have l1 := Xd x d r hx hd' hr
 have l2 := Zhn x d r hd' hr
 obtain ⟨sms, hsms⟩ : ∃ sms, sms = d.map (smZ x) := ⟨_, rfl⟩
 rw [show rdL x d = rdG x d sms from by rw [hsms]] at l1 l2 ⊢
 generalize qY x d r = k1 at *
 generalize ldR d r = k2 at *
 have hc1 : (rwL r).length = 20 := rfl
 have ht1 : (rwL r).take 20 = rwL r := rfl
 generalize hrc1 : rwL r = rc at *
 refine pwe Tryz.func157 Tryz.ntmps157 Tryz.results157 fun S nx hd => ?_
 repeat apply za
 refine pwn ?_
 intro v0
 by_cases h1 : k2 ≤ x.cap
 ·repeat apply za
  refine pwY (some [nx]) (Row.pures [0, 1, 2, 3, 4, 5, 6, 7, 8, 9, 10, 11, 12, 13, 14, 15, 16, 17, 18, 19, 20] .done) mixed (jn3 hc1 ht1 h1) ?_
  refine pwP (l2) (jn3 hc1 ht1 h1) ?_
  refine pwP (l1) (jn3 hc1 ht1 h1) ?_
  intros
  repeat apply za
  exact zb (zg hd rfl (by simp [zi, h1]))
 ·repeat apply za
  refine pwY (some [nx]) (Row.pures [0, 1, 2, 3, 4, 5, 6, 7, 8, 9, 10, 11, 12, 13, 14, 15, 16, 17, 18, 19, 20] .done) mixed (jn4 hc1 ht1 h1 zn) ?_
  refine pwP (l2) (jn4 hc1 ht1 h1 zn) ?_
  intros
  repeat apply za
  exact zb (zg hd rfl (by simp [zi, h1]))
open Go Go.Proofs
theorem Qg {α : Type} {W : Nat → List α} {n k i : Nat} {x : α} (hk : k < n) (h : (W k)[i]? = some x) : ((List.range n).flatMap W)[((List.range k).flatMap W).length + i]? = some x := by
 obtain ⟨m, rfl⟩ : ∃ m, n = k + (m + 1) := ⟨n - k - 1, by omega⟩
 have hi := (List.getElem?_eq_some_iff.1 h).1
 rw [List.range_add, List.flatMap_append, List.getElem?_append_right (Nat.le_add_right _ _), Nat.add_sub_cancel_left, List.range_succ_eq_map]
 simp only [List.map_cons, List.flatMap_cons, Nat.add_zero]
 rw [List.getElem?_append_left hi]
 exact h
theorem Qh {α : Type} (W : Nat → List α) (k : Nat) : ((List.range (k + 1)).flatMap W).length = ((List.range k).flatMap W).length + (W k).length := by
 rw [List.range_succ, List.flatMap_append, List.length_append]; simp
def wP (d : Day) (k a b i j : Nat) : Option Mv := if qP d ⟨k, a, b, i, j⟩ = true then some ⟨k, a, b, i, j⟩ else none
def xL (d : Day) (k a b i : Nat) : List Mv := (List.range (tlen d b + 1)).filterMap (wP d k a b i)
def wd (d : Day) (k a b : Nat) : List Mv := (List.range (tlen d a + 1)).flatMap (xL d k a b)
def vt (d : Day) (k a : Nat) : List Mv := (List.range d.length).flatMap (wd d k a)
def we (d : Day) (k : Nat) : List Mv := (List.range d.length).flatMap (vt d k)
def wg (d : Day) : List Mv := (List.range 4).flatMap (we d)
abbrev mvE (m : Mv) : List PV := [.agg (mvL m)]
set_option maxRecDepth 20000 in
set_option maxHeartbeats 3200000 in
theorem Zhp (d : Day) (k a b : Nat) (hdn : d.length ≤ 1048576) (hdt : ∀ t ∈ d, t.length ≤ 1000) (hk : k ≤ 3) (ha : a < d.length) (hb : b < d.length) :
  YY Tryz.prog 198 (fun y => [.agg [L d], .agg [I k, I a, I b, I 0, I 0], yld y]) ((wd d k a b).map mvE) (B true) := by
 refine VP Tryz.func198 (by rfl) rfl Tryz.ntmps198 (congrArg Array.toList Tryz.results198) (by simp) fun y V keep nx J hJd hY A0 hA0 => ?_
 obtain ⟨ta, xa, a1, -, -, a0⟩ := el1 rfl d a ha
 obtain ⟨tb, xb, b1, -, -, b0⟩ := el1 rfl d b hb
 have ha1 : 1 ≤ d.length - a := by omega
 have hb1 : 1 ≤ d.length - b := by omega
 have la : tlen d a = ta.length := by unfold tlen; rw [List.getD_eq_getElem?_getD, a1]; rfl
 have lb : tlen d b = tb.length := by unfold tlen; rw [List.getD_eq_getElem?_getD, b1]; rfl
 have hal := hdt ta (List.mem_of_getElem? a1)
 have hbl := hdt tb (List.mem_of_getElem? b1)
 have hall : ∀ t ∈ d, t.length ≤ 1048576 := fun t ht => Nat.le_trans (hdt t ht) (by decide)
 have hlook := fun i j (hi : i ≤ 1048576) (hj : j ≤ 1048576) => J3 d ⟨k, a, b, i, j⟩ hdn hall hk ha hb hi hj
 have hpl : wd d k a b = (List.range (ta.length + 1)).flatMap (xL d k a b) := by unfold wd; rw [la]
 have hrow : ∀ i, xL d k a b i = (List.range (tb.length + 1)).filterMap (wP d k a b i) := fun i => by unfold xL; rw [lb]
 rw [hpl] at hY ⊢
 clear hpl la lb
 repeat apply za
 refine pwn ?_
 intro v0 v1
 (repeat apply za); refine pwn ?_; intros
 repeat apply za
 refine ze (qV (σ := Nat × Int × Store) (fun s' => s'.1 ≤ ta.length + 1 ∧ J ((List.range s'.1).flatMap (xL d k a b)).length s'.2.2) (fun s' => [(2, yld y), (3, .ptr nx v0 0), (4, .ptr (nx + 1) v1 0)]) (fun s' => s'.2.2)
  (fun (i, jv, _) => [.cells v0 66 [L d], .cells v1 160 [I k, I a, I b, I i, I jv]]) (fun s' => ta.length + 1 - s'.1) (zt (0, 0, A0) [] (by simpa using hA0) (by simp) rfl (by simp)) ?_)
 rintro ⟨i, jv, A⟩ ⟨hi, hJ⟩
 simp only at hi hJ ⊢
 repeat apply za
 refine pwY (some [nx, nx + 1]) (Row.pures [0, 1, 2, 3, 4, 5, 6, 7, 8, 9, 10] .done) mixed (jn3 a0 ha ha1) ?_
 intros
 repeat apply za
 refine zl rfl (fun hc => ?_) (fun hc => ?_)
 ·simp at hc
  have hrl := Qh (xL d k a b) i
  refine zd (za (ze ?_))
  (repeat apply za); refine pwn ?_; intros
  repeat apply za
  refine ze (qV (σ := Nat × Store) (fun s' => s'.1 ≤ tb.length + 1 ∧ J (((List.range i).flatMap (xL d k a b)).length + ((List.range s'.1).filterMap (wP d k a b i)).length) s'.2) (fun s' => [(2, yld y), (3, .ptr nx v0 0), (4, .ptr (nx + 1) v1 0)]) (fun s' => s'.2)
   (fun (j, _) => [.cells v0 66 [L d], .cells v1 160 [I k, I a, I b, I i, I j]]) (fun s' => tb.length + 1 - s'.1) (zt (0, A) [] (by simpa using hJ) (by simp) rfl (by simp)) ?_)
  clear hJ A jv
  rintro ⟨j, A⟩ ⟨hj, hJ⟩
  simp only at hj hJ ⊢
  repeat apply za
  refine pwY (some [nx, nx + 1]) (Row.pures [0, 1, 2, 3, 4, 5, 6, 7, 8, 9, 10] .done) mixed (jn3 b0 hb hb1) ?_
  intros
  repeat apply za
  refine zl rfl (fun hcj => ?_) (fun hcj => ?_)
  ·simp at hcj
   have hlk := hlook i j (by omega) (by omega)
   have wj := wrN j (by omega)
   refine zd (za (ze ?_))
   cases hm : qP d ⟨k, a, b, i, j⟩ with
   | true =>
    have hce : wP d k a b i j = some ⟨k, a, b, i, j⟩ := by unfold wP; rw [if_pos hm]
    have hlo : x9 d ⟨k, a, b, i, j⟩ = ((zE d ⟨k, a, b, i, j⟩).1, (zE d ⟨k, a, b, i, j⟩).2, true) := by unfold x9; rw [if_pos hm]
    rw [hlo] at hlk
    have hat := VR (n := tb.length + 1) (by omega) hce
    rw [← hrow] at hat
    have hat2 := Qg (W := xL d k a b) (n := ta.length + 1) (by omega) hat
    have hy : (((List.range (ta.length + 1)).flatMap (xL d k a b)).map mvE)[((List.range i).flatMap (xL d k a b)).length + ((List.range j).filterMap (wP d k a b i)).length]? = some (mvE ⟨k, a, b, i, j⟩) := by
     rw [List.getElem?_map, hat2]; rfl
    have hnx := VT hce
    generalize (zE d ⟨k, a, b, i, j⟩).1 = r1 at *
    generalize (zE d ⟨k, a, b, i, j⟩).2 = r2 at *
    repeat apply za
    refine pwn ?_
    refine pwc hlk ?_
    intro v2 v3
    intros
    repeat apply za
    refine zN [(1, 50)] (by rfl) (by rfl) fun K Gc Gh hK hGc hGh X hX0 hX => ?_
    simp -implicitDefEqProofs [hX0, hX]
    try clear hX0 hX X
    refine hGh _ _ _ _ _ fun hsuf => Zt rfl rfl rfl (hY _ _ _ _ hy hJ) ?_
    rintro _ ⟨A', hJ', rfl⟩
    refine ⟨_, _, rfl, ?_⟩
    clear hGc hGh
    clear Gc Gh
    refine zI hsuf (D := [(1, 50)]) (by rfl) fun Gc Gh hGc hGh X hX0 hX => ?_
    simp -implicitDefEqProofs [hX0, hX]
    try clear hX0 hX X
    intros
    refine hK _ _ _ ?_
    clear hK hGc hGh
    clear K Gc Gh
    repeat apply za
    refine zj rfl ?_
    refine zd ?_
    (repeat apply za); refine pwn ?_; intros
    exact zk (j + 1, A') [_, _] ⟨by simp; omega, by rw [hnx]; exact hJ'⟩ (by simp; omega) (by simp) rfl (by simp [wj]; exact ⟨rfl, rfl⟩)
   | false =>
    have hce : wP d k a b i j = none := by unfold wP; rw [if_neg (by simp [hm])]
    have hlo : x9 d ⟨k, a, b, i, j⟩ = (rw0, rw0, false) := by unfold x9; rw [if_neg (by simp [hm])]
    rw [hlo] at hlk
    have hnx := VS hce
    generalize rw0 = r0 at *
    repeat apply za
    refine pwn ?_
    refine pwc hlk ?_
    intro v2 v3
    intros
    repeat apply za
    refine pwN [(1, 50)] zn ?_
    intros
    repeat apply za
    refine zj rfl ?_
    refine zd ?_
    (repeat apply za); refine pwn ?_; intros
    exact zk (j + 1, A) [_, _] ⟨by simp; omega, by rw [hnx]; exact hJ⟩ (by simp; omega) (by simp) rfl (by simp [wj]; exact ⟨rfl, rfl⟩)
  ·simp at hcj
   obtain rfl : j = tb.length + 1 := by omega
   rw [← hrow, ← hrl] at hJ
   refine zm ?_
   have wi := wrN i (by omega)
   (repeat apply za); refine pwn ?_; intros
   exact zk (i + 1, ((tb.length + 1 : Nat) : Int), A) [] ⟨by simp; omega, hJ⟩ (by simp; omega) (by simp) rfl (by simp [wi])
 ·simp at hc
  obtain rfl : i = ta.length + 1 := by omega
  refine zm ?_
  (repeat apply za); refine pwn ?_; intros
  repeat apply za
  exact zb (YZ (hJd _ _ hJ) (by simp; rfl) (by simp [zi]) (by simpa using hJ))
set_option maxRecDepth 20000 in
theorem Zhq (d : Day) : Pure Tryz.prog 154 [.agg [L d]] (.fn (.func 196) [] [.ip [L d]]) := by
 refine pwe Tryz.func154 Tryz.ntmps154 Tryz.results154 fun S nx hd => ?_
 repeat apply za
 refine pwn ?_
 intro v0
 (repeat apply za); refine pwn ?_; intros
 refine xh 0 rfl ?_
 repeat apply za
 exact zb (zg hd (by simp; rfl) rfl)
set_option maxRecDepth 20000 in
set_option maxHeartbeats 3200000 in
theorem Zhr (d : Day) (hdn : d.length ≤ 1000) (hdt : ∀ t ∈ d, t.length ≤ 1000) : vV Tryz.prog 196 [.ip [L d]] ((wg d).map mvE) := by
 have hpl := fun k a b (hk : k ≤ 3) (ha : a < d.length) (hb : b < d.length) => Zhp d k a b (by omega) hdt hk ha hb
 have hkinds := Zaz
 generalize Qc = kl at hkinds
 refine YG Tryz.func196 (by rfl) rfl Tryz.ntmps196 (congrArg Array.toList Tryz.results196) (by simp) fun l V keep nx J hJd hY A0 hA0 => ?_
 repeat apply za
 refine pwn ?_
 refine pwc hkinds ?_
 intros
 repeat apply za
 refine ze (qV (σ := Nat × Store) (fun s' => s'.1 ≤ 4 ∧ J ((List.range s'.1).flatMap (we d)).length s'.2) (fun s' => [(0, yld l), (1, .ip [L d]), (7, I s'.1)]) (fun s' => s'.2) (fun _ => []) (fun s' => 4 - s'.1) (zt (0, A0) [] (by simpa using hA0) (by simp) rfl (by simp)) ?_)
 rintro ⟨k, A⟩ ⟨hk, hJ⟩
 simp only at hk hJ ⊢
 by_cases hk4 : k < 4
 ·have hk4' : (k : Int) < 4 := by omega
  have hlA := Qh (we d) k
  repeat apply za
  refine pwN [] hk4' ?_
  intros
  repeat apply za
  refine zh rfl ?_
  refine zd (za (ze ?_))
  (repeat apply za); refine pwn ?_; intros
  (repeat apply za); refine pwn ?_; intros
  repeat apply za
  refine ze (qV (σ := Nat × Store) (fun s' => s'.1 ≤ d.length ∧ J (((List.range k).flatMap (we d)).length + ((List.range s'.1).flatMap (vt d k)).length) s'.2) (fun s' => [(0, yld l), (1, .ip [L d]), (3, I k), (7, I k), (12, I d.length), (13, I s'.1)]) (fun s' => s'.2) (fun _ => []) (fun s' => d.length - s'.1) (zt (0, A) [] (by simpa using hJ) (by simp) rfl (by simp)) ?_)
  clear hJ A
  rintro ⟨a, A⟩ ⟨ha, hJ⟩
  simp only at ha hJ ⊢
  (repeat apply za); refine pwn ?_; intros
  repeat apply za
  refine zl rfl (fun hca => ?_) (fun hca => ?_)
  ·simp at hca
   have hlK := Qh (vt d k) a
   refine zd (za (ze ?_))
   (repeat apply za); refine pwn ?_; intros
   (repeat apply za); refine pwn ?_; intros
   repeat apply za
   refine ze (qV (σ := Nat × Store) (fun s' => s'.1 ≤ d.length ∧ J (((List.range k).flatMap (we d)).length + ((List.range a).flatMap (vt d k)).length + ((List.range s'.1).flatMap (wd d k a)).length) s'.2) (fun s' => [(0, yld l), (1, .ip [L d]), (3, I k), (4, I a), (7, I k), (12, I d.length), (13, I a), (18, I d.length), (19, I s'.1)]) (fun s' => s'.2) (fun _ => []) (fun s' => d.length - s'.1) (zt (0, A) [] (by simpa using hJ) (by simp) rfl (by simp)) ?_)
   clear hJ A
   rintro ⟨b, A⟩ ⟨hb, hJ⟩
   simp only at hb hJ ⊢
   (repeat apply za); refine pwn ?_; intros
   repeat apply za
   refine zl rfl (fun hcb => ?_) (fun hcb => ?_)
   ·simp at hcb
    have hw := hpl k a b (by omega) hca hcb
    have hlP := Qh (wd d k a) b
    have hin : ∀ (i : Nat) (x : List PV), ((wd d k a b).map mvE)[i]? = some x → ((wg d).map mvE)[((List.range k).flatMap (we d)).length + ((List.range a).flatMap (vt d k)).length + ((List.range b).flatMap (wd d k a)).length + i]? = some x := by
     intro i x hx
     rw [List.getElem?_map] at hx ⊢
     obtain ⟨m, hm, rfl⟩ := Option.map_eq_some_iff.1 hx
     have e1 := Qg (W := wd d k a) (n := d.length) hcb hm
     have e2 := Qg (W := vt d k) (n := d.length) hca e1
     have e3 := Qg (W := we d) (n := 4) hk4 e2
     rw [Nat.add_assoc, Nat.add_assoc]
     unfold wg
     rw [e3]; rfl
    refine zd (za (ze ?_))
    (repeat apply za); refine pwn ?_; intros
    repeat apply za
    refine zN [] (by rfl) (by rfl) fun K Gc Gh hK hGc hGh X hX0 hX => ?_
    simp -implicitDefEqProofs [hX0, hX]
    try clear hX0 hX X
    refine hGc _ _ _ _ _ _ _ fun hsuf => ((VQ hw keep hY _ hin hJ _).mono ?_)
    rintro _ _ ⟨A', rfl, hJ', rfl⟩
    rw [List.length_map, Nat.add_assoc, ← hlP] at hJ'
    refine ⟨_, _, rfl, ?_⟩
    clear hGc hGh
    clear Gc Gh
    refine zI hsuf (D := []) (by rfl) fun Gc Gh hGc hGh X hX0 hX => ?_
    simp -implicitDefEqProofs [hX0, hX]
    clear hX0 hX X
    intros
    refine hK _ _ _ ?_
    clear hK hGc hGh
    clear K Gc Gh
    repeat apply za
    refine zj rfl ?_
    refine zd ?_
    (repeat apply za); refine pwn ?_; intros
    exact zk (b + 1, A') [] ⟨hcb, hJ'⟩ (by simp; omega) (by simp [wrN b (by omega)]) rfl (by simp)
   ·simp at hcb
    obtain rfl : b = d.length := by omega
    refine zm ?_
    have hJ2 : J (((List.range k).flatMap (we d)).length + ((List.range (a + 1)).flatMap (vt d k)).length) A := by rw [hlK, ← Nat.add_assoc]; exact hJ
    (repeat apply za); refine pwn ?_; intros
    exact zk (a + 1, A) [] ⟨hca, hJ2⟩ (by simp; omega) (by simp [wrN a (by omega)]) rfl (by simp)
  ·simp at hca
   obtain rfl : a = d.length := by omega
   refine zm ?_
   have hJ2 : J ((List.range (k + 1)).flatMap (we d)).length A := by rw [hlA]; exact hJ
   (repeat apply za); refine pwn ?_; intros
   exact zk (k + 1, A) [] ⟨hk4, hJ2⟩ (by simp; omega) (by simp [wrN k (by omega)]) rfl (by simp)
 ·obtain rfl : k = 4 := by omega
  (repeat apply za); refine pwn ?_; intros
  repeat apply za
  refine zj rfl ?_
  refine zm (xB (hJd _ _ hJ) rfl ?_)
  rw [List.length_map]; exact hJ
open Go Go.Proofs
theorem uk {d : Day} {m : Mv} (h : qP d m = true) : m.k ≤ 3 ∧ m.a < d.length ∧ m.b < d.length ∧ j8 d (zE d m).1 ∧ j8 d (zE d m).2 := by
 unfold qP at h
 rw [Bool.and_eq_true] at h
 obtain ⟨h1, h2⟩ := h
 have h1 := of_decide_eq_true h1
 refine ⟨h1.1, h1.2.1, h1.2.2, ?_⟩
 unfold jz at h2
 unfold zE qA
 have e0 := Zg3 d
 have key : ∀ p : Pc, uX d p ↔ (p.f < p.o → p.t < d.length ∧ p.o ≤ tlen d p.t) := fun _ => Iff.rfl
 by_cases k0 : m.k = 0
 ·rw [if_pos k0] at h2 ⊢
  have h2 := of_decide_eq_true h2
  refine ⟨?_, e0⟩
  intro p hp
  simp only [Rw5.l, List.mem_cons, List.not_mem_nil, or_false] at hp
  rcases hp with rfl | rfl | rfl | rfl | rfl <;> refine (key _).2 ?_ <;> simp only [pc0] <;> omega
 rw [if_neg k0] at h2 ⊢
 by_cases k1 : m.k = 1
 ·rw [if_pos k1] at h2 ⊢
  have h2 := of_decide_eq_true h2
  by_cases hab : m.a = m.b
  ·rw [if_pos hab, hab] at h2
   rw [if_neg (by simp [hab])]
   by_cases hij : m.i < m.j
   ·rw [if_pos hij]
    refine ⟨?_, e0⟩
    intro p hp
    simp only [Rw5.l, List.mem_cons, List.not_mem_nil, or_false] at hp
    rcases hp with rfl | rfl | rfl | rfl | rfl <;> refine (key _).2 ?_ <;> simp only [pc0] <;> (try rw [hab]) <;> omega
   ·rw [if_neg hij]
    refine ⟨?_, e0⟩
    intro p hp
    simp only [Rw5.l, List.mem_cons, List.not_mem_nil, or_false] at hp
    rcases hp with rfl | rfl | rfl | rfl | rfl <;> refine (key _).2 ?_ <;> simp only [pc0] <;> (try rw [hab]) <;> omega
  ·rw [if_neg hab] at h2
   rw [if_pos hab]
   constructor <;> intro p hp <;> simp only [Rw5.l, List.mem_cons, List.not_mem_nil, or_false] at hp <;> rcases hp with rfl | rfl | rfl | rfl | rfl <;> refine (key _).2 ?_ <;> simp only [pc0] <;> omega
 rw [if_neg k1] at h2 ⊢
 by_cases k2 : m.k = 2
 ·rw [if_pos k2] at h2 ⊢
  have h2 := of_decide_eq_true h2
  by_cases hab : m.a = m.b
  ·rw [if_pos hab]
   rw [hab] at h2
   refine ⟨?_, e0⟩
   intro p hp
   simp only [Rw5.l, List.mem_cons, List.not_mem_nil, or_false] at hp
   rcases hp with rfl | rfl | rfl | rfl | rfl <;> refine (key _).2 ?_ <;> simp only [pc0, hab] <;> omega
  ·rw [if_neg hab]
   constructor <;> intro p hp <;> simp only [Rw5.l, List.mem_cons, List.not_mem_nil, or_false] at hp <;> rcases hp with rfl | rfl | rfl | rfl | rfl <;> refine (key _).2 ?_ <;> simp only [pc0] <;> omega
 rw [if_neg k2] at h2 ⊢
 have h2 := of_decide_eq_true h2
 constructor <;> intro p hp <;> simp only [Rw5.l, List.mem_cons, List.not_mem_nil, or_false] at hp <;> rcases hp with rfl | rfl | rfl | rfl | rfl <;> refine (key _).2 ?_ <;> simp only [pc0] <;> omega
theorem Xe {d : Day} {m : Mv} : m ∈ wg d → qP d m = true ∧ m.i ≤ tlen d m.a ∧ m.j ≤ tlen d m.b := by
 unfold wg we vt wd xL wP
 intro h
 simp only [List.mem_flatMap, List.mem_range, List.mem_filterMap] at h
 obtain ⟨k, hk, a, ha, b, hb, i, hi, j, hj, h⟩ := h
 split at h
 ·rename_i hm
  cases h
  exact ⟨hm, by simp only; omega, by simp only; omega⟩
 ·cases h
def mv0 : Mv := ⟨0, 0, 0, 0, 0⟩
def jp (x : Inst) (d : Day) (r : Rw5) : Prop := ldR d r ≤ x.cap ∧ qY x d r ≤ x.len
instance (x : Inst) (d : Day) (r : Rw5) : Decidable (jp x d r) := by unfold jp; infer_instance
def byM (x : Inst) (d : Day) (m : Mv) : Int := ZU x d m (zE d m).1 (zE d m).2
def mbS (x : Inst) (d : Day) (st : Mv × Int) (m : Mv) : Mv × Int := if byM x d m < st.2 ∧ jp x d (zE d m).1 ∧ jp x d (zE d m).2 then (m, byM x d m) else st
def mbZ (x : Inst) (d : Day) : Mv × Int := (wg d).foldl (mbS x d) (mv0, 0)
set_option maxRecDepth 20000 in
set_option maxHeartbeats 3200000 in
theorem Zhs (x : Inst) (d : Day) (hx : yq x) (hd' : MvDay d) : Pure Tryz.prog 115 [.agg (zp x), .agg [L d]] (.tup [.agg (mvL (mbZ x d).1), I (mbZ x d).2, B (decide ((mbZ x d).2 < 0))]) := by
 have hdn := hd'.n
 have hit := Zhr d hdn hd'.t
 have hread := Zhj x d hx hd'
 have hfacts : ∀ m ∈ wg d, Pure Tryz.prog 155 [.agg [L d], .agg (mvL m)] (.tup [.agg (rwL (zE d m).1), .agg (rwL (zE d m).2), B true]) ∧ Pure Tryz.prog 156 [.ip (rdL x d), .agg (mvL m), .agg (rwL (zE d m).1), .agg (rwL (zE d m).2)] (I (byM x d m)) ∧
   Pure Tryz.prog 157 [.ip (rdL x d), .agg (rwL (zE d m).1)] (B (decide (jp x d (zE d m).1))) ∧ Pure Tryz.prog 157 [.ip (rdL x d), .agg (rwL (zE d m).2)] (B (decide (jp x d (zE d m).2))) := by
  intro m hm
  obtain ⟨h1, h2, h3⟩ := Xe hm
  obtain ⟨hk, ha, hb, r1, r2⟩ := uk h1
  have hl : ∀ a, tlen d a ≤ 1000 := by
   intro a
   unfold tlen
   rw [List.getD_eq_getElem?_getD]
   cases hq : d[a]? with
   | none => simp
   | some l => exact hd'.t l (List.mem_of_getElem? hq)
  have hla := hl m.a
  have hlb := hl m.b
  have hlk := J3 d m (by omega) (fun t ht => Nat.le_trans (hd'.t t ht) (by decide)) hk ha hb (by omega) (by omega)
  unfold x9 at hlk
  rw [if_pos h1] at hlk
  exact ⟨hlk, Zho x d m _ _ hx hd' r1 r2 ha hb, ZaP x d _ hx hd' r1, ZaP x d _ hx hd' r2⟩
 unfold mbZ
 generalize wg d = xs at *
 generalize rdL x d = rd at *
 have hea := Zhq d
 refine pwe Tryz.func115 Tryz.ntmps115 Tryz.results115 fun S nx hd => ?_
 repeat apply za
 refine pwn ?_
 intro v0 v1 v2
 repeat apply za
 refine pwn ?_
 refine pwc hread ?_
 intro v3
 intros
 repeat apply za
 refine pwn ?_
 intro v4 v5
 repeat apply za
 refine pwn ?_
 refine pwc hea ?_
 intros
 repeat apply za
 refine ze (Zv (xs := xs.map mvE) (σ := Mv × Int) (fun i st => st = (xs.take i).foldl (mbS x d) (mv0, 0)) [(2, .ptr nx v0 0), (3, .ptr (nx + 1) v1 0), (4, .ptr (nx + 2) v2 0), (7, .ptr (nx + 3) v3 0), (8, .ptr (nx + 4) v4 0), (9, .ptr (nx + 5) v5 0)] (fun _ => S)
  (fun (b, least) => [.cells v0 25 (zp x), .cells v1 66 [L d], .cells v2 160 [I 0, I 0, I 0, I 0, I 0], .cells v3 194 [.ip rd], .cells v4 160 (mvL b), .cells v5 3 [I least]]) (mv0, 0)
  hit rfl (by intro x hx; obtain ⟨y, _, rfl⟩ := List.mem_map.1 hx; rfl) (by decide) (by simp) (by simp) rfl (by simp [mv0]) (by simp [mv0]) ?_ ?_)
 ·rintro l i ⟨b, least⟩ more y hst hy
  simp only at hst ⊢
  rw [List.getElem?_map] at hy
  obtain ⟨m, hm, rfl⟩ := Option.map_eq_some_iff.1 hy
  have hsucc := JZ (f := mbS x d) (b := (mv0, 0)) hm
  rw [← hst] at hsucc
  obtain ⟨f1, f2, f3, f4⟩ := hfacts m (List.mem_of_getElem? hm)
  unfold mbS at hsucc
  simp only at hsucc
  generalize (zE d m).1 = r1 at *
  generalize (zE d m).2 = r2 at *
  generalize byM x d m = by_ at *
  repeat apply za
  refine pwn ?_
  intro v6
  refine ze ?_
  repeat apply za
  refine pwn ?_
  refine pwc f1 ?_
  intro v7 v8
  intros
  repeat apply za
  refine pwn ?_
  refine pwc f2 ?_
  intros
  by_cases hlt : by_ < least
  ·repeat apply za
   refine pwN [(3, 37), (8, 42)] hlt ?_
   refine pwC [(3, 37), (8, 42)] f3 hlt ?_
   by_cases hf1 : jp x d r1
   ·rw [decide_eq_true hf1]
    intros
    refine pwC [(3, 37), (8, 42)] f4 hlt ?_
    intros
    by_cases hf2 : jp x d r2
    ·rw [if_pos ⟨hlt, hf1, hf2⟩] at hsucc
     repeat apply za
     refine zh (by simp [hf2]) ?_
     (repeat apply za); refine pwn ?_; intros
     simp only [qi]
     exact jG (m, by_) [_, _, _] hsucc.symm rfl (by simp; exact ⟨rfl, rfl, rfl⟩)
    ·rw [if_neg fun e => hf2 e.2.2] at hsucc
     repeat apply za
     refine zj (by simp [hf2]) ?_
     refine zd ?_
     simp only [qi]
     exact jG (b, least) [_, _, _] hsucc.symm rfl (by simp; exact ⟨rfl, rfl, rfl⟩)
   ·rw [decide_eq_false hf1]
    rw [if_neg fun e => hf1 e.2.1] at hsucc
    intros
    repeat apply za
    refine zj rfl ?_
    refine zd ?_
    simp only [qi]
    exact jG (b, least) [_, _, _] hsucc.symm rfl (by simp; exact ⟨rfl, rfl, rfl⟩)
  ·rw [if_neg fun e => hlt e.1] at hsucc
   repeat apply za
   refine pwN [(3, 37), (8, 42)] (jn2 hlt zn) ?_
   intros
   repeat apply za
   refine zj rfl ?_
   refine zd ?_
   simp only [qi]
   exact jG (b, least) [_, _, _] hsucc.symm rfl (by simp; exact ⟨rfl, rfl, rfl⟩)
 ·rintro ⟨b, least⟩ hst
  rw [List.take_of_length_le (by simp)] at hst
  simp only at hst ⊢
  rw [← hst]
  repeat apply za
  refine pwY (some [nx + 4, nx + 5]) (Row.pures [0, 1, 2, 3] (.alt 4 (Row.pures [5, 6] .done) .stop)) mixed trivial ?_
  intros
  repeat apply za
  exact zb (zg hd (by simp; rfl) (by simp [zi]))
open Go Go.Proofs
def mkT (d : Day) (m : Mv) (i : Nat) : zo := if i = m.a then zT d (zE d m).1 else if i = m.b then zT d (zE d m).2 else d.getD i []
def qe (d : Day) (m : Mv) (i : Nat) : Option zo := if (mkT d m i).length = 0 then none else some (mkT d m i)
def mkZ (d : Day) (m : Mv) : Day := (List.range d.length).filterMap (qe d m)
theorem ZaQ {d : Day} {r : Rw5} {k : Nat} (h : ∀ t ∈ d, t.length ≤ k) : (zT d r).length ≤ 5 * k := by
 have h1 := fun p => ZaB (d := d) (p := p) h
 have a1 := h1 r.a
 have a2 := h1 r.b
 have a3 := h1 r.c
 have a4 := h1 r.d
 have a5 := h1 r.e
 unfold zT Rw5.l
 simp only [List.flatMap_cons, List.flatMap_nil, List.length_append, List.append_nil]
 omega
set_option maxRecDepth 20000 in
set_option maxHeartbeats 3200000 in
theorem Zht (x : Inst) (d : Day) (m : Mv) (hdn : d.length ≤ 1000) (hdt : ∀ t ∈ d, t.length ≤ 1000) (hm : qP d m = true) (hi : m.i ≤ 1048576) (hj : m.j ≤ 1048576) : Pure Tryz.prog 116 [.agg (zp x), .agg [L d], .agg (mvL m)] (.tup [.agg [L (mkZ d m)], I 0]) := by
 obtain ⟨hk, ha, hb, r1, r2⟩ := uk hm
 have hlk := J3 d m (by omega) (fun t ht => Nat.le_trans (hdt t ht) (by decide)) hk ha hb hi hj
 unfold x9 at hlk
 rw [if_pos hm] at hlk
 have g1 := ZaC d _ (by omega) hdt r1
 have g2 := ZaC d _ (by omega) hdt r2
 have n1 := ZaQ (r := (zE d m).1) hdt
 have n2 := ZaQ (r := (zE d m).2) hdt
 have hmk : ∀ i, mkT d m i = if i = m.a then zT d (zE d m).1 else if i = m.b then zT d (zE d m).2 else d.getD i [] := fun _ => rfl
 generalize zT d (zE d m).1 = t1 at *
 generalize zT d (zE d m).2 = t2 at *
 generalize (zE d m).1 = c1 at *
 generalize (zE d m).2 = c2 at *
 have hme : mkZ d m = (List.range d.length).filterMap (qe d m) := rfl
 rw [hme]
 clear hme
 refine pwe Tryz.func116 Tryz.ntmps116 Tryz.results116 fun S nx hd => ?_
 repeat apply za
 refine pwn ?_
 intro v0 v1 v2 v3
 repeat apply za
 refine pwn ?_
 refine pwc hlk ?_
 intro v4 v5
 intros
 (repeat apply za); refine pwn ?_; intros
 repeat apply za
 refine zj rfl ?_
 refine zd ?_
 repeat apply za
 refine pwn ?_
 intro v6
 refine qa 6 0 72 1 rfl rfl fun v7 => ?_
 (repeat apply za); refine pwn ?_; intros
 repeat apply za
 refine ze (zq (fun s' : Nat × Nat => s'.1 ≤ d.length) (fun (k, v7) => [(4, .ptr (nx + 1) v1 0), (5, .ptr (nx + 2) v2 0), (6, .ptr (nx + 3) v3 0), (8, .ptr (nx + 4) v4 0), (9, .ptr (nx + 5) v5 0), (11, .ptr (nx + 6) v6 0), (26, L d), (27, I d.length), (28, I k)])
  (fun (k, v7) => [.cells v0 25 (zp x), .cells v1 66 [L d], .cells v2 160 (mvL m), .cells v3 66 [zS], .cells v4 202 (rwL c1), .cells v5 202 (rwL c2), .cells v6 66 [.sl (nx + 7) v7 1 0 ((List.range k).filterMap (qe d m)).length], .cells v7 72 (((List.range k).filterMap (qe d m)).flatMap Enc.enc)]) (fun s' => d.length - s'.1) (0, v7) [] (by simp) (by simp) (by simp) ?_)
 rintro ⟨k, v7⟩ hk0
 simp only at hk0 ⊢
 (repeat apply za); refine pwn ?_; intros
 repeat apply za
 refine zl rfl (fun hc => ?_) (fun hc => ?_)
 ·simp at hc
  obtain ⟨t, tl, a1, a2, a3, e0⟩ := el1 rfl d k hc
  have hk1 : 1 ≤ d.length - k := by omega
  have htl := hdt t (List.mem_of_getElem? a1)
  have hcl := YX t (by omega)
  have hgk : d.getD k [] = t := by rw [List.getD_eq_getElem?_getD, a1]; rfl
  have hmkk := hmk k
  have hlen : ((List.range k).filterMap (qe d m)).length ≤ k := by have := List.length_filterMap_le (qe d m) (List.range k); simpa using this
  have hnext : (List.range (k + 1)).filterMap (qe d m) = (List.range k).filterMap (qe d m) ++ (qe d m k).toList := by
   rw [List.range_succ, List.filterMap_append]
   simp only [List.filterMap_cons, List.filterMap_nil]
   cases qe d m k <;> rfl
  have hT1 : qe d m k = if (mkT d m k).length = 0 then none else some (mkT d m k) := rfl
  rw [hgk] at hmkk
  have hTl : (mkT d m k).length ≤ 5000 := by rw [hmkk]; (repeat' split) <;> omega
  have hof : (((List.range k).filterMap (qe d m)).flatMap Enc.enc : List PV).length = ((List.range k).filterMap (qe d m)).length := qm _
  generalize (List.range k).filterMap (qe d m) = out at *
  have hot : (out.flatMap Enc.enc : List PV).take out.length = out.flatMap Enc.enc := List.take_of_length_le (by omega)
  have wk := wrN k (by omega)
  refine zd (za (ze ?_))
  repeat apply za
  refine pwN [] (jn3 e0 hc hk1) ?_
  intro v8
  repeat apply za
  refine pwn ?_
  refine pwc hcl ?_
  intros
  (repeat apply za); refine pwn ?_; intros
  repeat apply za
  refine zR (nx := nx) (fun _ : Unit => True) (fun _ => [(4, .ptr (nx + 1) v1 0), (5, .ptr (nx + 2) v2 0), (6, .ptr (nx + 3) v3 0), (8, .ptr (nx + 4) v4 0), (9, .ptr (nx + 5) v5 0), (11, .ptr (nx + 6) v6 0), (14, L (mkT d m k)), (26, L d), (27, I d.length), (28, I k)]) (fun _ => S)
   (fun _ => [.cells v0 25 (zp x), .cells v1 66 [L d], .cells v2 160 (mvL m), .cells v3 66 [zS], .cells v4 202 (rwL c1), .cells v5 202 (rwL c2), .cells v6 66 [.sl (nx + 7) v7 1 0 out.length], .cells v7 72 (out.flatMap Enc.enc), .cells v8 72 [L t]]) ?_ ?_
  ·refine ze ?_
   by_cases h1 : k = m.a
   ·rw [if_pos h1] at hmkk
    have h1' : (k : Int) = m.a := by omega
    rw [hmkk]
    (repeat apply za); refine pwn ?_; intros
    repeat apply za
    refine zh (by simp; omega) ?_
    repeat apply za
    refine pwn ?_
    refine pwc g1 ?_
    intros
    simp only [qi]
    exact zt () [] trivial (by simp) rfl (by simp)
   ·rw [if_neg h1] at hmkk
    have h1' : ¬ (k : Int) = m.a := by omega
    (repeat apply za); refine pwn ?_; intros
    repeat apply za
    refine zj (by simp; omega) ?_
    by_cases h2 : k = m.b
    ·rw [if_pos h2] at hmkk
     have h2' : (k : Int) = m.b := by omega
     rw [hmkk]
     (repeat apply za); refine pwn ?_; intros
     repeat apply za
     refine zh (by simp; omega) ?_
     repeat apply za
     refine pwn ?_
     refine pwc g2 ?_
     intros
     simp only [qi]
     exact zt () [] trivial (by simp) rfl (by simp)
    ·rw [if_neg h2] at hmkk
     have h2' : ¬ (k : Int) = m.b := by omega
     rw [hmkk]
     (repeat apply za); refine pwn ?_; intros
     repeat apply za
     refine zj (by simp; omega) ?_
     refine zd ?_
     simp only [qi]
     exact zt () [] trivial (by simp) rfl (by simp)
  ·rintro ⟨⟩ -
   generalize mkT d m k = tt at *
   clear hmkk hcl e0
   by_cases h0 : tt.length = 0
   ·have e : (qe d m k).toList = [] := by rw [hT1, if_pos h0]; rfl
    have h0' : ¬ 0 < tt.length := by omega
    repeat apply za
    refine pwN [] h0' ?_
    intros
    repeat apply za
    refine zj (by simp [h0']) ?_
    refine zd ?_
    (repeat apply za); refine pwn ?_; intros
    exact zk (k + 1, v7) [_] (by simp; omega) (by simp; omega) (by simp [wk, hnext, e]) rfl (by simp [hnext, e]; rfl)
   ·have e : (qe d m k).toList = [tt] := by rw [hT1, if_neg h0]; rfl
    have h0' : 0 < tt.length := by omega
    repeat apply za
    refine pwN [] h0' ?_
    intros
    repeat apply za
    refine zh (by simp [h0']) ?_
    repeat apply za
    refine pwN [] (jn2 hof hot) ?_
    refine ⟨by omega, ?_⟩
    intros
    (repeat apply za); refine pwn ?_; intros
    exact zk (k + 1, v7 + 1) [_] (by simp; omega) (by simp; omega) (by simp [wk, hnext, e]) rfl (by simp [hnext, e]; rfl)
 ·simp at hc
  obtain rfl : k = d.length := by omega
  refine zm ?_
  refine zC 7 rfl ?_
  (repeat apply za); refine pwn ?_; intros
  repeat apply za
  exact zb (zg hd (by simp; rfl) (by simp [zi]))
open Go Go.Proofs
def kSt (d : Day) (s : Stop) (t k : Nat) : Nat := ((d.getD t []).take k).count s
theorem Xf (d : Day) (s : Stop) (t : Nat) : kSt d s t 0 = 0 := by simp [kSt]
theorem ZaR (d : Day) (s : Stop) (t : Nat) : kSt d s t (tlen d t) = (d.getD t []).count s := by unfold kSt tlen; rw [List.take_length]
theorem Zhu (d : Day) (s : Stop) (p : Pc) : p.f ≤ p.o → (yl d p).count s + kSt d s p.t p.f = kSt d s p.t p.o := by
 intro h
 unfold yl kSt
 generalize d.getD p.t [] = u
 by_cases hf : p.f < p.o
 ·rw [if_pos hf, show p.o = p.f + (p.o - p.f) by omega, List.take_add, List.count_append, show p.f + (p.o - p.f) - p.f = p.o - p.f by omega]
  cases p.b
  ·rw [cond_false]; omega
  ·rw [cond_true, List.count_reverse]; omega
 ·rw [if_neg hf, show p.o = p.f by omega]; simp
theorem ZaS (d : Day) (s : Stop) (r : Rw5) : (zT d r).count s = (yl d r.a).count s + (yl d r.b).count s + (yl d r.c).count s + (yl d r.d).count s + (yl d r.e).count s := by
 unfold zT Rw5.l
 simp only [List.flatMap_cons, List.flatMap_nil, List.count_append, List.append_nil]
 omega
theorem Zhv {d : Day} {m : Mv} (h : qP d m = true) (s : Stop) : (zT d (zE d m).1).count s + (if m.a = m.b then 0 else (zT d (zE d m).2).count s) = (d.getD m.a []).count s + (if m.a = m.b then 0 else (d.getD m.b []).count s) := by
 unfold qP at h
 rw [Bool.and_eq_true] at h
 obtain ⟨-, h2⟩ := h
 unfold jz at h2
 unfold zE qA
 have e0 := Xf d s
 have ea := Xf d s m.a
 have eb := Xf d s m.b
 have la := ZaR d s m.a
 have lb := ZaR d s m.b
 have key := Zhu d s
 rw [ZaS, ZaS]
 by_cases k0 : m.k = 0
 ·rw [if_pos k0] at h2 ⊢
  have h2 := of_decide_eq_true h2
  rw [if_pos h2.1.symm, if_pos h2.1.symm]
  have q1 := key ⟨m.a, 0, m.i, false⟩
  have q2 := key ⟨m.a, m.i, m.j + 1, true⟩
  have q3 := key ⟨m.a, m.j + 1, tlen d m.a, false⟩
  have q0 := key pc0
  simp only [pc0] at q1 q2 q3 q0 ⊢
  omega
 rw [if_neg k0] at h2 ⊢
 by_cases k1 : m.k = 1
 ·rw [if_pos k1] at h2 ⊢
  have h2 := of_decide_eq_true h2
  by_cases hab : m.a = m.b
  ·rw [if_pos hab] at h2
   rw [if_pos hab, if_pos hab, if_neg (by simp [hab])]
   rw [← hab] at h2
   by_cases hij : m.i < m.j
   ·rw [if_pos hij]
    have q1 := key ⟨m.a, 0, m.i, false⟩
    have q2 := key ⟨m.a, m.i + 1, m.j + 1, false⟩
    have q3 := key ⟨m.a, m.i, m.i + 1, false⟩
    have q4 := key ⟨m.a, m.j + 1, tlen d m.a, false⟩
    have q0 := key pc0
    simp only [pc0] at q1 q2 q3 q4 q0 ⊢
    omega
   ·rw [if_neg hij]
    have q1 := key ⟨m.a, 0, m.j, false⟩
    have q2 := key ⟨m.a, m.i, m.i + 1, false⟩
    have q3 := key ⟨m.a, m.j, m.i, false⟩
    have q4 := key ⟨m.a, m.i + 1, tlen d m.a, false⟩
    have q0 := key pc0
    simp only [pc0] at q1 q2 q3 q4 q0 ⊢
    omega
  ·rw [if_neg hab] at h2
   rw [if_neg hab, if_neg hab, if_pos hab]
   have q1 := key ⟨m.a, 0, m.i, false⟩
   have q2 := key ⟨m.a, m.i + 1, tlen d m.a, false⟩
   have q3 := key ⟨m.b, 0, m.j, false⟩
   have q4 := key ⟨m.a, m.i, m.i + 1, false⟩
   have q5 := key ⟨m.b, m.j, tlen d m.b, false⟩
   have q0 := key pc0
   simp only [pc0] at q1 q2 q3 q4 q5 q0 ⊢
   omega
 rw [if_neg k1] at h2 ⊢
 by_cases k2 : m.k = 2
 ·rw [if_pos k2] at h2 ⊢
  have h2 := of_decide_eq_true h2
  by_cases hab : m.a = m.b
  ·rw [if_pos hab, if_pos hab, if_pos hab]
   rw [← hab] at h2 ⊢
   have q1 := key ⟨m.a, 0, m.i, false⟩
   have q2 := key ⟨m.a, m.j, m.j + 1, false⟩
   have q3 := key ⟨m.a, m.i + 1, m.j, false⟩
   have q4 := key ⟨m.a, m.i, m.i + 1, false⟩
   have q5 := key ⟨m.a, m.j + 1, tlen d m.a, false⟩
   simp only at q1 q2 q3 q4 q5 ⊢
   omega
  ·rw [if_neg hab, if_neg hab, if_neg hab]
   have q1 := key ⟨m.a, 0, m.i, false⟩
   have q2 := key ⟨m.b, m.j, m.j + 1, false⟩
   have q3 := key ⟨m.a, m.i + 1, tlen d m.a, false⟩
   have q4 := key ⟨m.b, 0, m.j, false⟩
   have q5 := key ⟨m.a, m.i, m.i + 1, false⟩
   have q6 := key ⟨m.b, m.j + 1, tlen d m.b, false⟩
   have q0 := key pc0
   simp only [pc0] at q1 q2 q3 q4 q5 q6 q0 ⊢
   omega
 rw [if_neg k2] at h2 ⊢
 have h2 := of_decide_eq_true h2
 rw [if_neg (by omega), if_neg (by omega)]
 have q1 := key ⟨m.a, 0, m.i, false⟩
 have q2 := key ⟨m.b, m.j, tlen d m.b, false⟩
 have q3 := key ⟨m.b, 0, m.j, false⟩
 have q4 := key ⟨m.a, m.i, tlen d m.a, false⟩
 have q0 := key pc0
 simp only [pc0] at q1 q2 q3 q4 q0 ⊢
 omega
theorem Xg {d : Day} {i : Nat} {u : zo} (t : zo) (h : d[i]? = some u) (s : Stop) : (d.set i t).flatten.count s + u.count s = t.count s + d.flatten.count s := by
 obtain ⟨hi, rfl⟩ := List.getElem?_eq_some_iff.1 h
 have e : d = d.take i ++ d[i] :: d.drop (i + 1) := by rw [← List.drop_eq_getElem_cons hi, List.take_append_drop]
 rw [List.set_eq_take_append_cons_drop, if_pos hi]
 conv => rhs; rw [e]
 simp only [List.flatten_append, List.flatten_cons, List.count_append]
 omega
theorem Xh {d : Day} {i : Nat} {u : zo} (t : zo) (h : d[i]? = some u) (x : Inst) : zA x (d.set i t) + zB x (u.map (·.c)) = zB x (t.map (·.c)) + zA x d := by
 obtain ⟨hi, rfl⟩ := List.getElem?_eq_some_iff.1 h
 have e : d = d.take i ++ d[i] :: d.drop (i + 1) := by rw [← List.drop_eq_getElem_cons hi, List.take_append_drop]
 unfold zA
 rw [List.set_eq_take_append_cons_drop, if_pos hi]
 conv => rhs; rw [e]
 simp only [List.map_append, List.map_cons, List.sum_append, List.sum_cons]
 omega
theorem ZaT (d : Day) (m : Mv) : (List.range d.length).map (mkT d m) = (d.set m.b (zT d (zE d m).2)).set m.a (zT d (zE d m).1) := by
 refine List.ext_getElem? fun i => ?_
 by_cases hi : i < d.length
 ·rw [List.getElem?_map, List.getElem?_range hi]
  simp only [Option.map_some, mkT, List.getElem?_set, List.length_set]
  by_cases h1 : i = m.a
  ·rw [if_pos h1, if_pos h1.symm, if_pos (by omega)]
  ·rw [if_neg h1, if_neg (fun e : m.a = i => h1 e.symm)]
   by_cases h2 : i = m.b
   ·rw [if_pos h2, if_pos h2.symm, if_pos (by omega)]
   ·rw [if_neg h2, if_neg (fun e : m.b = i => h2 e.symm), List.getD_eq_getElem?_getD, List.getElem?_eq_getElem hi]; rfl
 ·rw [List.getElem?_eq_none (by simp; omega), List.getElem?_eq_none (by simp; omega)]
theorem Xi (d : Day) (m : Mv) : ∀ l : List Nat, (l.filterMap (qe d m)).flatten = (l.map (mkT d m)).flatten ∧ ∀ x, zA x (l.filterMap (qe d m)) = zA x (l.map (mkT d m))
 | [] => ⟨rfl, fun _ => rfl⟩
 | i :: l => by
  obtain ⟨h1, h2⟩ := Xi d m l
  have e : qe d m i = if (mkT d m i).length = 0 then none else some (mkT d m i) := rfl
  rw [List.filterMap_cons, e, List.map_cons]
  by_cases h : (mkT d m i).length = 0
  ·rw [if_pos h, List.length_eq_zero_iff.1 h]
   refine ⟨by simpa using h1, fun x => ?_⟩
   have := h2 x
   unfold zA at this ⊢
   simpa [zB] using this
  ·rw [if_neg h]
   refine ⟨by simpa using h1, fun x => ?_⟩
   have := h2 x
   unfold zA at this ⊢
   simpa using this
theorem Zhw {d : Day} {m : Mv} {t : zo} (h : t ∈ mkZ d m) : t ≠ [] ∧ (t = zT d (zE d m).1 ∨ t = zT d (zE d m).2 ∨ t ∈ d) := by
 unfold mkZ at h
 obtain ⟨i, hi, h⟩ := List.mem_filterMap.1 h
 unfold qe at h
 split at h
 ·cases h
 ·rename_i h0
  cases h
  refine ⟨fun e => h0 (by rw [e]; rfl), ?_⟩
  unfold mkT
  split
  ·exact .inl rfl
  ·split
   ·exact .inr (.inl rfl)
   ·refine .inr (.inr ?_)
    have hi := List.mem_range.1 hi
    rw [List.getD_eq_getElem?_getD, List.getElem?_eq_getElem hi]
    exact List.getElem_mem hi
theorem Zhx (d : Day) (m : Mv) : (mkZ d m).length ≤ d.length := by
 have := List.length_filterMap_le (qe d m) (List.range d.length)
 simpa [mkZ] using this
theorem ZaU {d : Day} {m : Mv} (h : qP d m = true) : (mkZ d m).flatten.Perm d.flatten := by
 obtain ⟨-, ha, hb, -, -⟩ := uk h
 refine List.perm_iff_count.2 fun s => ?_
 have hc := Zhv h s
 unfold mkZ
 rw [(Xi d m _).1, ZaT]
 obtain ⟨ua, hua⟩ : ∃ u, d[m.a]? = some u := ⟨_, List.getElem?_eq_getElem ha⟩
 obtain ⟨ub, hub⟩ : ∃ u, d[m.b]? = some u := ⟨_, List.getElem?_eq_getElem hb⟩
 have ga : d.getD m.a [] = ua := by rw [List.getD_eq_getElem?_getD, hua]; rfl
 have gb : d.getD m.b [] = ub := by rw [List.getD_eq_getElem?_getD, hub]; rfl
 rw [ga, gb] at hc
 generalize zT d (zE d m).1 = t1 at *
 generalize zT d (zE d m).2 = t2 at *
 by_cases hab : m.a = m.b
 ·rw [if_pos hab, if_pos hab] at hc
  rw [← hab, List.set_set]
  have := Xg t1 hua s
  omega
 ·rw [if_neg hab, if_neg hab] at hc
  have h1 := Xg t2 hub s
  have h2 := Xg (d := d.set m.b t2) (i := m.a) (u := ua) t1 (by rw [List.getElem?_set_ne (fun e => hab e.symm)]; exact hua) s
  omega
theorem Zhy {x : Inst} {d : Day} {m : Mv} (h : qP d m = true) (h0 : arc x 0 0 = 0) : zA x (mkZ d m) = zA x d + byM x d m := by
 obtain ⟨-, ha, hb, r1, r2⟩ := uk h
 unfold mkZ byM ZU
 rw [(Xi d m _).2, ZaT, Xc r1 h0, Xc r2 h0]
 obtain ⟨ua, hua⟩ : ∃ u, d[m.a]? = some u := ⟨_, List.getElem?_eq_getElem ha⟩
 obtain ⟨ub, hub⟩ : ∃ u, d[m.b]? = some u := ⟨_, List.getElem?_eq_getElem hb⟩
 have ga : d.getD m.a [] = ua := by rw [List.getD_eq_getElem?_getD, hua]; rfl
 have gb : d.getD m.b [] = ub := by rw [List.getD_eq_getElem?_getD, hub]; rfl
 rw [ga, gb]
 generalize zT d (zE d m).1 = t1 at *
 generalize zT d (zE d m).2 = t2 at *
 by_cases hab : m.a = m.b
 ·rw [if_pos hab, ← hab, List.set_set]
  have := Xh t1 hua x
  omega
 ·rw [if_neg hab]
  have h1 := Xh t2 hub x
  have h2 := Xh (d := d.set m.b t2) (i := m.a) (u := ua) t1 (by rw [List.getElem?_set_ne (fun e => hab e.symm)]; exact hua) x
  omega
open Go Go.Proofs Hp
theorem Xj (x : Inst) : ∀ (ds : List Day) (st : Day × Int × Bool), (ds.foldl (qz x) st).2.2 = true → ds.foldl (qz x) st = st ∨ (∃ d ∈ ds, zH x d = 0 ∧ ds.foldl (qz x) st = (d, W (zA x d), true))
 | [], st, _ => .inl rfl
 | d :: ds, st, h => by
  rw [List.foldl_cons] at h ⊢
  rcases Xj x ds _ h with e | ⟨d2, h1, h2, h3⟩
  ·rw [e]
   unfold qz
   split
   ·rename_i h0
    split
    ·exact .inr ⟨d, by simp, h0, rfl⟩
    ·exact .inl rfl
   ·exact .inl rfl
  ·exact .inr ⟨d2, by simp [h1], h2, h3⟩
theorem Zhz {x : Inst} {e : Int} {ds : List Day} (h : (qO x e ds).2 = 0) : e = 0 ∧ (qO x e ds).1 ∈ ds ∧ zH x (qO x e ds).1 = 0 := by
 unfold qO at h ⊢
 by_cases he : e = 0
 ·rw [if_pos he] at h ⊢
  cases hz : (jW x ds).2.2 with
  | false => rw [hz] at h; cases h
  | true =>
   refine ⟨he, ?_⟩
   rcases Xj x ds ([], 0, false) hz with q | ⟨d, h1, h2, h3⟩
   ·have : (jW x ds).2.2 = false := by unfold jW; rw [q]
    rw [this] at hz; cases hz
   ·have : jW x ds = (d, W (zA x d), true) := h3
    rw [this]; exact ⟨h1, h2⟩
 ·rw [if_neg he] at h; exact absurd h he
theorem ZhA (x : Inst) : yq (zP x) := by
 refine Zav fun row hr d hd => ?_
 simp only [zP, List.mem_map] at hr
 obtain ⟨a, _, rfl⟩ := hr
 unfold xn at hd
 obtain ⟨b, _, rfl⟩ := List.mem_map.1 hd
 split
 ·have := qM (arc x a b) 0 60 (by omega); omega
 ·omega
open Go Go.Proofs
structure SG (x : Inst) (l : List Stop) (d : Day) : Prop where
 may : ∀ t ∈ d, zr x t = 0
 perm : d.flatten.Perm l
def Qi (x : Inst) (t : zo) : Prop := (∀ s ∈ t, yC x s = true) ∧ (t.map (·.c)).Nodup ∧ t.length ≤ 1000
theorem ZV {x : Inst} {t : zo} (h : zr x t = 0) : (∀ s ∈ t, yC x s = true) ∧ t ≠ [] := by
 have := ((wJ x t).1 h).1
 unfold yg at this
 rw [Bool.and_eq_true, List.all_eq_true] at this
 refine ⟨this.1, fun e => ?_⟩
 subst e
 simp at this
theorem Xk {x : Inst} : ∀ t : zo, (∀ s ∈ t, yC x s = true) → 0 ≤ zu t ∧ zu t ≤ 2147483648 * (t.length : Int)
 | [], _ => by simp [zu]
 | s :: t, h => by
  have h1 := Xk t fun s hs => h s (by simp [hs])
  have h2 := h s (by simp)
  simp [yC] at h2
  unfold zu at h1 ⊢
  simp only [List.map_cons, List.sum_cons, List.length_cons]
  omega
theorem ul {x : Inst} (hx : yq x) {t : zo} (h : Qi x t) (hn : t ≠ []) : zr x t = 0 ↔ zu t ≤ x.cap ∧ zB x (t.map (·.c)) ≤ x.len := by
 obtain ⟨h1, h2, h3⟩ := h
 have b1 := Xk t h1
 have b2 := uj hx (t.map (·.c))
 rw [List.length_map] at b2
 have w1 : W (zu t) = zu t := wr _ (by omega) (by omega)
 have w2 : W (zB x (t.map (·.c))) = zB x (t.map (·.c)) := wr _ (by omega) (by omega)
 rw [wJ, w1, w2]
 have : yg x t = true := by
  unfold yg
  rw [Bool.and_eq_true, List.all_eq_true]
  exact ⟨h1, by cases t <;> simp at hn ⊢⟩
 exact ⟨fun e => e.2.2, fun e => ⟨this, h2, e⟩⟩
theorem SG.each {x : Inst} {l : List Stop} {d : Day} (g : SG x l d) : ∀ s ∈ l, yC x s = true := by
 intro s hs
 obtain ⟨t, ht, hst⟩ := List.mem_flatten.1 (g.perm.symm.subset hs)
 exact (ZV (g.may t ht)).1 s hst
section
variable {x : Inst} {l : List Stop} (h : SOk x l)
include h
theorem SG.len {d : Day} (g : SG x l d) : d.flatten.length ≤ 1000 ∧ d.length ≤ 1000 := by
 have h1 := ZM d fun t ht => (ZV (g.may t ht)).2
 have h2 := g.perm.length_eq
 have h3 := h.len
 omega
theorem SG.tour {d : Day} (g : SG x l d) {e : Day} (he : e.flatten.Perm l) {t : zo} (ht : t ∈ e) : Qi x t := by
 have hs := jZ ht
 have hl := h.len
 refine ⟨fun s q => g.each s (he.subset (hs.subset q)), ?_, ?_⟩
 ·exact ((he.map _).nodup_iff.2 h.nd).sublist (hs.map _)
 ·have := hs.length_le
  have := he.length_eq
  omega
theorem SG.mv {d : Day} (g : SG x l d) : MvDay d := by
 refine ⟨(g.len h).2, fun t ht => (g.tour h g.perm ht).2.2, fun t ht s hs => ?_⟩
 have := (g.tour h g.perm ht).1 s hs
 have hc := h.cust
 simp [yC] at this
 unfold small
 omega
theorem SG.ok {d : Day} (g : SG x l d) : DayOk d := by
 have h1 := g.len h
 have h2 := g.mv h
 exact ⟨by omega, fun t ht => Nat.le_trans (h2.t t ht) (by decide), fun t ht s hs => (h2.s t ht s hs).1⟩
end
theorem ZaV {x : Inst} {d : Day} {r : Rw5} (hr : j8 d r) (h0 : arc x 0 0 = 0) : jp x d r ↔ zu (zT d r) ≤ x.cap ∧ zB x ((zT d r).map (·.c)) ≤ x.len := by
 unfold jp
 rw [Xc hr h0, Zhm hr]
theorem ZhB {d : Day} {m : Mv} (h : qP d m = true) (hab : m.a = m.b) : zT d (zE d m).2 = [] := by
 have e0 : zT d rw0 = [] := rfl
 unfold qP at h
 rw [Bool.and_eq_true] at h
 obtain ⟨-, h2⟩ := h
 unfold jz at h2
 unfold zE qA
 by_cases k0 : m.k = 0
 ·rw [if_pos k0]; exact e0
 rw [if_neg k0] at h2 ⊢
 by_cases k1 : m.k = 1
 ·rw [if_pos k1, if_neg (by simp [hab])]
  split <;> exact e0
 rw [if_neg k1] at h2 ⊢
 by_cases k2 : m.k = 2
 ·rw [if_pos k2, if_pos hab]; exact e0
 rw [if_neg k2] at h2
 have h2 := of_decide_eq_true h2
 omega
theorem ZhC {d : Day} {m : Mv} (h : qP d m = true) (hn : zT d (zE d m).1 ≠ []) : zT d (zE d m).1 ∈ mkZ d m := by
 obtain ⟨-, ha, -⟩ := uk h
 refine List.mem_filterMap.2 ⟨m.a, List.mem_range.2 ha, ?_⟩
 have e : mkT d m m.a = zT d (zE d m).1 := by unfold mkT; rw [if_pos rfl]
 unfold qe
 rw [e, if_neg fun q => hn (List.length_eq_zero_iff.1 q)]
theorem ZhD {d : Day} {m : Mv} (h : qP d m = true) (hab : m.a ≠ m.b) (hn : zT d (zE d m).2 ≠ []) : zT d (zE d m).2 ∈ mkZ d m := by
 obtain ⟨-, -, hb, -⟩ := uk h
 refine List.mem_filterMap.2 ⟨m.b, List.mem_range.2 hb, ?_⟩
 have e : mkT d m m.b = zT d (zE d m).2 := by unfold mkT; rw [if_neg fun q => hab q.symm, if_pos rfl]
 unfold qe
 rw [e, if_neg fun q => hn (List.length_eq_zero_iff.1 q)]
theorem ZhE {x : Inst} {l : List Stop} (h : SOk x l) (h0 : arc x 0 0 = 0) {d : Day} (g : SG x l d) {m : Mv} (hm : qP d m = true) : (jp x d (zE d m).1 ∧ jp x d (zE d m).2) ↔ ∀ t ∈ mkZ d m, zr x t = 0 := by
 obtain ⟨-, ha, hb, r1, r2⟩ := uk hm
 have hp : (mkZ d m).flatten.Perm l := (ZaU hm).trans g.perm
 rw [ZaV r1 h0, ZaV r2 h0]
 have hz : 0 ≤ x.cap ∧ 0 ≤ x.len := by
  have ht := g.may _ (List.getElem_mem ha)
  have hg := g.tour h g.perm (List.getElem_mem ha)
  have := (ul h.arc hg (ZV ht).2).1 ht
  have b1 := Xk _ hg.1
  have b2 := uj h.arc (d[m.a].map (·.c))
  omega
 have e0 : zu [] = 0 ∧ zB x (([] : zo).map (·.c)) = 0 := ⟨rfl, rfl⟩
 constructor
 ·rintro ⟨q1, q2⟩ t ht
  obtain ⟨hn, h3⟩ := Zhw ht
  have hg := g.tour h hp ht
  rcases h3 with rfl | rfl | h3
  ·exact (ul h.arc hg hn).2 q1
  ·exact (ul h.arc hg hn).2 q2
  ·exact g.may t h3
 ·intro hall
  constructor
  ·by_cases hn : zT d (zE d m).1 = []
   ·rw [hn, e0.1, e0.2]; exact hz
   ·have ht := ZhC hm hn
    exact (ul h.arc (g.tour h hp ht) hn).1 (hall _ ht)
  ·by_cases hn : zT d (zE d m).2 = []
   ·rw [hn, e0.1, e0.2]; exact hz
   ·by_cases hab : m.a = m.b
    ·exact absurd (ZhB hm hab) hn
    ·have ht := ZhD hm hab hn
     exact (ul h.arc (g.tour h hp ht) hn).1 (hall _ ht)
theorem ZaW (x : Inst) (d : Day) : ∀ (ms : List Mv) (st : Mv × Int), (ms.foldl (mbS x d) st = st) ∨ (∃ m ∈ ms, (ms.foldl (mbS x d) st) = (m, byM x d m) ∧ jp x d (zE d m).1 ∧ jp x d (zE d m).2)
 | [], st => .inl rfl
 | m :: ms, st => by
  rw [List.foldl_cons]
  rcases ZaW x d ms (mbS x d st m) with e | ⟨m2, h1, h2, h3⟩
  ·rw [e]
   unfold mbS
   split
   ·rename_i hc
    exact .inr ⟨m, by simp, rfl, hc.2⟩
   ·exact .inl rfl
  ·exact .inr ⟨m2, by simp [h1], h2, h3⟩
def j9 (x : Inst) (d : Day) : Option Day := if (mbZ x d).2 < 0 then some (mkZ d (mbZ x d).1) else none
theorem ZaX {x : Inst} {d : Day} (hb : (mbZ x d).2 < 0) : (mbZ x d).1 ∈ wg d ∧ byM x d (mbZ x d).1 < 0 ∧ jp x d (zE d (mbZ x d).1).1 ∧ jp x d (zE d (mbZ x d).1).2 := by
 rcases ZaW x d (wg d) (mv0, 0) with e | ⟨m, h1, h2, h3⟩
 ·unfold mbZ at hb; rw [e] at hb; cases hb
 ·unfold mbZ at hb ⊢
  rw [h2] at hb ⊢
  exact ⟨h1, hb, h3⟩
theorem ZaY {x : Inst} {l : List Stop} (h : SOk x l) (h0 : arc x 0 0 = 0) {d e : Day} (g : SG x l d) (hs : j9 x d = some e) : SG x l e ∧ zA x e < zA x d ∧ e.length ≤ d.length := by
 unfold j9 at hs
 split at hs
 ·rename_i hb
  cases hs
  obtain ⟨h1, h2, h3⟩ := ZaX hb
  have hm := (Xe h1).1
  refine ⟨⟨(ZhE h h0 g hm).1 h3, (ZaU hm).trans g.perm⟩, ?_, Zhx _ _⟩
  rw [Zhy hm h0]; omega
 ·cases hs
theorem ZhF {x : Inst} {l : List Stop} (h : SOk x l) (h0 : arc x 0 0 = 0) : Zay x (j9 x) (SG x l) := by
 intro d g
 have hv := g.mv h
 have hl : ∀ a, tlen d a ≤ 1000 := by
  intro a
  unfold tlen
  rw [List.getD_eq_getElem?_getD]
  cases hq : d[a]? with
  | none => simp
  | some l => exact hv.t l (List.mem_of_getElem? hq)
 have hd1 : (j9 x d).isSome = decide ((mbZ x d).2 < 0) := by
  unfold j9
  split
  ·rename_i q; simp [q]
  ·rename_i q; simp [q]
 refine ⟨_, _, _, _, _, _, by rw [hd1]; exact Zhs x d h.arc hv, fun e he => ⟨?_, (ZaY h h0 g he).1⟩⟩
 unfold j9 at he
 split at he
 ·rename_i hb
  cases he
  obtain ⟨h1, -, -⟩ := ZaX hb
  obtain ⟨h1, h2, h3⟩ := Xe h1
  have := hl (mbZ x d).1.a
  have := hl (mbZ x d).1.b
  exact Zht x d _ hv.n hv.t h1 (by omega) (by omega)
 ·cases he
theorem Xl {x : Inst} {l : List Stop} (h : SOk x l) (h0 : arc x 0 0 = 0) : ∀ (n : Nat) (d : Day), SG x l d → SG x l (jn (j9 x) n d) ∧ zA x (jn (j9 x) n d) ≤ zA x d ∧ (jn (j9 x) n d).length ≤ d.length
 | 0, d, g => ⟨g, Int.le_refl _, Nat.le_refl _⟩
 | n + 1, d, g => by
  unfold jn
  cases hs : j9 x d with
  | none => exact ⟨g, Int.le_refl _, Nat.le_refl _⟩
  | some e =>
   obtain ⟨a, b, c⟩ := ZaY h h0 g hs
   obtain ⟨a', b', c'⟩ := Xl h h0 n e a
   exact ⟨a', by simp only; omega, by simp only; omega⟩
open Go Go.Proofs Hp
theorem ZaZ {x : Inst} {l : List Stop} (h : qy x l = 0) : ∀ s ∈ l, zr x [s] = 0 := by
 unfold qy at h
 intro s hs
 cases hf : l.find? (fun s => zr x [s] != 0) with
 | some s2 =>
  have := List.find?_some hf
  rw [hf] at h
  simp only at h
  rw [h] at this; simp at this
 | none =>
  have := List.find?_eq_none.1 hf s hs
  simpa using this
theorem ZhG {x : Inst} {l : List Stop} (h : SOk x l) (hf : qy x l = 0) : ∀ t ∈ ji x l, zr x t = 0 := by
 have key : ∀ (ps : List Pr) (st : Day × Int), (∀ t ∈ st.1, t.length ≤ 1 ∨ zr x t = 0) → ∀ t ∈ (ps.foldl (yE x) st).1, t.length ≤ 1 ∨ zr x t = 0 := by
  intro ps
  induction ps with
  | nil => intro st h; exact h
  | cons p ps ih =>
   intro st hst
   rw [List.foldl_cons]
   refine ih _ fun t ht => ?_
   unfold yE uP at ht
   generalize xp st.1 p.a = i at ht
   generalize xp st.1 p.b = k at ht
   generalize st.1.getD i [] = a at ht
   generalize st.1.getD k [] = b at ht
   cases hc : yh x st.2 p i k a b with
   | false => rw [hc] at ht; exact hst t ht
   | true =>
    rw [hc] at ht
    simp only [cond_true] at ht
    unfold yh at hc
    simp only [Bool.and_eq_true, decide_eq_true_eq] at hc
    rcases List.mem_or_eq_of_mem_set ht with ht | ht
    ·rcases List.mem_or_eq_of_mem_set ht with ht | ht
     ·exact hst t ht
     ·rw [ht]; exact .inr hc.2
    ·rw [ht]; exact .inl (by simp)
 intro t ht
 obtain ⟨-, hp, -, hne⟩ := h.join
 have hs := jZ ht
 have h1 := key (yG x (l.map fun s : Stop => s.c)) (l.map fun s => [s], (l.length : Int)) (fun t ht => by obtain ⟨s, _, rfl⟩ := List.mem_map.1 ht; simp) t (List.mem_filter.1 ht).1
 rcases h1 with h1 | h1
 ·have := hne t ht
  match t, h1, this with
  | [s], _, _ => exact ZaZ hf s (hp.subset (hs.subset (by simp)))
 ·exact h1
theorem Xm {x : Inst} {l : List Stop} (h : SOk x l) (hf : qy x l = 0) : ∀ d ∈ wO x l, SG x l d := by
 intro d hd
 unfold wO at hd
 simp only [List.cons_append, List.nil_append, List.mem_cons] at hd
 rcases hd with rfl | rfl | hd
 ·exact ⟨ZhG h hf, h.join.2.1⟩
 ·refine ⟨fun t ht => ?_, by rw [h.apart.2.1]⟩
  obtain ⟨s, hs, rfl⟩ := List.mem_map.1 ht
  exact ZaZ hf s hs
 ·cases hall : (yM x l).2 with
  | false => rw [hall] at hd; simp at hd
  | true =>
   rw [hall] at hd
   simp at hd; subst hd
   obtain ⟨r, hp⟩ := h.regret
   exact ⟨((jm x _).1 r.may).1, hp hall⟩
def Qj (x : Inst) (b : Int) (d : Day) : Day := jn (j9 x) b.toNat d
def qZ (x : Inst) (b : Int) (l : List Stop) : Day × Int := qO x (qy x l) (xK x (Qj x b) l)
theorem ZhH {x : Inst} {l : List Stop} (h : SOk x l) (h0 : arc x 0 0 = 0) (hf : qy x l = 0) {b : Int} (hb : b ≤ 9223372036854775807) : ZaH x b (Qj x b) (wO x l) := by
 intro d hd
 have g := Xm h hf d hd
 obtain ⟨g2, -, -⟩ := Xl h h0 b.toNat d g
 have o := g.ok h
 refine ⟨⟨_, ZgQ x d b (j9 x) (SG x l) hb o.n o.t (fun _ => g) (ZhF h h0)⟩, g2.ok h, ?_⟩
 have := (g2.len h).1
 show (jn (j9 x) b.toNat d).flatten.length ≤ 1048576
 omega
theorem ZhI {x : Inst} {l : List Stop} (h : SOk x l) (h0 : arc x 0 0 = 0) {b : Int} (hb : b ≤ 9223372036854775807) : Pure Tryz.prog 130 [.agg (zp x), L l, I b] (.tup [.agg [L (qZ x b l).1], I (qZ x b l).2]) :=
 Zhd x l b _ h fun hf => ZhH h h0 hf hb
theorem ZhJ {x : Inst} {l : List Stop} (h : SOk x l) (h0 : arc x 0 0 = 0) (hf : qy x l = 0) (b : Int) : ∀ d ∈ xK x (Qj x b) l, SG x l d := by
 have hb := Xm h hf
 have hi := fun d g => (Xl h h0 b.toNat d g).1
 intro d hd
 unfold xK at hd
 unfold wO at hb
 simp only [List.cons_append, List.nil_append, List.mem_cons] at hd hb
 rcases hd with rfl | rfl | rfl | hd
 ·exact hb _ (.inr (.inl rfl))
 ·exact hi _ (hb _ (.inl rfl))
 ·exact hi _ (hb _ (.inr (.inl rfl)))
 ·cases hall : (yM x l).2 with
  | false => rw [hall] at hd; simp at hd
  | true =>
   rw [hall] at hd
   simp at hd; subst hd
   exact hi _ (hb _ (.inr (.inr (by rw [hall]; simp))))
theorem Za0 (x : Inst) : ∀ (ds : List Day) (st : Day × Int × Bool), (st.2.2 = true → (ds.foldl (qz x) st).2.2 = true ∧ (ds.foldl (qz x) st).2.1 ≤ st.2.1) ∧ ∀ d ∈ ds, zH x d = 0 → (ds.foldl (qz x) st).2.2 = true ∧ (ds.foldl (qz x) st).2.1 ≤ W (zA x d)
 | [], st => ⟨fun e => ⟨e, Int.le_refl _⟩, by simp⟩
 | d :: ds, st => by
  rw [List.foldl_cons]
  obtain ⟨h1, h2⟩ := Za0 x ds (qz x st d)
  constructor
  ·intro e
   have : (qz x st d).2.2 = true ∧ (qz x st d).2.1 ≤ st.2.1 := by
    unfold qz
    split
    ·split
     ·rename_i hc
      rcases hc with hc | hc
      ·rw [e] at hc; cases hc
      ·exact ⟨rfl, Int.le_of_lt hc⟩
     ·exact ⟨e, Int.le_refl _⟩
    ·exact ⟨e, Int.le_refl _⟩
   obtain ⟨a, b⟩ := h1 this.1
   exact ⟨a, Int.le_trans b this.2⟩
  ·intro d2 hd hz
   rcases List.mem_cons.1 hd with rfl | hd
   ·have : (qz x st d2).2.2 = true ∧ (qz x st d2).2.1 ≤ W (zA x d2) := by
     unfold qz
     rw [if_pos hz]
     split
     ·exact ⟨rfl, Int.le_refl _⟩
     ·rename_i hc
      cases hq : st.2.2 with
      | false => exact absurd (.inl hq) hc
      | true => exact ⟨rfl, Int.not_lt.1 fun q => hc (.inr q)⟩
    obtain ⟨a, b⟩ := h1 this.1
    exact ⟨a, Int.le_trans b this.2⟩
   ·exact h2 d2 hd hz
theorem Za1 {x : Inst} {e : Int} {ds : List Day} (he : e = 0) {d : Day} (hd : d ∈ ds) (hz : zH x d = 0) : (qO x e ds).2 = 0 ∧ W (zA x (qO x e ds).1) ≤ W (zA x d) := by
 obtain ⟨h1, h2⟩ := (Za0 x ds ([], 0, false)).2 d hd hz
 change (jW x ds).2.2 = true at h1
 change (jW x ds).2.1 ≤ W (zA x d) at h2
 unfold qO
 rw [if_pos he, h1]
 refine ⟨rfl, ?_⟩
 rcases Xj x ds ([], 0, false) h1 with q | ⟨d2, g1, g2, g3⟩
 ·have : (jW x ds).2.2 = false := by unfold jW; rw [q]
  rw [this] at h1; cases h1
 ·have : jW x ds = (d2, W (zA x d2), true) := g3
  rw [this] at h2 ⊢; exact h2
theorem ZhK {x : Inst} {e : Int} {ds : List Day} (h : (qO x e ds).2 ≠ 0) : (qO x e ds).1 = [] := by
 unfold qO at h ⊢
 by_cases he : e = 0
 ·rw [if_pos he] at h ⊢
  cases hz : (jW x ds).2.2 with
  | true => rw [hz] at h; exact absurd rfl h
  | false => rfl
 ·rw [if_neg he]
theorem Za2 (x : Inst) (imp : Day → Day) (l : List Stop) : yp l ∈ xK x imp l := by simp [xK]
section
variable {x : Inst} {l : List Stop} (h : SOk x l) (h0 : arc x 0 0 = 0) (b : Int)
include h h0
theorem ZhL (he : (qZ x b l).2 = 0) : qy x l = 0 ∧ zH x (qZ x b l).1 = 0 ∧ (qZ x b l).1.flatten.Perm l ∧ (zH x (yp l) = 0 → W (zA x (qZ x b l).1) ≤ W (zA x (yp l))) := by
 obtain ⟨hf, hm, hz⟩ := Zhz he
 have g := ZhJ h h0 hf b _ hm
 exact ⟨hf, hz, g.perm, fun q => (Za1 hf (Za2 x _ l) q).2⟩
omit h0 in
theorem ZhM (he : (qZ x b l).2 ≠ 0) : (qZ x b l).1 = [] ∧ (qy x l ≠ 0 ∨ x.veh < l.length) := by
 refine ⟨ZhK he, ?_⟩
 by_cases hf : qy x l = 0
 ·refine .inr ?_
  by_cases hv : x.veh < l.length
  ·exact hv
  ·refine absurd (Za1 hf (Za2 x (Qj x b) l) ?_).1 he
   have g := Xm h hf (yp l) (by simp [wO])
   refine (jm x _).2 ⟨g.may, by rw [h.apart.2.1]; exact h.nd, ?_⟩
   rw [J8]; omega
 ·exact .inl hf
end
open Go
structure Visit where
 d : Int
 q : Int
 deriving DecidableEq
instance : Inhabited Visit := ⟨⟨0, 0⟩⟩
instance : Enc Visit := ⟨fun s => [I s.d, I s.q], 2, fun _ => rfl, fun _ => rfl⟩
@[simp] theorem ZlT (s : Visit) : Enc.enc s = [I s.d, I s.q] := rfl
@[simp high] theorem ZlU (l : List Visit) : (l.flatMap Enc.enc).length = l.length * 2 := jf l
@[simp high] theorem ZlV (l : List Visit) : (l.flatMap Enc.enc).take (l.length * 2) = l.flatMap Enc.enc := vf l
def told : Nat → List Day → List (Stop × Nat)
 | _, [] => []
 | i, d :: ds => d.flatten.map (·, i) ++ told (i + 1) ds
open Go
def yI (c : Int) (l : List (Stop × Nat)) : List Visit := (l.filter fun x => decide (x.1.c = c)).map fun x => ⟨x.2, x.1.q⟩
theorem Qk (c : Int) (l m : List (Stop × Nat)) : yI c (l ++ m) = yI c l ++ yI c m := by simp [yI]
theorem Ql (c : Int) (x : Stop × Nat) : yI c [x] = if x.1.c = c then [⟨x.2, x.1.q⟩] else [] := by
 by_cases h : x.1.c = c <;> simp [yI, h]
theorem Za3 (c : Int) (l : List (Stop × Nat)) : (yI c l).length ≤ l.length := by
 simp only [yI, List.length_map]; exact List.length_filter_le _ _
structure PlanOk (p : zQ) : Prop where
 n : p.length ≤ 1048576
 d : ∀ d ∈ p, d.length ≤ 1048576
 t : ∀ d ∈ p, ∀ t ∈ d, t.length ≤ 1048576
 told : (told 0 p).length ≤ 1048576
open Go
def vu (n : Nat) (d : Int) : Nat := if 0 ≤ d ∧ d < 64 then n ||| 2 ^ d.toNat else n
theorem ZhN (n : Nat) (d : Int) (hn : n < 2 ^ 64) : vu n d < 2 ^ 64 := by
 unfold vu; split
 ·exact Nat.or_lt_two_pow hn (Nat.pow_lt_pow_right (by decide) (by omega))
 ·exact hn
def ofD (l : List Int) : Nat := l.foldl vu 0
theorem ZhO (l : List Int) : ofD l < 2 ^ 64 := by
 have : ∀ (l : List Int) (n : Nat), n < 2 ^ 64 → l.foldl vu n < 2 ^ 64 := by
  intro l; induction l with
  | nil => intro n h; exact h
  | cons d l ih => intro n h; exact ih _ (ZhN n d h)
 exact this l 0 (by decide)
set_option maxRecDepth 20000 in
theorem Za4 (d : Int) : Pure Tryz.prog 210 [I d] (B (decide (0 ≤ d ∧ d < 64))) := by
 refine pwe Tryz.func210 Tryz.ntmps210 Tryz.results210 fun S nx hd => ?_
 (repeat apply za); refine pwn ?_; intros
 by_cases h1 : 0 ≤ d
 ·repeat apply za
  refine pwN [(2, 5)] h1 ?_
  intros
  repeat apply za
  exact zb (zg hd (by simp; rfl) (by simp [h1, zi]))
 ·repeat apply za
  refine pwN [(2, 5)] (jn2 h1 zn) ?_
  intros
  repeat apply za
  exact zb (zg hd (by simp; rfl) (by simp [h1, zi]))
open Go
structure CustFits (c : Cust) : Prop where
 rate : 0 ≤ c.rate ∧ c.rate ≤ 2147483648
 size : 0 ≤ c.size ∧ c.size ≤ 2147483648
 start : 0 ≤ c.start ∧ c.start ≤ 2147483648
def wQ (q : Int) : Bool := decide (q < 0 ∨ 2147483648 < q)
def qJ (size rate : Int) : Int → List Int → Option (List Int)
 | _, [] => some []
 | there, q :: l => if size < there + q ∨ there + q < rate then none else (qJ size rate (there + q - rate) l).map ((there + q - rate) :: ·)
def qK (c : Cust) (q : List Int) : List Int × Int :=
 if q.any wQ then ([], 1) else match qJ c.size c.rate c.start q with
 | none => ([], 8)
 | some l => (l, 0)
theorem ZhP {size rate there q : Int} {l : List Int} {out : List Int} {r : Option (List Int)} (h : r = (qJ size rate there (q :: l)).map (out ++ ·)) (hs : ¬ size < there + q) (hr : ¬ there + q < rate) :
  r = (qJ size rate (there + q - rate) l).map ((out ++ [there + q - rate]) ++ ·) := by
 rw [h]
 simp only [qJ, hs, hr, or_self, if_false, Option.map_map]
 congr 1
 funext x
 simp
open Go
def um (rate size : Int) : List Int → List Int → Bool
 | z :: q, n :: l => decide (0 < z ∧ n + rate ≠ size) || um rate size q l
 | _, _ => false
def u9 (c : Cust) (q : List Int) : Int :=
 if (qK c q).2 ≠ 0 then (qK c q).2 else if c.rule ≠ 1 then 0 else if um c.rate c.size q (qK c q).1 then 9 else 0
def Za5 (c : Cust) (ns : List Int) : Int := W (c.hold * W ns.sum)
theorem Qm (l : List Int) (x : Int) : (l ++ [x]).sum = l.sum + x := by simp
def wR (a b : Int) : Int := if a + b < -9223372036854775808 then -9223372036854775808 else if 9223372036854775807 < a + b then 9223372036854775807 else a + b
set_option maxRecDepth 20000 in
theorem ZhQ (a b : Int) (ha : I64 a) (hb : I64 b) : Pure Tryz.prog 243 [I a, I b] (if -9223372036854775808 ≤ a + b ∧ a + b ≤ 9223372036854775807 then .tup [I (a + b), B true] else .tup [I 0, B false]) := by
 unfold I64 at ha hb
 refine pwe Tryz.func243 Tryz.ntmps243 Tryz.results243 fun S nx hd => ?_
 (repeat apply za); refine pwn ?_; intros
 by_cases h : -9223372036854775808 ≤ a + b ∧ a + b ≤ 9223372036854775807
 ·have w1 : IntKind.i64.wrap (a + b) = a + b := wr _ h.1 h.2
  repeat apply za
  refine pwN [] w1 ?_
  intros
  by_cases h1 : b < 0
  ·have h2 : a + b < a := by omega
   repeat apply za
   refine pwN [] (jn2 h1 h2) ?_
   intros
   repeat apply za
   refine zj (by simp) ?_
   refine zd ?_
   (repeat apply za); refine pwn ?_; intros
   repeat apply za
   exact zb (zg hd (by simp; rfl) (by simp [h, zi]))
  ·have h2 : ¬ a + b < a := by omega
   repeat apply za
   refine pwN [] (jn2 h1 h2) ?_
   intros
   repeat apply za
   refine zj (by simp) ?_
   refine zd ?_
   (repeat apply za); refine pwn ?_; intros
   repeat apply za
   exact zb (zg hd (by simp; rfl) (by simp [h, zi]))
 ·by_cases h0 : a + b < -9223372036854775808
  ·have w1 : IntKind.i64.wrap (a + b) = a + b + 18446744073709551616 := by rw [IntKind.wrap_i64]; omega
   have h1 : b < 0 := by omega
   have h2 : ¬ a + b + 18446744073709551616 < a := by omega
   repeat apply za
   refine pwN [] w1 ?_
   intros
   repeat apply za
   refine pwN [] (jn2 h1 h2) ?_
   intros
   repeat apply za
   refine zh (by simp) ?_
   (repeat apply za); refine pwn ?_; intros
   repeat apply za
   exact zb (zg hd (by simp; rfl) (by simp only [h, if_false]; rfl))
  ·have w1 : IntKind.i64.wrap (a + b) = a + b - 18446744073709551616 := by rw [IntKind.wrap_i64]; omega
   have h1 : ¬ b < 0 := by omega
   have h2 : a + b - 18446744073709551616 < a := by omega
   repeat apply za
   refine pwN [] w1 ?_
   intros
   repeat apply za
   refine pwN [] (jn2 h1 h2) ?_
   intros
   repeat apply za
   refine zh (by simp) ?_
   (repeat apply za); refine pwn ?_; intros
   repeat apply za
   exact zb (zg hd (by simp; rfl) (by simp only [h, if_false]; rfl))
set_option maxRecDepth 20000 in
theorem ZhR (a b : Int) (ha : I64 a) (hb : I64 b) : Pure Tryz.prog 209 [I a, I b] (I (wR a b)) := by
 have hadd := ZhQ a b ha hb
 unfold I64 at ha hb
 refine pwe Tryz.func209 Tryz.ntmps209 Tryz.results209 fun S nx hd => ?_
 (repeat apply za); refine pwn ?_; intros
 by_cases h : -9223372036854775808 ≤ a + b ∧ a + b ≤ 9223372036854775807
 ·rw [if_pos h] at hadd
  repeat apply za
  refine pwn ?_
  refine pwc hadd ?_
  intros
  repeat apply za
  refine ze ?_
  (repeat apply za); refine pwn ?_; intros
  repeat apply za
  refine zh rfl ?_
  (repeat apply za); refine pwn ?_; intros
  repeat apply za
  exact zb (zg hd (by simp; rfl) (by simp only [wR, zi]; rw [if_neg (by omega), if_neg (by omega)]))
 ·rw [if_neg h] at hadd
  repeat apply za
  refine pwn ?_
  refine pwc hadd ?_
  intros
  repeat apply za
  refine ze ?_
  (repeat apply za); refine pwn ?_; intros
  repeat apply za
  refine zj rfl ?_
  (repeat apply za); refine pwn ?_; intros
  repeat apply za
  refine zl rfl (fun h1 => ?_) (fun h1 => ?_)
  ·simp at h1
   (repeat apply za); refine pwn ?_; intros
   repeat apply za
   exact zb (zg hd (by simp; rfl) (by simp only [wR, zi]; rw [if_pos (by omega)]))
  ·simp at h1
   refine zd ?_
   (repeat apply za); refine pwn ?_; intros
   repeat apply za
   exact zb (zg hd (by simp; rfl) (by simp only [wR, zi]; rw [if_neg (by omega), if_pos (by omega)]))
def wh (v : List Visit) (n : Int) : List Int := (List.range (min (max n 0) 64).toNat).map fun (d : Nat) => ((v.filter fun s => decide (s.d = (d : Int))).map (·.q)).sum
theorem Za6 (v : List Visit) (n : Int) : (wh v n).length = (min (max n 0) 64).toNat := by simp [wh]
structure VisOk (v : List Visit) : Prop where
 n : v.length ≤ 1048576
 q : ∀ s ∈ v, 0 ≤ s.q ∧ s.q ≤ 2147483648
 d : ∀ s ∈ v, I64 s.d
theorem ZhS (v : List Visit) (p : Visit → Bool) (h : ∀ s ∈ v, 0 ≤ s.q ∧ s.q ≤ 2147483648) : 0 ≤ ((v.filter p).map (·.q)).sum ∧ ((v.filter p).map (·.q)).sum ≤ 2147483648 * v.length := by
 induction v with
 | nil => simp
 | cons s v ih =>
  have h1 := ih fun x hx => h x (by simp [hx])
  have h2 := h s (by simp)
  rw [List.filter_cons]
  split
  ·simp only [List.map_cons, List.sum_cons, List.length_cons]; omega
  ·simp only [List.length_cons]; omega
open Go
def zO (n : Nat) : List Int := if h : n = 0 then [] else ((n % 65536 : Nat) : Int) :: zO (n / 65536)
termination_by n
decreasing_by omega
theorem vw : zO 0 = [] := by rw [zO]; simp
theorem vx {n : Nat} (h : n ≠ 0) : zO n = ((n % 65536 : Nat) : Int) :: zO (n / 65536) := by rw [zO]; simp [h]
def zG : List Int → Int
 | [] => 0
 | d :: l => d + 65536 * zG l
def q8 (l : List Int) : Prop := ∀ d ∈ l, 0 ≤ d ∧ d < 65536
def un : List Int → Prop
 | [] => True
 | [d] => d ≠ 0
 | _ :: e :: l => un (e :: l)
theorem vy : ∀ n : Nat, q8 (zO n) ∧ zG (zO n) = n ∧ un (zO n) ∧ (n < 65536 ^ 4 → (zO n).length ≤ 4) := by
 intro n
 induction n using Nat.strongRecOn with
 | _ n ih =>
  by_cases h : n = 0
  ·subst h; rw [vw]; exact ⟨fun d hd => (nomatch hd), rfl, trivial, by simp⟩
  ·obtain ⟨h1, h2, h3, _⟩ := ih (n / 65536) (by omega)
   rw [vx h]
   refine ⟨?_, ?_, ?_, ?_⟩
   ·intro d hd
    rcases List.mem_cons.1 hd with rfl | hd
    ·omega
    ·exact h1 d hd
   ·simp only [zG, h2]; omega
   ·cases hl : zO (n / 65536) with
    | nil =>
     rw [hl] at h2
     simp only [zG] at h2
     simp only [un]; omega
    | cons e l => rw [hl] at h3; exact h3
   ·intro hlt
    have : ∀ m : Nat, ∀ k : Nat, m < 65536 ^ k → (zO m).length ≤ k := by
     intro m k
     induction k generalizing m with
     | zero => intro hm; simp at hm; subst hm; rw [vw]; simp
     | succ k ihk =>
      intro hm
      by_cases h0 : m = 0
      ·subst h0; rw [vw]; simp
      ·rw [vx h0]
       have := ihk (m / 65536) (by rw [Nat.pow_succ] at hm; exact Nat.div_lt_of_lt_mul (by rw [Nat.mul_comm]; exact hm))
       simp; exact this
    have := this n 4 hlt
    rw [vx h] at this
    exact this
theorem Xn {l : List Int} (h : q8 l) : 0 ≤ zG l := by
 induction l with
 | nil => simp [zG]
 | cons d l ih =>
  have h1 := h d (by simp)
  have h2 := ih fun x hx => h x (by simp [hx])
  simp only [zG]; omega
theorem Qn (a b : List Int) : zG (a ++ b) = zG a + 65536 ^ a.length * zG b := by
 induction a with
 | nil => simp [zG]
 | cons d a ih => simp only [List.cons_append, zG, ih, List.length_cons, Int.pow_succ]; rw [Int.mul_add, Int.mul_comm (65536 ^ a.length) 65536, Int.mul_assoc]; omega
theorem ZhT : ∀ {l : List Int}, q8 l → un l → l = zO (zG l).toNat := by
 intro l
 induction l with
 | nil => intro _ _; simp only [zG]; exact vw.symm
 | cons d l ih =>
  intro h ht
  have h1 := h d (by simp)
  have hl : q8 l := fun x hx => h x (by simp [hx])
  have h2 := Xn hl
  cases l with
  | nil =>
   simp only [un] at ht
   simp only [zG]
   rw [vx (by omega)]
   have e1 : (d + 65536 * 0).toNat / 65536 = 0 := by omega
   rw [e1, vw]
   congr 1; omega
  | cons e l =>
   have := ih hl ht
   have hpos : zG (e :: l) ≠ 0 := by
    intro h0
    rw [h0] at this
    rw [show (0 : Int).toNat = 0 from rfl, vw] at this
    cases this
   have ev : zG (d :: e :: l) = d + 65536 * zG (e :: l) := rfl
   rw [ev, vx (by omega)]
   have e1 : (d + 65536 * zG (e :: l)).toNat / 65536 = (zG (e :: l)).toNat := by omega
   rw [e1, ← this]
   congr 1; omega
set_option maxRecDepth 20000 in
theorem Qo (n : Int) (hn : I64 n) : Pure Tryz.prog 137 [I n] (.agg [L (zO n.natAbs), B (decide (n < 0))]) := by
 unfold I64 at hn
 have hd4 := (vy n.natAbs).2.2.2 (by rw [show (65536 : Nat) ^ 4 = 18446744073709551616 from by decide]; omega)
 refine pwe Tryz.func137 Tryz.ntmps137 Tryz.results137 fun S nx hd => ?_
 repeat apply za
 refine pwn ?_
 intro v0
 repeat apply za
 refine pwn ?_
 intro v1
 (repeat apply za); refine pwn ?_; intros
 refine za (qa 1 0 3 1 rfl rfl fun v2 => ?_)
 repeat apply za
 refine ze (zq (fun s : Int × List Int × Nat => zO n.natAbs = s.2.1 ++ zO s.1.natAbs ∧ (-9223372036854775808 ≤ s.1 ∧ s.1 ≤ 9223372036854775807)) (fun (m, out, v2) => [(0, I m), (2, .ptr nx v0 0), (3, .ptr (nx + 1) v1 0)])
  (fun (m, out, v2) => [.cells v0 178 [.sc (.slice none 0 0), B false], .cells v1 178 [.sl (nx + 2) v2 1 0 out.length, B (decide (n < 0))], .cells v2 3 (out.flatMap Enc.enc)]) (fun s => s.1.natAbs) (n, [], v2) [] (by simp; exact hn) (by simp) (by simp) ?_)
 rintro ⟨m, out, v2⟩ ⟨ho, hm⟩
 simp only at ho hm ⊢
 by_cases h0 : m = 0
 ·subst h0
  rw [show (0 : Int).natAbs = 0 from rfl, vw, List.append_nil] at ho
  (repeat apply za); refine pwn ?_; intros
  repeat apply za
  refine zj rfl ?_
  refine zm ?_
  (repeat apply za); refine pwn ?_; intros
  refine zC 2 rfl ?_
  repeat apply za
  exact zb (zg hd (by simp; rfl) (by rw [ho]; simp [zi]))
 ·repeat apply za
  refine pwN [] h0 ?_
  intros
  repeat apply za
  refine zh (by simp [h0]) ?_
  refine zd (ze ?_)
  have hdm : zO m.natAbs = ((m.natAbs % 65536 : Nat) : Int) :: zO (m.tdiv 65536).natAbs := by
   rw [vx (by omega)]
   congr 2
   rw [Int.natAbs_tdiv]; rfl
  rw [hdm] at ho
  have hol : out.length ≤ 4 := by rw [ho] at hd4; simp at hd4; omega
  have hq : (m.tdiv 65536).natAbs = m.natAbs / 65536 := by rw [Int.natAbs_tdiv]; rfl
  have hq2 : -9223372036854775808 ≤ m.tdiv 65536 ∧ m.tdiv 65536 ≤ 9223372036854775807 := by omega
  have w1 : IntKind.i64.wrap (m.tdiv 65536) = m.tdiv 65536 := wr _ hq2.1 hq2.2
  (repeat apply za); refine pwn ?_; intros
  (repeat apply za); refine pwn ?_; intros
  by_cases hneg : m.tmod 65536 < 0
  ·have e1 : -(m.tmod 65536) = ((m.natAbs % 65536 : Nat) : Int) := by
    have := Int.natAbs_tmod m 65536
    have e : (65536 : Int).natAbs = 65536 := rfl
    rw [e] at this; omega
   have w2 : IntKind.i64.wrap (-(m.tmod 65536)) = ((m.natAbs % 65536 : Nat) : Int) := by rw [wr _ (by omega) (by omega)]; exact e1
   repeat apply za
   refine zh (by simp [hneg]) ?_
   repeat apply za
   refine pwN [] w2 ?_
   intros
   repeat apply za
   refine pwn ?_
   refine ⟨by omega, ?_⟩
   intros
   repeat apply za
   refine pwN [] w1 ?_
   intros
   exact zk (m.tdiv 65536, out ++ [((m.natAbs % 65536 : Nat) : Int)], v2 + 1) [] ⟨by rw [ho]; simp, hq2⟩ (by dsimp only; omega) (by simp) rfl (by simp)
  ·have e1 : m.tmod 65536 = ((m.natAbs % 65536 : Nat) : Int) := by
    have := Int.natAbs_tmod m 65536
    have e : (65536 : Int).natAbs = 65536 := rfl
    rw [e] at this; omega
   repeat apply za
   refine zj (by simp; omega) ?_
   refine zd ?_
   repeat apply za
   refine pwN [] e1 ?_
   refine ⟨by omega, ?_⟩
   intros
   repeat apply za
   refine pwN [] w1 ?_
   intros
   exact zk (m.tdiv 65536, out ++ [((m.natAbs % 65536 : Nat) : Int)], v2 + 1) [] ⟨by rw [ho]; simp, hq2⟩ (by dsimp only; omega) (by simp) rfl (by simp)
def yJ : List Int → List Int → Int → List Int
 | [], [], c => if 0 < c then [c] else []
 | a :: u, [], c => (a + c) % 65536 :: yJ u [] ((a + c) / 65536)
 | [], b :: bs, c => (b + c) % 65536 :: yJ [] bs ((b + c) / 65536)
 | a :: u, b :: bs, c => (a + b + c) % 65536 :: yJ u bs ((a + b + c) / 65536)
theorem ZhU : ∀ (a b : List Int) (c : Int), q8 a → q8 b → 0 ≤ c → c ≤ 1 → q8 (yJ a b c) ∧ zG (yJ a b c) = zG a + zG b + c ∧ (yJ a b c).length ≤ max a.length b.length + 1 := by
 intro a
 induction a with
 | nil =>
  intro b
  induction b with
  | nil =>
   intro c _ _ h0 h1
   simp only [yJ]
   split
   ·refine ⟨?_, by simp [zG], by simp⟩
    intro d hd; simp at hd; omega
   ·refine ⟨by intro d hd; simp at hd, by simp [zG]; omega, by simp⟩
  | cons b bs ih =>
   intro c ha hb h0 h1
   have hb1 := hb b (by simp)
   obtain ⟨q1, q2, q3⟩ := ih ((b + c) / 65536) ha (fun x hx => hb x (by simp [hx])) (by omega) (by omega)
   simp only [yJ]
   refine ⟨?_, by simp only [zG] at q2 ⊢; rw [q2]; omega, by simp at q3 ⊢; omega⟩
   intro d hd
   rcases List.mem_cons.1 hd with rfl | hd
   ·omega
   ·exact q1 d hd
 | cons a u iha =>
  intro b
  cases b with
  | nil =>
   intro c ha hb h0 h1
   have ha1 := ha a (by simp)
   obtain ⟨q1, q2, q3⟩ := iha [] ((a + c) / 65536) (fun x hx => ha x (by simp [hx])) hb (by omega) (by omega)
   simp only [yJ]
   refine ⟨?_, by simp only [zG] at q2 ⊢; rw [q2]; omega, by simp at q3 ⊢; omega⟩
   intro d hd
   rcases List.mem_cons.1 hd with rfl | hd
   ·omega
   ·exact q1 d hd
  | cons b bs =>
   intro c ha hb h0 h1
   have ha1 := ha a (by simp)
   have hb1 := hb b (by simp)
   obtain ⟨q1, q2, q3⟩ := iha bs ((a + b + c) / 65536) (fun x hx => ha x (by simp [hx])) (fun x hx => hb x (by simp [hx])) (by omega) (by omega)
   simp only [yJ]
   refine ⟨?_, by simp only [zG] at q2 ⊢; rw [q2]; omega, by simp at q3 ⊢; omega⟩
   intro d hd
   rcases List.mem_cons.1 hd with rfl | hd
   ·omega
   ·exact q1 d hd
theorem ZhV (a b : List Int) (c : Int) (h : a ≠ [] ∨ b ≠ [] ∨ 0 < c) : yJ a b c = (a.headD 0 + b.headD 0 + c) % 65536 :: yJ a.tail b.tail ((a.headD 0 + b.headD 0 + c) / 65536) ∨ (a = [] ∧ b = [] ∧ yJ a b c = [c]) := by
 cases a with
 | nil =>
  cases b with
  | nil => right; simp at h; simp [yJ, h]
  | cons b bs => left; simp [yJ]
 | cons a u =>
  cases b with
  | nil => left; simp [yJ]
  | cons b bs => left; simp [yJ]
theorem Qp (l : List Int) (k : Nat) : (l.drop k).headD 0 = l.getD k 0 := by simp [List.headD_eq_head?_getD, List.head?_drop, List.getD_eq_getElem?_getD]
set_option maxRecDepth 20000 in
theorem ZhW (a b : List Int) (ha : q8 a) (hb : q8 b) (hal : a.length ≤ 1000) (hbl : b.length ≤ 1000) : Pure Tryz.prog 183 [L a, L b] (L (yJ a b 0)) := by
 refine pwe Tryz.func183 Tryz.ntmps183 Tryz.results183 fun S nx hd => ?_
 (repeat apply za); refine pwn ?_; intros
 (repeat apply za); refine pwn ?_; intros
 refine za (yA 5 3 1 rfl fun v1 => ?_)
 (repeat apply za); refine pwn ?_; intros
 (repeat apply za); refine pwn ?_; intros
 repeat apply za
 refine ze (zq (fun s : Nat × Int × List Int × Nat => s.1 ≤ max a.length b.length + 1 ∧ (0 ≤ s.2.1 ∧ s.2.1 ≤ 1) ∧ s.2.2.1.length = s.1 ∧ yJ a b 0 = s.2.2.1 ++ yJ (a.drop s.1) (b.drop s.1) s.2.1 ∧ (s.1 = max a.length b.length + 1 → s.2.1 = 0)) (fun (k, c, out, v1) => [(0, L a), (1, L b), (5, .sl nx v1 1 0 out.length), (6, I c), (7, I k)])
  (fun (k, c, out, v1) => [.cells v1 3 (out.flatMap Enc.enc)]) (fun s => max a.length b.length + 1 - s.1) (0, 0, [], v1) [] (by simp) (by simp) (by simp) ?_)
 rintro ⟨k, c, out, v1⟩ ⟨hk, hc, hol, ho, hend⟩
 simp only at hk hc hol ho hend ⊢
 by_cases hlive : k < a.length ∨ k < b.length ∨ 0 < c
 ·have hkl : k < max a.length b.length + 1 := by
   rcases Nat.lt_or_ge k (max a.length b.length + 1) with h | h
   ·exact h
   ·have := hend (by omega); omega
  -- the sum at this place
  have hx : 0 ≤ a.getD k 0 ∧ a.getD k 0 < 65536 := by
   rw [List.getD_eq_getElem?_getD]
   cases h : a[k]? with
   | none => simp
   | some x => exact ha x (List.mem_of_getElem? h)
  have hy : 0 ≤ b.getD k 0 ∧ b.getD k 0 < 65536 := by
   rw [List.getD_eq_getElem?_getD]
   cases h : b[k]? with
   | none => simp
   | some x => exact hb x (List.mem_of_getElem? h)
  generalize hxx : a.getD k 0 = x at hx
  generalize hyy : b.getD k 0 = y at hy
  have hnext : ∀ s, s = c + x + y → yJ a b 0 = (out ++ [s % 65536]) ++ yJ (a.drop (k + 1)) (b.drop (k + 1)) (s / 65536) ∧ (k + 1 = max a.length b.length + 1 → s / 65536 = 0) := by
   rintro s rfl
   have hne : a.drop k ≠ [] ∨ b.drop k ≠ [] ∨ 0 < c := by
    rcases hlive with h | h | h
    ·left; intro e; have := List.drop_eq_nil_iff.1 e; omega
    ·right; left; intro e; have := List.drop_eq_nil_iff.1 e; omega
    ·exact .inr (.inr h)
   have hsum : (a.drop k).headD 0 + (b.drop k).headD 0 + c = c + x + y := by rw [Qp, Qp, hxx, hyy]; omega
   have h0 : k + 1 = max a.length b.length + 1 → c + x + y = c := by
    intro q
    have e1 : x = 0 := by rw [← hxx, List.getD_eq_getElem?_getD, List.getElem?_eq_none (by omega)]; rfl
    have e2 : y = 0 := by rw [← hyy, List.getD_eq_getElem?_getD, List.getElem?_eq_none (by omega)]; rfl
    omega
   refine ⟨?_, fun q => by have := h0 q; omega⟩
   rcases ZhV (a.drop k) (b.drop k) c hne with e | ⟨e1, e2, e3⟩
   ·rw [ho, e, hsum]
    simp [List.tail_drop]
   ·have hx0 : x = 0 := by rw [← hxx, ← Qp, e1]; rfl
    have hy0 : y = 0 := by rw [← hyy, ← Qp, e2]; rfl
    have d1 : a.drop (k + 1) = [] := by rw [← List.drop_drop, e1]; rfl
    have d2 : b.drop (k + 1) = [] := by rw [← List.drop_drop, e2]; rfl
    have z1 : (c + x + y) % 65536 = c := by omega
    have z2 : (c + x + y) / 65536 = 0 := by omega
    rw [ho, e3, d1, d2, z1, z2]; simp [yJ]
  have fin : ∀ s : Int, s = c + x + y → s.tmod 65536 = s % 65536 ∧ IntKind.i64.wrap (s.tdiv 65536) = s / 65536 := by
   intro s hs
   refine ⟨Int.tmod_eq_emod_of_nonneg (by omega), ?_⟩
   rw [Int.tdiv_eq_ediv_of_nonneg (by omega), wr _ (by omega) (by omega)]
  obtain ⟨f1, f2⟩ := fin _ rfl
  obtain ⟨g1, g2⟩ := hnext _ rfl
  have wa : IntKind.i64.wrap (c + x) = c + x := wr _ (by omega) (by omega)
  have wb : IntKind.i64.wrap (c + x + y) = c + x + y := wr _ (by omega) (by omega)
  by_cases h1 : k < a.length
  ·obtain ⟨x', tl, a1, a2, a3, e0⟩ := el1 rfl a k h1
   obtain rfl : x' = x := by rw [← hxx, List.getD_eq_getElem?_getD, a1]; rfl
   repeat apply za
   refine pwN [(4, 12), (10, 18)] (jn2 h1 zn) ?_
   intros
   repeat apply za
   refine zh (by simp) ?_
   refine zd (za (ze ?_))
   (repeat apply za); refine pwn ?_; intros
   repeat apply za
   refine zh (by simp [h1]) ?_
   repeat apply za
   refine pwN [] (jn3 e0 h1 wa) ?_
   intros
   by_cases h2 : k < b.length
   ·obtain ⟨y', tl2, b1, b2, b3, e2⟩ := el1 rfl b k h2
    obtain rfl : y' = y := by rw [← hyy, List.getD_eq_getElem?_getD, b1]; rfl
    (repeat apply za); refine pwn ?_; intros
    repeat apply za
    refine zh (by simp [h2]) ?_
    repeat apply za
    refine pwN [] (jn3 e2 h2 wb) ?_
    intros
    repeat apply za
    refine pwN [] f1 ?_
    refine ⟨by omega, ?_⟩
    intros
    repeat apply za
    refine pwN [] f2 ?_
    intros
    (repeat apply za); refine pwn ?_; intros
    exact zk (k + 1, (c + x' + y') / 65536, out ++ [(c + x' + y') % 65536], v1 + 1) [] ⟨by omega, by dsimp only; omega, by simp [hol], g1, g2⟩ (by simp; omega) (by simp [wrN k (by omega)]) rfl (by simp)
   ·obtain rfl : y = 0 := by rw [← hyy, List.getD_eq_getElem?_getD, List.getElem?_eq_none (by omega)]; rfl
    rw [Int.add_zero] at f1 f2 g1 g2
    (repeat apply za); refine pwn ?_; intros
    repeat apply za
    refine zj (by simp; omega) ?_
    refine zd ?_
    repeat apply za
    refine pwN [] f1 ?_
    refine ⟨by omega, ?_⟩
    intros
    repeat apply za
    refine pwN [] f2 ?_
    intros
    (repeat apply za); refine pwn ?_; intros
    exact zk (k + 1, (c + x') / 65536, out ++ [(c + x') % 65536], v1 + 1) [] ⟨by omega, by dsimp only; omega, by simp [hol], g1, g2⟩ (by simp; omega) (by simp [wrN k (by omega)]) rfl (by simp)
  ·obtain rfl : x = 0 := by rw [← hxx, List.getD_eq_getElem?_getD, List.getElem?_eq_none (by omega)]; rfl
   by_cases h2 : k < b.length
   ·obtain ⟨y', tl2, b1, b2, b3, e2⟩ := el1 rfl b k h2
    obtain rfl : y' = y := by rw [← hyy, List.getD_eq_getElem?_getD, b1]; rfl
    have f1' : (c + y').tmod 65536 = (c + y') % 65536 := by rw [show c + y' = c + 0 + y' by omega]; exact f1
    have f2' : IntKind.i64.wrap ((c + y').tdiv 65536) = (c + y') / 65536 := by rw [show c + y' = c + 0 + y' by omega]; exact f2
    have wb' : IntKind.i64.wrap (c + y') = c + y' := wr _ (by omega) (by omega)
    rw [show c + 0 + y' = c + y' by omega] at g1 g2
    repeat apply za
    refine pwN [(4, 12), (10, 18)] (jn3 h1 h2 zn) ?_
    intros
    repeat apply za
    refine zh (by simp) ?_
    refine zd (za (ze ?_))
    (repeat apply za); refine pwn ?_; intros
    repeat apply za
    refine zj (by simp; omega) ?_
    refine zd ?_
    (repeat apply za); refine pwn ?_; intros
    repeat apply za
    refine zh (by simp [h2]) ?_
    repeat apply za
    refine pwN [] (jn3 e2 h2 wb') ?_
    intros
    repeat apply za
    refine pwN [] f1' ?_
    refine ⟨by omega, ?_⟩
    intros
    repeat apply za
    refine pwN [] f2' ?_
    intros
    (repeat apply za); refine pwn ?_; intros
    exact zk (k + 1, (c + y') / 65536, out ++ [(c + y') % 65536], v1 + 1) [] ⟨by omega, by dsimp only; omega, by simp [hol], g1, g2⟩ (by simp; omega) (by simp [wrN k (by omega)]) rfl (by simp)
   ·obtain rfl : y = 0 := by rw [← hyy, List.getD_eq_getElem?_getD, List.getElem?_eq_none (by omega)]; rfl
    have h3 : 0 < c := by omega
    obtain rfl : c = 1 := by omega
    rw [show (1 : Int) + 0 + 0 = 1 by rfl] at f1 f2 g1 g2
    repeat apply za
    refine pwN [(4, 12), (10, 18)] (jn2 h1 h2) ?_
    intros
    repeat apply za
    refine zh (by simp) ?_
    refine zd (za (ze ?_))
    (repeat apply za); refine pwn ?_; intros
    repeat apply za
    refine zj (by simp; omega) ?_
    refine zd ?_
    (repeat apply za); refine pwn ?_; intros
    repeat apply za
    refine zj (by simp; omega) ?_
    refine zd ?_
    repeat apply za
    refine pwN [] f1 ?_
    refine ⟨by omega, ?_⟩
    intros
    repeat apply za
    refine pwN [] f2 ?_
    intros
    (repeat apply za); refine pwn ?_; intros
    exact zk (k + 1, (1 : Int) / 65536, out ++ [(1 : Int) % 65536], v1 + 1) [] ⟨by omega, by dsimp only; omega, by simp [hol], g1, g2⟩ (by simp; omega) (by simp [wrN k (by omega)]) rfl (by simp)
 ·have h1 : ¬ k < a.length := by omega
  have h2 : ¬ k < b.length := by omega
  have h3 : ¬ 0 < c := by omega
  rw [List.drop_of_length_le (by omega), List.drop_of_length_le (by omega)] at ho
  simp only [yJ, h3, if_false, List.append_nil] at ho
  repeat apply za
  refine pwN [(4, 12), (10, 18)] (jn3 h1 h2 h3) ?_
  intros
  repeat apply za
  refine zj (by simp) ?_
  refine zm ?_
  (repeat apply za); refine pwn ?_; intros
  refine zC 0 rfl ?_
  repeat apply za
  exact zb (zg hd (by simp; rfl) (by rw [ho]; simp [zi]))
end Go.Proofs.YtaiplainginmaaaGreat.Pv
