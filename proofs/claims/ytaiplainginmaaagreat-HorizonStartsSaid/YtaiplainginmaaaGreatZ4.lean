/- Part of a proof, packed. -/
import Derived.Test.YtaiplainginmaaaGreatZ3
namespace Go.Proofs.YtaiplainginmaaaGreat.Pv
open Go Go.Shelf Go.RowKit Go.Lib Go.Sort
def Se : Store := fun _ => .dead
def Ce : Ctx := ⟨fun _ => none, 0, 0⟩
theorem Zgt (w : World) : Sim Ce Se w :=
 ⟨fun _ h => absurd rfl h, (fun _ _ h => by cases h), fun _ _ _ _ _ h => absurd rfl h, (fun _ _ _ _ h => by cases h), (fun _ _ _ h => by cases h)⟩
theorem Xe (b : Nat) : ¬ Ce.M Se b := by rintro ⟨o, k, h, _⟩; exact h rfl
inductive Fz : PV → Prop where
 | junk : Fz .junk
 | sc (v : Value) : Fz (.sc v)
 | agg {cs : List PV} (h : ∀ p ∈ cs, Fz p) : Fz (.agg cs)
 | lst {n : Nat} {cs : List PV} (h : ∀ p ∈ cs, Fz p) : Fz (.lst n cs)
 | ip {cs : List PV} (h : ∀ p ∈ cs, Fz p) : Fz (.ip cs)
theorem Zgu {C : Ctx} {S : Store} {w : World} {p : PV} {v : Value} (h : Rel C S w p v) : Fz p → Rel Ce Se w p v := by
 induction h with
 | junk v => intro _; exact .junk v
 | sc v => intro _; exact .sc v
 | agg hl h1 _ ih => intro hz; cases hz with | agg hz => exact .agg hl h1 fun i c v hc hv => ih i c v hc hv (hz c (List.mem_of_getElem? hc))
 | tup hl _ ih => intro hz; cases hz
 | lst0 => intro _; exact .lst0
 | lst1 hn hm hb hM hs h1 _ ih => intro hz; cases hz with | lst hz => exact .lst1 hn hm hb (Xe _) hs h1 fun i c v hc hv => ih i c v hc hv (hz c (List.mem_of_getElem? hc))
 | ip hb hM hs h1 _ ih => intro hz; cases hz with | ip hz => exact .ip hb (Xe _) hs h1 fun i c v hc hv => ih i c v hc hv (hz c (List.mem_of_getElem? hc))
 | ptr _ _ _ => intro hz; cases hz
 | sl _ _ _ => intro hz; cases hz
 | fn _ _ _ _ _ _ => intro hz; cases hz
 | ifc _ _ => intro hz; cases hz
 | mp _ _ _ => intro hz; cases hz
theorem Zgv {W w' : World} {C' : Ctx} {S' : Store} (h : Step Ce Se W C' S' w') : ∃ q os', w' = grow (W.drewN q) os' := by
 obtain ⟨p, hp⟩ := regrown_of_below (w := W) (w' := w') ⟨h.os, h.tape.1, h.output, h.size, fun b hb => (h.blocks b hb (Xe b)).1⟩
 have hd := h.tape.2
 rw [hp] at hd
 refine ⟨p.d - W.drawn, p.os, ?_⟩
 rw [hp]
 have hd' : W.drawn ≤ p.d := hd
 have e : W.drawn + (p.d - W.drawn) = p.d := by omega
 unfold grow redrawn World.drewN
 rw [e]
section
variable {P : Program} {α : Type} [Inhabited α] {val : α → Int}
theorem Zgw {C : Ctx} {S : Store} {w : World} {x : Int} {v : Value} (h : Rel C S w (I x) v) : v = .int .i64 x := by cases h; rfl
abbrev jH (val : α → Int) (x : α) : Value := .int .i64 (val x)
theorem Zgx {g : Nat} {caps : List PV} {cf : α → α → Int} (hg : ∀ x y : α, Pure P g (I (val x) :: I (val y) :: caps) (I (cf x y))) (cb : Array Value) (hl : caps.length = cb.size) {w : World} {blk size : Nat}
  (hr : ∀ (m : Nat) (os : Array Obj) (dk : Array α), dk.size = size → ∀ (i : Nat) (c : PV) (v : Value), caps[i]? = some c → cb[i]? = some v → Rel Ce Se (sortWorld (jH val) w blk 0 m dk os) c v) : CmpLays1 P g cb (jH val) cf blk 0 size w := by
 intro m os dk hs x y
 refine ((hg x y Se).2 Ce (sortWorld (jH val) w blk 0 m dk os) (#[jH val x, jH val y] ++ cb) (Zgt _) (by simp; omega) ?_).mono ?_
 ·intro i c v hc hv
  match i with
  | 0 => rw [Array.getElem?_append_left (by simp)] at hv; cases hc; cases hv; exact .sc _
  | 1 => rw [Array.getElem?_append_left (by simp)] at hv; cases hc; cases hv; exact .sc _
  | i + 2 =>
   simp only [List.getElem?_cons_succ] at hc
   rw [Array.getElem?_append_right (by simp)] at hv
   exact hr m os dk hs i c v hc (by simpa using hv)
 ·rintro e w' ⟨p, v, S', C', rfl, ⟨rfl, rfl⟩, hrel, _, hst⟩
  cases hrel
  exact ⟨rfl, Zgv hst⟩
theorem Zag {C : Ctx} {S : Store} {w : World} (hS : Sim C S w) {id ver e b k : Nat} {cs0 : List PV} {c : Array Value} (hid : S id = .cells ver e cs0) (g1 : C.loc id = some (b, k)) (g2 : w.heap[b]? = some (.cells c e (0, 0))) (g3 : c.size = k) (dk : Array α) (hdk : dk.size ≤ k) (q : Nat) (os : Array Obj) :
  Sim (C.at id ver (C.loc id)) (S.set id (.cells ver e (dk.toList.map fun x => I (val x)))) (sortWorld (jH val) w b 0 q dk os) ∧
  Step C S w (C.at id ver (C.loc id)) (S.set id (.cells ver e (dk.toList.map fun x => I (val x)))) (sortWorld (jH val) w b 0 q dk os) := by
 have hb : b < w.heap.size := yI g2
 have hh : (sortWorld (jH val) w b 0 q dk os).heap[b]? = some (.cells (putCells (jH val) 0 dk c) e (0, 0)) := by
  unfold sortWorld
  rw [heap_grow_old _ _ (by simpa using hb)]
  simp [putRow, mapBlock, Sort.ahead, Array.getElem?_modify, g2, onCells]
 have hgr : w.grownBy (sortWorld (jH val) w b 0 q dk os) (some b) := by
  refine ⟨rfl, rfl, rfl, by simp [sortWorld], fun j hj hne => ?_⟩
  unfold sortWorld
  rw [heap_grow_old _ _ (by simpa using hj)]
  have : b ≠ j := fun e => hne (by rw [e])
  simp [putRow, mapBlock, Sort.ahead, Array.getElem?_modify, this]
 have hcell : ∀ i, i < dk.size → ∀ v, (putCells (jH val) 0 dk c)[i]? = some v → v = jH val dk[i]! := by
  intro i hi v hv
  have hic : i < c.size := by omega
  simp [putCells, hi, hic] at hv
  rw [← hv, getElem!_pos dk i hi]
 refine hS.turn (l := C.loc id) (ver' := ver) (cs' := dk.toList.map fun x => I (val x)) hid (Nat.le_refl _) (fun _ => rfl) ⟨by rw [g1]; exact hgr, Nat.le_add_right _ _⟩
  (.inr ⟨b, k, _, g1, .inr (by rw [g1]; rfl), hh, by simp [putCells, g3], by simpa using hdk, fun i v hi hv => ?_, fun i p v hp hv => ?_⟩)
 ·rw [hcell i (by simpa using hi) v hv]; rfl
 ·have hi : i < dk.size := by have := (List.getElem?_eq_some_iff.1 hp).1; simpa using this
  rw [hcell i hi v hv]
  rw [List.getElem?_map, Array.getElem?_toList, Array.getElem?_eq_getElem hi] at hp
  simp only [Option.map_some, Option.some.injEq] at hp
  rw [← hp, getElem!_pos dk i hi]
  exact .sc _
theorem Zgy {ρ : Ren} (L : SlLaysF.n6 P ρ) (hE : yR P (ρ.f 6)) {S : Store} {id ver : Nat} {f : PV} : Spec P (ρ.f 6) [.sl id ver 1 0 0, f] S (fun p S' => S' = S) := by
 refine ⟨hE, ?_⟩
 intro C w vs hS hl hr
 obtain ⟨v0, v1, rfl⟩ : ∃ v0 v1, vs = #[v0, v1] := by
  match vs, hl with
  | ⟨[a, b]⟩, _ => exact ⟨a, b, rfl⟩
 have hv0 := hr 0 _ v0 rfl rfl
 cases hv0 with
 | sl h1 h2 h3 =>
  obtain ⟨a, cap, rfl, q1, q2, q3, q4⟩ := h1
  refine (AnyF.slices_SortFunc_none { L with } a cap _ w).mono ?_
  rintro e w' ⟨rfl, rfl⟩
  exact ⟨.junk, _, S, C, rfl, rfl, .junk _, hS, .refl _ _ _⟩
theorem Zgz {ρ : Ren} (L : SlLaysF.n6 P ρ) (hE : yR P (ρ.f 6)) {S : Store} {id ver e : Nat} (zs : List α) (hid : S id = .cells ver e (zs.map fun x => I (val x))) (hn : zs.length ≤ 1048576)
  {g : Nat} (hG : yR P g) {caps : List PV} (hz : ∀ p ∈ caps, Fz p) (cf : α → α → Int) (hO : SWO (ltOf cf)) (hT : ∀ x y, (ltOf cf) x y = false → (ltOf cf) y x = false → x = y)
  (hg : ∀ x y : α, Pure P g (I (val x) :: I (val y) :: caps) (I (cf x y))) :
  Spec P (ρ.f 6) [.sl id ver 1 0 zs.length, .fn (.func g) [] caps] S (fun p S' => S' = S.set id (.cells ver e ((zs.mergeSort fun x y => !(ltOf cf) y x).map fun x => I (val x)))) := by
 refine ⟨hE, ?_⟩
 intro C w vs hS hl hr
 obtain ⟨v0, v1, rfl⟩ : ∃ v0 v1, vs = #[v0, v1] := by
  match vs, hl with
  | ⟨[a, b]⟩, _ => exact ⟨a, b, rfl⟩
 have hv0 := hr 0 _ v0 rfl rfl
 have hv1 := hr 1 _ v1 rfl rfl
 cases hv1 with
 | @fn _ _ _ fv cv hf hc hh' hcap =>
 obtain rfl : fv = #[] := by
  have : fv.size = 0 := by simpa using hf.symm
  exact Array.eq_empty_of_size_eq_zero this
 cases hv0 with
 | sl h1 h2 h3 =>
  obtain ⟨a, cap, rfl, q1, q2, q3, q4⟩ := h1
  by_cases h0 : zs = []
  ·subst h0
   refine (AnyF.slices_SortFunc_none { L with } a cap _ w).mono ?_
   rintro e w' ⟨rfl, rfl⟩
   refine ⟨.junk, _, S, C, rfl, ?_, .junk _, hS, .refl _ _ _⟩
   funext i
   simp only [Store.set, List.mergeSort_nil]
   split
   ·rename_i e; rw [e, hid]
   ·rfl
  ·have hpos : 0 < zs.length := List.length_pos_iff.2 h0
   rcases hS.cells id ver _ _ hid with ⟨hn', hnil⟩ | ⟨b, k, c, g1, g2, g3, g4, g5, g6⟩
   ·simp at hnil; exact absurd hnil h0
   ·have ha : a = some ⟨b, 0, none⟩ := by
     rcases (h3 ver (by rw [hid]; rfl)).2 rfl with ⟨z1, _⟩ | ⟨b', k', a', cap', z1, z2, z3, z4⟩
     ·rw [g1] at z1; cases z1
     ·rw [g1] at z1; cases z1; cases z2; exact (z3 rfl).1
    subst ha
    rw [List.length_map] at g4 g5
    have hcells : ∀ i (hi : i < zs.length), c[i]? = some (jH val zs[i]) := by
     intro i hi
     have hi' : i < c.size := by omega
     have e1 : (zs.map fun x => I (val x))[i]? = some (I (val zs[i])) := by simp [hi]
     have e2 : c[i]? = some c[i] := by simp
     rw [e2, Zgw (g6 i _ _ e1 e2)]
    have hH : Holds (jH val) w b 0 zs.toArray := by
     intro j hj
     have hj' : j < zs.length := by simpa using hj
     refine ⟨?_, by simp [World.frozen?, g2]⟩
     simp only [World.cell?, g2, Nat.zero_add, Option.isSome_none, Bool.false_eq_true, if_false]
     rw [hcells j hj', getElem!_pos zs.toArray j hj]
     simp
    have hlays : CmpLays1 P g cv (jH val) cf b 0 zs.toArray.size w := by
     refine Zgx hg cv (by simpa using hc) fun m os dk hs i p v hp hv => ?_
     obtain ⟨_, st⟩ := Zag (val := val) hS hid g1 g2 g3 dk (by rw [hs]; simpa using g4) m os
     exact Zgu ((hcap i p v hp hv).mono st) (hz p (List.mem_of_getElem? hp))
    have hk := Any.slices_SortFunc_total L (jH val) (fun _ => rfl) cf hO g cv b 0 cap zs.toArray w hG hlays hH (yI g2) (by simp; omega) hT
    simp only [List.size_toArray] at hk
    refine hk.mono ?_
    rintro e w' ⟨rfl, m, os, rfl⟩
    obtain ⟨t1, t2⟩ := Zag (val := val) hS hid g1 g2 g3 (zs.mergeSort fun x y => !(ltOf cf) y x).toArray (by simpa using g4) m os
    exact ⟨.junk, _, _, _, rfl, rfl, .junk _, t1, t2⟩
end
open Go
set_option maxRecDepth 20000 in
theorem Zah (x : Int) : Pure Tryz.prog 230 [I x] (B false) := by
 refine pwe Tryz.func230 Tryz.ntmps230 Tryz.results230 fun S nx hd => ?_
 (repeat apply za); refine pwn ?_; intros
 (repeat apply za); refine pwn ?_; intros
 repeat apply za
 exact zb (zg hd (by simp; rfl) rfl)
set_option maxRecDepth 20000 in
theorem Zai (x y : Int) : Pure Tryz.prog 282 [I x, I y] (I (xn x y)) := by
 refine pwe Tryz.func282 Tryz.ntmps282 Tryz.results282 fun S nx hd => ?_
 (repeat apply za); refine pwn ?_; intros
 repeat apply za
 refine pwn ?_
 refine pwc (Zah x) ?_
 intros
 repeat apply za
 refine pwn ?_
 refine pwc (Zah y) ?_
 intros
 (repeat apply za); refine pwn ?_; intros
 repeat apply za
 refine zk (by simp) ?_
 refine ze ?_
 (repeat apply za); refine pwn ?_; intros
 repeat apply za
 refine zk (by simp) ?_
 refine ze ?_
 by_cases h1 : x < y
 ·repeat apply za
  refine pwN [] h1 ?_
  intros
  repeat apply za
  refine zi (by simp [h1]) ?_
  (repeat apply za); refine pwn ?_; intros
  repeat apply za
  exact zb (zg hd (by simp; rfl) (by simp [xn, h1, zj]))
 repeat apply za
 refine pwN [] h1 ?_
 intros
 repeat apply za
 refine zk (by simp [h1]) ?_
 refine ze ?_
 by_cases h2 : y < x
 ·repeat apply za
  refine pwN [] h2 ?_
  intros
  repeat apply za
  refine zi (by simp [h2]) ?_
  (repeat apply za); refine pwn ?_; intros
  repeat apply za
  exact zb (zg hd (by simp; rfl) (by simp [xn, h1, h2, zj]))
 repeat apply za
 refine pwN [] h2 ?_
 intros
 repeat apply za
 refine zk (by simp [h2]) ?_
 refine ze ?_
 (repeat apply za); refine pwn ?_; intros
 repeat apply za
 exact zb (zg hd (by simp; rfl) (by simp [xn, h1, h2, zj]))
set_option maxRecDepth 20000 in
theorem ZgA (x y : Int) : Pure Tryz.prog 281 [.lst 2 [I x, I y]] (I (if x = 0 then y else x)) := by
 refine pwe Tryz.func281 Tryz.ntmps281 Tryz.results281 fun S nx hd => ?_
 (repeat apply za); refine pwn ?_; intros
 (repeat apply za); refine pwn ?_; intros
 (repeat apply za); refine pwn ?_; intros
 repeat apply za
 refine zh (zr (fun s : Nat => s ≤ 2 ∧ (0 < s → x = 0) ∧ (1 < s → y = 0)) (fun k => [(3, I 0), (6, .lst 2 [I x, I y]), (7, I 2), (8, I k)]) (fun _ => []) (fun s => 2 - s) 0 [] (by simp) (by simp) (by simp) ?_)
 rintro k ⟨hk, hk1, hk2⟩
 match k, hk, hk1, hk2 with
 | 0, _, _, _ =>
  (repeat apply za); refine pwn ?_; intros
  repeat apply za
  refine zi (by simp) ?_
  refine ze (za (zh ?_))
  (repeat apply za); refine pwn ?_; intros
  by_cases hx : x = 0
  ·repeat apply za
   refine pwN [] hx ?_
   intros
   repeat apply za
   refine zk (by simp [hx]) ?_
   refine ze ?_
   (repeat apply za); refine pwn ?_; intros
   exact zm 1 [] ⟨by omega, fun _ => hx, by omega⟩ (by omega) (by simp [hx]; rfl) rfl (by simp)
  ·repeat apply za
   refine pwN [] hx ?_
   intros
   repeat apply za
   refine zi (by simp [hx]) ?_
   (repeat apply za); refine pwn ?_; intros
   repeat apply za
   exact zb (zg hd (by simp; rfl) (by simp [hx, zj]))
 | 1, _, hk1, _ =>
  have hx := hk1 (by omega)
  (repeat apply za); refine pwn ?_; intros
  repeat apply za
  refine zi (by simp) ?_
  refine ze (za (zh ?_))
  (repeat apply za); refine pwn ?_; intros
  by_cases hy : y = 0
  ·repeat apply za
   refine pwN [] hy ?_
   intros
   repeat apply za
   refine zk (by simp [hy]) ?_
   refine ze ?_
   (repeat apply za); refine pwn ?_; intros
   exact zm 2 [] ⟨by omega, fun _ => hx, fun _ => hy⟩ (by omega) (by simp [hy]; rfl) rfl (by simp)
  ·repeat apply za
   refine pwN [] hy ?_
   intros
   repeat apply za
   refine zi (by simp [hy]) ?_
   (repeat apply za); refine pwn ?_; intros
   repeat apply za
   exact zb (zg hd (by simp; rfl) (by simp [hx, zj]))
 | 2, _, hk1, hk2 =>
  (repeat apply za); refine pwn ?_; intros
  repeat apply za
  refine zk (by simp) ?_
  refine zo ?_
  (repeat apply za); refine pwn ?_; intros
  repeat apply za
  exact zb (zg hd (by simp; rfl) (by simp [hk1 (by omega), hk2 (by omega), zj]))
set_option maxRecDepth 20000 in
theorem ZgB (l : List Int) (i j : Fin l.length) (hn : l.length ≤ 1048576) : Pure Tryz.prog 280 [I i.val, I j.val, .ip [L l]] (I (cfW l i j)) := by
 obtain ⟨a, tl, a1, a2, a3, e0⟩ := el1 rfl l i.val i.isLt
 obtain ⟨b, tl2, b1, b2, b3, e1⟩ := el1 rfl l j.val j.isLt
 have hi := i.isLt
 have hj := j.isLt
 have ha : l.getD i.val 0 = a := by rw [List.getD_eq_getElem?_getD, a1]; rfl
 have hb : l.getD j.val 0 = b := by rw [List.getD_eq_getElem?_getD, b1]; rfl
 have hor := ZgA (xn a b) (xn i.val j.val)
 have hres : cfW l i j = if xn a b = 0 then xn (i.val : Int) j.val else xn a b := by unfold cfW; rw [ha, hb]
 rw [hres]
 refine pwe Tryz.func280 Tryz.ntmps280 Tryz.results280 fun S nx hd => ?_
 (repeat apply za); refine pwn ?_; intros
 repeat apply za
 refine pwY none (Row.pures [0, 1, 2, 3, 4, 5, 6, 7, 8, 9, 10, 11, 12, 13, 14] .done) mixed (jn4 hi hj e0 e1) ?_
 refine pwP (Zai a b) (jn4 hi hj e0 e1) ?_
 refine pwP (Zai i.val j.val) trivial ?_
 refine pwP (hor) trivial ?_
 intros
 repeat apply za
 exact zb (zg hd (by simp; rfl) rfl)
theorem Xf (l : List Int) : l.flatMap Enc.enc = l.map I := by induction l <;> simp_all
theorem ZgC (l : List Int) : ∀ p ∈ [PV.ip [L l]], Fz p := by
 intro p hp
 simp only [List.mem_singleton] at hp
 subst hp
 refine .ip fun q hq => ?_
 simp only [List.mem_singleton] at hq
 subst hq
 refine .lst fun r hr => ?_
 rw [Xf] at hr
 obtain ⟨x, _, rfl⟩ := List.mem_map.1 hr
 exact .sc _
def jR (n k : Nat) : List Int := (List.range n).map fun i => if i < k then (i : Int) else 0
theorem ZgD (n k : Nat) : (jR n k).length = n := by simp [jR]
theorem ZgE (n : Nat) : jR n 0 = List.replicate n 0 := by
 apply List.ext_getElem
 ·simp [jR]
 ·intro i h1 h2; simp [jR]
theorem ZgF (n k : Nat) (h : k < n) : (jR n k).set k (k : Int) = jR n (k + 1) := by
 apply List.ext_getElem
 ·simp [jR]
 ·intro i h1 h2
  rw [List.getElem_set]
  simp only [jR, List.getElem_map, List.getElem_range]
  by_cases e : k = i
  ·subst e; rw [if_pos rfl, if_pos (by omega)]
  ·rw [if_neg e]
   by_cases h3 : i < k
   ·rw [if_pos h3, if_pos (by omega)]
   ·rw [if_neg h3, if_neg (by omega)]
theorem ZgG (n : Nat) : jR n n = (List.finRange n).map fun x => (x.val : Int) := by
 apply List.ext_getElem
 ·simp [jR]
 ·intro i h1 h2
  have : i < n := by simpa [jR] using h1
  simp [jR, this]
theorem Zaj {α : Type} (l : List α) (f : α → Int) : (l.map f).flatMap Enc.enc = l.map fun x => I (f x) := by induction l <;> simp_all
theorem ZgH (n : Nat) : qx n (.int .i64 0) = (List.replicate n (0 : Int)).flatMap Enc.enc := by
 induction n with
 | zero => simp
 | succ n ih => rw [vA, ih, List.replicate_succ]; simp [yX, Value.cells]
theorem ZgI (l : List Int) (k : Nat) (v : Int) (h : k < l.length) : zP (l.flatMap Enc.enc) k [I v] = (l.set k v).flatMap Enc.enc := by
 rw [Xf, Xf, zP, List.map_set, List.set_eq_take_append_cons_drop, if_pos (by simpa using h)]
 simp
set_option maxRecDepth 20000 in
theorem ZgJ (l : List Int) (hn : l.length ≤ 1048576) : Pure Tryz.prog 273 [L l] (L (j4 l)) := by
 have hE : yR Tryz.prog 279 := yY Tryz.func279 (by rfl) rfl
 have hG : yR Tryz.prog 280 := yY Tryz.func280 (by rfl) rfl
 refine pwe Tryz.func273 Tryz.ntmps273 Tryz.results273 fun S nx hd => ?_
 repeat apply za
 refine pwn ?_
 intro v0
 repeat apply za
 refine pwn ?_
 refine ⟨by omega, fun v1 => ?_⟩
 intros
 (repeat apply za); refine pwn ?_; intros
 repeat apply za
 refine zh (zr (fun s : Nat => s ≤ l.length) (fun k => [(1, .ptr nx v0 0), (3, .sl (nx + 1) v1 1 0 l.length), (9, I l.length), (10, I k)]) (fun k => [.cells v0 54 [L l], .cells v1 3 ((jR l.length k).flatMap Enc.enc)]) (fun s => l.length - s) 0 [] (by simp) (by simp) (by simp [ZgE, ZgH]) ?_)
 rintro k hk
 (repeat apply za); refine pwn ?_; intros
 repeat apply za
 refine zn rfl (fun hc => ?_) (fun hc => ?_)
 ·simp at hc
  have hl1 := ZgD l.length k
  have hsp := ZgI (jR l.length k) k k (by omega)
  rw [ZgF _ _ hc] at hsp
  refine ze (za (zh ?_))
  (repeat apply za); refine pwn ?_; intros
  repeat apply za
  refine pwN [] (jn3 hc hl1 hsp) ?_
  refine ⟨by omega, ?_⟩
  intros
  (repeat apply za); refine pwn ?_; intros
  exact zm (k + 1) [] hc (by omega) (by simp [wrN k (by omega)]) rfl (by simp)
 ·simp at hc
  obtain rfl : k = l.length := by omega
  refine zo ?_
  rw [ZgG, Zaj]
  refine jq 0 rfl ?_
  repeat apply za
  refine zQ [] (by rfl) (by rfl) fun K Gc Gh hK hGc hGh X hX0 hX => ?_
  simp -implicitDefEqProofs [hX0, hX]
  try clear hX0 hX X
  by_cases h0 : l.length = 0
  ·obtain rfl : l = [] := List.eq_nil_of_length_eq_zero h0
   refine hGc _ _ _ _ _ _ _ fun hsuf => ((Zgy Tryz.laysSlF6_f279 hE).mono ?_).v
   rintro _ _ rfl
   refine ⟨_, _, rfl, ?_⟩
   clear hGc hGh
   clear Gc Gh
   refine zH hsuf (D := []) (by rfl) fun Gc Gh hGc hGh X hX0 hX => ?_
   simp -implicitDefEqProofs [hX0, hX]
   clear hX0 hX X
   intros
   refine hK _ _ _ ?_
   clear hK hGc hGh
   clear K Gc Gh
   refine zL 1 rfl ?_
   (repeat apply za); refine pwn ?_; intros
   have hs0 : j4 [] = [] := List.eq_nil_of_length_eq_zero (J6 [])
   repeat apply za
   exact zb (zg hd (by simp; rfl) (by rw [hs0]; rfl))
  ·haveI : Inhabited (Fin l.length) := ⟨⟨0, by omega⟩⟩
   have hs := fun S id ver hid => Zgz (S := S) (id := id) (ver := ver) (e := 3) (val := fun i : Fin l.length => (i.val : Int)) Tryz.laysSlF6_f279 hE (List.finRange l.length) hid (by simp; omega) hG (ZgC l) (cfW l) (Qt l) (Zab l) (fun x y => ZgB l x y hn)
   rw [List.length_finRange] at hs
   have hfl := Zaj (uA l) (fun i => (i.val : Int))
   have hsl := J6 l
   refine hGc _ _ _ _ _ _ _ fun hsuf => ((hs _ (nx + 1) v1 (by rw [qe]; rfl)).mono ?_).v
   rintro _ _ rfl
   refine ⟨_, _, qn _ (by omega) (by simp), ?_⟩
   rw [show (((List.finRange l.length).mergeSort fun x y => !(ltOf (cfW l)) y x).map fun x => I (x.val : Int)) = (j4 l).flatMap Enc.enc from hfl.symm]
   clear hGc hGh
   clear Gc Gh
   refine zH hsuf (D := []) (by rfl) fun Gc Gh hGc hGh X hX0 hX => ?_
   simp -implicitDefEqProofs [hX0, hX, (show nx + 1 - nx = 1 from by omega)]
   clear hX0 hX X
   intros
   refine hK _ _ _ ?_
   clear hK hGc hGh
   clear K Gc Gh
   refine zL 1 rfl ?_
   repeat apply za
   refine pwN [] hsl ?_
   intros
   repeat apply za
   exact zb (zg hd (by simp; rfl) (by simp [zj, hsl]))
open Go Hp
theorem ZgK (x : Inst) (c : List Int) (a b : Int) : qt x (c ++ [b]) a = qt x c a ++ (if b ≠ a then [⟨a, b, jf x a b⟩] else []) := by
 unfold qt
 by_cases h : b = a <;> simp [h]
theorem ZgL (x : Inst) (c : List Int) (a : Int) : (qt x c a).length ≤ c.length := by
 unfold qt
 rw [List.length_map]; exact List.length_filter_le _ _
theorem ZgM (l : List Pr) (p : Pr) : yG (l ++ [p]) = yG l ++ [-p.s] := by simp [yG]
theorem ZgN (l : List Pr) : (yG l).length = l.length := by simp [yG]
set_option maxRecDepth 20000 in
theorem ZgO (x : Inst) (c : List Int) (a : Int) (hx : qJ x) (hc : c.length ≤ 1048576) (hs : ∀ b ∈ c, small b) (ha : small a) : Pure Tryz.prog 262 [.agg (zt x), L c, I a] (L (jr x c a)) := by
 refine pwe Tryz.func262 Tryz.ntmps262 Tryz.results262 fun S nx hd => ?_
 repeat apply za
 refine pwn ?_
 intro v0
 (repeat apply za); refine pwn ?_; intros
 refine za (yK 7 185 3 rfl fun v1 => ?_)
 (repeat apply za); refine pwn ?_; intros
 refine za (yK 8 3 1 rfl fun v2 => ?_)
 (repeat apply za); refine pwn ?_; intros
 repeat apply za
 refine zh (zr (fun s : Nat × List Pr × Nat × Nat => s.1 ≤ c.length ∧ s.2.1 = qt x (c.take s.1) a) (fun (k, ps, v1, v2) => [(1, L c), (2, I a), (3, .ptr nx v0 0), (7, .sl (nx + 1) v1 3 0 ps.length), (8, .sl (nx + 2) v2 1 0 ps.length), (15, L c), (16, I c.length), (17, I k)]) (fun (k, ps, v1, v2) => [.cells v0 25 (zt x), .cells v1 185 (ps.flatMap Enc.enc), .cells v2 3 ((yG ps).flatMap Enc.enc)]) (fun s => c.length - s.1) (0, [], v1, v2) [] (by simp [qt]) (by simp) (by simp [yG]) ?_)
 rintro ⟨k, ps, v1, v2⟩ ⟨hk, ho⟩
 simp only at hk ho ⊢
 have hpl : ps.length ≤ k := by rw [ho]; refine Nat.le_trans (ZgL _ _ _) ?_; simp; omega
 have hnl := ZgN ps
 (repeat apply za); refine pwn ?_; intros
 repeat apply za
 refine zn rfl (fun hq => ?_) (fun hq => ?_)
 ·simp at hq
  obtain ⟨b, tl, a1, a2, a3, e0⟩ := el1 rfl c k hq
  have hb := hs b (List.mem_of_getElem? a1)
  have hsv := Xb hx a b
  have w5 : IntKind.i64.wrap (-jf x a b) = -jf x a b := wr _ (by omega) (by omega)
  have hsn := ZgK x (c.take k) a b
  rw [← a3, ← ho] at hsn
  refine ze (za (zh ?_))
  repeat apply za
  refine pwN [] (jn2 e0 hq) ?_
  intros
  (repeat apply za); refine pwn ?_; intros
  repeat apply za
  refine zn rfl (fun hne => ?_) (fun hne => ?_)
  ·simp at hne
   rw [if_pos hne] at hsn
   repeat apply za
   refine pwn ?_
   refine pwc (Zgk x a b hx ha hb) ?_
   intro v3
   intros
   repeat apply za
   refine pwn ?_
   refine ⟨by omega, ?_⟩
   intros
   have htk : List.take ps.length ((yG ps).flatMap Enc.enc) = (yG ps).flatMap Enc.enc := by rw [← hnl]; exact Zel _
   have hnf : ((yG ps).flatMap Enc.enc).length = ps.length := by rw [qy, hnl]
   repeat apply za
   refine pwN [] (jn3 w5 htk hnf) ?_
   refine ⟨by omega, ?_⟩
   intros
   (repeat apply za); refine pwn ?_; intros
   exact zm (k + 1, ps ++ [⟨a, b, jf x a b⟩], v1 + 1, v2 + 1) [_] ⟨hq, hsn.symm⟩ (by simp; omega) (by simp [wrN k (by omega)]) rfl (by simp [ZgM]; rfl)
  ·simp at hne
   rw [if_neg (by simp [hne]), List.append_nil] at hsn
   refine ze ?_
   (repeat apply za); refine pwn ?_; intros
   exact zm (k + 1, ps, v1, v2) [] ⟨hq, hsn.symm⟩ (by simp; omega) (by simp [wrN k (by omega)]) rfl (by simp)
 ·simp at hq
  obtain rfl : k = c.length := by omega
  rw [List.take_length] at ho
  refine zo ?_
  refine zL 1 rfl ?_
  refine zL 2 rfl ?_
  (repeat apply za); refine pwn ?_; intros
  refine za (yK 12 185 3 rfl fun v3 => ?_)
  have hrw : jr x c a = (j4 (yG ps)).map (j5 ps) := by rw [ho]; rfl
  rw [hrw]
  have hsl := J6 (yG ps)
  have hmem : ∀ z ∈ j4 (yG ps), 0 ≤ z ∧ z < ps.length := fun z h => by have := Zf1 h; omega
  have hcall := ZgJ (yG ps) (by omega)
  rw [show L (yG ps) = PV.lst ps.length ((yG ps).flatMap Enc.enc) from by rw [← hnl]] at hcall
  generalize yG ps = ns at *
  repeat apply za
  refine pwN [] hnl ?_
  refine pwc hcall ?_
  intros
  generalize j4 ns = is at *
  repeat apply za
  refine zh (zr (fun s : Nat × List Pr × Nat => s.1 ≤ is.length ∧ s.2.1 = (is.take s.1).map (j5 ps)) (fun (k, os, v) => [(7, L ps), (12, .sl (nx + 3) v 3 0 os.length), (43, L is), (44, I is.length), (45, I k)]) (fun (k, os, v) => [.cells v0 25 (zt x), .dead, .dead, .cells v 185 (os.flatMap Enc.enc)]) (fun s => is.length - s.1) (0, [], v3) [] (by simp) (by simp [hnl]) (by simp) ?_)
  rintro ⟨k, os, v⟩ ⟨hk, ho2⟩
  simp only at hk ho2 ⊢
  (repeat apply za); refine pwn ?_; intros
  repeat apply za
  refine zn rfl (fun hq => ?_) (fun hq => ?_)
  ·simp at hq
   obtain ⟨i, tl, a1, a2, a3, e0⟩ := el1 rfl is k hq
   obtain ⟨q1, q2⟩ := hmem i (List.mem_of_getElem? a1)
   obtain ⟨j, rfl⟩ : ∃ j : Nat, i = j := ⟨i.toNat, by omega⟩
   have hj : j < ps.length := by omega
   obtain ⟨p, tp, b1, b2, b3, e1, e2⟩ := el 3 rfl ps j hj
   have hg : j5 ps (j : Int) = p := by simp [j5, List.getD_eq_getElem?_getD, b1]
   have hgs : (is.take (k + 1)).map (j5 ps) = os ++ [p] := by rw [a3, ho2]; simp [hg]
   have hgl : os.length = k := by rw [ho2]; simp; omega
   refine ze (za (zh ?_))
   repeat apply za
   refine pwN [] (jn2 e0 hq) ?_
   intros
   repeat apply za
   refine pwN [] (jn3 e1 e2 hj) ?_
   refine ⟨by omega, ?_⟩
   intros
   (repeat apply za); refine pwn ?_; intros
   exact zm (k + 1, os ++ [p], v + 1) [] ⟨hq, hgs.symm⟩ (by simp; omega) (by simp [wrN k (by omega)]) rfl (by simp)
  ·simp at hq
   obtain rfl : k = is.length := by omega
   rw [List.take_length] at ho2
   refine zo ?_
   refine zL 3 rfl ?_
   (repeat apply za); refine pwn ?_; intros
   repeat apply za
   exact zb (zg hd (by simp; rfl) (by simp [zj, ho2]))
open Go Hp
@[simp] theorem ZnP (d1 d2 a b c : Ob) (l : List Ob) (o : Ob × Ob × Ob) : wC (d1 :: d2 :: a :: b :: c :: l) 2 o = d1 :: d2 :: o.1 :: o.2.1 :: o.2.2 :: l := rfl
theorem HX.srt {o : Ob × Ob × Ob} {a hv mv : Nat} {r : Its Int} (h : HX o a hv mv r) : j3 r := by
 obtain ⟨_, _, _, h⟩ := h (fun i => if i = a then o.1 else if i = a + 1 then o.2.1 else o.2.2) (by simp) (by simp) (by simp)
 exact h
theorem ZgP {id : Int} {r : Its Int} (h : ∀ x ∈ r, x.1 ≠ id) : qI id r = false := by
 simp only [qI, List.any_eq_false]; intro x hx; simpa using h x hx
def prV (p : Pr) : List PV := [.agg [I p.a, I p.b, I p.s]]
def qK (x : Inst) (c : List Int) (k : Nat) : List (List Pr) := (c.take k).map (jr x c)
theorem Zak (x : Inst) (c : List Int) : qK x c 0 = [] := by simp [qK]
theorem ZgQ {x : Inst} {c : List Int} {k : Nat} {a : Int} (h : c.take (k + 1) = c.take k ++ [a]) : qK x c (k + 1) = qK x c k ++ [jr x c a] := by simp [qK, h]
theorem ZgR (x : Inst) (c : List Int) : qK x c c.length = c.map (jr x c) := by simp [qK]
theorem Zal (x : Inst) (c : List Int) (k : Nat) (h : k ≤ c.length) : (qK x c k).length = k := by simp [qK]; omega
def xo (rows : List (List Pr)) (n : Nat) : List PV := rows.flatMap Enc.enc ++ List.replicate (n - rows.length) (.sc (.slice none 0 0))
theorem Zam (rows : List (List Pr)) (n : Nat) (h : rows.length ≤ n) : (xo rows n).length = n := by simp [xo]; omega
theorem ZgS (n : Nat) : xo [] n = qx n (.slice none 0 0) := by
 unfold xo
 simp only [List.flatMap_nil, List.nil_append, List.length_nil, Nat.sub_zero]
 induction n with
 | zero => simp
 | succ n ih => rw [vA, List.replicate_succ, ih]; simp [yX, Value.cells]
theorem ZgT (rows : List (List Pr)) : xo rows rows.length = rows.flatMap Enc.enc := by simp [xo]
theorem ZgU (rows : List (List Pr)) (n : Nat) (r : List Pr) (h : rows.length < n) : zP (xo rows n) rows.length [L r] = xo (rows ++ [r]) n := by
 unfold xo zP
 have h1 : (rows.flatMap Enc.enc).length = rows.length := jE rows
 obtain ⟨m, hm⟩ : ∃ m, n - rows.length = m + 1 := ⟨n - rows.length - 1, by omega⟩
 rw [hm, List.replicate_succ]
 rw [List.take_append_of_le_length (by omega), List.take_of_length_le (by omega)]
 rw [List.drop_append, List.drop_of_length_le (by simp)]
 simp [h1, show n - (rows.length + 1) = m by omega]
theorem ZgV (rows : List (List Pr)) (n : Nat) (r : List Pr) : (xo (rows ++ [r]) n)[rows.length]? = some (L r) := by
 unfold xo
 rw [List.flatMap_append, List.append_assoc, List.getElem?_append_right (by rw [jE]; exact Nat.le_refl _), jE]
 simp
theorem ZgW (rows : List (List Pr)) (k : Nat) (r : List Pr) (h : k < rows.length) : zP (rows.flatMap Enc.enc) k [L r] = (rows.set k r).flatMap Enc.enc := by
 have e : ∀ l : List (List Pr), l.flatMap Enc.enc = l.map fun r => L r := fun l => by induction l <;> simp_all
 rw [e, e, zP, List.map_set, List.set_eq_take_append_cons_drop, if_pos (by simpa using h)]
 simp
theorem Qx : ∀ (rows : List (List Pr)) (i : Nat) (r : List Pr), yc i (rows ++ [r]) = yc i rows ++ yc (i + rows.length) [r]
 | [], i, r => by simp [yc]
 | [] :: rows, i, r => by
  simp only [List.cons_append, yc, List.length_cons]
  rw [Qx rows (i + 1) r, show i + 1 + rows.length = i + (rows.length + 1) by omega]
 | (p :: l) :: rows, i, r => by
  simp only [List.cons_append, yc, List.length_cons]
  rw [Qx rows (i + 1) r, show i + 1 + rows.length = i + (rows.length + 1) by omega]
theorem ZgX (rows : List (List Pr)) : yc 0 (rows ++ [[]]) = yc 0 rows := by rw [Qx]; simp [yc]
theorem ZgY (rows : List (List Pr)) (p : Pr) (tl : List Pr) : (yc 0 (rows ++ [p :: tl])).Perm (((rows.length : Int), -p.s) :: yc 0 rows) := by
 rw [Qx]
 simp only [yc, Nat.zero_add]
 exact List.perm_append_comm
theorem Zan {rows : List (List Pr)} {k : Nat} (h : rows.getD k [] = []) {r : Its Int} (hp : r.Perm (yc 0 rows)) : qI (k : Int) r = false := by
 refine ZgP fun x hx e => ?_
 obtain ⟨j, p, tl, hj, rfl⟩ := (Zk rows 0 x).1 (hp.subset hx)
 simp only [Nat.zero_add] at e
 have : j = k := by omega
 subst this
 rw [List.getD_eq_getElem?_getD, hj] at h
 cases h
set_option maxRecDepth 20000 in
theorem ZgZ (x : Inst) (ss : List Stop) : Pure Tryz.prog 245 [.agg (zt x), L ss] (.fn (.func 260) [] [.ip [L ss], .ip (zt x)]) := by
 refine pwe Tryz.func245 Tryz.ntmps245 Tryz.results245 fun S nx hd => ?_
 repeat apply za
 refine pwn ?_
 intro v0 v1
 (repeat apply za); refine pwn ?_; intros
 refine jq 0 rfl ?_
 refine jq 1 rfl ?_
 repeat apply za
 exact zb (zg hd (by simp; rfl) rfl)
set_option maxRecDepth 20000 in
theorem Zg0 (x : Inst) (ss : List Stop) (hx : qJ x) (hss : ss.length ≤ 1048576) (hs : ∀ s ∈ ss, small s.c) (hnd : (ss.map (·.c)).Nodup) : uq Tryz.prog 260 [.ip [L ss], .ip (zt x)] ((yS x (ss.map (·.c))).map prV) := by
 have hcust := fun S nx hd => Ya ss hss S nx hd
 obtain ⟨zs, hzs⟩ : ∃ zs, zs = ss.map (·.c) := ⟨_, rfl⟩
 have hzl : ss.length = zs.length := by rw [hzs]; simp
 rw [← hzs, hzl] at hcust
 rw [← hzs] at hnd ⊢
 have hzsm : ∀ b ∈ zs, small b := by
  intro b hb; rw [hzs] at hb; obtain ⟨s, h1, rfl⟩ := List.mem_map.1 hb; exact hs s h1
 have hz1 := Yc zs
 have hz2 := VS zs
 have hz3 := (JU zs).2 hnd
 have hz4 := vH zs
 have hz5 : yS x zs = yS x (yf zs) := Zga hnd hz3 hz2.symm
 have hz6 : (yf zs).Pairwise (· < ·) := (List.Pairwise.and hz1 hz3).imp fun ⟨h1, h2⟩ => by omega
 have hzn : zs.length ≤ 1048576 := by omega
 have hcsm : ∀ b ∈ yf zs, small b := fun b hb => hzsm b (hz2.subset hb)
 have hsort := fun (S : Store) (id ver : Nat) (hid : S id = .cells ver 3 (zs.flatMap Enc.enc)) => Qo zs hid hzn
 rw [hz5]
 generalize yf zs = c at *
 clear hzs hz1 hz5
 refine Qf Tryz.func260 (by rfl) rfl Tryz.ntmps260 (congrArg Array.toList Tryz.results260) (by simp) fun l V keep nx J hJd hY A0 hA0 => ?_
 repeat apply za
 refine zQ [] (by rfl) (by rfl) fun K Gc Gh hK hGc hGh X hX0 hX => ?_
 simp -implicitDefEqProofs [hX0, hX]
 try clear hX0 hX X
 refine hGc _ _ _ _ _ _ _ fun hsuf => ((hcust _ _ jD).mono ?_).v
 rintro _ _ ⟨v1, rfl, rfl⟩
 refine ⟨_, _, Zd _, ?_⟩
 clear hGc hGh
 clear Gc Gh
 refine zH hsuf (D := []) (by rfl) fun Gc Gh hGc hGh X hX0 hX => ?_
 simp -implicitDefEqProofs [hX0, hX, Nat.add_assoc]
 clear hX0 hX X
 intros
 refine hK _ _ _ ?_
 clear hK hGc hGh
 clear K Gc Gh
 repeat apply za
 refine zQ [] (by rfl) (by rfl) fun K Gc Gh hK hGc hGh X hX0 hX => ?_
 simp -implicitDefEqProofs [hX0, hX]
 try clear hX0 hX X
 refine hGc _ _ _ _ _ _ _ fun hsuf => ((hsort _ _ _ (by simp)).mono ?_).v
 rintro _ _ rfl
 refine ⟨_, _, qn _ (by simp) (by simp), ?_⟩
 clear hGc hGh
 clear Gc Gh
 refine zH hsuf (D := []) (by rfl) fun Gc Gh hGc hGh X hX0 hX => ?_
 simp -implicitDefEqProofs [hX0, hX]
 clear hX0 hX X
 intros
 refine hK _ _ _ ?_
 clear hK hGc hGh
 clear K Gc Gh
 rw [← hz4]
 refine zL 1 rfl ?_
 repeat apply za
 refine zQ [] (by rfl) (by rfl) fun K Gc Gh hK hGc hGh X hX0 hX => ?_
 simp -implicitDefEqProofs [hX0, hX]
 try clear hX0 hX X
 refine hGc _ _ _ _ _ _ _ fun hsuf => (ZfX.mono ?_).v
 rintro p _ ⟨hv, mv, o1, rfl, m1, rfl⟩
 refine ⟨_, _, rfl, ?_⟩
 clear hGc hGh
 clear Gc Gh
 refine zH hsuf (D := []) (by rfl) fun Gc Gh hGc hGh X hX0 hX => ?_
 simp -implicitDefEqProofs [hX0, hX]
 clear hX0 hX X
 intros
 refine hK _ _ _ ?_
 clear hK hGc hGh
 clear K Gc Gh
 simp at m1
 repeat apply za
 refine pwn ?_
 refine ⟨by omega, fun v0 => ?_⟩
 intros
 (repeat apply za); refine pwn ?_; intros
 repeat apply za
 have hpw : ∀ (row : List Pr) (a : Int), row = jr x c a → ∀ p ∈ row, IntKind.i64.wrap (-p.s) = -p.s := by
  intro row a e p hp
  rw [e] at hp
  have h1 := (Xa x c a).subset hp
  unfold qt at h1
  obtain ⟨b, _, rfl⟩ := List.mem_map.1 h1
  have := Xb hx a b
  show IntKind.i64.wrap (-jf x a b) = -jf x a b
  exact wr _ (by omega) (by omega)
 refine zh (zr (fun s : Nat × Its Int × (Ob × Ob × Ob) × Nat => s.1 ≤ c.length ∧ s.2.1.Perm (yc 0 (qK x c s.1)) ∧ HX s.2.2.1 (nx + 2) hv mv s.2.1) (fun (k, its, o, v) => [(0, yld l), (2, .ip (zt x)), (4, L c), (5, .ptr (nx + 3) hv 0), (6, .sl (nx + 5) v 1 0 c.length), (21, L c), (22, I c.length), (23, I k)]) (fun (k, its, o, v) => [.dead, .dead, o.1, o.2.1, o.2.2, .cells v 312 (xo (qK x c k) c.length)]) (fun s => c.length - s.1) (0, [], o1, v0) [] ⟨by simp, by simp [Zak, yc], m1⟩ (by simp) (by simp [Zak, ZgS]) ?_)
 rintro ⟨k, its, o, v⟩ ⟨hk, hp, hm⟩
 simp only at hk hp hm ⊢
 (repeat apply za); refine pwn ?_; intros
 repeat apply za
 refine zn rfl (fun hq => ?_) (fun hq => ?_)
 ·simp at hq
  obtain ⟨a, tl, a1, a2, a3, e0⟩ := el1 rfl c k hq
  have hkl := Zal x c k (by omega)
  have hks := ZgQ (x := x) a3
  have hput := ZgU (qK x c k) c.length (jr x c a) (by omega)
  have hat := ZgV (qK x c k) c.length (jr x c a)
  have hrl := Zam (qK x c k) c.length (by omega)
  have hrl2 := Zam (qK x c k ++ [jr x c a]) c.length (by simp; omega)
  rw [hkl] at hput hat
  have hno : qI (k : Int) its = false := Zan (k := k) (rows := qK x c k) (by rw [List.getD_eq_getElem?_getD, List.getElem?_eq_none (by omega)]; rfl) hp
  have hil : its.length ≤ k := by rw [hp.length_eq]; exact Nat.le_trans (Qv _ _) (by omega)
  refine ze (za (zh ?_))
  repeat apply za
  refine pwN [] (jn2 e0 hq) ?_
  intros
  repeat apply za
  refine pwn ?_
  refine pwC [] (ZgO x c a hx (by omega) hcsm (hcsm a (List.mem_of_getElem? a1))) (jn3 hput hrl hq) ?_
  refine ⟨by omega, ?_⟩
  intros
  have hw := hpw (jr x c a) a rfl
  have hsn := ZgY (qK x c k)
  have hsn0 := ZgX (qK x c k)
  generalize hrow : jr x c a = row at *
  have hat2 : ∀ h, (xo (qK x c k ++ [row]) c.length)[k]'h = L row := fun h => (List.getElem?_eq_some_iff.1 hat).2
  repeat apply za
  refine pwN [] (jn3 hat2 hq hrl2) ?_
  intros
  cases row with
  | nil =>
   repeat apply za
   refine zk rfl ?_
   refine ze ?_
   (repeat apply za); refine pwn ?_; intros
   refine zm (k + 1, its, o, v) [] ⟨hq, ?_, hm⟩ (by simp; omega) (by simp [wrN k (by omega)]) rfl (by simp [hks])
   simp only [hks, hsn0]
   exact hp
  | cons p rl =>
   have hwp := hw p (by simp)
   repeat apply za
   refine zi (by simp) ?_
   repeat apply za
   refine zQ [] (by rfl) (by rfl) fun K Gc Gh hK hGc hGh X hX0 hX => ?_
   simp -implicitDefEqProofs [hX0, hX, hat2, hq, hrl2, hwp]
   try clear hX0 hX X
   refine hGc _ _ _ _ _ _ _ fun hsuf => ((Zaa (j := 2) hm rfl rfl rfl (k : Int) (-p.s) (by omega)).mono ?_).v
   rintro _ T ⟨rfl, o2, m2, rfl⟩
   refine ⟨_, _, rfl, ?_⟩
   rw [hno] at m2
   simp only [cond_false] at m2
   clear hGc hGh
   clear Gc Gh
   refine zH hsuf (D := []) (by rfl) fun Gc Gh hGc hGh X hX0 hX => ?_
   simp -implicitDefEqProofs [hX0, hX]
   clear hX0 hX X
   intros
   refine hK _ _ _ ?_
   clear hK hGc hGh
   clear K Gc Gh
   (repeat apply za); refine pwn ?_; intros
   refine zm (k + 1, wB ((k : Int), -p.s) its, o2, v) [] ⟨hq, ?_, m2⟩ (by simp; omega) (by simp [wrN k (by omega)]) rfl (by simp [hks])
   simp only [hks]
   have := hsn p rl
   rw [hkl] at this
   exact (Yg _ _).trans ((hp.cons _).trans this.symm)
 ·simp at hq
  obtain rfl : k = c.length := by omega
  obtain ⟨hb1, hb2, hb3⟩ := Zgi (x := x) hz6
  rw [← ZgR] at hb1 hb2 hb3
  have hrl := Zal x c c.length (Nat.le_refl _)
  have hrc := ZgT (qK x c c.length)
  rw [hrl] at hrc
  rw [hrc]
  generalize qK x c c.length = rows at *
  refine zo ?_
  repeat apply za
  refine zh (jn (σ := Nat × Store × List (List Pr) × Its Int × (Ob × Ob × Ob) × Nat) (fun s => s.1 ≤ (yS x c).length ∧ J s.1 s.2.1 ∧ Rows' c s.2.2.1 ∧ (∀ r ∈ s.2.2.1, Sd plt r) ∧ s.2.2.1.flatten.Perm ((yS x c).drop s.1) ∧ s.2.2.2.1.Perm (yc 0 s.2.2.1) ∧ HX s.2.2.2.2.1 (nx + 2) hv mv s.2.2.2.1) (fun s => [(0, yld l), (5, .ptr (nx + 3) hv 0), (6, .sl (nx + 5) s.2.2.2.2.2 1 0 c.length)]) (fun s => s.2.1) (fun s => [.dead, .dead, s.2.2.2.2.1.1, s.2.2.2.2.1.2.1, s.2.2.2.2.1.2.2, .cells s.2.2.2.2.2 312 (s.2.2.1.flatMap Enc.enc)]) (fun s => (yS x c).length - s.1) (zy (0, A0, rows, its, o, v) [] ⟨by simp, hA0, hb1, hb2, by simpa using hb3, hp, hm⟩ (by simp) rfl (by simp)) ?_)
  rintro ⟨i, A, rows, its, o, v⟩ ⟨hi, hJ, hr1, hr2, hr3, hp, hm⟩
  simp only at hi hJ hr1 hr2 hr3 hp hm ⊢
  have hrl : rows.length = c.length := hr1.len
  have hs := hm.srt
  repeat apply za
  refine zh ?_
  repeat apply za
  refine zQ [] (by rfl) (by rfl) fun K Gc Gh hK hGc hGh X hX0 hX => ?_
  simp -implicitDefEqProofs [hX0, hX]
  try clear hX0 hX X
  refine hGc _ _ _ _ _ _ _ fun hsuf => ((ZfW (j := 2) hm rfl rfl rfl).mono ?_).v
  rintro _ T ⟨rfl, o2, m2, rfl⟩
  refine ⟨_, _, rfl, ?_⟩
  cases its with
  | nil =>
   clear hGc hGh
   clear Gc Gh
   refine zH hsuf (D := []) (by rfl) fun Gc Gh hGc hGh X hX0 hX => ?_
   simp -implicitDefEqProofs [hX0, hX, uz, zA, jC]
   clear hX0 hX X
   intros
   refine hK _ _ _ ?_
   clear hK hGc hGh
   clear K Gc Gh
   have h0 : ∀ r ∈ rows, r = [] := by
    intro r hr
    cases r with
    | nil => rfl
    | cons p tl =>
     obtain ⟨j, hj⟩ := List.mem_iff_getElem?.1 hr
     have := (Zk rows 0 ((j : Int), -p.s)).2 ⟨j, p, tl, hj, by rw [Nat.zero_add]⟩
     rw [List.nil_perm.1 hp] at this
     cases this
   have hfin := Zf4 hr3 hi h0
   repeat apply za
   refine pwN [(2, 61)] zp ?_
   intros
   repeat apply za
   refine zi rfl ?_
   repeat apply za
   exact zb (xT (hJd _ _ hJ) rfl (by simpa [hfin] using hJ))
  | cons it r =>
   obtain ⟨q, y, tl, e1, e2, e3, e4, e5, e6, e7⟩ := Zgj hz6 hr1 hr2 hr3 hs hp.symm
   subst e1
   have hql := (List.getElem?_eq_some_iff.1 e2).1
   have hql2 : q < c.length := by omega
   obtain ⟨y', tr, a1, a2, a3, e0⟩ := el1 rfl rows q hql
   rw [e2] at a1; cases a1
   have hil := (List.getElem?_eq_some_iff.1 e4).1
   have hyx : ((yS x c).map prV)[i]? = some (prV y) := by rw [List.getElem?_map, e4]; rfl
   clear hGc hGh
   clear Gc Gh
   refine zH hsuf (D := []) (by rfl) fun Gc Gh hGc hGh X hX0 hX => ?_
   simp -implicitDefEqProofs [hX0, hX, uz, zA, jC]
   clear hX0 hX X
   intros
   refine hK _ _ _ ?_
   clear hK hGc hGh
   clear K Gc Gh
   repeat apply za
   refine zQ [(2, 61)] (by rfl) (by rfl) fun K Gc Gh hK hGc hGh X hX0 hX => ?_
   simp -implicitDefEqProofs [hX0, hX, e0, hql2, hrl, undef]
   try clear hX0 hX X
   refine hGh _ _ _ _ _ fun hsuf => Z2 rfl rfl rfl (hY _ _ _ _ hyx hJ) ?_
   rintro _ ⟨A', hJ', rfl⟩
   refine ⟨_, _, rfl, ?_⟩
   clear hGc hGh
   clear Gc Gh
   refine zH hsuf (D := [(2, 61)]) (by rfl) fun Gc Gh hGc hGh X hX0 hX => ?_
   simp -implicitDefEqProofs [hX0, hX]
   try clear hX0 hX X
   intros
   refine hK _ _ _ ?_
   clear hK hGc hGh
   clear K Gc Gh
   repeat apply za
   refine zk rfl ?_
   refine ze ?_
   have hsp := ZgW rows q tl hql
   have hrl2 : (rows.set q tl).length = c.length := by simp [hrl]
   have hql3 : q < (rows.set q tl).length := by omega
   obtain ⟨y', tr', a1, a2, a3, e0'⟩ := el1 rfl (rows.set q tl) q hql3
   rw [List.getElem?_set_self hql] at a1; cases a1
   have hno : qI (q : Int) r = false := Zan (rows := rows.set q []) (by rw [List.getD_eq_getElem?_getD, List.getElem?_set_self hql]; rfl) e3
   have hlen : r.length ≤ 1048576 := by rw [e3.length_eq]; exact Nat.le_trans (Qv _ _) (by simp; omega)
   have hperm := fun p tz => Qu rows 0 q p tz hql
   repeat apply za
   refine pwN [] (jn4 e0 hql2 hrl hsp) ?_
   refine ⟨by omega, ?_⟩
   intros
   repeat apply za
   refine pwN [] (jn3 e0' hql2 hrl2) ?_
   intros
   cases tl with
   | nil =>
    repeat apply za
    refine zk rfl ?_
    refine ze ?_
    exact zm (i + 1, A', rows.set q [], r, o2, v) [] ⟨hil, hJ', e5, e6, e7, e3, m2⟩ (by simp; omega) (by simp) rfl (by simp)
   | cons z tz =>
    have hzm : z ∈ (rows.set q (z :: tz)).flatten := List.mem_flatten.2 ⟨z :: tz, List.mem_of_getElem? (List.getElem?_set_self hql), by simp⟩
    have hzp : z ∈ xG x c := (uB x c).subset (List.mem_of_mem_drop (e7.subset hzm))
    have hzs := (Yi.1 hzp).2.2.2
    have hwz : IntKind.i64.wrap (-z.s) = -z.s := by
     rw [hzs]
     have := Xb hx z.a z.b
     exact wr _ (by omega) (by omega)
    repeat apply za
    refine zi (by simp) ?_
    repeat apply za
    refine zQ [] (by rfl) (by rfl) fun K Gc Gh hK hGc hGh X hX0 hX => ?_
    simp -implicitDefEqProofs [hX0, hX, e0', hql2, hrl2, hwz]
    try clear hX0 hX X
    refine hGc _ _ _ _ _ _ _ fun hsuf => ((Zaa (j := 2) m2 rfl rfl rfl (q : Int) (-z.s) (by simp; omega)).mono ?_).v
    rintro _ T ⟨rfl, o3, m3, rfl⟩
    refine ⟨_, _, rfl, ?_⟩
    simp only [List.tail_cons] at m3
    rw [hno] at m3
    simp only [cond_false] at m3
    clear hGc hGh
    clear Gc Gh
    refine zH hsuf (D := []) (by rfl) fun Gc Gh hGc hGh X hX0 hX => ?_
    simp -implicitDefEqProofs [hX0, hX]
    clear hX0 hX X
    intros
    refine hK _ _ _ ?_
    clear hK hGc hGh
    clear K Gc Gh
    refine zm (i + 1, A', rows.set q (z :: tz), wB ((q : Int), -z.s) r, o3, v) [] ⟨hil, hJ', e5, e6, e7, ?_, m3⟩ (by simp; omega) (by simp) rfl (by simp)
    have := hperm z tz
    rw [Nat.zero_add] at this
    exact (Yg _ _).trans ((e3.cons _).trans this.symm)
open Go Hp
theorem Zg1 {x : Inst} {c : List Int} (h : c.Nodup) (hc : c.length ≤ 1000) : (yS x c).length ≤ 1000000 := by
 rw [Zf7 h]
 exact Nat.le_trans (Nat.mul_le_mul hc (Nat.sub_le _ _)) (Nat.mul_le_mul_left 1000 hc)
open Go Hp
open Go Hp
def vK (x : Inst) (ss : List Stop) (i : Nat) : Day × Int := ((yS x (ss.map (·.c))).take i).foldl (yO x) (ss.map fun s => [s], (ss.length : Int))
theorem Zg2 (x : Inst) (ss : List Stop) : vK x ss 0 = (ss.map fun s => [s], (ss.length : Int)) := by simp [vK]
theorem Zg3 {x : Inst} {ss : List Stop} {i : Nat} {p : Pr} (h : (yS x (ss.map (·.c)))[i]? = some p) : vK x ss (i + 1) = yO x (vK x ss i) p := by
 unfold vK
 obtain ⟨h1, e⟩ := List.getElem?_eq_some_iff.1 h
 rw [List.take_succ_eq_append_getElem h1, e, List.foldl_append]; rfl
theorem Zg4 (x : Inst) (ss : List Stop) : vK x ss (yS x (ss.map (·.c))).length = Xc x ss := by simp [vK, Xc]
theorem Zg5 (x : Inst) (T : Day) (num : Int) (p : Pr) : num - 1 ≤ (yO x (T, num) p).2 ∧ (yO x (T, num) p).2 ≤ num := by
 unfold yO Zl
 cases yq x (T, num).2 p (xH (T, num).1 p.a) (xH (T, num).1 p.b) ((T, num).1.getD (xH (T, num).1 p.a) []) ((T, num).1.getD (xH (T, num).1 p.b) []) <;> simp <;> omega
set_option maxRecDepth 20000 in
set_option maxHeartbeats 1600000 in
theorem Zg6 (x : Inst) (ss : List Stop) (hx : qJ x) (hxc : x.cust.length ≤ 1048576) (hss : ss.length ≤ 1000) (hs : ∀ s ∈ ss, small s.c) (hnd : (ss.map (·.c)).Nodup) : Pure Tryz.prog 218 [.agg (zt x), L ss] (.agg [L (jG x ss)]) := by
 have hpl := Zg1 (x := x) hnd (by simpa using hss)
 have hkey : KeyOk (.int .i64) yF := uy .i64
 have hdist : ∀ k s, ss[k]? = some s → s.c ∉ (ss.take k).map (·.c) := by
  intro k s h hm
  obtain ⟨s', h1, h2⟩ := List.mem_map.1 hm
  obtain ⟨j, hj⟩ := List.mem_iff_getElem?.1 h1
  rw [List.getElem?_take] at hj
  split at hj
  ·rename_i hjk
   have e1 : (ss.map (·.c))[j]? = some s.c := by rw [List.getElem?_map, hj, ← h2]; rfl
   have e2 : (ss.map (·.c))[k]? = some s.c := by rw [List.getElem?_map, h]; rfl
   obtain ⟨g1, g2⟩ := List.getElem?_eq_some_iff.1 e1
   obtain ⟨g3, g4⟩ := List.getElem?_eq_some_iff.1 e2
   exact List.pairwise_iff_getElem.1 hnd j k g1 g3 hjk (g2.trans g4.symm)
  ·cases hj
 refine pwe Tryz.func218 Tryz.ntmps218 Tryz.results218 fun S nx hd => ?_
 repeat apply za
 refine pwn ?_
 intro v0 v1
 repeat apply za
 refine pwn ?_
 intro v2 v3 v4
 refine qT 3 6 46 1 rfl rfl fun v5 => ?_
 (repeat apply za); refine pwn ?_; intros
 repeat apply za
 refine zh (zr (fun s : Nat × Day × List (Value × PV) × (Int → Option Int) × Nat => s.1 ≤ ss.length ∧ s.2.1 = (ss.take s.1).map (fun s => [s]) ∧ MapIs yF I s.2.2.1 s.2.2.2.1 ∧ JI (ss.take s.1) s.2.1 s.2.2.2.1) (fun (k, T, es, g, v5) => [(1, L ss), (2, .ptr nx v0 0), (4, .ptr (nx + 1) v1 0), (5, .ptr (nx + 4) v4 0), (18, L ss), (19, I ss.length), (20, I k)])
  (fun (k, T, es, g, v5) => [.cells v0 25 (zt x), .cells v1 66 [.sc (.slice none 0 0)], .map v2 es, .cells v3 290 (Zm x (nx + 5) v5 k ss.length (nx + 2) v2), .cells v4 287 [.ptr (nx + 3) v3 0], .cells v5 46 (T.flatMap Enc.enc)]) (fun s => ss.length - s.1) (0, [], [], fun _ => none, v5) [] ⟨by simp, by simp, VZ _ _, by simpa using JI.nil⟩ (by simp) (by simp) ?_)
 rintro ⟨k, T, es, g, v5⟩ ⟨hk, hT, hm, hI⟩
 simp only at hk hT hm hI ⊢
 have hTl : T.length = k := by rw [hT]; simp; omega
 (repeat apply za); refine pwn ?_; intros
 repeat apply za
 refine zn rfl (fun hq => ?_) (fun hq => ?_)
 ·simp at hq
  obtain ⟨s, tl, a1, a2, a3, e1, e0⟩ := el 2 rfl ss k hq
  obtain ⟨rs, f1, _, _, f4, _⟩ := hm.find hkey s.c
  have hnew := f4 (k : Int)
  have hIn := hI.snoc s (hdist k s a1)
  have hkl : (ss.take k).length = k := by simp; omega
  rw [hkl, ← a3] at hIn
  have hTs : T ++ [[s]] = (ss.take (k + 1)).map fun s => [s] := by rw [a3, hT]; simp
  have htf : (T.flatMap Enc.enc).take k = T.flatMap Enc.enc := List.take_of_length_le (by rw [jE]; omega)
  have htl : (T.flatMap Enc.enc).length = k := by rw [jE, hTl]
  refine ze (za (zh ?_))
  repeat apply za
  refine pwN [] (jn3 e1 e0 hq) ?_
  intro v6
  repeat apply za
  refine pwY (some [nx + 4, nx + 6]) (Row.pures [0, 1, 2, 3, 5, 6, 7] (.alt 4 (.alt 8 (Row.pures [9, 10] (.alt 11 (.done) .stop)) .stop) .stop)) mixed (jn2 htf htl) ?_
  refine ⟨⟨by omega, by omega⟩, ?_⟩
  intros
  repeat apply za
  refine xE (some [nx + 3, nx + 4, nx + 6]) (Row.pures [0, 1, 2, 3, 4, 5, 6] (.alt 7 (.done) .stop)) mixed (by rfl) (by rfl) (by rfl) fun K Gp Gc Gh hK hGp hGc hGh X hX0 hX1 hX2 hX => ?_
  simp -implicitDefEqProofs [hX0, hX1, hX2, hX]
  try clear hX0 hX1 hX2 hX X
  refine hGh _ _ _ _ _ (by rfl) (ZZ (.inl rfl) Tryz.underlying288 Tryz.underlying3 rfl rfl rfl (by simp) f1 ?_)
  rw [qn _ (by omega) (by simp), show nx + 2 - nx = 2 from by omega]
  refine ⟨by simp [zW], ?_⟩
  clear hGp hGc hGh
  clear Gp Gc Gh
  refine qS fun Gp Gc Gh hGp hGc hGh X hX0 hX1 hX2 hX => ?_
  simp -implicitDefEqProofs [hX0, hX1, hX2, hX]
  try clear hX0 hX1 hX2 hX X
  refine hK _ _ _ ?_
  clear hK hGp hGc hGh
  clear K Gp Gc Gh
  (repeat apply za); refine pwn ?_; intros
  exact zm (k + 1, T ++ [[s]], qq (yF s.c) (I k) es rs, yN g s.c (some (k : Int)), v5 + 1) [_] ⟨hq, hTs, hnew, hIn⟩ (by simp; omega) (by simp [wrN k (by omega)]) rfl (by simp; rfl)
 ·simp at hq
  obtain rfl : k = ss.length := by omega
  rw [List.take_length] at hT hI
  refine zo ?_
  repeat apply za
  refine pwn ?_
  refine pwc (ZgZ x ss) ?_
  intros
  repeat apply za
  refine zh (Z4 (xs := (yS x (ss.map (·.c))).map prV) (σ := Day × Int × List (Value × PV) × (Int → Option Int)) (fun i s => (s.1, s.2.1) = vK x ss i ∧ i ≤ (yS x (ss.map (·.c))).length ∧ MapIs yF I s.2.2.1 s.2.2.2 ∧ JI ss s.1 s.2.2.2 ∧ (ss.length : Int) - i ≤ s.2.1 ∧ s.2.1 ≤ ss.length) [(4, .ptr (nx + 1) v1 0), (5, .ptr (nx + 4) v4 0)] (fun _ => S)
   (fun (T, num, es, g) => [.cells v0 25 (zt x), .cells v1 66 [.sc (.slice none 0 0)], .map v2 es, .cells v3 290 (Zm x (nx + 5) v5 ss.length num (nx + 2) v2), .cells v4 287 [.ptr (nx + 3) v3 0], .cells v5 46 (T.flatMap Enc.enc)]) (T, (ss.length : Int), es, g)
   (Zg0 x ss hx (by omega) hs hnd) rfl (by intro x hx; obtain ⟨y, _, rfl⟩ := List.mem_map.1 hx; rfl) (by decide) (by simp) ⟨by rw [Zg2, hT], by simp, hm, hI, by simp, by simp⟩ rfl (by simp) (by simp) ?_ ?_)
  ·clear hm hI hT hTl
   rintro l i ⟨T, num, es, g⟩ more y ⟨hst, hi, hm, hI, hn1, hn2⟩ hy
   simp only at hst hi hm hI hn1 hn2 ⊢
   rw [List.getElem?_map] at hy
   obtain ⟨p, hp, rfl⟩ := Option.map_eq_some_iff.1 hy
   obtain ⟨hil, hpi⟩ := List.getElem?_eq_some_iff.1 hp
   have hmem := Yi.1 ((uB x _).subset (List.mem_of_getElem? hp))
   have hsucc := Zg3 hp
   rw [← hst] at hsucc
   obtain ⟨nb1, nb2⟩ := Zg5 x T num p
   repeat apply za
   refine zQ [] (by rfl) (by rfl) fun K Gc Gh hK hGc hGh X hX0 hX => ?_
   simp -implicitDefEqProofs [hX0, hX, prV]
   try clear hX0 hX X
   intro v6
   refine hK _ _ _ ?_
   clear hK hGc hGh
   clear K Gc Gh
   refine zh ?_
   repeat apply za
   refine zQ [] (by rfl) (by rfl) fun K Gc Gh hK hGc hGh X hX0 hX => ?_
   simp -implicitDefEqProofs [hX0, hX]
   try clear hX0 hX X
   refine hGc _ _ _ _ _ _ _ fun hsuf => ((Zgs x ss T g num es hxc hss (by omega) hI hm (jid := nx + 3) (tid := nx + 5) (mid := nx + 2) (by rw [qe]; rfl) (by rw [qe]; rfl) (by rw [qe]; rfl) (by omega) (by omega) (by omega) p hmem.1 hmem.2.1).mono ?_).v
   rintro _ _ ⟨es2, g2, m2, i2, rfl⟩
   refine ⟨_, _, (by rw [qn _ (by omega) (by simp), qn _ (by omega) (by simp), qn _ (by omega) (by simp)]), ?_⟩
   clear hGc hGh
   clear Gc Gh
   refine zH hsuf (D := []) (by rfl) fun Gc Gh hGc hGh X hX0 hX => ?_
   simp -implicitDefEqProofs [hX0, hX, (show nx + 3 - nx = 3 from by omega), (show nx + 5 - nx = 5 from by omega), (show nx + 2 - nx = 2 from by omega)]
   clear hX0 hX X
   intros
   refine hK _ _ _ ?_
   clear hK hGc hGh
   clear K Gc Gh
   simp only [qD]
   exact jY ((yO x (T, num) p).1, (yO x (T, num) p).2, es2, g2) [_] ⟨hsucc.symm, by omega, m2, i2, by simp only; omega, by simp only; omega⟩ rfl (by simp; rfl)
  ·clear hm hI hT hTl
   rintro ⟨T, num, es, g⟩ ⟨hst, -, hm, hI, -, -⟩
   simp only [List.length_map] at hst hI ⊢
   rw [Zg4] at hst
   have hTl := hI.len
   have hjp : jG x ss = T.filter fun t => !t.isEmpty := by unfold jG; rw [← hst]
   rw [hjp]
   repeat apply za
   refine pwn ?_
   intro v6
   refine qT 6 0 72 1 rfl rfl fun v7 => ?_
   (repeat apply za); refine pwn ?_; intros
   repeat apply za
   refine zh (zr (fun s : Nat × Day × Nat => s.1 ≤ T.length ∧ s.2.1 = (T.take s.1).filter fun t => !t.isEmpty) (fun (k, out, v7) => [(4, .ptr (nx + 1) v1 0), (9, .ptr (nx + 6) v6 0), (54, .sl (nx + 5) v5 1 0 ss.length), (55, I ss.length), (56, I k)]) (fun (k, out, v7) => [.cells v0 25 (zt x), .cells v1 66 [.sc (.slice none 0 0)], .map v2 es, .cells v3 290 (Zm x (nx + 5) v5 ss.length num (nx + 2) v2), .cells v4 287 [.ptr (nx + 3) v3 0], .cells v5 46 (T.flatMap Enc.enc), .cells v6 66 [.sl (nx + 7) v7 1 0 out.length], .cells v7 72 (out.flatMap Enc.enc)]) (fun s => T.length - s.1) (0, [], v7) [] ⟨by simp, by simp⟩ (by simp) (by simp) ?_)
   rintro ⟨k, out, v7⟩ ⟨hk, ho⟩
   simp only at hk ho ⊢
   have hol : out.length ≤ k := by rw [ho]; exact Nat.le_trans (List.length_filter_le _ _) (by simp; omega)
   (repeat apply za); refine pwn ?_; intros
   repeat apply za
   refine zn rfl (fun hq => ?_) (fun hq => ?_)
   ·simp at hq
    obtain ⟨t, tl, a1, a2, a3, e0⟩ := el1 rfl T k (by omega)
    have hfs : (T.take (k + 1)).filter (fun t => !t.isEmpty) = out ++ (if t = [] then [] else [t]) := by
     rw [a3, List.filter_append, ← ho]
     cases t <;> simp
    refine ze (za (zh ?_))
    repeat apply za
    refine pwN [] (jn3 e0 hq hTl) ?_
    intros
    (repeat apply za); refine pwn ?_; intros
    cases t with
    | nil =>
     rw [if_pos rfl, List.append_nil] at hfs
     repeat apply za
     refine zk (by simp) ?_
     refine ze ?_
     (repeat apply za); refine pwn ?_; intros
     exact zm (k + 1, out, v7) [] ⟨by omega, hfs.symm⟩ (by simp; omega) (by simp [wrN k (by omega)]) rfl (by simp)
    | cons s t =>
     rw [if_neg (by simp)] at hfs
     repeat apply za
     refine zi (by simp) ?_
     repeat apply za
     refine pwn ?_
     refine ⟨by omega, ?_⟩
     intros
     (repeat apply za); refine pwn ?_; intros
     exact zm (k + 1, out ++ [s :: t], v7 + 1) [] ⟨by omega, hfs.symm⟩ (by simp; omega) (by simp [wrN k (by omega)]) rfl (by simp)
   ·simp at hq
    obtain rfl : k = T.length := by omega
    rw [List.take_length] at ho
    refine zo ?_
    refine zL 7 rfl ?_
    (repeat apply za); refine pwn ?_; intros
    repeat apply za
    exact zb (zg hd (by simp; rfl) (by simp [zj, ho]))
open Go Hp
abbrev yH : PV := .sc (.slice none 0 0)
open Go Hp
def uC (pl : PV) : Prop := pl = yH ∨ ∃ n cs, pl = .lst n cs
theorem uD (l : List Stop) : uC (L l) := .inr ⟨_, _, rfl⟩
abbrev Zn (x : Inst) (b : Int) : PV := .fn (.func 214) [] [.ip (zt x), .ip [I b]]
abbrev fsL (x : Inst) (pl : PV) (b : Int) : List PV := [.fn (.func 215) [] [.ip [pl]], .fn (.func 217) [] [.ip [Zn x b], .ip (zt x), .ip [pl]], .fn (.func 219) [] [.ip [Zn x b], .ip [pl]], .fn (.func 220) [] [.ip (zt x), .ip [pl], .ip [Zn x b]]]
set_option maxRecDepth 20000 in
theorem Zg7 (x : Inst) (pl : PV) (b : Int) (hp : uC pl) : Pure Tryz.prog 180 [.agg (zt x), pl, I b] (.fn (.func 222) [] [.ip [.lst 4 (fsL x pl b)]]) := by
 rcases hp with rfl | ⟨n, cs, rfl⟩
 all_goals
  refine pwe Tryz.func180 Tryz.ntmps180 Tryz.results180 fun S nx hd => ?_
  repeat apply za
  refine pwn ?_
  intro v0 v1 v2
  refine jq 0 rfl ?_
  refine jq 1 rfl ?_
  refine jq 2 rfl ?_
  repeat apply za
  refine pwn ?_
  intro v3
  refine jq 3 rfl ?_
  repeat apply za
  refine pwn ?_
  intro v4
  refine jq 4 rfl ?_
  (repeat apply za); refine pwn ?_; intros
  repeat apply za
  exact zb (zg hd (by simp; rfl) rfl)
set_option maxRecDepth 20000 in
theorem Zg8 (pl : PV) (d : Day) (hp : uC pl) (hA : Pure Tryz.prog 216 [pl] (.agg [L d])) : Pure Tryz.prog 215 [.ip [pl]] (.tup [.agg [L d], B true]) := by
 rcases hp with rfl | ⟨n, cs, rfl⟩
 all_goals
  refine pwe Tryz.func215 Tryz.ntmps215 Tryz.results215 fun S nx hd => ?_
  repeat apply za
  refine pwn ?_
  intro v0
  repeat apply za
  refine pwn ?_
  refine pwc hA ?_
  intros
  repeat apply za
  exact zb (zg hd (by simp; rfl) rfl)
set_option maxRecDepth 20000 in
theorem Xg (x : Inst) (b : Int) (d e : Day) (n : Int) (hI : Pure Tryz.prog 76 [.agg (zt x), .agg [L d], I b] (.tup [.agg [L e], I n])) : Pure Tryz.prog 214 [.agg [L d], .ip (zt x), .ip [I b]] (.agg [L e]) := by
 refine pwe Tryz.func214 Tryz.ntmps214 Tryz.results214 fun S nx hd => ?_
 repeat apply za
 refine pwn ?_
 intro v0 v1
 repeat apply za
 refine pwn ?_
 refine pwc hI ?_
 intros
 (repeat apply za); refine pwn ?_; intros
 repeat apply za
 exact zb (zg hd (by simp; rfl) rfl)
set_option maxRecDepth 20000 in
theorem Zg9 (x : Inst) (pl : PV) (b : Int) (d e : Day) (n : Int) (hp : uC pl) (hJ : Pure Tryz.prog 218 [.agg (zt x), pl] (.agg [L d])) (hI : Pure Tryz.prog 76 [.agg (zt x), .agg [L d], I b] (.tup [.agg [L e], I n])) : Pure Tryz.prog 217 [.ip [Zn x b], .ip (zt x), .ip [pl]] (.tup [.agg [L e], B true]) := by
 have hF := Xg x b d e n hI
 rcases hp with rfl | ⟨n, cs, rfl⟩
 all_goals
  refine pwe Tryz.func217 Tryz.ntmps217 Tryz.results217 fun S nx hd => ?_
  repeat apply za
  refine pwn ?_
  intro v0
  repeat apply za
  refine pwY (some []) (Row.pures [0, 1, 2, 3, 4] (.alt 5 (Row.pures [6] .done) .stop)) mixed trivial ?_
  refine pwP (hJ) trivial ?_
  refine pwP (hF) trivial ?_
  intros
  repeat apply za
  exact zb (zg hd (by simp; rfl) rfl)
set_option maxRecDepth 20000 in
theorem Zha (x : Inst) (pl : PV) (b : Int) (d e : Day) (n : Int) (hp : uC pl) (hA : Pure Tryz.prog 216 [pl] (.agg [L d])) (hI : Pure Tryz.prog 76 [.agg (zt x), .agg [L d], I b] (.tup [.agg [L e], I n])) : Pure Tryz.prog 219 [.ip [Zn x b], .ip [pl]] (.tup [.agg [L e], B true]) := by
 have hF := Xg x b d e n hI
 rcases hp with rfl | ⟨n, cs, rfl⟩
 all_goals
  refine pwe Tryz.func219 Tryz.ntmps219 Tryz.results219 fun S nx hd => ?_
  repeat apply za
  refine pwn ?_
  intro v0
  repeat apply za
  refine pwY (some []) (Row.pures [0, 1, 2, 3] (.alt 4 (Row.pures [5] .done) .stop)) mixed trivial ?_
  refine pwP (hA) trivial ?_
  refine pwP (hF) trivial ?_
  intros
  repeat apply za
  exact zb (zg hd (by simp; rfl) rfl)
set_option maxRecDepth 20000 in
theorem Zao (x : Inst) (pl : PV) (b : Int) (d e : Day) (ok : Bool) (n : Int) (hp : uC pl) (hR : Pure Tryz.prog 221 [.agg (zt x), pl] (.tup [.agg [L d], B ok])) (hI : ok = true → Pure Tryz.prog 76 [.agg (zt x), .agg [L d], I b] (.tup [.agg [L e], I n])) :
  Pure Tryz.prog 220 [.ip (zt x), .ip [pl], .ip [Zn x b]] (.tup [.agg [bif ok then L e else yH], B ok]) := by
 rcases hp with rfl | ⟨n, cs, rfl⟩
 all_goals
  cases ok with
  | false =>
   refine pwe Tryz.func220 Tryz.ntmps220 Tryz.results220 fun S nx hd => ?_
   repeat apply za
   refine pwn ?_
   intro v0
   repeat apply za
   refine pwn ?_
   refine pwc hR ?_
   intro v1
   intros
   (repeat apply za); refine pwn ?_; intros
   repeat apply za
   refine zi rfl ?_
   (repeat apply za); refine pwn ?_; intros
   repeat apply za
   exact zb (zg hd (by simp; rfl) rfl)
  | true =>
   have hF := Xg x b d e _ (hI rfl)
   refine pwe Tryz.func220 Tryz.ntmps220 Tryz.results220 fun S nx hd => ?_
   repeat apply za
   refine pwn ?_
   intro v0
   repeat apply za
   refine pwn ?_
   refine pwc hR ?_
   intro v1
   intros
   (repeat apply za); refine pwn ?_; intros
   repeat apply za
   refine zk rfl ?_
   refine ze ?_
   repeat apply za
   refine pwn ?_
   refine pwc hF ?_
   intros
   repeat apply za
   exact zb (zg hd (by simp; rfl) rfl)
set_option maxRecDepth 20000 in
theorem Zhb (fs : List PV) (rs : List (Option Day)) (hl : rs.length = fs.length) (hn : fs.length ≤ 1000)
  (h : ∀ (k : Nat) f, fs[k]? = some f → ∃ fk caps p, f = .fn (.func fk) [] caps ∧ Pure Tryz.prog fk caps (.tup [.agg [p], B (rs.getD k none).isSome]) ∧ ∀ d, rs.getD k none = some d → p = L d) :
  uq Tryz.prog 222 [.ip [.lst fs.length fs]] ((rs.filterMap id).map fun d => [.agg [L d]]) := by
 refine Qf Tryz.func222 (by rfl) rfl Tryz.ntmps222 (congrArg Array.toList Tryz.results222) (by simp) fun l V keep nx J hJd hY A0 hA0 => ?_
 (repeat apply za); refine pwn ?_; intros
 repeat apply za
 refine zh (jn (σ := Nat × Store) (fun s => s.1 ≤ fs.length ∧ J ((rs.take s.1).filterMap id).length s.2) (fun s => [(0, yld l), (7, .lst fs.length fs), (8, I fs.length), (9, I s.1)]) (fun s => s.2) (fun s => []) (fun s => fs.length - s.1) (zy (0, A0) [] (by simp [hA0]) (by simp) rfl (by simp)) ?_)
 rintro ⟨k, A⟩ ⟨hk, hJ⟩
 simp only at hk hJ ⊢
 (repeat apply za); refine pwn ?_; intros
 repeat apply za
 refine zn rfl (fun hc => ?_) (fun hc => ?_)
 ·simp at hc
  have e0 : fs.drop k = fs[k] :: fs.drop (k + 1) := List.drop_eq_getElem_cons hc
  obtain ⟨fk, caps, p, hf, hP, hd⟩ := h k fs[k] (List.getElem?_eq_getElem hc)
  rw [hf] at e0
  have hkr : k < rs.length := by omega
  have htk : rs.take (k + 1) = rs.take k ++ [rs[k]] := List.take_succ_eq_append_getElem hkr
  have hg : rs.getD k none = rs[k] := by rw [List.getD_eq_getElem?_getD, List.getElem?_eq_getElem hkr]; rfl
  rw [hg] at hP hd
  refine ze (za (zh ?_))
  repeat apply za
  refine pwN [] (jn2 e0 hc) ?_
  intros
  cases hr : rs[k] with
  | none =>
   rw [hr] at hP htk
   simp only [Option.isSome_none] at hP
   have hlen : ((rs.take (k + 1)).filterMap id).length = ((rs.take k).filterMap id).length := by rw [htk]; simp
   repeat apply za
   refine pwn ?_
   refine pwc hP ?_
   intro v0
   intros
   repeat apply za
   refine pwN [(1, 19)] zp ?_
   intros
   repeat apply za
   refine zk rfl ?_
   refine ze ?_
   (repeat apply za); refine pwn ?_; intros
   exact zm (k + 1, A) [_] ⟨hc, by rw [hlen]; exact hJ⟩ (by simp; omega) (by simp [wrN k (by omega)]) rfl (by simp; rfl)
  | some d =>
   obtain rfl := hd d hr
   rw [hr] at hP htk
   simp only [Option.isSome_some] at hP
   have hlen : ((rs.take (k + 1)).filterMap id).length = ((rs.take k).filterMap id).length + 1 := by rw [htk]; simp
   have hx : ((rs.filterMap id).map fun d => [PV.agg [L d]])[((rs.take k).filterMap id).length]? = some [PV.agg [L d]] := by
    have e1 : rs.filterMap id = (rs.take k).filterMap id ++ (d :: (rs.drop (k + 1)).filterMap id) := by
     conv => lhs; rw [← List.take_append_drop k rs, List.drop_eq_getElem_cons hkr, hr]
     simp
    rw [List.getElem?_map, e1, List.getElem?_append_right (Nat.le_refl _), Nat.sub_self]
    rfl
   repeat apply za
   refine pwn ?_
   refine pwc hP ?_
   intro v0
   intros
   repeat apply za
   refine zQ [(1, 19)] (by rfl) (by rfl) fun K Gc Gh hK hGc hGh X hX0 hX => ?_
   simp -implicitDefEqProofs [hX0, hX]
   try clear hX0 hX X
   refine hGh _ _ _ _ _ fun hsuf => Z2 rfl rfl rfl (hY _ _ _ _ hx hJ) ?_
   rintro _ ⟨A', hJ', rfl⟩
   refine ⟨_, _, rfl, ?_⟩
   clear hGc hGh
   clear Gc Gh
   refine zH hsuf (D := [(1, 19)]) (by rfl) fun Gc Gh hGc hGh X hX0 hX => ?_
   simp -implicitDefEqProofs [hX0, hX]
   try clear hX0 hX X
   intros
   refine hK _ _ _ ?_
   clear hK hGc hGh
   clear K Gc Gh
   repeat apply za
   refine zk rfl ?_
   refine ze ?_
   (repeat apply za); refine pwn ?_; intros
   exact zm (k + 1, A') [_] ⟨hc, by rw [hlen]; exact hJ'⟩ (by simp; omega) (by simp [wrN k (by omega)]) rfl (by simp; rfl)
 ·simp at hc
  obtain rfl : k = fs.length := by omega
  rw [← hl, List.take_length] at hJ
  refine zo (xT (hJd _ _ hJ) rfl ?_)
  simpa using hJ
def qV (x : Inst) (st : Day × Int × Bool) (d : Day) : Day × Int × Bool := if zT x d = 0 then (if st.2.2 = false ∨ W (yn x d) < st.2.1 then (d, W (yn x d), true) else st) else st
def xp (x : Inst) (ds : List Day) : Day × Int × Bool := ds.foldl (qV x) ([], 0, false)
open Go Hp
theorem Zhc {K : (Nat → PV) → Store → Prop} {Q : Exit → (Nat → PV) → Store → Prop} {i : Nat} {F : Nat → PV} {S : Store} (h : Q (.exit i) F S) : wV K Q (.exit i) F S := h
theorem Zhd {Q : Exit → (Nat → PV) → Store → Prop} {i : Nat} {F : Nat → PV} {S : Store} (h : Q .normal F S) : qD i Q (.exit i) F S := by simp [qD, h]
def jg (x : Inst) (e : Int) (ds : List Day) : Day × Int := if e = 0 then (bif (xp x ds).2.2 then ((xp x ds).1, 0) else ([], 14)) else ([], e)
set_option maxRecDepth 20000 in
set_option maxHeartbeats 800000 in
theorem Zap (x : Inst) (pl : PV) (b e : Int) (ds : List Day) (hp : uC pl) (hx : x.cust.length ≤ 1048576) (hF : Pure Tryz.prog 179 [.agg (zt x), pl] (I e))
  (hit : e = 0 → uq Tryz.prog 222 [.ip [.lst 4 (fsL x pl b)]] (ds.map fun d => [.agg [L d]])) (hds : e = 0 → ∀ d ∈ ds, DayOk d ∧ d.flatten.length ≤ 1048576) :
  Pure Tryz.prog 130 [.agg (zt x), pl, I b] (.tup [.agg [L (jg x e ds).1], I (jg x e ds).2]) := by
 have hT := Zg7 x pl b hp
 refine pwe Tryz.func130 Tryz.ntmps130 Tryz.results130 fun S nx hd => ?_
 repeat apply za
 refine pwn ?_
 intro v0 v1
 repeat apply za
 refine pwn ?_
 refine pwc hF ?_
 intros
 by_cases he : e = 0
 case neg =>
  (repeat apply za); refine pwn ?_; intros
  repeat apply za
  refine zi (by simp [he]) ?_
  (repeat apply za); refine pwn ?_; intros
  refine Ze 1 0 rfl rfl ?_
  repeat apply za
  exact zb (zg hd (by simp; rfl) (by simp [jg, he, zj]))
 subst he
 have hit := hit rfl
 have hds := hds rfl
 (repeat apply za); refine pwn ?_; intros
 repeat apply za
 refine zk (by simp) ?_
 refine ze ?_
 repeat apply za
 refine pwn ?_
 intro v2 v3 v4
 refine Ze 2 0 rfl rfl ?_
 repeat apply za
 refine pwn ?_
 refine pwc hT ?_
 intros
 repeat apply za
 refine zh (Z4 (xs := ds.map fun d => [PV.agg [L d]]) (σ := Day × Int × Bool) (fun i s => s = (ds.take i).foldl (qV x) ([], 0, false) ∧ i ≤ ds.length) [(3, .ptr nx v0 0), (6, .ptr (nx + 1) v1 0), (7, I 0), (9, .ptr (nx + 2) v2 0), (10, .ptr (nx + 3) v3 0), (11, .ptr (nx + 4) v4 0)] (fun _ => S)
  (fun (best, least, found) => [.cells v0 25 (zt x), .cells v1 66 [yH], .cells v2 66 [L best], .cells v3 3 [I least], .cells v4 4 [B found]]) ([], 0, false)
  hit rfl (by intro x hx; obtain ⟨y, _, rfl⟩ := List.mem_map.1 hx; rfl) (by decide) (by simp) ⟨by simp, by simp⟩ rfl (by simp) (by simp) ?_ ?_)
 ·rintro l i ⟨best, least, found⟩ more y ⟨hst, hi⟩ hy
  simp only at hst hi ⊢
  rw [List.getElem?_map] at hy
  obtain ⟨d, hd', rfl⟩ := Option.map_eq_some_iff.1 hy
  obtain ⟨hil, hdi⟩ := List.getElem?_eq_some_iff.1 hd'
  obtain ⟨hdo, hdf⟩ := hds d (List.mem_of_getElem? hd')
  have hday := Zfn x d hx hdo.1 hdo.2 hdf
  have hcost := Zfg x d hdo
  have hsucc : (ds.take (i + 1)).foldl (qV x) ([], 0, false) = qV x (best, least, found) d := by
   rw [List.take_succ_eq_append_getElem hil, hdi, List.foldl_append, ← hst]; rfl
  unfold qV at hsucc
  simp only at hsucc
  repeat apply za
  refine pwn ?_
  intro v5
  refine zh ?_
  repeat apply za
  refine pwn ?_
  refine pwc hday ?_
  intros
  by_cases h1 : zT x d = 0
  ·rw [if_pos h1] at hsucc
   repeat apply za
   refine zk (by simp [h1]) ?_
   refine ze ?_
   repeat apply za
   refine pwn ?_
   refine pwc hcost ?_
   intros
   generalize W (yn x d) = c at *
   cases found with
   | false =>
    rw [if_pos (.inl rfl)] at hsucc
    repeat apply za
    refine pwN [(2, 36)] zp ?_
    intros
    repeat apply za
    refine zi rfl ?_
    (repeat apply za); refine pwn ?_; intros
    simp only [qD]
    exact jY (d, c, true) [_] ⟨hsucc.symm, by omega⟩ rfl (by simp; rfl)
   | true =>
    by_cases h2 : c < least
    ·rw [if_pos (.inr h2)] at hsucc
     repeat apply za
     refine pwN [(2, 36)] (jn2 h2 zp) ?_
     intros
     repeat apply za
     refine zi rfl ?_
     (repeat apply za); refine pwn ?_; intros
     simp only [qD]
     exact jY (d, c, true) [_] ⟨hsucc.symm, by omega⟩ rfl (by simp; rfl)
    ·rw [if_neg (by simp [h2])] at hsucc
     repeat apply za
     refine pwN [(2, 36)] (jn2 h2 zp) ?_
     intros
     repeat apply za
     refine zk rfl ?_
     refine ze ?_
     simp only [qD]
     exact jY (best, least, true) [_] ⟨hsucc.symm, by omega⟩ rfl (by simp; rfl)
  ·rw [if_neg h1] at hsucc
   repeat apply za
   refine zi (by simp [h1]) ?_
   refine zo ?_
   refine Zhc (Zhd ?_)
   exact jY (best, least, found) [_] ⟨hsucc.symm, by omega⟩ rfl (by simp; rfl)
 ·rintro ⟨best, least, found⟩ ⟨hst, -⟩
  simp only [List.length_map, List.take_length] at hst ⊢
  have hz : xp x ds = (best, least, found) := hst.symm
  cases found with
  | false =>
   (repeat apply za); refine pwn ?_; intros
   repeat apply za
   refine zi rfl ?_
   (repeat apply za); refine pwn ?_; intros
   refine Ze 1 0 rfl rfl ?_
   repeat apply za
   exact zb (zg hd (by simp; rfl) (by simp [jg, hz, zj]))
  | true =>
   (repeat apply za); refine pwn ?_; intros
   repeat apply za
   refine zk rfl ?_
   refine ze ?_
   (repeat apply za); refine pwn ?_; intros
   repeat apply za
   exact zb (zg hd (by simp; rfl) (by simp [jg, hz, zj]))
open Go Hp
set_option maxRecDepth 20000 in
theorem Zaq (lk : List PV) (s : Stop) (hl : lk.length = 13) : Pure Tryz.prog 108 [.agg lk, .agg [I s.c, I s.q]] (.fn (.func 147) [] [.ip [I s.c, I s.q], .ip lk]) := by
 refine pwe Tryz.func108 Tryz.ntmps108 Tryz.results108 fun S nx hd => ?_
 repeat apply za
 refine pwN [] hl ?_
 intro v0 v1
 (repeat apply za); refine pwn ?_; intros
 refine jq 0 rfl ?_
 refine jq 1 rfl ?_
 repeat apply za
 exact zb (zg hd (by simp; rfl) rfl)
open Go Go.Lib Go.Proofs
theorem uE : ElemOk Tryz.prog 46 50 (.agg #[.int .i64 0, .int .i64 0]) 16 :=
 ⟨Tryz.underlying46, by simp, by simp, by simp, by simp, by omega⟩
set_option maxHeartbeats 4000000 in
set_option maxRecDepth 100000 in
theorem Zar (a : Addr) (n c : Nat) (w W2 : World) (u : Value) (hrz : ∀ ty, (Builtin.append_ #[46, 46] ty #[.slice (some ⟨w.heap.size, 0, none⟩) 0 0, .slice (some a) n c]).run Tryz.prog (w.alloc (.cells #[] 50)) = .ok u W2) :
  Calls Tryz.prog 114 #[.slice (some a) n c] w fun e w' => e = .returned u ∧ w' = W2 := by
 have mixed : Tryz.prog.follows .mixedOrders = true := by kernel_rfl
 have q22 : ∀ (w : World) (a : Option Addr) (n c n' c' : Nat), (binOp .eql 46 (.slice a n c) (.slice none n' c')).run Tryz.prog w = .ok (.bool a.isNone) w := fun w a n c n' c' => Lib.run_eql_slice_nil w _ _ a n c n' c' Tryz.underlying46
 go_enter Tryz.func114, Tryz.ntmps114
 go_wp2_with (at_builtin; refine Lib.wpList_append_run _ rfl _ _ _ _ rfl _ _ rfl rfl _ _ (hrz _) ?_)
 go_wp2
 go_ret
 exact ⟨rfl, rfl⟩
set_option maxHeartbeats 4000000 in
set_option maxRecDepth 100000 in
theorem Zhe (n c : Nat) (w : World) :
  Calls Tryz.prog 114 #[.slice none n c] w fun e w' => e = .returned (.slice none 0 0) ∧ w' = w := by
 have mixed : Tryz.prog.follows .mixedOrders = true := by kernel_rfl
 have q22 : ∀ (w : World) (a : Option Addr) (n c n' c' : Nat), (binOp .eql 46 (.slice a n c) (.slice none n' c')).run Tryz.prog w = .ok (.bool a.isNone) w := fun w a n c n' c' => Lib.run_eql_slice_nil w _ _ a n c n' c' Tryz.underlying46
 go_enter Tryz.func114, Tryz.ntmps114
 go_wp2
 go_ret
 exact ⟨rfl, rfl⟩
theorem Xh (l : List Stop) (h0 : 0 < l.length) (hn : l.length ≤ 1048576) (S : Store) (nx : Nat) (hd : S nx = .dead) :
  Spec Tryz.prog 114 [L l] S (fun p S' => ∃ v, p = .sl nx v 2 0 l.length ∧ S' = S.set nx (.cells v 50 (l.flatMap Enc.enc))) := by
 refine ⟨yY Tryz.func114 (by rfl) rfl, ?_⟩
 intro C w vs hS hl hr
 obtain ⟨u, rfl⟩ := JR hl
 have hu : Rel C S w (.lst l.length (l.flatMap Enc.enc)) u := hr 0 _ u rfl rfl
 obtain ⟨a, cap, rfl⟩ : ∃ a cap, u = .slice (some a) l.length cap := by
  generalize hq : l.flatMap Enc.enc = cs at hu
  generalize l.length = n at *
  cases hu with
  | lst0 => omega
  | lst1 => exact ⟨_, _, rfl⟩
 obtain ⟨k1, j1, m1⟩ := hS.alloc (.cells #[] 50)
 have hc : Tryz.prog.cellsOf 50 = 2 := by simp
 obtain ⟨news, hsrc, hrel, _⟩ := Y7 (P := Tryz.prog) (sz := 2) (m := l.length) (ds := l.flatMap Enc.enc) k1 (by simp [wY]) (hu.mono j1)
 rw [← hc] at hsrc
 have hrun := fun ty => Y6 (P := Tryz.prog) (ty := ty) (b := some ⟨w.heap.size, 0, none⟩) (k := 0) (cap := 0) (olds := []) uE.ty uE.pos uE.zero uE.bytes hsrc (run_firstCells_some _ _ 0 ⟨w.heap.size, 0, none⟩ 0 0 [] (by simp) (by simp)) (by omega) (by omega) uE.bpos
 simp only [Nat.zero_add] at hrun
 refine (Zar a l.length cap w _ _ hrun).mono ?_
 rintro e w' ⟨rfl, rfl⟩
 have hge := grownCap_ge (w.alloc (.cells #[] 50)) l.length 0 50
 obtain ⟨d1, d2⟩ := k1.drew
 have hfr : Fresh C S nx C.clock := .clock C hd
 have hra := uZ (cs := []) (vs := []) (by simp [RelL]) hrel (Builtin.zeroCells (Value.agg #[.int .i64 0, .int .i64 0]).cells (grownCap (w.alloc (.cells #[] 50)) l.length 0 50 - l.length)).toList
 simp only [List.nil_append] at hra
 have hget : ∀ i : Nat, (([] : List Value).toArray ++ news.toArray ++ Builtin.zeroCells (Value.agg #[.int .i64 0, .int .i64 0]).cells (grownCap (w.alloc (.cells #[] 50)) l.length 0 50 - l.length) : Array Value)[i]? = (news ++ (Builtin.zeroCells (Value.agg #[.int .i64 0, .int .i64 0]).cells (grownCap (w.alloc (.cells #[] 50)) l.length 0 50 - l.length)).toList)[i]? := by
  intro i; rw [← Array.getElem?_toList]; simp
 obtain ⟨t1, t2⟩ := d1.object' hfr 50 (([] : List Value).toArray ++ news.toArray ++ Builtin.zeroCells (Value.agg #[.int .i64 0, .int .i64 0]).cells (grownCap (w.alloc (.cells #[] 50)) l.length 0 50 - l.length)) (l.flatMap Enc.enc) (by have := hra.1; simp at this ⊢; omega) (fun i v hi hv => hra.2.1 i v hi (by rw [← hget]; exact hv)) (fun i p v hp hv => (hra.2.2 i p v hp (by rw [← hget]; exact hv)).mono d2)
 refine ⟨_, _, _, _, rfl, ⟨C.clock, rfl, rfl⟩, ZW C S _ _ _ _ _ _ _ _ _ rfl hge (Nat.le_trans hn (by unfold qQ; omega)) (grownCap_le_maxLen _ _ _ _ (by unfold maxLen; omega)) ?_, t1, j1.trans (d2.trans t2)⟩
 have := hsrc.size
 simp only [Array.size_append, size_zeroCells, List.size_toArray, this, hc]
 simp [Value.cells]
 omega
theorem Qy (l : List Stop) (hn : l.length ≤ 1048576) : Pure Tryz.prog 114 [L l] (L l) := by
 by_cases h0 : 0 < l.length
 ·exact JD 0 (fun S nx hd => Xh l h0 hn S nx (hd nx (Nat.le_refl _))) (by simp)
 ·obtain rfl : l = [] := List.eq_nil_of_length_eq_zero (by omega)
  intro S
  refine ⟨yY Tryz.func114 (by rfl) rfl, ?_⟩
  intro C w vs hS hl hr
  obtain ⟨u, rfl⟩ := JR hl
  have hu : Rel C S w (.lst 0 []) u := hr 0 _ u rfl rfl
  obtain ⟨a, cap, rfl⟩ : ∃ a cap, u = .slice a 0 cap := by
   cases hu with
   | lst0 => exact ⟨_, _, rfl⟩
   | lst1 => exact ⟨_, _, rfl⟩
  cases a with
  | none =>
   refine (Zhe 0 cap w).mono ?_
   rintro e w' ⟨rfl, rfl⟩
   exact ⟨_, _, _, _, rfl, ⟨rfl, rfl⟩, .lst0, hS, .refl _ _ _⟩
  | some a =>
   obtain ⟨k1, j1, m1⟩ := hS.alloc (.cells #[] 50)
   have hc : Tryz.prog.cellsOf 50 = 2 := by simp
   obtain ⟨news, hsrc, hrel, _⟩ := Y7 (P := Tryz.prog) (sz := 2) (m := 0) (ds := []) k1 (by simp [wY]) (hu.mono j1)
   have hne : news = [] := List.eq_nil_of_length_eq_zero (by rw [hsrc.size, Nat.zero_mul])
   subst hne
   rw [← hc] at hsrc
   have hrun := fun ty => Jq (P := Tryz.prog) (ty := ty) (b := some ⟨w.heap.size, 0, none⟩) (k := 0) (cap := 0) uE.ty uE.pos hsrc (Nat.le_refl 0)
   refine (Zar a 0 cap w _ _ hrun).mono ?_
   rintro e w' ⟨rfl, rfl⟩
   exact ⟨_, _, _, _, rfl, ⟨rfl, rfl⟩, .lst0, k1, j1⟩
set_option maxRecDepth 20000 in
theorem Zhf {S : Store} {id ver : Nat} (cs : List Stop) (s : Stop) (hn : cs.length ≤ 1000000) (hid : S id = .cells ver 50 (cs.flatMap Enc.enc)) :
  Spec Tryz.prog 111 [.sl id ver 2 0 cs.length, I cs.length, L [s]] S (fun p S' => p = .sl id (ver + 1) 2 0 (cs.length + 1) ∧ S' = S.set id (.cells (ver + 1) 50 ((cs ++ [s]).flatMap Enc.enc))) := by
 refine qp Tryz.func111 Tryz.ntmps111 Tryz.results111 fun nx hd => ?_
 have hlt : id < nx := by
  rcases Nat.lt_or_ge id nx with h | h
  ·exact h
  ·have := hd id h; rw [hid] at this; cases this
 have hx := fun obs => (zB (S := S) (obs := obs) hlt).trans hid
 have hlt1 : ¬ nx ≤ id := by omega
 repeat apply za
 refine pwN [] hx ?_
 intros
 repeat apply za
 refine pwN [] hx ?_
 intros
 repeat apply za
 refine pwN [] hx ?_
 intros
 repeat apply za
 refine pwN [] hx ?_
 intros
 repeat apply za
 refine zk rfl ?_
 refine ze ?_
 repeat apply za
 refine pwN [] hx ?_
 intros
 repeat apply za
 refine pwN [] hx ?_
 intros
 repeat apply za
 refine zi rfl ?_
 repeat apply za
 refine pwN [] (jn2 hx hlt1) ?_
 refine ⟨by omega, ?_⟩
 intros
 repeat apply za
 have hdd : ∀ (o : Ob), zO nx (S.set id o) := by
  intro o q hq
  rw [Store.set_other _ _ _ _ (by omega)]
  exact hd q hq
 exact zb ⟨_, _, by simp; rfl, ⟨by simp [zj], by simp⟩, zE (hdd _)⟩
theorem Zhg {S : Store} {id ver : Nat} (cs : List Stop) (i : Nat) (s : Stop) (hi : i ≤ cs.length) (hn : cs.length ≤ 1000000) (hid : S id = .cells ver 50 (cs.flatMap Enc.enc)) :
  Spec Tryz.prog 111 [.sl id ver 2 0 cs.length, I i, L [s]] S (fun p S' => p = .sl id (ver + 1) 2 0 (cs.length + 1) ∧ S' = S.set id (.cells (ver + 1) 50 ((cs.take i ++ s :: cs.drop i).flatMap Enc.enc))) := by
 by_cases h : i = cs.length
 ·subst h
  rw [List.take_length, List.drop_length]
  exact Zhf cs s hn hid
 ·exact Zfc cs i s (by omega) hn hid
open Go Go.Proofs
def uF (d : Day) (t nx : Nat) (k : Nat) (ts : List PV) (ob : Ob) : Prop :=
 ts.length = k ∧ (k ≤ t → ts = (d.take k).flatMap Enc.enc ∧ ob = .dead) ∧
 (t < k → ∃ v l, d[t]? = some l ∧ ts = ((d.take k).flatMap Enc.enc).set t (.sl (nx + 4) v 2 0 l.length) ∧ ob = .cells v 50 (l.flatMap Enc.enc))
theorem Zhh {d : Day} {t nx k : Nat} {ts : List PV} {ob : Ob} (h : uF d t nx k ts ob) (hk : k < d.length) (ht : k ≠ t) : uF d t nx (k + 1) (ts ++ [L d[k]]) ob := by
 obtain ⟨h1, h2, h3⟩ := h
 have e : d.take (k + 1) = d.take k ++ [d[k]] := List.take_succ_eq_append_getElem hk
 refine ⟨by simp [h1], fun hkt => ?_, fun hkt => ?_⟩
 ·obtain ⟨a, b⟩ := h2 (by omega)
  exact ⟨by rw [e, a, List.flatMap_append]; rfl, b⟩
 ·obtain ⟨v, l, a, b, c⟩ := h3 (by omega)
  refine ⟨v, l, a, ?_, c⟩
  rw [b, e, List.flatMap_append, List.set_append_left _ _ (by rw [jE]; simp; omega)]
  rfl
theorem Zhi {d : Day} {t nx : Nat} {ts : List PV} {ob : Ob} (h : uF d t nx t ts ob) (hk : t < d.length) (v : Nat) : uF d t nx (t + 1) (ts ++ [.sl (nx + 4) v 2 0 d[t].length]) (.cells v 50 (d[t].flatMap Enc.enc)) := by
 obtain ⟨h1, h2, h3⟩ := h
 have e : d.take (t + 1) = d.take t ++ [d[t]] := List.take_succ_eq_append_getElem hk
 refine ⟨by simp [h1], fun hkt => by omega, fun _ => ⟨v, d[t], List.getElem?_eq_getElem hk, ?_, rfl⟩⟩
 obtain ⟨a, -⟩ := h2 (Nat.le_refl _)
 have hl : ((d.take t).flatMap Enc.enc).length = t := by rw [jE]; simp; omega
 rw [a, e, List.flatMap_append, List.set_append_right _ _ (by omega), hl, Nat.sub_self]
 rfl
set_option maxRecDepth 20000 in
set_option maxHeartbeats 800000 in
theorem Xi (d : Day) (t : Nat) (hd0 : d.length ≤ 1048576) (hd1 : ∀ l ∈ d, l.length ≤ 1048576) (ht : ∀ l, d[t]? = some l → 0 < l.length) (S : Store) (nx : Nat) (hd : zO nx S) :
  Spec Tryz.prog 109 [.agg [L d]] S (fun p S' => ∃ v ts ob, uF d t nx d.length ts ob ∧ p = .agg [.sl (nx + 3) v 1 0 d.length] ∧ S' = (S.set (nx + 3) (.cells v 72 ts)).set (nx + 4) ob) := by
 refine ut hd Tryz.func109 Tryz.ntmps109 Tryz.results109 ?_
 repeat apply za
 refine pwn ?_
 intro v0 v1
 repeat apply za
 refine pwn ?_
 intro v2
 refine qT 2 0 72 1 rfl rfl fun v3 => ?_
 (repeat apply za); refine pwn ?_; intros
 show PW _ _ _ _ _ _ _ (ext _ _ _)
 rw [Vm 1]
 repeat apply za
 refine zh (zr (fun (s : Nat × List PV × Ob × Nat × Nat) => s.1 ≤ d.length ∧ uF d t nx s.1 s.2.1 s.2.2.1) (fun (k, ts, ob, v2, v3) => [(2, .ptr (nx + 1) v1 0), (3, .ptr (nx + 2) v2 0), (7, L d), (8, I d.length), (9, I k)]) (fun (k, ts, ob, v2, v3) => [.cells v0 66 [L d], .cells v1 66 [yH], .cells v2 66 [.sl (nx + 3) v3 1 0 k], .cells v3 72 ts, ob]) (fun s => d.length - s.1) (0, [], .dead, v2, v3) [] ⟨by simp, by simp [uF]⟩ (by simp) (by simp) ?_)
 rintro ⟨k, ts, ob, v2, v3⟩ ⟨hk, hI⟩
 simp only at hk hI ⊢
 have htl := hI.1
 have htk : ts.take k = ts := List.take_of_length_le (by omega)
 (repeat apply za); refine pwn ?_; intros
 repeat apply za
 refine zn rfl (fun hc => ?_) (fun hc => ?_)
 ·simp at hc
  obtain ⟨l, tl, a1, a2, a3, e0⟩ := el1 rfl d k hc
  obtain ⟨hkl, rfl⟩ := List.getElem?_eq_some_iff.1 a1
  have hk1 : 1 ≤ d.length - k := by omega
  refine ze (za (zh ?_))
  repeat apply za
  refine pwN [] (jn3 hc e0 hk1) ?_
  intro v5
  by_cases hkt : k = t
  ·subst hkt
   have hcl := Xh d[k] (ht _ a1) (hd1 _ (List.getElem_mem hkl))
   obtain rfl := (hI.2.1 (Nat.le_refl _)).2
   repeat apply za
   refine xE (some [nx + 5]) (Row.pures [0, 2, 3] (.alt 1 (.alt 4 (Row.pures [5, 6] (.alt 7 (Row.pures [8] (.alt 9 (.done) .stop)) .stop)) .stop) (.alt 4 (Row.pures [5, 6] (.alt 1 (.alt 7 (Row.pures [8] (.alt 9 (.done) .stop)) .stop) .stop)) .stop))) mixed (by rfl) (by rfl) (by rfl) fun K Gp Gc Gh hK hGp hGc hGh X hX0 hX1 hX2 hX => ?_
   simp -implicitDefEqProofs [hX0, hX1, hX2, hX, htl, htk]
   try clear hX0 hX1 hX2 hX X
   refine ⟨?_, ?_⟩
   all_goals
    refine hGc _ _ _ _ _ _ _ ?_
    refine ((hcl _ (nx + 4) (by simp)).mono ?_).v
    rintro _ _ ⟨v4, rfl, rfl⟩
    rw [qn _ (by omega) (by simp), Nat.add_sub_cancel_left]
    refine ⟨by simp [zW], ?_⟩
    clear hGp hGc hGh
    clear Gp Gc Gh
    refine qS fun Gp Gc Gh hGp hGc hGh X hX0 hX1 hX2 hX => ?_
    simp -implicitDefEqProofs [hX0, hX1, hX2, hX, htl, htk]
    try clear hX0 hX1 hX2 hX X
    refine ⟨by omega, ?_⟩
    refine hK _ _ _ ?_
    clear hK hGp hGc hGh
    clear K Gp Gc Gh
    (repeat apply za); refine pwn ?_; intros
    exact zm (k + 1, _, _, v2, v3 + 1) [_] ⟨hc, Zhi hI hkl v4⟩ (by simp; omega) (by simp [wrN k (by omega)]) rfl (by simp; rfl)
  ·have hcl := Qy d[k] (hd1 _ (List.getElem_mem hkl))
   repeat apply za
   refine pwY (some [nx + 5]) (Row.pures [0, 2, 3, 4, 5, 6] (.alt 1 (.alt 7 (Row.pures [8] (.alt 9 (.done) .stop)) .stop) .stop)) mixed (jn2 htl htk) ?_
   refine pwP (hcl) (jn2 htl htk) ?_
   refine ⟨by omega, ?_⟩
   intros
   (repeat apply za); refine pwn ?_; intros
   exact zm (k + 1, _, _, v2, v3 + 1) [_] ⟨hc, Zhh hI hkl hkt⟩ (by simp; omega) (by simp [wrN k (by omega)]) rfl (by simp; rfl)
 ·simp at hc
  obtain rfl : k = d.length := by omega
  refine zo ?_
  (repeat apply za); refine pwn ?_; intros
  repeat apply za
  refine zb ⟨_, (S.set (nx + 3) (.cells v3 72 ts)).set (nx + 4) ob, by simp; rfl, ⟨v3, ts, ob, hI, rfl, rfl⟩, ?_⟩
  intro o
  by_cases h4 : o = nx + 4
  ·subst h4
   exact .inl (by rw [Store.set_same]; simp)
  by_cases h3 : o = nx + 3
  ·subst h3
   exact .inl (by rw [Store.set_other _ _ _ _ h4, Store.set_same]; simp)
  rw [Store.set_other _ _ _ _ h4, Store.set_other _ _ _ _ h3]
  exact zE hd o
theorem Zhj (d : Day) (hd0 : d.length ≤ 1048576) (hd1 : ∀ l ∈ d, l.length ≤ 1048576) : Pure Tryz.prog 109 [.agg [L d]] (.agg [L d]) := by
 refine Zep (k := d.length) (sz := 1) (e := 72) (cs := d.flatMap Enc.enc) 3 (fun S nx hd => (Xi d d.length hd0 hd1 (by simp) S nx hd).mono ?_) (by simp)
 rintro _ _ ⟨v, ts, ob, ⟨h1, h2, -⟩, rfl, rfl⟩
 obtain ⟨rfl, rfl⟩ := h2 (Nat.le_refl _)
 rw [List.take_length]
 refine ⟨v, rfl, ?_⟩
 funext o
 by_cases h4 : o = nx + 4
 ·subst h4
  rw [Store.set_same, Store.set_other _ _ _ _ (by omega), hd _ (by omega)]
 ·rw [Store.set_other _ _ _ _ h4]
theorem Zhk (d : Day) (t : Nat) (l : zq) (hd0 : d.length ≤ 1048576) (hd1 : ∀ l ∈ d, l.length ≤ 1048576) (ht : d[t]? = some l) (hl : 0 < l.length) (S : Store) (nx : Nat) (hd : zO nx S) :
  Spec Tryz.prog 109 [.agg [L d]] S (fun p S' => ∃ v w, p = .agg [.sl (nx + 3) v 1 0 d.length] ∧
   S' = (S.set (nx + 3) (.cells v 72 ((d.flatMap Enc.enc).set t (.sl (nx + 4) w 2 0 l.length)))).set (nx + 4) (.cells w 50 (l.flatMap Enc.enc))) := by
 refine (Xi d t hd0 hd1 (fun m hm => by rw [ht] at hm; cases hm; exact hl) S nx hd).mono ?_
 rintro _ _ ⟨v, ts, ob, ⟨h1, -, h3⟩, rfl, rfl⟩
 obtain ⟨w, m, hm, rfl, rfl⟩ := h3 (List.getElem?_eq_some_iff.1 ht).1
 rw [ht] at hm; cases hm
 rw [List.take_length]
 exact ⟨v, w, rfl, rfl⟩
open Go Go.Proofs
def qg (x : Inst) (t : zq) : Int := W (zF x (t.map (·.c)))
def qh (t : zq) : Int := W (zx t)
def yh (x : Inst) (d : Day) : Nat := (d.filter fun t => decide (zu x t ≠ 0)).length
theorem Zhl (x : Inst) (d e : Day) : yh x (d ++ e) = yh x d + yh x e := by simp [yh]
theorem Zhm (x : Inst) (t : zq) : yh x [t] = if zu x t = 0 then 0 else 1 := by
 by_cases h : zu x t = 0 <;> simp [yh, h]
theorem Zas (x : Inst) (d : Day) : yh x d ≤ d.length := List.length_filter_le _ _
abbrev xX (x : Inst) (d : Day) : List PV := [I x.days, I x.veh, I x.cap, I x.len, L x.cust, L x.dist, L d, L (yf (d.flatten.map (·.c))), B (decide (¬ (yf (d.flatten.map (·.c))).Nodup)), L (d.map (zu x)), I (yh x d), L (d.map qh), L (d.map (qg x))]
set_option maxRecDepth 20000 in
set_option maxHeartbeats 1600000 in
theorem Zat (x : Inst) (d : Day) (hx : x.cust.length ≤ 1048576) (hdo : DayOk d) (hf : d.flatten.length ≤ 1048576) : Pure Tryz.prog 107 [.agg (zt x), .agg [L d]] (.agg (xX x d)) := by
 have h1 := VP d hdo.1 hf
 have h2 := VY d.flatten hf
 have h3 := VX (yf (d.flatten.map (·.c))) (by rw [vH, List.length_map]; exact hf) (Yc _)
 generalize hon : yf (d.flatten.map (·.c)) = on at *
 generalize htw : decide (¬ on.Nodup) = tw at *
 refine pwe Tryz.func107 Tryz.ntmps107 Tryz.results107 fun S nx hd => ?_
 repeat apply za
 refine pwn ?_
 intro v0 v1 v2
 repeat apply za
 refine pwY (some [nx, nx + 1]) (Row.pures [0, 1, 2, 3, 4, 5] (.alt 6 (.alt 7 (.done) .stop) .stop)) mixed trivial ?_
 refine pwP (h1) trivial ?_
 refine pwP (h2) trivial ?_
 intro v3
 intros
 repeat apply za
 refine pwn ?_
 refine pwc h3 ?_
 intros
 (repeat apply za); refine pwn ?_; intros
 refine qT 3 9 30 1 rfl rfl fun v4 => ?_
 refine qT 3 11 3 1 rfl rfl fun v5 => ?_
 refine qT 3 12 3 1 rfl rfl fun v6 => ?_
 repeat apply za
 refine zh (zr (fun (k, v4, v5, v6) => k ≤ d.length) (fun (k, v4, v5, v6) => [(2, .ptr nx v0 0), (4, .ptr (nx + 2) v2 0), (5, .ptr (nx + 3) v3 0), (20, L d), (21, I d.length), (22, I k)])
  (fun (k, v4, v5, v6) => [.cells v0 25 (zt x), .cells v1 66 [L d], .cells v2 149 [I 0, I 0, I 0, I 0, yH, yH, yH, yH, B false, yH, I 0, yH, yH],
   .cells v3 149 [I x.days, I x.veh, I x.cap, I x.len, L x.cust, L x.dist, L d, L on, B tw, .sl (nx + 4) v4 1 0 k, I (yh x (d.take k)), .sl (nx + 5) v5 1 0 k, .sl (nx + 6) v6 1 0 k],
   .cells v4 30 (((d.map (zu x)).take k).flatMap Enc.enc), .cells v5 3 (((d.map qh).take k).flatMap Enc.enc), .cells v6 3 (((d.map (qg x)).take k).flatMap Enc.enc)]) (fun s => d.length - s.1) (0, v4, v5, v6) [] (by simp) (by simp) (by simp [yh]) ?_)
 rintro ⟨k, v4, v5, v6⟩ hk
 simp only at hk ⊢
 (repeat apply za); refine pwn ?_; intros
 repeat apply za
 refine zn rfl (fun hc => ?_) (fun hc => ?_)
 ·simp at hc
  obtain ⟨t, tl, a1, a2, a3, e0⟩ := el1 rfl d k hc
  have hk1 : 1 ≤ d.length - k := by omega
  have htm := List.mem_of_getElem? a1
  have hm := Ye x t hx (hdo.t t htm)
  have hl := VO t (hdo.t t htm)
  have hw := Yb x t (hdo.t t htm) (hdo.s t htm)
  have b1 : yh x (d.take (k + 1)) = yh x (d.take k) + if zu x t = 0 then 0 else 1 := by rw [a3, Zhl, Zhm]
  have b2 := Zas x (d.take k)
  rw [List.length_take] at b2
  have b3 := hdo.n
  have b4 := Nat.min_le_left k d.length
  have f1 : (((d.map (zu x)).take (k + 1)).flatMap Enc.enc : List PV) = ((d.map (zu x)).take k).flatMap Enc.enc ++ [I (zu x t)] := by rw [← List.map_take, ← List.map_take, a3]; simp
  have f2 : (((d.map qh).take (k + 1)).flatMap Enc.enc : List PV) = ((d.map qh).take k).flatMap Enc.enc ++ [I (W (zx t))] := by rw [← List.map_take, ← List.map_take, a3]; simp [qh]
  have f3 : (((d.map (qg x)).take (k + 1)).flatMap Enc.enc : List PV) = ((d.map (qg x)).take k).flatMap Enc.enc ++ [I (W (zF x (t.map (·.c))))] := by rw [← List.map_take, ← List.map_take, a3]; simp [qg]
  have l1 : (((d.map (zu x)).take k).flatMap Enc.enc : List PV).length = k := by rw [qy, List.length_take, List.length_map]; omega
  have l2 : (((d.map qh).take k).flatMap Enc.enc : List PV).length = k := by rw [qy, List.length_take, List.length_map]; omega
  have l3 : (((d.map (qg x)).take k).flatMap Enc.enc : List PV).length = k := by rw [qy, List.length_take, List.length_map]; omega
  generalize ((d.map (zu x)).take k).flatMap Enc.enc = c1 at *
  generalize ((d.map qh).take k).flatMap Enc.enc = c2 at *
  generalize ((d.map (qg x)).take k).flatMap Enc.enc = c3 at *
  have t1 : c1.take k = c1 := List.take_of_length_le (by omega)
  have t2 : c2.take k = c2 := List.take_of_length_le (by omega)
  have t3 : c3.take k = c3 := List.take_of_length_le (by omega)
  generalize yh x (d.take k) = bn at *
  have wb : IntKind.i64.wrap ((bn : Int) + 1) = ((bn + 1 : Nat) : Int) := wrN bn (by omega)
  generalize zu x t = mt at *
  generalize W (zx t) = lt at *
  generalize W (zF x (t.map (·.c))) = wt at *
  refine ze (za (zh ?_))
  repeat apply za
  refine pwN [] (jn3 hc e0 hk1) ?_
  intro v7
  repeat apply za
  refine pwn ?_
  refine pwc hm ?_
  intros
  (repeat apply za); refine pwn ?_; intros
  repeat apply za
  refine zX (nx := nx) (fun _ : Unit => True) (fun _ => [(2, .ptr nx v0 0), (4, .ptr (nx + 2) v2 0), (5, .ptr (nx + 3) v3 0), (7, .ptr (nx + 7) v7 0), (8, I mt), (20, L d), (21, I d.length), (22, I k)]) (fun _ => S) (fun _ => [.cells v0 25 (zt x), .cells v1 66 [L d], .cells v2 149 [I 0, I 0, I 0, I 0, yH, yH, yH, yH, B false, yH, I 0, yH, yH],
   .cells v3 149 [I x.days, I x.veh, I x.cap, I x.len, L x.cust, L x.dist, L d, L on, B tw, .sl (nx + 4) v4 1 0 k, I (bn + (if mt = 0 then 0 else 1) : Nat), .sl (nx + 5) v5 1 0 k, .sl (nx + 6) v6 1 0 k],
   .cells v4 30 c1, .cells v5 3 c2, .cells v6 3 c3, .cells v7 72 [L t]]) ?_ ?_
  ·repeat apply za
   refine zn rfl (fun hq => ?_) (fun hq => ?_)
   ·simp at hq
    rw [if_neg hq]
    repeat apply za
    refine pwN [] wb ?_
    intros
    exact zy () [] trivial (by simp) rfl (by simp)
   ·simp at hq
    rw [if_pos hq]
    refine ze ?_
    exact zy () [] trivial (by simp) rfl (by simp)
  ·rintro ⟨⟩ -
   repeat apply za
   refine pwN [] (jn2 t1 l1) ?_
   refine ⟨by omega, ?_⟩
   intros
   repeat apply za
   refine pwY (some [nx + 7]) (Row.pures [0, 2, 3, 4] (.alt 1 (.alt 5 (Row.pures [6] (.alt 7 (.done) .stop)) .stop) .stop)) mixed (jn2 t2 l2) ?_
   refine pwP (hl) (jn2 t2 l2) ?_
   refine ⟨by omega, ?_⟩
   intros
   repeat apply za
   refine pwY (some [nx, nx + 7]) (Row.pures [0, 2, 3, 4, 5] (.alt 1 (.alt 6 (Row.pures [7] (.alt 8 (.done) .stop)) .stop) .stop)) mixed (jn2 t3 l3) ?_
   refine pwP (hw) (jn2 t3 l3) ?_
   refine ⟨by omega, ?_⟩
   intros
   (repeat apply za); refine pwn ?_; intros
   exact zm (k + 1, v4 + 1, v5 + 1, v6 + 1) [_] (by simp; omega) (by simp; omega) (by simp [wrN k (by omega)]) rfl (by simp only [f1, f2, f3, b1]; simp; rfl)
 ·simp at hc
  obtain rfl : k = d.length := by omega
  refine zo ?_
  (repeat apply za); refine pwn ?_; intros
  refine zL 6 rfl ?_
  refine zL 5 rfl ?_
  refine zL 4 rfl ?_
  have g1 : (d.map (zu x)).take d.length = d.map (zu x) := List.take_of_length_le (by simp)
  have g2 : (d.map qh).take d.length = d.map qh := List.take_of_length_le (by simp)
  have g3 : (d.map (qg x)).take d.length = d.map (qg x) := List.take_of_length_le (by simp)
  repeat apply za
  exact zb (zg hd (by simp; rfl) (by simp [zj, g1, g2, g3]; simp [← hon, ← htw]))
open Go Go.Proofs
def Qz (P : Program) (k : FuncId) (args : Nat → List PV) (xs : List (List PV)) (ret : PV) : Prop :=
 yR P k ∧ ∀ (l : Nat) (V : Ctx → Store → World → Prop) (_ : ∀ {C C' : Ctx} {S S' : Store} {w w' : World}, Step C S w C' S' w' → V C S w → V C' S' w') (m : Nat) (J : Nat → Store → Prop), (∀ i A, J i A → zO m A) →
  (∀ i A obs x, xs[i]? = some x → J i A → PYield P V l x (ext A m obs) (fun T => ∃ A', J (i + 1) A' ∧ T = ext A' m obs)) →
  ∀ A, J 0 A → PCallsV P V k (args l) A (fun p T => p = ret ∧ J xs.length T)
theorem Zau {P : Program} {N : Nat} {f : FuncId} {fn : Func} {c : Code} {rs : List ResultVar} {args : Nat → List PV} {xs : List (List PV)} {ret : PV} (hf : P.funcs[f]? = some fn) (hname : (fn.name == "runtime.NumGoroutine") = false) (hb : fn.body = some c) (hN : fn.ntmps = N) (hrs : fn.results.toList = rs) (hargs : ∀ l, (args l).length ≤ N)
  (h : ∀ (l : Nat) (V : Ctx → Store → World → Prop) (keep : ∀ {C C' : Ctx} {S S' : Store} {w w' : World}, Step C S w C' S' w' → V C S w → V C' S' w') (nx : Nat) (J : Nat → Store → Prop), (∀ i A, J i A → zO nx A) →
   (∀ i A obs x, xs[i]? = some x → J i A → PYield P V l x (ext A nx obs) (fun T => ∃ A', J (i + 1) A' ∧ T = ext A' nx obs)) →
   ∀ A, J 0 A → PW P ⟨none, V, keep⟩ 0 N c (xh P rs (fun p T => p = ret ∧ J xs.length T)) (jN (args l)) (ext A nx [])) : Qz P f args xs ret := by
 refine ⟨yY hf hname hb, fun l V keep m J hJ hY A hA => ?_⟩
 have := h l V keep m J hJ hY A hA
 rw [yE (hJ 0 A hA)] at this
 exact Jm hf hb hN hrs (hargs l) this
theorem PYield.mono {P : Program} {V : Ctx → Store → World → Prop} {l : Nat} {args : List PV} {S : Store} {Q Q' : Store → Prop} (h : PYield P V l args S Q) (hq : ∀ T, Q T → Q' T) : PYield P V l args S Q' := by
 intro C w vs h1 h2 h3 h4
 obtain ⟨fn, tmps, assign, body, hy, hR⟩ := h C w vs h1 h2 h3 h4
 refine ⟨fn, tmps, assign, body, hy, hR.mono ?_⟩
 rintro e w' ⟨S', C', a, b, c⟩
 exact ⟨S', C', a, hq _ b, c⟩
theorem Zav {P : Program} {k : FuncId} {args : Nat → List PV} {xs : List (List PV)} {ret : PV} (h : Qz P k args xs ret) {V : Ctx → Store → World → Prop} (keep : ∀ {C C' : Ctx} {S S' : Store} {w w' : World}, Step C S w C' S' w' → V C S w → V C' S' w')
  {l nx : Nat} {J : Nat → Store → Prop} {ys : List (List PV)} (hY : ∀ i A obs x, ys[i]? = some x → J i A → PYield P V l x (ext A nx obs) (fun T => ∃ A', J (i + 1) A' ∧ T = ext A' nx obs))
  (off : Nat) (hxs : ∀ i x, xs[i]? = some x → ys[off + i]? = some x) {A : Store} (hJ : J off A) (obs : List Ob) :
  SpecV P V k (args l) (ext A nx obs) (fun p T => ∃ A', p = ret ∧ J (off + xs.length) A' ∧ T = ext A' nx obs) := by
 refine ⟨h.1, (h.2 l V keep (nx + obs.length) (fun i T => ∃ A', J (off + i) A' ∧ T = ext A' nx obs) ?_ ?_ (ext A nx obs) ⟨A, hJ, rfl⟩).mono ?_⟩
 ·rintro i T ⟨A', _, rfl⟩; exact jD
 ·rintro i T more x hx ⟨A1, hJ1, rfl⟩
  rw [Qg _ _ rfl]
  refine (hY (off + i) A1 (obs ++ more) x (hxs i x hx) hJ1).mono ?_
  rintro T ⟨A', hA', rfl⟩
  exact ⟨ext A' nx obs, ⟨A', hA', rfl⟩, (Qg _ _ rfl).symm⟩
 ·rintro p T ⟨rfl, A', hA', rfl⟩
  exact ⟨A', rfl, hA', rfl⟩
theorem QA {P : Program} {nx : Nat} {F : Nat → PV} {obs : List Ob} {rs : List ResultVar} {ps : List PV} {J : Store → Prop} {A : Store} {ret : PV} (hd : zO nx A) (h1 : jl P F (ext A nx obs) rs = some ps) (h2 : zj ps = ret) (hJ : J A) :
  ∃ ps S', jl P F (ext A nx obs) rs = some ps ∧ (zj ps = ret ∧ J S') ∧ ∀ o, S' o = ext A nx obs o ∨ S' o = .dead := ⟨ps, A, h1, ⟨h2, hJ⟩, zE hd⟩
theorem Zaw {α : Type} {f : Nat → Option α} {n k : Nat} {v : α} (hk : k < n) (hf : f k = some v) : ((List.range n).filterMap f)[((List.range k).filterMap f).length]? = some v := by
 obtain ⟨m, rfl⟩ : ∃ m, n = k + (m + 1) := ⟨n - k - 1, by omega⟩
 rw [List.range_add, List.filterMap_append, List.getElem?_append_right (Nat.le_refl _), Nat.sub_self, List.range_succ_eq_map]
 simp [hf]
theorem Zax {α : Type} {f : Nat → Option α} {k : Nat} (hf : f k = none) : ((List.range (k + 1)).filterMap f).length = ((List.range k).filterMap f).length := by
 rw [List.range_succ, List.filterMap_append]; simp [hf]
theorem Zay {α : Type} {f : Nat → Option α} {k : Nat} {v : α} (hf : f k = some v) : ((List.range (k + 1)).filterMap f).length = ((List.range k).filterMap f).length + 1 := by
 rw [List.range_succ, List.filterMap_append]; simp [hf]
structure Spot where
 t : Nat
 p : Nat
 m : Int
abbrev xY (s : Spot) : List PV := [.agg [I s.t, I s.p, I s.m]]
def ahZ (l : zq) (i : Nat) : Int := if i = 0 then 0 else (l.getD (i - 1) default).c + 1
def beZ (l : zq) (i : Nat) : Int := if i < l.length then (l.getD i default).c + 1 else 0
def j6 (x : Inst) (l : zq) (s : Stop) (i : Nat) : Int := W (W (arc x (ahZ l i) (s.c + 1) + arc x (s.c + 1) (beZ l i)) - arc x (ahZ l i) (beZ l i))
def xq (x : Inst) (t : Nat) (l : zq) (w : Int) (s : Stop) (i : Nat) : Option Spot := if W (w + j6 x l s i) ≤ x.len then some ⟨t, i, j6 x l s i⟩ else none
def xI (x : Inst) (t : Nat) (l : zq) (fl bad ll w : Int) (s : Stop) : List Spot :=
 if 0 < bad - (if fl = 13 then 1 else 0) ∨ x.cap < W (ll + s.q) then [] else (List.range (l.length + 1)).filterMap (xq x t l w s)
abbrev xu (x : Inst) (d : Day) (on : List Int) (tw : Bool) (fs : List Int) (bad : Int) (ls ws : List Int) : List PV := [I x.days, I x.veh, I x.cap, I x.len, L x.cust, L x.dist, L d, L on, B tw, L fs, I bad, L ls, L ws]
set_option maxRecDepth 20000 in
set_option maxHeartbeats 1600000 in
theorem Zhn (x : Inst) (d : Day) (on : List Int) (tw : Bool) (fs : List Int) (bad : Nat) (ls ws : List Int) (t : Nat) (l : zq) (s : Stop) (fl ll w : Int) (hbad : bad ≤ 1048576) (hdn : d.length ≤ 1048576) (hd : d[t]? = some l) (hfs : fs[t]? = some fl) (hls : ls[t]? = some ll) (hws : ws[t]? = some w)
  (hfn : fs.length = d.length) (hln : ls.length = d.length) (hwn : ws.length = d.length) (hb : fl = 13 → 0 < bad) (hll : l.length ≤ 1048576) (hsl : ∀ s ∈ l, small s.c) (hss : small s.c) :
  Qz Tryz.prog 149 (fun y => [.agg (xu x d on tw fs bad ls ws), I t, .agg [I s.c, I s.q], yld y]) ((xI x t l fl bad ll w s).map xY) (B true) := by
 refine Zau Tryz.func149 (by rfl) rfl Tryz.ntmps149 (congrArg Array.toList Tryz.results149) (by simp) fun y V keep nx J hJd hY A0 hA0 => ?_
 have ht : t < d.length := (List.getElem?_eq_some_iff.1 hd).1
 obtain ⟨fl', tf, a1, -, -, ef⟩ := el1 rfl fs t (by omega)
 obtain ⟨ll', tl, a2, -, -, elo⟩ := el1 rfl ls t (by omega)
 obtain ⟨w', tw', a3, -, -, ew⟩ := el1 rfl ws t (by omega)
 obtain ⟨l', td, a4, -, -, ed⟩ := el1 rfl d t ht
 obtain rfl : fl = fl' := by rw [hfs] at a1; exact Option.some.inj a1
 obtain rfl : ll = ll' := by rw [hls] at a2; exact Option.some.inj a2
 obtain rfl : w = w' := by rw [hws] at a3; exact Option.some.inj a3
 obtain rfl : l = l' := by rw [hd] at a4; exact Option.some.inj a4
 have h1 : 1 ≤ fs.length - t := by omega
 have h2 : 1 ≤ ls.length - t := by omega
 have h3 : 1 ≤ ws.length - t := by omega
 have h4 : 1 ≤ d.length - t := by omega
 have g1 : t < fs.length := by omega
 have g2 : t < ls.length := by omega
 have g3 : t < ws.length := by omega
 repeat apply za
 refine pwn ?_
 intro v0 v1
 (repeat apply za); refine pwn ?_; intros
 repeat apply za
 refine pwN [] (jn3 ef h1 g1) ?_
 intros
 obtain ⟨oth, hoth⟩ : ∃ oth : Int, oth = bad - (if fl = 13 then 1 else 0) := ⟨_, rfl⟩
 repeat apply za
 refine zX (nx := nx) (fun _ : Unit => True) (fun _ => [(1, I t), (3, yld y), (4, .ptr nx v0 0), (6, .ptr (nx + 1) v1 0), (9, I oth)]) (fun _ => A0) (fun _ => [.cells v0 149 (xu x d on tw fs bad ls ws), .cells v1 50 [I s.c, I s.q]]) ?_ ?_
 ·repeat apply za
  refine zn rfl (fun hq => ?_) (fun hq => ?_)
  ·simp at hq
   have hb' := hb hq
   rw [if_pos hq] at hoth
   have wb : IntKind.i64.wrap ((bad : Int) - 1) = oth := by rw [hoth, wr _ (by omega) (by omega)]
   repeat apply za
   refine pwN [] wb ?_
   intros
   exact zy () [] trivial (by simp) rfl (by simp)
  ·simp at hq
   rw [if_neg hq] at hoth
   obtain rfl : oth = bad := by omega
   refine ze ?_
   exact zy () [] trivial (by simp) rfl (by simp)
 ·rintro ⟨⟩ -
  have hout : ∀ (h : 0 < oth ∨ x.cap < W (ll + s.q)), xI x t l fl bad ll w s = [] := fun h => by unfold xI; rw [if_pos (by rw [hoth] at h; exact h)]
  by_cases ho : 0 < oth
  ·rw [hout (.inl ho)] at hY ⊢
   repeat apply za
   refine pwY (some [nx, nx + 1]) (Row.pures [0, 1, 2, 3, 4, 5, 6, 7, 8, 9, 10, 11, 12, 13, 14, 15] .done) mixed (jn2 ho zp) ?_
   intros
   repeat apply za
   refine zi rfl ?_
   (repeat apply za); refine pwn ?_; intros
   repeat apply za
   exact zb (QA (hJd _ _ hA0) (by simp; rfl) (by simp [zj]) hA0)
  by_cases hcap : x.cap < W (ll + s.q)
  ·rw [hout (.inr hcap)] at hY ⊢
   repeat apply za
   refine pwY (some [nx, nx + 1]) (Row.pures [0, 1, 2, 3, 4, 5, 6, 7, 8, 9, 10, 11, 12, 13, 14, 15] .done) mixed (jn6 ho hcap elo h2 g2 zp) ?_
   intros
   repeat apply za
   refine zi rfl ?_
   (repeat apply za); refine pwn ?_; intros
   repeat apply za
   exact zb (QA (hJd _ _ hA0) (by simp; rfl) (by simp [zj]) hA0)
  have hz : xI x t l fl bad ll w s = (List.range (l.length + 1)).filterMap (xq x t l w s) := by unfold xI; rw [if_neg (by rw [← hoth]; simp [ho, hcap])]
  clear hout
  rw [hz] at hY ⊢
  repeat apply za
  refine pwY (some [nx, nx + 1]) (Row.pures [0, 1, 2, 3, 4, 5, 6, 7, 8, 9, 10, 11, 12, 13, 14, 15] .done) mixed (jn5 ho hcap elo h2 g2) ?_
  intros
  repeat apply za
  refine zk rfl ?_
  refine ze ?_
  have wc : IntKind.i64.wrap (s.c + 1) = s.c + 1 := wr _ (by unfold small at hss; omega) (by unfold small at hss; omega)
  repeat apply za
  refine pwY (some [nx, nx + 1]) (Row.pures [0, 1, 2, 3, 4, 5, 6, 7, 8, 9, 10, 11] .done) mixed (jn4 ed h4 ht wc) ?_
  intros
  have wl : IntKind.i64.wrap ((l.length : Int) + 1) = ((l.length + 1 : Nat) : Int) := wrN _ (by omega)
  repeat apply za
  refine pwN [] wl ?_
  intros
  repeat apply za
  refine zh (jn (σ := Nat × Store) (fun s' => s'.1 ≤ l.length + 1 ∧ J ((List.range s'.1).filterMap (xq x t l w s)).length s'.2) (fun s' => [(1, I t), (3, yld y), (4, .ptr nx v0 0), (6, .ptr (nx + 1) v1 0), (10, L l), (11, I (s.c + 1)), (54, I ((l.length + 1 : Nat) : Int)), (55, I s'.1)]) (fun s' => s'.2)
   (fun _ => [.cells v0 149 (xu x d on tw fs bad ls ws), .cells v1 50 [I s.c, I s.q]]) (fun s' => l.length + 1 - s'.1) (zy (0, A0) [] (by simpa using hA0) (by simp) rfl (by simp)) ?_)
  rintro ⟨k, A⟩ ⟨hk, hJ⟩
  simp only at hk hJ ⊢
  (repeat apply za); refine pwn ?_; intros
  repeat apply za
  refine zn rfl (fun hc => ?_) (fun hc => ?_)
  ·simp at hc
   refine ze (za (zh ?_))
   (repeat apply za); refine pwn ?_; intros
   (repeat apply za); refine pwn ?_; intros
   (repeat apply za); refine pwn ?_; intros
   repeat apply za
   refine zX (nx := nx) (fun _ : Unit => True) (fun _ => [(1, I t), (3, yld y), (4, .ptr nx v0 0), (6, .ptr (nx + 1) v1 0), (10, L l), (11, I (s.c + 1)), (12, I k), (13, I (ahZ l k)), (14, I 0), (54, I ((l.length + 1 : Nat) : Int)), (55, I k)]) (fun _ => A) (fun _ => [.cells v0 149 (xu x d on tw fs bad ls ws), .cells v1 50 [I s.c, I s.q]]) ?_ ?_
   ·repeat apply za
    refine zn rfl (fun hk0 => ?_) (fun hk0 => ?_)
    ·simp at hk0
     obtain ⟨j, rfl⟩ : ∃ j, k = j + 1 := ⟨k - 1, by omega⟩
     obtain ⟨p, tp, p1, -, -, -, ep⟩ := el 2 rfl l j (by omega)
     have wj : IntKind.i64.wrap (j : Int) = (j : Int) := wr _ (by omega) (by omega)
     have hjl : j < l.length := by omega
     have hj2 : 2 ≤ l.length * 2 - j * 2 := by omega
     have hsm := hsl p (List.mem_of_getElem? p1)
     have wp : IntKind.i64.wrap (p.c + 1) = p.c + 1 := wr _ (by unfold small at hsm; omega) (by unfold small at hsm; omega)
     have hah : ahZ l (j + 1) = p.c + 1 := by unfold ahZ; rw [if_neg (by omega), Nat.add_sub_cancel, List.getD_eq_getElem?_getD, p1]; rfl
     repeat apply za
     refine pwN [] (jn5 wj ep wp hjl hj2) ?_
     intros
     exact zy () [] trivial (by simp [hah]) rfl (by simp)
    ·simp at hk0
     subst hk0
     refine ze ?_
     exact zy () [] trivial (by simp [ahZ]) rfl (by simp)
   ·rintro ⟨⟩ -
    (repeat apply za); refine pwn ?_; intros
    repeat apply za
    refine zX (nx := nx) (fun _ : Unit => True) (fun _ => [(1, I t), (3, yld y), (4, .ptr nx v0 0), (6, .ptr (nx + 1) v1 0), (10, L l), (11, I (s.c + 1)), (12, I k), (13, I (ahZ l k)), (14, I (beZ l k)), (54, I ((l.length + 1 : Nat) : Int)), (55, I k)]) (fun _ => A) (fun _ => [.cells v0 149 (xu x d on tw fs bad ls ws), .cells v1 50 [I s.c, I s.q]]) ?_ ?_
    ·repeat apply za
     refine zn rfl (fun hk0 => ?_) (fun hk0 => ?_)
     ·simp at hk0
      obtain ⟨p, tp, p1, -, -, -, ep⟩ := el 2 rfl l k hk0
      have hj2 : 2 ≤ l.length * 2 - k * 2 := by omega
      have hsm := hsl p (List.mem_of_getElem? p1)
      have wp : IntKind.i64.wrap (p.c + 1) = p.c + 1 := wr _ (by unfold small at hsm; omega) (by unfold small at hsm; omega)
      have hah : beZ l k = p.c + 1 := by unfold beZ; rw [if_pos hk0, List.getD_eq_getElem?_getD, p1]; rfl
      repeat apply za
      refine pwN [] (jn4 ep wp hk0 hj2) ?_
      intros
      exact zy () [] trivial (by simp [hah]) rfl (by simp)
     ·simp at hk0
      refine ze ?_
      exact zy () [] trivial (by simp [beZ]; omega) rfl (by simp)
    ·rintro ⟨⟩ -
     have q1 := xl x (ahZ l k) (s.c + 1)
     have q2 := xl x (s.c + 1) (beZ l k)
     have q3 := xl x (ahZ l k) (beZ l k)
     have hmo : W (W (arc x (ahZ l k) (s.c + 1) + arc x (s.c + 1) (beZ l k)) - arc x (ahZ l k) (beZ l k)) = j6 x l s k := rfl
     repeat apply za
     refine pwY (some [nx, nx + 1]) (Row.pures [0, 1, 2, 3, 4, 5, 6, 7, 8, 9, 10, 11, 12, 13, 14, 15, 16, 17] .done) mixed trivial ?_
     refine pwP (q1) trivial ?_
     refine pwP (q2) trivial ?_
     refine pwP (q3) hmo ?_
     intros
     by_cases hf : W (w + j6 x l s k) ≤ x.len
     ·have hsp : xq x t l w s k = some ⟨t, k, j6 x l s k⟩ := by unfold xq; rw [if_pos hf]
      have hat := Zaw (n := l.length + 1) (by omega) hsp
      have hnx := Zay hsp
      have hy : (((List.range (l.length + 1)).filterMap (xq x t l w s)).map xY)[((List.range k).filterMap (xq x t l w s)).length]? = some (xY ⟨t, k, j6 x l s k⟩) := by rw [List.getElem?_map, hat]; rfl
      repeat apply za
      refine xE (some [nx, nx + 1]) (Row.pures [0, 1, 2, 3, 4, 5, 6, 7, 8, 9, 10, 11, 12, 13, 14, 15, 16] (.alt 17 (Row.pures [18, 19] .done) .stop)) mixed (by rfl) (by rfl) (by rfl) fun K Gp Gc Gh hK hGp hGc hGh X hX0 hX1 hX2 hX => ?_
      simp -implicitDefEqProofs [hX0, hX1, hX2, hX, hmo, ew, h3, g3, hf]
      try clear hX0 hX1 hX2 hX X
      refine hGh _ _ _ _ _ (by rfl) (Z2 rfl rfl rfl (hY _ _ _ _ hy hJ) ?_)
      rintro _ ⟨A', hJ', rfl⟩
      refine ⟨by simp [zW], ?_⟩
      clear hGp hGc hGh
      clear Gp Gc Gh
      refine qS fun Gp Gc Gh hGp hGc hGh X hX0 hX1 hX2 hX => ?_
      simp -implicitDefEqProofs [hX0, hX1, hX2, hX]
      try clear hX0 hX1 hX2 hX X
      refine hK _ _ _ ?_
      clear hK hGp hGc hGh
      clear K Gp Gc Gh
      repeat apply za
      refine zk rfl ?_
      refine ze ?_
      (repeat apply za); refine pwn ?_; intros
      exact zm (k + 1, A') [] ⟨by show k + 1 ≤ _; omega, by rw [hnx]; exact hJ'⟩ (by simp; omega) (by simp [wrN k (by omega)]) rfl (by simp)
     ·have hsp : xq x t l w s k = none := by unfold xq; rw [if_neg hf]
      have hnx := Zax hsp
      repeat apply za
      refine pwY (some [nx, nx + 1]) (Row.pures [0, 1, 2, 3, 4, 5, 6, 7, 8, 9, 10, 11, 12, 13, 14, 15, 16, 17, 18, 19] .done) mixed (jn6 hmo ew h3 g3 hf zp) ?_
      intros
      repeat apply za
      refine zk rfl ?_
      refine ze ?_
      (repeat apply za); refine pwn ?_; intros
      exact zm (k + 1, A) [] ⟨by show k + 1 ≤ _; omega, by rw [hnx]; exact hJ⟩ (by simp; omega) (by simp [wrN k (by omega)]) rfl (by simp)
  ·simp at hc
   obtain rfl : k = l.length + 1 := by omega
   refine zo ?_
   (repeat apply za); refine pwn ?_; intros
   repeat apply za
   exact zb (QA (hJd _ _ hJ) (by simp; rfl) (by simp [zj]) (by simpa using hJ))
open Go
theorem Xj (x : Inst) : (zz x).cust.length ≤ 6 := by simp [zz]; omega
structure Goods (n : Int) (l : List Stop) : Prop where
 each : ∀ s ∈ l, 0 ≤ s.c ∧ s.c < n ∧ 1 ≤ s.q ∧ s.q ≤ 12
 nd : (l.map (·.c)).Nodup
 len : l.length ≤ 6
structure Made (n : Int) (d : Day) : Prop where
 goods : Goods n d.flatten
 ne : ∀ t ∈ d, t ≠ []
theorem Yk : ∀ (d : Day), (∀ t ∈ d, t ≠ []) → d.length ≤ d.flatten.length
 | [], _ => by simp
 | t :: d, h => by
  have := Yk d fun t ht => h t (by simp [ht])
  have h1 : t.length ≠ 0 := by simpa using h t (by simp)
  rw [List.flatten_cons, List.length_append, List.length_cons]; omega
theorem xZ {d : Day} {t : zq} (h : t ∈ d) : t.Sublist d.flatten := by
 obtain ⟨a, b, rfl⟩ := List.append_of_mem h
 rw [List.flatten_append, List.flatten_cons]
 exact (List.sublist_append_left t b.flatten).trans (List.sublist_append_right a.flatten _)
section
variable {n : Int} {d : Day} (h : Made n d)
include h
theorem Made.len : d.length ≤ 6 := Nat.le_trans (Yk d h.ne) h.goods.len
theorem Made.tlen {t : zq} (ht : t ∈ d) : t.length ≤ 6 := Nat.le_trans (xZ ht).length_le h.goods.len
theorem Made.stop {t : zq} (ht : t ∈ d) {s : Stop} (hs : s ∈ t) : 0 ≤ s.c ∧ s.c < n ∧ 1 ≤ s.q ∧ s.q ≤ 12 := h.goods.each s ((xZ ht).subset hs)
theorem Made.small (hn : n ≤ 6) {t : zq} (ht : t ∈ d) : ∀ s ∈ t, small s.c := fun s hs => by have := h.stop ht hs; unfold Pv.small; omega
end
theorem Zho {α : Type} {a b : List (List α)} (h : a.Sublist b) : a.flatten.Sublist b.flatten := by
 induction h with
 | slnil => exact List.Sublist.refl _
 | cons x _ ih => rw [List.flatten_cons]; exact ih.trans (List.sublist_append_right _ _)
 | cons_cons x _ ih => rw [List.flatten_cons, List.flatten_cons]; exact List.Sublist.append_left ih x
theorem Zhp {a b : List Int} (h : a.Perm b) : a.sum = b.sum := by
 induction h with
 | nil => rfl
 | cons x _ ih => simp [ih]
 | swap x y l => simp; omega
 | trans _ _ ih1 ih2 => exact ih1.trans ih2
theorem Made.sub {n : Int} {d e : Day} (h : Made n d) (hs : e.Sublist d) : Made n e := by
 have hf : e.flatten.Sublist d.flatten := Zho hs
 exact ⟨⟨fun s q => h.goods.each s (hf.subset q), h.goods.nd.sublist (hf.map _), Nat.le_trans hf.length_le h.goods.len⟩, fun t ht => h.ne t (hs.subset ht)⟩
theorem Made.perm {n : Int} {d e : Day} (h : Made n d) (hp : e.Perm d) : Made n e := by
 have hf : e.flatten.Perm d.flatten := hp.flatten
 exact ⟨⟨fun s q => h.goods.each s (hf.subset q), (hf.map _).nodup_iff.2 h.goods.nd, by rw [hf.length_eq]; exact h.goods.len⟩, fun t ht => h.ne t (hp.subset ht)⟩
theorem xJ (x : Inst) (d : Day) : zT x d = 0 ↔ (∀ t ∈ d, zu x t = 0) ∧ (d.flatten.map (·.c)).Nodup ∧ (d.length : Int) ≤ x.veh := by
 unfold zT
 cases hf : d.find? (fun t => zu x t != 0) with
 | some t =>
  have h1 := List.find?_some hf
  have h2 := List.mem_of_find?_eq_some hf
  simp only
  constructor
  ·intro e; simp [e] at h1
  ·rintro ⟨h, _⟩; exact h t h2
 | none =>
  rw [List.find?_eq_none] at hf
  simp only
  constructor
  ·intro e
   refine ⟨fun t ht => by simpa using hf t ht, ?_⟩
   split at e
   ·cases e
   ·split at e
    ·cases e
    ·rename_i h1 h2; exact ⟨by simpa using h1, by omega⟩
  ·rintro ⟨_, h1, h2⟩
   rw [if_neg (by simpa using h1), if_neg (by omega)]
theorem uG (x : Inst) (t : zq) : zu x t = 0 ↔ yt x t = true ∧ (t.map (·.c)).Nodup ∧ W (zx t) ≤ x.cap ∧ W (zF x (t.map (·.c))) ≤ x.len := by
 unfold zu
 constructor
 ·intro e
  split at e
  ·cases e
  ·split at e
   ·cases e
   ·split at e
    ·cases e
    ·split at e
     ·cases e
     ·rename_i h1 h2 h3 h4
      exact ⟨by simpa using h1, by simpa using h2, by omega, by omega⟩
 ·rintro ⟨h1, h2, h3, h4⟩
  rw [if_neg (by simp [h1]), if_neg (by simpa using h2), if_neg (by omega), if_neg (by omega)]
theorem Xk {t : zq} (h : ∀ s ∈ t, 0 ≤ s.q ∧ s.q ≤ 2147483648) : 0 ≤ zx t ∧ zx t ≤ 2147483648 * t.length := by
 induction t with
 | nil => simp [zx]
 | cons s t ih =>
  have := ih fun a ha => h a (by simp [ha])
  have := h s (by simp)
  simp only [zx, List.map_cons, List.sum_cons, List.length_cons] at *
  omega
theorem Zhq (a b : zq) : zx (a ++ b) = zx a + zx b := by simp [zx]
open Go Go.Proofs
def yi (x : Inst) (d : Day) (s : Stop) : List Spot :=
 if zu x [s] = 1 ∨ s.c ∈ d.flatten.map (·.c) ∨ ¬ (d.flatten.map (·.c)).Nodup ∨ x.veh < d.length then []
 else ((List.range d.length).flatMap fun t => xI x t (d.getD t []) (zu x (d.getD t [])) (yh x d) (qh (d.getD t [])) (qg x (d.getD t [])) s) ++
  (if yh x d = 0 ∧ zu x [s] = 0 ∧ (d.length : Int) < x.veh then [⟨d.length, 0, W (zF x [s.c])⟩] else [])
def wD (st : Spot × Bool) (b : Spot) : Spot × Bool := if st.2 = false ∨ b.m < st.1.m then (b, true) else st
def xv (l : List Spot) : Spot × Bool := l.foldl wD (⟨0, 0, 0⟩, false)
def qz (l : zq) (i : Nat) (s : Stop) : zq := l.take i ++ s :: l.drop i
def qA (d : Day) (b : Spot) (s : Stop) : Day := if b.t = d.length then d ++ [[s]] else d.set b.t (qz (d.getD b.t []) b.p s)
def qL (x : Inst) (d : Day) (s : Stop) : Day × Bool := bif (xv (yi x d s)).2 then (qA d (xv (yi x d s)).1 s, true) else (d, false)
theorem Zaz : ∀ (l : List Spot) (st : Spot × Bool), (l.foldl wD st).2 = true → (l.foldl wD st) = st ∨ (l.foldl wD st).1 ∈ l
 | [], st, _ => .inl rfl
 | b :: l, st, h => by
  rw [List.foldl_cons] at h ⊢
  rcases Zaz l _ h with e | e
  ·by_cases hq : st.2 = false ∨ b.m < st.1.m
   ·right; rw [e]; unfold wD; rw [if_pos hq]; simp
   ·left; rw [e]; unfold wD; rw [if_neg hq]
  ·exact .inr (by simp [e])
theorem QB {l : List Spot} (h : (xv l).2 = true) : (xv l).1 ∈ l := by
 rcases Zaz l _ h with e | e
 ·rw [show l.foldl wD (⟨0, 0, 0⟩, false) = xv l from rfl] at e
  rw [e] at h; cases h
 ·exact e
theorem Zhr {x : Inst} {t : Nat} {l : zq} {fl bad ll w : Int} {s : Stop} {b : Spot} (h : b ∈ xI x t l fl bad ll w s) : ¬ (0 < bad - (if fl = 13 then 1 else 0)) ∧ W (ll + s.q) ≤ x.cap ∧ b ∈ (List.range (l.length + 1)).filterMap (xq x t l w s) := by
 unfold xI at h
 by_cases hw : 0 < bad - (if fl = 13 then 1 else 0) ∨ x.cap < W (ll + s.q)
 ·rw [if_pos hw] at h; cases h
 ·rw [if_neg hw] at h
  refine ⟨fun e => hw (.inl e), ?_, h⟩
  rcases Int.lt_or_le x.cap (W (ll + s.q)) with e | e
  ·exact absurd (.inr e) hw
  ·exact e
theorem Yl {x : Inst} {d : Day} {s : Stop} {b : Spot} (h : b ∈ yi x d s) :
  zu x [s] ≠ 1 ∧ s.c ∉ d.flatten.map (·.c) ∧ (d.flatten.map (·.c)).Nodup ∧ (d.length : Int) ≤ x.veh ∧
  ((∃ l, d[b.t]? = some l ∧ b.p ≤ l.length ∧ ¬ (0 < (yh x d : Int) - (if zu x l = 13 then 1 else 0)) ∧ W (qh l + s.q) ≤ x.cap ∧ b.m = j6 x l s b.p ∧ W (qg x l + b.m) ≤ x.len) ∨
   (b = ⟨d.length, 0, W (zF x [s.c])⟩ ∧ yh x d = 0 ∧ zu x [s] = 0 ∧ (d.length : Int) < x.veh)) := by
 unfold yi at h
 split at h
 ·cases h
 ·rename_i hq
  have q1 : zu x [s] ≠ 1 := fun e => hq (.inl e)
  have q2 : s.c ∉ d.flatten.map (·.c) := fun e => hq (.inr (.inl e))
  have q3 : (d.flatten.map (·.c)).Nodup := Classical.byContradiction fun e => hq (.inr (.inr (.inl e)))
  have q4 : (d.length : Int) ≤ x.veh := by
   rcases Int.lt_or_le x.veh d.length with e | e
   ·exact absurd (.inr (.inr (.inr e))) hq
   ·exact e
  refine ⟨q1, q2, q3, q4, ?_⟩
  rw [List.mem_append] at h
  rcases h with h | h
  ·left
   obtain ⟨t, ht, hb⟩ := List.mem_flatMap.1 h
   rw [List.mem_range] at ht
   have hd : d[t]? = some (d.getD t []) := by rw [List.getD_eq_getElem?_getD, List.getElem?_eq_getElem ht]; rfl
   obtain ⟨w1, w2, hb⟩ := Zhr hb
   obtain ⟨i, hi, he⟩ := List.mem_filterMap.1 hb
   rw [List.mem_range] at hi
   unfold xq at he
   by_cases hlen : W (qg x (d.getD t []) + j6 x (d.getD t []) s i) ≤ x.len
   ·rw [if_pos hlen] at he
    cases he
    exact ⟨_, hd, by simp only; omega, w1, w2, rfl, hlen⟩
   ·rw [if_neg hlen] at he; cases he
  ·right
   split at h
   ·rename_i hc; simp at h; exact ⟨h, hc⟩
   ·cases h
def yg (a : Int) : List Int → Int
 | [] => a
 | c :: l => yg (c + 1) l
def Ym : List Int → Int
 | [] => 0
 | c :: _ => c + 1
theorem ZaA (x : Inst) (c : Int) (r : List Int) : ∀ (p : List Int) (a : Int), yl x a (p ++ c :: r) = yl x a (p ++ r) + (arc x (yg a p) (c + 1) + arc x (c + 1) (Ym r) - arc x (yg a p) (Ym r))
 | [], a => by
  cases r with
  | nil => simp only [List.nil_append, yl, yg, Ym]; omega
  | cons e r => simp only [List.nil_append, yl, yg, Ym]; omega
 | e :: p, a => by
  simp only [List.cons_append, yl, yg]
  rw [ZaA x c r p (e + 1)]; omega
theorem ZaB : ∀ (p : List Int) (a : Int), yg a p = if p.length = 0 then a else (p.getD (p.length - 1) 0) + 1
 | [], a => by simp [yg]
 | [c], a => by simp [yg]
 | c :: e :: p, a => by
  simp only [yg]
  rw [show yg (e + 1) p = yg (c + 1) (e :: p) from rfl, ZaB (e :: p) (c + 1)]
  simp [List.getD_eq_getElem?_getD]
theorem Zhs (l : zq) (i : Nat) (h : i < l.length) : (l.map (·.c)).getD i 0 = (l.getD i default).c := by
 rw [List.getD_eq_getElem?_getD, List.getD_eq_getElem?_getD, List.getElem?_map, List.getElem?_eq_getElem h]; rfl
theorem Zht (x : Inst) (l : zq) (s : Stop) (i : Nat) (h0 : l ≠ []) (hi : i ≤ l.length) :
  zF x ((qz l i s).map (·.c)) = zF x (l.map (·.c)) + (arc x (ahZ l i) (s.c + 1) + arc x (s.c + 1) (beZ l i) - arc x (ahZ l i) (beZ l i)) := by
 unfold zF qz
 rw [if_neg (by simp), if_neg (by simpa using h0)]
 rw [List.map_append, List.map_cons, ZaA, ← List.map_append, List.take_append_drop]
 have e1 : yg 0 ((l.take i).map (·.c)) = ahZ l i := by
  rw [ZaB]
  unfold ahZ
  rw [List.length_map, List.length_take]
  by_cases hz : i = 0
  ·rw [if_pos (by omega), if_pos hz]
  ·rw [if_neg (by omega), if_neg hz, Zhs _ _ (by rw [List.length_take]; omega)]
   rw [List.getD_eq_getElem?_getD, List.getD_eq_getElem?_getD, List.getElem?_take_of_lt (by omega), show min i l.length - 1 = i - 1 from by omega]
 have e2 : Ym ((l.drop i).map (·.c)) = beZ l i := by
  unfold beZ
  by_cases hz : i < l.length
  ·rw [if_pos hz, List.drop_eq_getElem_cons hz, List.getD_eq_getElem?_getD, List.getElem?_eq_getElem hz]; rfl
  ·rw [if_neg hz, List.drop_eq_nil_of_le (by omega)]; rfl
 rw [e1, e2]
theorem ZaC (x : Inst) (l : zq) (s : Stop) (i : Nat) (h0 : l ≠ []) (hi : i ≤ l.length) : qg x (qz l i s) = W (qg x l + j6 x l s i) := by
 unfold qg j6
 rw [Zht x l s i h0 hi, xS, Vi]
 generalize arc x (ahZ l i) (s.c + 1) + arc x (s.c + 1) (beZ l i) = p
 generalize arc x (ahZ l i) (beZ l i) = q
 generalize zF x (l.map (·.c)) = r
 simp only [W, IntKind.wrap_i64]; omega
theorem ZaD (l : zq) (s : Stop) (i : Nat) : qh (qz l i s) = W (qh l + s.q) := by
 unfold qh
 rw [xS]
 have : zx (qz l i s) = zx l + s.q := by
  unfold zx qz
  conv => rhs; rw [← List.take_append_drop i l]
  simp only [List.map_append, List.map_cons, List.sum_append, List.sum_cons]; omega
 rw [this]
theorem Yn (l : zq) (s : Stop) (i : Nat) : (qz l i s).Perm (s :: l) := by
 unfold qz
 have := List.perm_middle (a := s) (l₁ := l.take i) (l₂ := l.drop i)
 rwa [List.take_append_drop] at this
theorem Xl {α : Type} : ∀ (d : List (List α)) (t : Nat) (l m : List α) (s : α), d[t]? = some l → m.Perm (s :: l) → (d.set t m).flatten.Perm (s :: d.flatten)
 | [], t, l, m, s, h, _ => by simp at h
 | a :: d, 0, l, m, s, h, hm => by
  simp at h; subst h
  simp only [List.set_cons_zero, List.flatten_cons]
  exact (hm.append_right _)
 | a :: d, t + 1, l, m, s, h, hm => by
  simp only [List.getElem?_cons_succ] at h
  simp only [List.set_cons_succ, List.flatten_cons]
  exact ((Xl d t l m s h hm).append_left a).trans List.perm_middle
theorem Xm {x : Inst} {d : Day} {s : Stop} {b : Spot} (h : b ∈ yi x d s) : (qA d b s).flatten.Perm (s :: d.flatten) := by
 obtain ⟨-, -, -, -, h⟩ := Yl h
 unfold qA
 rcases h with ⟨l, hl, -⟩ | ⟨rfl, -⟩
 ·have hlt := (List.getElem?_eq_some_iff.1 hl).1
  rw [if_neg (by omega), List.getD_eq_getElem?_getD, hl]
  exact Xl d b.t l _ s hl (Yn l s b.p)
 ·rw [if_pos rfl]
  simp only [List.flatten_append, List.flatten_cons, List.flatten_nil, List.append_nil]
  exact List.perm_append_comm
theorem ZaE {x : Inst} {d : Day} {s : Stop} (h : (qL x d s).2 = true) : (qL x d s).1.flatten.Perm (s :: d.flatten) := by
 unfold qL at h ⊢
 cases hb : (xv (yi x d s)).2 with
 | false => rw [hb] at h; cases h
 | true => exact Xm (QB hb)
theorem Zhu {x : Inst} {d : Day} {s : Stop} (h : (qL x d s).2 = false) : (qL x d s).1 = d := by
 unfold qL at h ⊢
 cases hb : (xv (yi x d s)).2 with
 | false => rfl
 | true => rw [hb] at h; cases h
theorem Zhv {x : Inst} {a b : zq} (h : a.Perm b) : yt x a = yt x b := by
 unfold yt
 have h1 : a.all (qf x) = b.all (qf x) := by
  rw [Bool.eq_iff_iff, List.all_eq_true, List.all_eq_true]
  exact ⟨fun q s hs => q s (h.symm.subset hs), fun q s hs => q s (h.subset hs)⟩
 have h2 : a.isEmpty = b.isEmpty := by
  cases a with
  | nil => rw [List.nil_perm.1 h]
  | cons a l =>
   cases b with
   | nil => exact absurd h.symm (by simp)
   | cons => rfl
 rw [h1, h2]
theorem QC {x : Inst} {t : zq} (h : yt x t = true) : t ≠ [] := by
 rintro rfl; simp [yt] at h
theorem Xn {x : Inst} {t : zq} (h : yt x t = false) : zu x t = 1 := by unfold zu; rw [if_pos h]
theorem ZaF {x : Inst} {s : Stop} (h : zu x [s] ≠ 1) : qf x s = true := by
 cases hs : yt x [s] with
 | false => exact absurd (Xn hs) h
 | true => simpa [yt] using hs
theorem vM {x : Inst} {d : Day} : yh x d = 0 ↔ ∀ t ∈ d, zu x t = 0 := by
 unfold yh
 rw [List.length_eq_zero_iff, List.filter_eq_nil_iff]
 simp
theorem Xo {x : Inst} {d : Day} {s : Stop} {b : Spot} (h : b ∈ yi x d s) : zT x (qA d b s) = 0 := by
 have hp := Xm h
 obtain ⟨q1, q2, q3, q4, h⟩ := Yl h
 rw [xJ]
 have hg := ZaF q1
 have hn : ((qA d b s).flatten.map (·.c)).Nodup := by
  rw [(hp.map _).nodup_iff, List.map_cons, List.nodup_cons]
  exact ⟨q2, q3⟩
 refine ⟨?_, hn, ?_⟩
 ·rcases h with ⟨l, hl, hi, ho, hcap, hm, hlen⟩ | ⟨rfl, hb, hs, hv⟩
  ·obtain ⟨hlt, hle⟩ := List.getElem?_eq_some_iff.1 hl
   have hpd : qA d b s = d.set b.t (qz l b.p s) := by unfold qA; rw [if_neg (by omega), List.getD_eq_getElem?_getD, hl]; rfl
   -- the other tours
   have hoth : ∀ j m, j ≠ b.t → d[j]? = some m → zu x m = 0 := by
    intro j m hj hm'
    refine Classical.byContradiction fun hbad => ?_
    have h13 : 0 < yh x d := by
     rcases Nat.eq_zero_or_pos (yh x d) with e | e
     ·exact absurd (vM.1 e m (List.mem_of_getElem? hm')) hbad
     ·exact e
    by_cases hf : zu x l = 13
    ·rw [if_pos hf] at ho
     have h2 : 2 ≤ yh x d := by
      unfold yh
      obtain ⟨hjl, hje⟩ := List.getElem?_eq_some_iff.1 hm'
      have key : ∀ (i j : Nat), i < j → ∀ (a c : zq), d[i]? = some a → d[j]? = some c → zu x a ≠ 0 → zu x c ≠ 0 → 2 ≤ (d.filter fun t => decide (zu x t ≠ 0)).length := by
       intro i j hij a c ha hc na nc
       obtain ⟨hil, rfl⟩ := List.getElem?_eq_some_iff.1 ha
       obtain ⟨hjl, rfl⟩ := List.getElem?_eq_some_iff.1 hc
       have e : d = d.take (i + 1) ++ d.drop (i + 1) := (List.take_append_drop _ _).symm
       rw [e, List.filter_append, List.length_append]
       have m1 : d[i] ∈ (d.take (i + 1)).filter fun t => decide (zu x t ≠ 0) := List.mem_filter.2 ⟨List.mem_of_getElem? (i := i) (by rw [List.getElem?_take_of_lt (by omega)]; exact ha), by simp [na]⟩
       have m2 : d[j] ∈ (d.drop (i + 1)).filter fun t => decide (zu x t ≠ 0) := List.mem_filter.2 ⟨List.mem_of_getElem? (i := j - (i + 1)) (by rw [List.getElem?_drop, show i + 1 + (j - (i + 1)) = j from by omega]; exact hc), by simp [nc]⟩
       have := List.length_pos_of_mem m1
       have := List.length_pos_of_mem m2
       omega
      have nl : zu x l ≠ 0 := by rw [hf]; decide
      rcases Nat.lt_or_ge j b.t with h3 | h3
      ·exact key j b.t h3 m l hm' hl hbad nl
      ·exact key b.t j (by omega) l m hl hm' nl hbad
     omega
    ·rw [if_neg hf] at ho; omega
   -- the tour itself
   have hself : zu x l = 0 ∨ zu x l = 13 := by
    by_cases hf : zu x l = 13
    ·exact .inr hf
    ·rw [if_neg hf] at ho
     exact .inl (vM.1 (by omega) l (List.mem_of_getElem? hl))
   have hst : yt x l = true := by
    cases e : yt x l with
    | true => rfl
    | false => rw [Xn e] at hself; rcases hself with h | h <;> cases h
   have hne := QC hst
   intro t ht
   rw [hpd] at ht
   obtain ⟨j, hj⟩ := List.mem_iff_getElem?.1 ht
   rw [List.getElem?_set] at hj
   by_cases hjb : b.t = j
   ·rw [if_pos hjb, if_pos hlt] at hj
    cases hj
    rw [uG]
    refine ⟨?_, ?_, ?_, ?_⟩
    ·rw [Zhv (Yn l s b.p)]
     unfold yt at hst ⊢
     simp only [List.all_cons, List.isEmpty_cons, Bool.and_eq_true] at hst ⊢
     exact ⟨⟨hg, hst.1⟩, rfl⟩
    ·have hsub : (qz l b.p s).Sublist (qA d b s).flatten := by rw [hpd]; exact xZ ht
     exact hn.sublist (hsub.map _)
    ·have := ZaD l s b.p
     unfold qh at this
     rw [this]; exact hcap
    ·have := ZaC x l s b.p hne hi
     unfold qg at this
     rw [this, ← hm]; exact hlen
   ·rw [if_neg hjb] at hj
    exact hoth j t (fun e => hjb e.symm) hj
  ·unfold qA
   rw [if_pos rfl]
   intro t ht
   rw [List.mem_append] at ht
   rcases ht with ht | ht
   ·exact vM.1 hb t ht
   ·simp at ht; subst ht; exact hs
 ·rcases h with ⟨l, hl, -⟩ | ⟨rfl, -, -, hv⟩
  ·have hlt := (List.getElem?_eq_some_iff.1 hl).1
   unfold qA; rw [if_neg (by omega), List.length_set]; exact q4
  ·unfold qA; rw [if_pos rfl, List.length_append]; simp; omega
def js (c : Int) (t : zq) : zq := t.filter fun s => decide (s.c ≠ c)
def jh (c : Int) (d : Day) : Day := (d.map (js c)).filter fun t => !t.isEmpty
def ZaG (c : Int) (d : Day) : Int := W ((d.flatten.filter fun s => decide (s.c = c)).map (·.q)).sum
theorem Zhw (c : Int) (a b : Day) : jh c (a ++ b) = jh c a ++ jh c b := by simp [jh]
open Go Hp
theorem JI.begin : ∀ (l pre : List Stop) (T : Day) (g : Int → Option Int), JI pre T g → ((pre ++ l).map (·.c)).Nodup → ∃ g', JI (pre ++ l) (T ++ l.map fun s => [s]) g'
 | [], pre, T, g, h, _ => ⟨g, by simpa using h⟩
 | s :: l, pre, T, g, h, hn => by
  have hs : s.c ∉ pre.map (·.c) := by
   rw [List.map_append, List.nodup_append] at hn
   exact fun hm => hn.2.2 _ hm s.c (by simp) rfl
  obtain ⟨g', h'⟩ := JI.begin l (pre ++ [s]) (T ++ [[s]]) _ (h.snoc s hs) (by simpa using hn)
  exact ⟨g', by simpa using h'⟩
theorem Yo {α : Type} (f : α → Int) : ∀ (T : List α) (i : Nat) (a b : α), T[i]? = some a → ((T.set i b).map f).sum = (T.map f).sum - f a + f b
 | [], i, a, b, h => by simp at h
 | t :: T, 0, a, b, h => by simp at h; subst h; simp; omega
 | t :: T, i + 1, a, b, h => by
  simp only [List.getElem?_cons_succ] at h
  simp only [List.set_cons_succ, List.map_cons, List.sum_cons]
  rw [Yo f T i a b h]; omega
theorem Zhx (x : Inst) : zF x [] = 0 := by simp [zF]
theorem Zhy {x : Inst} {a b : List Int} {u v : Int} (hu : a[a.length - 1]? = some u) (hv : b[0]? = some v) : zF x (a ++ b) = zF x a + zF x b - jf x u v := by
 have ha : 0 < a.length := by
  have := (List.getElem?_eq_some_iff.1 hu).1; omega
 have h1 := Zf6 x (a ++ b) (a.length - 1) u v (by rw [List.getElem?_append_left (by omega)]; exact hu) (by rw [Nat.sub_add_cancel ha, List.getElem?_append_right (Nat.le_refl _), Nat.sub_self]; exact hv)
 rw [Nat.sub_add_cancel ha, List.take_left', List.drop_left'] at h1
 ·exact h1
 ·rfl
 ·rfl
structure KI (x : Inst) (ss : List Stop) (C : Int) (st : Day × Int) : Prop where
 j : ∃ g, JI ss st.1 g
 may : ∀ t ∈ st.1, 1 < t.length → zu x t = 0
 num : st.2 ≤ x.veh
 cost : yn x st.1 ≤ C
theorem KI.step {x : Inst} {ss : List Stop} {C : Int} {st : Day × Int} (h : KI x ss C st) {p : Pr} (ha : p.a ∈ ss.map (·.c)) (hb : p.b ∈ ss.map (·.c)) (hs : p.s = jf x p.a p.b) : KI x ss C (yO x st p) := by
 obtain ⟨g, hI⟩ := h.j
 obtain ⟨i, a, sa, hia, hsa, hsac, hga, hpi⟩ := hI.there ha
 obtain ⟨k, b, sb, hkb, hsb, hsbc, hgb, hpk⟩ := hI.there hb
 have hgi : st.1.getD i [] = a := by rw [List.getD_eq_getElem?_getD, hia]; rfl
 have hgk : st.1.getD k [] = b := by rw [List.getD_eq_getElem?_getD, hkb]; rfl
 unfold yO Zl
 rw [hpi, hpk, hgi, hgk]
 cases hc : yq x st.2 p i k a b with
 | false => exact h
 | true =>
  simp only [cond_true]
  unfold yq at hc
  simp only [Bool.and_eq_true, decide_eq_true_eq, Bool.not_eq_true', Bool.and_eq_false_iff, decide_eq_false_iff_not] at hc
  obtain ⟨⟨⟨⟨h1, h2⟩, h3⟩, h4⟩, h5⟩ := hc
  have hn := h.num
  have hpos : 0 < p.s := by rcases h4 with h4 | h4 <;> omega
  refine ⟨⟨_, hI.join hia hkb h1⟩, fun t ht hl => ?_, by simp only; omega, ?_⟩
  ·rcases List.mem_or_eq_of_mem_set ht with ht | ht
   ·rcases List.mem_or_eq_of_mem_set ht with ht | ht
    ·exact h.may t ht hl
    ·rw [ht]; exact h5
   ·rw [ht] at hl; simp at hl
  ·have hk2 : (st.1.set i (a ++ b))[k]? = some b := by rw [List.getElem?_set_ne h1]; exact hkb
   have e1 := Yo (fun t : zq => zF x (t.map (·.c))) (st.1.set i (a ++ b)) k b [] hk2
   have e2 := Yo (fun t : zq => zF x (t.map (·.c))) st.1 i a (a ++ b) hia
   have e3 := Zhy (x := x) (a := a.map (·.c)) (b := b.map (·.c)) (u := p.a) (v := p.b) (by
    unfold vf at h2; rw [List.getElem?_map, List.length_map]; exact h2) (by unfold vJ at h3; rw [List.getElem?_map]; exact h3)
   have hcst := h.cost
   unfold yn at hcst ⊢
   simp only [List.map_append, List.map_nil, Zhx] at e1 e2
   rw [e3] at e2
   simp only
   omega
open Go Go.Proofs
theorem ZaH {x : Inst} (h : qJ x) : ∀ (l : List Int) (a : Int), 0 ≤ yl x a l ∧ yl x a l ≤ 2147483648 * ((l.length : Int) + 1)
 | [], a => by
  have := h a 0
  simp only [yl, List.length_nil]; omega
 | c :: l, a => by
  have h1 := h a (c + 1)
  have h2 := ZaH h l (c + 1)
  simp only [yl, List.length_cons]; omega
theorem Zo {x : Inst} (h : qJ x) (l : List Int) : 0 ≤ zF x l ∧ zF x l ≤ 2147483648 * ((l.length : Int) + 1) := by
 unfold zF; split
 ·omega
 ·exact ZaH h l 0
def vN (d : Day) : List (Nat × Nat) := (List.range (d.length + 1)).flatMap fun t => (List.range ((d.getD t []).length + 1)).map fun p => (t, p)
def wE (d : Day) (s : Stop) (c : Nat × Nat) : Day := qA d ⟨c.1, c.2, 0⟩ s
def Xp (x : Inst) (d : Day) (s : Stop) (c : Nat × Nat) : Int := if c.1 = d.length then W (zF x [s.c]) else j6 x (d.getD c.1 []) s c.2
def uH (x : Inst) (d : Day) (s : Stop) (c : Nat × Nat) : Option Spot := if zT x (wE d s c) = 0 then some ⟨c.1, c.2, Xp x d s c⟩ else none
theorem ZaI (d : Day) (s : Stop) (b : Spot) : qA d b s = wE d s (b.t, b.p) := rfl
theorem ZaJ {d : Day} {c : Nat × Nat} : c ∈ vN d ↔ c.1 ≤ d.length ∧ c.2 ≤ (d.getD c.1 []).length := by
 unfold vN
 rw [List.mem_flatMap]
 constructor
 ·rintro ⟨t, ht, hc⟩
  obtain ⟨p, hp, rfl⟩ := List.mem_map.1 hc
  rw [List.mem_range] at ht hp
  simp only; omega
 ·rintro ⟨h1, h2⟩
  exact ⟨c.1, List.mem_range.2 (by omega), List.mem_map.2 ⟨c.2, List.mem_range.2 (by omega), rfl⟩⟩
abbrev QD (x : Inst) (d : Day) (s : Stop) : Prop := zu x [s] = 1 ∨ s.c ∈ d.flatten.map (·.c) ∨ ¬ (d.flatten.map (·.c)).Nodup ∨ x.veh < d.length
theorem ZaK {d : Day} {s : Stop} {t p : Nat} {l : zq} (hl : d[t]? = some l) : wE d s (t, p) = d.set t (qz l p s) := by
 have hlt := (List.getElem?_eq_some_iff.1 hl).1
 unfold wE qA; rw [if_neg (by simp only; omega), List.getD_eq_getElem?_getD, hl]; rfl
theorem ZaL (d : Day) (s : Stop) (p : Nat) : wE d s (d.length, p) = d ++ [[s]] := by
 unfold wE qA; rw [if_pos rfl]
theorem Zhz {d : Day} {s : Stop} {c : Nat × Nat} (hc : c ∈ vN d) : (wE d s c).flatten.Perm (s :: d.flatten) := by
 obtain ⟨t, p⟩ := c
 obtain ⟨h1, h2⟩ := ZaJ.1 hc
 simp only at h1 h2
 by_cases ht : t = d.length
 ·subst ht
  rw [ZaL]
  simp only [List.flatten_append, List.flatten_cons, List.flatten_nil, List.append_nil]
  exact List.perm_append_comm
 ·have hl : d[t]? = some (d.getD t []) := by rw [List.getD_eq_getElem?_getD, List.getElem?_eq_getElem (by omega)]; rfl
  rw [ZaK hl]
  exact Xl d t _ _ s hl (Yn _ s p)
theorem ZhA {x : Inst} {d : Day} {s : Stop} (hd : zT x d = 0) {c : Nat × Nat} (hc : c ∈ vN d) (h : zT x (wE d s c) = 0) : ¬ QD x d s := by
 have hp := Zhz (s := s) hc
 obtain ⟨g1, g2, g3⟩ := (xJ x _).1 h
 obtain ⟨e1, e2, e3⟩ := (xJ x _).1 hd
 rw [(hp.map _).nodup_iff, List.map_cons, List.nodup_cons] at g2
 rintro (q | q | q | q)
 ·obtain ⟨u, hu, hsu⟩ := List.mem_flatten.1 (hp.symm.subset (List.mem_cons_self (a := s)))
  have hm := ((uG x u).1 (g1 u hu)).1
  unfold yt at hm
  simp only [Bool.and_eq_true, List.all_eq_true] at hm
  have hgs := hm.1 s hsu
  have : zu x [s] ≠ 1 := by
   unfold zu yt
   rw [if_neg (by simp [hgs])]
   split
   ·decide
   ·split
    ·decide
    ·split <;> decide
  exact this q
 ·exact g2.1 q
 ·exact q e2
 ·omega
theorem ZaM {x : Inst} {d : Day} {s : Stop} (hd : zT x d = 0) (ho : ¬ QD x d s) {t p : Nat} {l : zq} (hl : d[t]? = some l) (hp : p ≤ l.length) :
  zT x (wE d s (t, p)) = 0 ↔ W (qh l + s.q) ≤ x.cap ∧ W (qg x l + j6 x l s p) ≤ x.len := by
 obtain ⟨e1, e2, e3⟩ := (xJ x _).1 hd
 have hlm := List.mem_of_getElem? hl
 have hlt := (List.getElem?_eq_some_iff.1 hl).1
 have hm0 := e1 l hlm
 have hne : l ≠ [] := QC ((uG x l).1 hm0).1
 have hb : yh x d = 0 := vM.2 e1
 have hg : d.getD t [] = l := by rw [List.getD_eq_getElem?_getD, hl]; rfl
 constructor
 ·intro h
  obtain ⟨g1, -, -⟩ := (xJ x _).1 h
  rw [ZaK hl] at g1
  have := g1 (qz l p s) (List.mem_of_getElem? (i := t) (by simp [hlt]))
  obtain ⟨-, -, a, b⟩ := (uG x _).1 this
  have ha := ZaD l s p
  have hw := ZaC x l s p hne hp
  unfold qh at ha
  unfold qg at hw
  rw [ha] at a; rw [hw] at b
  exact ⟨a, b⟩
 ·rintro ⟨a, b⟩
  have hmem : (⟨t, p, j6 x l s p⟩ : Spot) ∈ yi x d s := by
   unfold yi
   rw [if_neg ho]
   refine List.mem_append_left _ (List.mem_flatMap.2 ⟨t, List.mem_range.2 hlt, ?_⟩)
   rw [hg, hb, hm0]
   unfold xI
   rw [if_neg (by simp; omega)]
   refine List.mem_filterMap.2 ⟨p, List.mem_range.2 (by omega), ?_⟩
   unfold xq; rw [if_pos b]
  have := Xo hmem
  rwa [ZaI] at this
theorem ZhB {x : Inst} {d : Day} {s : Stop} (hd : zT x d = 0) (ho : ¬ QD x d s) : zT x (wE d s (d.length, 0)) = 0 ↔ zu x [s] = 0 ∧ (d.length : Int) < x.veh := by
 obtain ⟨e1, e2, e3⟩ := (xJ x _).1 hd
 have hb : yh x d = 0 := vM.2 e1
 constructor
 ·intro h
  obtain ⟨g1, -, g3⟩ := (xJ x _).1 h
  rw [ZaL] at g1 g3
  rw [List.length_append] at g3
  simp at g3
  exact ⟨g1 [s] (by simp), by omega⟩
 ·rintro ⟨a, b⟩
  have hmem : (⟨d.length, 0, W (zF x [s.c])⟩ : Spot) ∈ yi x d s := by
   unfold yi
   rw [if_neg ho, if_pos ⟨hb, a, b⟩]
   exact List.mem_append_right _ (by simp)
  have := Xo hmem
  rwa [ZaI] at this
theorem ZaN {α β : Type} {f : α → Option β} {l : List α} (h : ∀ a ∈ l, f a = none) : l.filterMap f = [] := by
 rw [List.filterMap_eq_nil_iff]; exact h
theorem ZaO {α β : Type} {f g : α → List β} : ∀ {l : List α}, (∀ a ∈ l, f a = g a) → l.flatMap f = l.flatMap g
 | [], _ => rfl
 | a :: l, h => by rw [List.flatMap_cons, List.flatMap_cons, h a (by simp), ZaO fun b hb => h b (by simp [hb])]
theorem ZaP {α β : Type} {f g : α → Option β} : ∀ {l : List α}, (∀ a ∈ l, f a = g a) → l.filterMap f = l.filterMap g
 | [], _ => rfl
 | a :: l, h => by
  have ih := ZaP (f := f) (g := g) (l := l) fun b hb => h b (by simp [hb])
  rw [List.filterMap_cons, List.filterMap_cons, h a (by simp), ih]
def vg (x : Inst) (d : Day) (s : Stop) (t : Nat) : List Spot := ((List.range ((d.getD t []).length + 1)).map fun p => (t, p)).filterMap (uH x d s)
theorem ZaQ {x : Inst} {d : Day} {s : Stop} (hd : zT x d = 0) : yi x d s = (List.range (d.length + 1)).flatMap (vg x d s) := by
 by_cases ho : QD x d s
 ·unfold yi
  rw [if_pos ho]
  symm
  rw [List.flatMap_eq_nil_iff]
  intro t ht
  rw [List.mem_range] at ht
  refine ZaN fun c hc => ?_
  obtain ⟨p, hp, rfl⟩ := List.mem_map.1 hc
  rw [List.mem_range] at hp
  unfold uH
  rw [if_neg]
  intro h
  exact ZhA hd (ZaJ.2 ⟨by simp only; omega, by simp only; omega⟩) h ho
 ·unfold yi
  obtain ⟨e1, e2, e3⟩ := (xJ x _).1 hd
  have hb : yh x d = 0 := vM.2 e1
  rw [if_neg ho, List.range_succ, List.flatMap_append]
  congr 1
  ·refine ZaO fun t ht => ?_
   rw [List.mem_range] at ht
   have hl : d[t]? = some (d.getD t []) := by rw [List.getD_eq_getElem?_getD, List.getElem?_eq_getElem ht]; rfl
   have hm0 := e1 _ (List.mem_of_getElem? hl)
   unfold vg xI
   rw [hm0, hb, List.filterMap_map]
   by_cases hcap : x.cap < W (qh (d.getD t []) + s.q)
   ·rw [if_pos (.inr hcap)]
    symm
    refine ZaN fun p hp => ?_
    rw [List.mem_range] at hp
    simp only [Function.comp_apply]
    unfold uH
    rw [if_neg]
    rw [ZaM hd ho hl (by omega)]
    omega
   ·rw [if_neg (show ¬ (0 < ((0 : Nat) : Int) - (if (0 : Int) = 13 then 1 else 0) ∨ x.cap < W (qh (d.getD t []) + s.q)) from by rintro (q | q); exact absurd q (by decide); exact hcap q)]
    refine ZaP fun p hp => ?_
    rw [List.mem_range] at hp
    simp only [Function.comp_apply]
    have hi := ZaM (p := p) hd ho hl (by omega)
    unfold uH xq Xp
    simp only
    rw [if_neg (show ¬ t = d.length by omega)]
    by_cases hw : W (qg x (d.getD t []) + j6 x (d.getD t []) s p) ≤ x.len
    ·rw [if_pos hw, if_pos (hi.2 ⟨by omega, hw⟩)]
    ·rw [if_neg hw, if_neg fun e => hw (hi.1 e).2]
  ·have hi := ZhB hd ho
   simp only [List.flatMap_cons, List.flatMap_nil, List.append_nil]
   unfold vg
   rw [show d.getD d.length [] = ([] : zq) from by rw [List.getD_eq_getElem?_getD, List.getElem?_eq_none (Nat.le_refl _)]; rfl]
   simp only [List.length_nil, Nat.zero_add, List.range_one, List.map_cons, List.map_nil, List.filterMap_cons, List.filterMap_nil]
   unfold uH Xp
   simp only [if_true]
   by_cases hc : zu x [s] = 0 ∧ (d.length : Int) < x.veh
   ·rw [if_pos ⟨hb, hc⟩, if_pos (hi.2 hc)]
   ·rw [if_neg fun e => hc e.2, if_neg fun e => hc (hi.1 e)]
theorem ZaR {α β γ : Type} (f : α → List β) (g : β → Option γ) : ∀ l : List α, (l.flatMap f).filterMap g = l.flatMap fun a => (f a).filterMap g
 | [] => rfl
 | a :: l => by rw [List.flatMap_cons, List.filterMap_append, ZaR f g l, List.flatMap_cons]
theorem ZhC {x : Inst} {d : Day} {s : Stop} (hd : zT x d = 0) : yi x d s = (vN d).filterMap (uH x d s) := by
 rw [ZaQ hd]; unfold vN; rw [ZaR]; rfl
theorem ZaS {x : Inst} {d : Day} (h : zT x d = 0) : ∀ t ∈ d, t ≠ [] := fun t ht => QC ((uG x t).1 (((xJ x d).1 h).1 t ht)).1
def vO (st : Int × Bool) (m : Int) : Int × Bool := if st.2 = false ∨ m < st.1 then (m, true) else st
def vQ (l : List Int) : Int × Bool := l.foldl vO (0, false)
def Zp (x : Inst) (d : Day) (s : Stop) (n : Nat) : List Int := (List.range n).filterMap fun t => bif (vQ ((vg x d s t).map (·.m))).2 then some (vQ ((vg x d s t).map (·.m))).1 else none
def Zq (x : Inst) (d : Day) (s : Stop) : List Int := yf (Zp x d s (d.length + 1))
theorem Xq : ∀ (l : List Int) (m : Int), (l.foldl vO (m, true)).2 = true
 | [], _ => rfl
 | a :: l, m => by
  rw [List.foldl_cons]
  unfold vO
  split
  ·exact Xq l a
  ·exact Xq l m
theorem ZhD : vQ [] = (0, false) := rfl
theorem ZhE (a : Int) (l : List Int) : vQ (a :: l) = l.foldl vO (a, true) := by
 unfold vQ; rw [List.foldl_cons]; unfold vO; simp
def jt (st : List Int × Int) (p : Spot) : List Int × Int :=
 if (p.t : Int) ≠ st.2 then (st.1 ++ [p.m], (p.t : Int)) else (st.1.set (st.1.length - 1) (if p.m < st.1.getD (st.1.length - 1) 0 then p.m else st.1.getD (st.1.length - 1) 0), st.2)
theorem ZaT (t : Nat) : ∀ (g : List Spot) (l : List Int) (m : Int), (∀ p ∈ g, p.t = t) → g.foldl jt (l ++ [m], (t : Int)) = (l ++ [((g.map (·.m)).foldl vO (m, true)).1], (t : Int))
 | [], l, m, _ => rfl
 | p :: g, l, m, h => by
  have hp := h p (by simp)
  have hs : jt (l ++ [m], (t : Int)) p = (l ++ [if p.m < m then p.m else m], (t : Int)) := by
   unfold jt
   rw [hp, if_neg (by simp)]
   simp
  have hm : vO (m, true) p.m = (if p.m < m then p.m else m, true) := by
   unfold vO
   by_cases q : p.m < m <;> simp [q]
  rw [List.foldl_cons, hs, List.map_cons, List.foldl_cons, hm]
  exact ZaT t g l _ fun q hq => h q (by simp [hq])
theorem ZhF {t : Nat} {g : List Spot} (hg : ∀ p ∈ g, p.t = t) (l : List Int) (last : Int) (hl : last < t) :
  g.foldl jt (l, last) = (l ++ (bif (vQ (g.map (·.m))).2 then [(vQ (g.map (·.m))).1] else []), if g = [] then last else (t : Int)) := by
 cases g with
 | nil => simp [ZhD]
 | cons p g =>
  have hp := hg p (by simp)
  have hs : jt (l, last) p = (l ++ [p.m], (t : Int)) := by
   unfold jt; rw [hp, if_pos (by simp only [ne_eq]; omega)]
  rw [List.foldl_cons, hs, ZaT t g l p.m fun q hq => hg q (by simp [hq]), List.map_cons, ZhE, Xq]
  simp
theorem ZhG {x : Inst} {d : Day} {s : Stop} {t : Nat} : ∀ p ∈ vg x d s t, p.t = t := by
 intro b hb
 unfold vg at hb
 obtain ⟨c, hc, he⟩ := List.mem_filterMap.1 hb
 obtain ⟨p, -, rfl⟩ := List.mem_map.1 hc
 unfold uH at he
 split at he
 ·cases he; rfl
 ·cases he
theorem ZaU (x : Inst) (d : Day) (s : Stop) : ∀ n : Nat, ∃ last : Int, last < n ∧ ((List.range n).flatMap (vg x d s)).foldl jt ([], -1) = (Zp x d s n, last)
 | 0 => ⟨-1, by omega, rfl⟩
 | n + 1 => by
  obtain ⟨last, h1, h2⟩ := ZaU x d s n
  rw [List.range_succ, List.flatMap_append, List.foldl_append, h2]
  simp only [List.flatMap_cons, List.flatMap_nil, List.append_nil]
  rw [ZhF ZhG _ _ h1]
  refine ⟨_, ?_, by
   congr 1
   unfold Zp
   rw [List.range_succ, List.filterMap_append]
   congr 1
   cases hm : (vQ ((vg x d s n).map (·.m))).2 <;> simp [hm]⟩
  split <;> omega
theorem ZhH {x : Inst} {d : Day} {s : Stop} (hd : zT x d = 0) : ((yi x d s).foldl jt ([], -1)).1 = Zp x d s (d.length + 1) := by
 rw [ZaQ hd]
 obtain ⟨last, -, h⟩ := ZaU x d s (d.length + 1)
 rw [h]
theorem ZaV : ∀ {a b : List Int}, a.Perm b → a.Pairwise (· ≤ ·) → b.Pairwise (· ≤ ·) → a = b
 | [], b, h, _, _ => (List.nil_perm.1 h).symm
 | x :: a, [], h, _, _ => absurd h.symm (by simp)
 | x :: a, y :: b, h, ha, hb => by
  rw [List.pairwise_cons] at ha hb
  have hxy : x = y := by
   have h1 : x ∈ y :: b := h.subset (by simp)
   have h2 : y ∈ x :: a := h.symm.subset (by simp)
   have q1 : y ≤ x := by
    rcases List.mem_cons.1 h1 with e | e
    ·omega
    ·exact hb.1 x e
   have q2 : x ≤ y := by
    rcases List.mem_cons.1 h2 with e | e
    ·omega
    ·exact ha.1 y e
   omega
  subst hxy
  rw [ZaV ((List.perm_cons x).1 h) ha.2 hb.2]
open Go Go.Proofs
theorem ZhI (x : Inst) (d : Day) (s : Stop) (t : Nat) : (Zp x d s t).length ≤ t := by
 unfold Zp; exact Nat.le_trans (List.length_filterMap_le _ _) (by simp)
open Go Go.Proofs
theorem Sim.drewN {C : Ctx} {S : Store} {w : World} (h : Sim C S w) : ∀ q : Nat, Sim C S (w.drewN q) ∧ Step C S w C S (w.drewN q)
 | 0 => by
  have e : w.drewN 0 = w := rfl
  rw [e]; exact ⟨h, .refl _ _ _⟩
 | q + 1 => by
  obtain ⟨a, b⟩ := Sim.drewN h q
  obtain ⟨c, d⟩ := a.drew
  have e : w.drewN (q + 1) = (w.drewN q).drew := by unfold World.drewN World.drew; simp [Nat.add_assoc]
  rw [e]
  exact ⟨c, b.trans d⟩
theorem ZhJ (zs : List Int) (c : Int) (hn : zs.length ≤ 1048576) (hs : zs.Pairwise (· ≤ ·)) : Pure Tryz.prog 148 [L zs, I c] (.tup [I (zs.countP (· < c) : Nat), B (zs.contains c)]) := by
 intro S
 refine ⟨yY Tryz.func148 (by rfl) rfl, ?_⟩
 intro C w vs hS hl hr
 obtain ⟨u, v, rfl⟩ : ∃ u v, vs = #[u, v] := Zae hl
 obtain rfl := ux (hr 1 _ v rfl rfl)
 have h0 : Rel C S w (.lst zs.length (zs.flatMap Enc.enc)) u := hr 0 _ u rfl rfl
 have hret : ∀ (k : Int) (b : Bool), Rel C S w (.tup [I k, B b]) (.tuple #[.int .i64 k, .bool b]) := by
  intro k b
  refine .tup rfl ?_
  intro i p v hc hv
  match i with
  | 0 => have hc : some (I k) = some p := hc; have hv : some (Value.int .i64 k) = some v := hv; cases hc; cases hv; exact .sc _
  | 1 => have hc : some (B b) = some p := hc; have hv : some (Value.bool b) = some v := hv; cases hc; cases hv; exact .sc _
  | i + 2 => simp at hc
 rw [Qn] at h0
 generalize hcs : zs.map I = cs at h0
 generalize hzl : zs.length = n at h0 hn
 cases h0 with
 | lst0 =>
  obtain rfl : zs = [] := List.eq_nil_of_length_eq_zero hzl
  refine (Tryz.slices_BinarySearch_int_empty _ _ c w).mono ?_
  rintro e w' ⟨rfl, rfl⟩
  exact ⟨_, _, _, _, rfl, ⟨rfl, rfl⟩, hret 0 false, hS, .refl _ _ _⟩
 | lst1 g1 g2 g3 g4 g5 g6 g7 =>
  rename_i cap b o ca e fz
  by_cases hz : zs = []
  ·subst hz
   simp at hzl
   subst hzl
   refine (Tryz.slices_BinarySearch_int_empty _ _ c w).mono ?_
   rintro e w' ⟨rfl, rfl⟩
   exact ⟨_, _, _, _, rfl, ⟨rfl, rfl⟩, hret 0 false, hS, .refl _ _ _⟩
  ·subst hcs
   have g5' := g5 (by simpa using hz)
   rw [List.length_map] at g5'
   have hcell : ∀ j, j < zs.length → w.cell? ⟨b, o + j, none⟩ = some (.int .i64 (zs.getD j 0)) := by
    intro j hj
    have e2 : ca[o + j]? = some ca[o + j] := by rw [Array.getElem?_eq_getElem]
    have e3 := ux (g7 j (I (zs.getD j 0)) _ (by simp [hj]) e2)
    rw [e3] at e2
    simp [World.cell?, g3, e2]
   refine (Tryz.slices_BinarySearch_int b o n cap zs c w (by omega) (by omega) hcell (hs.sublist (List.take_sublist _ _))).mono ?_
   rintro e w' ⟨rfl, q, rfl⟩
   obtain ⟨s1, s2⟩ := hS.drewN q
   rw [List.take_of_length_le (by omega)]
   exact ⟨_, _, _, _, rfl, ⟨rfl, rfl⟩, (hret _ _).mono s2, s1, s2⟩
theorem ZhK {n k : Nat} (hk : k < n) (W : Nat → List Spot) (E : List Spot) (i : Nat) (x : List PV) (h : ((W k).map xY)[i]? = some x) : (((List.range n).flatMap W ++ E).map xY)[((List.range k).flatMap W).length + i]? = some x := by
 obtain ⟨m, rfl⟩ : ∃ m, n = k + (m + 1) := ⟨n - k - 1, by omega⟩
 rw [List.getElem?_map] at h ⊢
 rw [List.range_add, List.flatMap_append, List.append_assoc, List.getElem?_append_right (Nat.le_add_right _ _), Nat.add_sub_cancel_left, List.range_succ_eq_map]
 have hi : i < (W k).length := by
  rcases Nat.lt_or_ge i (W k).length with e | e
  ·exact e
  ·rw [List.getElem?_eq_none e] at h; cases h
 rw [List.getElem?_append_left (by simp; omega)]
 simp only [List.map_cons, List.flatMap_cons, Nat.add_zero]
 rw [List.getElem?_append_left (by omega)]
 exact h
theorem ZhL (W : Nat → List Spot) (k : Nat) : ((List.range (k + 1)).flatMap W).length = ((List.range k).flatMap W).length + (W k).length := by
 rw [List.range_succ, List.flatMap_append, List.length_append]; simp
theorem ZhM (l : List Int) (c : Int) : (yf l).contains c = l.contains c := by
 rw [Bool.eq_iff_iff, List.contains_iff_mem, List.contains_iff_mem]
 exact (List.mergeSort_perm l _).mem_iff
theorem ZaW {x : Inst} {s : Stop} (hx : x.cust.length ≤ 1048576) (h : zu x [s] ≠ 1) : small s.c := by
 have := ZaF h
 unfold qf at this
 simp only [Bool.and_eq_true, decide_eq_true_eq] at this
 unfold small; omega
set_option maxRecDepth 20000 in
set_option maxHeartbeats 1600000 in
theorem ZaX (x : Inst) (d : Day) (s : Stop) (hx : x.cust.length ≤ 1048576) (hdo : DayOk d) (hf : d.flatten.length ≤ 1048576) : uq Tryz.prog 147 [.ip [I s.c, I s.q], .ip (xX x d)] ((yi x d s).map xY) := by
 have hmay := Ye x [s] hx (by simp)
 have hse := ZhJ (yf (d.flatten.map (·.c))) s.c (by rw [vH, List.length_map]; exact hf) (Yc _)
 rw [ZhM] at hse
 generalize ((yf (d.flatten.map (·.c))).countP (· < s.c) : Nat) = cnt at hse
 obtain ⟨tw, htw⟩ : ∃ tw, tw = decide (¬ (yf (d.flatten.map (·.c))).Nodup) := ⟨_, rfl⟩
 have htw' : tw = decide (¬ (d.flatten.map (·.c)).Nodup) := by rw [htw]; exact decide_eq_decide.2 (not_congr (List.mergeSort_perm _ _).nodup_iff)
 obtain ⟨th, hth⟩ : ∃ th, th = (d.flatten.map (·.c)).contains s.c := ⟨_, rfl⟩
 rw [← hth] at hse
 have hlk : xX x d = xu x d (yf (d.flatten.map (·.c))) tw (d.map (zu x)) (yh x d) (d.map qh) (d.map (qg x)) := by rw [htw]
 rw [hlk]
 obtain ⟨on, hon⟩ : ∃ on, on = yf (d.flatten.map (·.c)) := ⟨_, rfl⟩
 rw [← hon] at hse ⊢
 obtain ⟨fa, hfa⟩ : ∃ fa, fa = zu x [s] := ⟨_, rfl⟩
 rw [← hfa] at hmay
 have hdn := hdo.n
 refine Qf Tryz.func147 (by rfl) rfl Tryz.ntmps147 (congrArg Array.toList Tryz.results147) (by simp) fun l V keep nx J hJd hY A0 hA0 => ?_
 repeat apply za
 refine pwY (some []) (Row.pures [0, 1, 2, 3, 4, 5] (.alt 6 (.alt 7 (Row.pures [8] .done) .stop) .stop)) mixed trivial ?_
 refine pwP (JW s) trivial ?_
 intro v0
 intros
 repeat apply za
 refine pwn ?_
 refine pwc hmay ?_
 intros
 repeat apply za
 refine pwn ?_
 refine pwc hse ?_
 intros
 by_cases hout : zu x [s] = 1 ∨ s.c ∈ d.flatten.map (·.c) ∨ ¬ (d.flatten.map (·.c)).Nodup ∨ x.veh < d.length
 ·have hz : yi x d s = [] := by unfold yi; rw [if_pos hout]
  rw [hz] at hY ⊢
  by_cases h1 : fa = 1
  ·repeat apply za
   refine pwN [(2, 30), (5, 33), (9, 37)] (jn2 h1 zp) ?_
   intros
   repeat apply za
   refine zi rfl ?_
   exact zb (xT (hJd _ _ hA0) rfl (by simpa using hA0))
  cases h2 : th with
  | true =>
   repeat apply za
   refine pwN [(2, 30), (5, 33), (9, 37)] (jn2 h1 zp) ?_
   intros
   repeat apply za
   refine zi rfl ?_
   exact zb (xT (hJd _ _ hA0) rfl (by simpa using hA0))
  | false =>
   cases h3 : tw with
   | true =>
    repeat apply za
    refine pwN [(2, 30), (5, 33), (9, 37)] (jn2 h1 zp) ?_
    intros
    repeat apply za
    refine zi rfl ?_
    exact zb (xT (hJd _ _ hA0) rfl (by simpa using hA0))
   | false =>
    have h4 : x.veh < d.length := by
     rcases hout with e | e | e | e
     ·exact absurd (hfa.trans e) h1
     ·have : th = true := by rw [hth, List.contains_iff_mem]; exact e
      rw [h2] at this; cases this
     ·have : tw = true := by rw [htw']; exact decide_eq_true e
      rw [h3] at this; cases this
     ·exact e
    repeat apply za
    refine pwN [(2, 30), (5, 33), (9, 37)] (jn3 h1 h4 zp) ?_
    intros
    repeat apply za
    refine zi rfl ?_
    exact zb (xT (hJd _ _ hA0) rfl (by simpa using hA0))
 have h1 : ¬ fa = 1 := fun e => hout (.inl (hfa ▸ e))
 have h2 : th = false := by
  cases e : th with
  | false => rfl
  | true => rw [hth, List.contains_iff_mem] at e; exact absurd (.inr (.inl e)) hout
 have h3 : tw = false := by
  cases e : tw with
  | false => rfl
  | true => rw [htw'] at e; exact absurd (.inr (.inr (.inl (of_decide_eq_true e)))) hout
 have h4 : ¬ x.veh < d.length := fun e => hout (.inr (.inr (.inr e)))
 have hsm := ZaW hx (s := s) (fun e => hout (.inl e))
 obtain ⟨WW, hWW⟩ : ∃ WW : Nat → List Spot, WW = fun t => xI x t (d.getD t []) (zu x (d.getD t [])) (yh x d) (qh (d.getD t [])) (qg x (d.getD t [])) s := ⟨_, rfl⟩
 obtain ⟨EE, hEE⟩ : ∃ EE : List Spot, EE = if yh x d = 0 ∧ zu x [s] = 0 ∧ (d.length : Int) < x.veh then [⟨d.length, 0, W (zF x [s.c])⟩] else [] := ⟨_, rfl⟩
 have hz : yi x d s = (List.range d.length).flatMap WW ++ EE := by unfold yi; rw [if_neg hout, hWW, hEE]
 rw [hz] at hY ⊢
 subst h2 h3
 repeat apply za
 refine pwN [(2, 30), (5, 33), (9, 37)] (jn3 h1 h4 zp) ?_
 intros
 repeat apply za
 refine zk rfl ?_
 refine ze ?_
 (repeat apply za); refine pwn ?_; intros
 repeat apply za
 refine zh (jn (σ := Nat × Store) (fun s' => s'.1 ≤ d.length ∧ J ((List.range s'.1).flatMap WW).length s'.2) (fun s' => [(0, yld l), (1, .ip [I s.c, I s.q]), (2, .ip (xu x d on false (d.map (zu x)) (yh x d) (d.map qh) (d.map (qg x)))), (4, .ptr nx v0 0), (5, I d.length), (6, I fa), (44, I d.length), (45, I s'.1)]) (fun s' => s'.2)
  (fun _ => [.cells v0 72 [L [s]]]) (fun s' => d.length - s'.1) (zy (0, A0) [] (by simpa using hA0) (by simp) rfl (by simp)) ?_)
 rintro ⟨k, A⟩ ⟨hk, hJ⟩
 simp only at hk hJ ⊢
 (repeat apply za); refine pwn ?_; intros
 repeat apply za
 refine zn rfl (fun hc => ?_) (fun hc => ?_)
 ·simp at hc
  have hdk : d[k]? = some d[k] := List.getElem?_eq_getElem hc
  have hg : d.getD k [] = d[k] := by rw [List.getD_eq_getElem?_getD, hdk]; rfl
  have hb : zu x d[k] = 13 → 0 < yh x d := by
   intro e
   rcases Nat.eq_zero_or_pos (yh x d) with q | q
   ·rw [vM.1 q _ (List.getElem_mem hc)] at e; cases e
   ·exact q
  have hw := Zhn x d on false (d.map (zu x)) (yh x d) (d.map qh) (d.map (qg x)) k d[k] s (zu x d[k]) (qh d[k]) (qg x d[k]) (Nat.le_trans (Zas x d) hdn) hdn hdk (by rw [List.getElem?_map, hdk]; rfl) (by rw [List.getElem?_map, hdk]; rfl) (by rw [List.getElem?_map, hdk]; rfl) (by simp) (by simp) (by simp) hb (hdo.t _ (List.getElem_mem hc)) (hdo.s _ (List.getElem_mem hc)) hsm
  have hWk : WW k = xI x k d[k] (zu x d[k]) (yh x d) (qh d[k]) (qg x d[k]) s := by rw [hWW]; simp only [hg]
  rw [← hWk] at hw
  have hlen := ZhL WW k
  refine ze (za (zh ?_))
  (repeat apply za); refine pwn ?_; intros
  repeat apply za
  refine zQ [] (by rfl) (by rfl) fun K Gc Gh hK hGc hGh X hX0 hX => ?_
  simp -implicitDefEqProofs [hX0, hX]
  try clear hX0 hX X
  refine hGc _ _ _ _ _ _ _ fun hsuf => ((Zav hw keep hY _ (ZhK hc WW EE) hJ _).mono ?_)
  rintro _ _ ⟨A', rfl, hJ', rfl⟩
  rw [List.length_map, ← hlen] at hJ'
  refine ⟨_, _, rfl, ?_⟩
  clear hGc hGh
  clear Gc Gh
  refine zH hsuf (D := []) (by rfl) fun Gc Gh hGc hGh X hX0 hX => ?_
  simp -implicitDefEqProofs [hX0, hX]
  clear hX0 hX X
  intros
  refine hK _ _ _ ?_
  clear hK hGc hGh
  clear K Gc Gh
  repeat apply za
  refine zk rfl ?_
  refine ze ?_
  (repeat apply za); refine pwn ?_; intros
  exact zm (k + 1, A') [] ⟨hc, hJ'⟩ (by simp; omega) (by simp [wrN k (by omega)]) rfl (by simp)
 ·simp at hc
  obtain rfl : k = d.length := by omega
  refine zo ?_
  by_cases he : yh x d = 0 ∧ zu x [s] = 0 ∧ (d.length : Int) < x.veh
  ·have hE : EE = [⟨d.length, 0, W (zF x [s.c])⟩] := by rw [hEE, if_pos he]
   obtain ⟨e1, e2, e3⟩ := he
   have hlw := Yb x [s] (by simp) (by simpa using hsm)
   have h5 : fa = 0 := hfa.trans e2
   have hy : (((List.range d.length).flatMap WW ++ EE).map xY)[((List.range d.length).flatMap WW).length]? = some (xY ⟨d.length, 0, W (zF x [s.c])⟩) := by
    rw [List.getElem?_map, List.getElem?_append_right (Nat.le_refl _), Nat.sub_self, hE]; rfl
   simp only [List.map_cons, List.map_nil] at hlw
   repeat apply za
   refine pwN [(3, 58), (7, 62)] (jn4 e1 h5 e3 zp) ?_
   intros
   repeat apply za
   refine zi rfl ?_
   repeat apply za
   refine zQ [] (by rfl) (by rfl) fun K Gc Gh hK hGc hGh X hX0 hX => ?_
   simp -implicitDefEqProofs [hX0, hX]
   try clear hX0 hX X
   refine hGc _ _ _ _ _ _ _ fun hsuf => ((hlw _).mono ?_).v
   rintro _ _ ⟨rfl, rfl⟩
   refine ⟨_, _, rfl, ?_⟩
   clear hGc hGh
   clear Gc Gh
   refine zH hsuf (D := []) (by rfl) fun Gc Gh hGc hGh X hX0 hX => ?_
   simp -implicitDefEqProofs [hX0, hX]
   try clear hX0 hX X
   refine hGh _ _ _ _ _ fun hsuf => Z2 rfl rfl rfl (hY _ _ _ _ hy hJ) ?_
   rintro _ ⟨A', hJ', rfl⟩
   refine ⟨_, _, rfl, ?_⟩
   clear hGc hGh
   clear Gc Gh
   refine zH hsuf (D := []) (by rfl) fun Gc Gh hGc hGh X hX0 hX => ?_
   simp -implicitDefEqProofs [hX0, hX]
   try clear hX0 hX X
   intros
   refine hK _ _ _ ?_
   clear hK hGc hGh
   clear K Gc Gh
   exact xT (hJd _ _ hJ') rfl (by rw [List.length_map, List.length_append, hE]; exact hJ')
  ·have hE : EE = [] := by rw [hEE, if_neg he]
   have hfin : J (((List.range d.length).flatMap WW ++ EE).map xY).length A := by rw [hE, List.append_nil, List.length_map]; exact hJ
   by_cases e1 : yh x d = 0
   ·by_cases e2 : fa = 0
    ·have e3 : ¬ (d.length : Int) < x.veh := fun e => he ⟨e1, hfa ▸ e2, e⟩
     repeat apply za
     refine pwN [(3, 58), (7, 62)] (jn4 e1 e2 e3 zp) ?_
     intros
     repeat apply za
     refine zk rfl ?_
     refine ze ?_
     exact xT (hJd _ _ hJ) rfl hfin
    ·repeat apply za
     refine pwN [(3, 58), (7, 62)] (jn3 e1 e2 zp) ?_
     intros
     repeat apply za
     refine zk rfl ?_
     refine ze ?_
     exact xT (hJd _ _ hJ) rfl hfin
   ·repeat apply za
    refine pwN [(3, 58), (7, 62)] (jn2 e1 zp) ?_
    intros
    repeat apply za
    refine zk rfl ?_
    refine ze ?_
    exact xT (hJd _ _ hJ) rfl hfin
open Go Go.Proofs
theorem ZaY (id v : Nat) (cs : List PV) (d : Day) : (d.flatMap Enc.enc).map (yL id v cs) = (d.flatMap Enc.enc : List PV) := by
 induction d with
 | nil => rfl
 | cons l d ih => rw [List.flatMap_cons, List.map_append, ih]; rfl
theorem ZhN (id v : Nat) (cs : List PV) (d : Day) (t : Nat) (p : PV) : ((d.flatMap Enc.enc).set t p).map (yL id v cs) = (d.flatMap Enc.enc : List PV).set t (yL id v cs p) := by
 rw [List.map_set, ZaY]
theorem ZaZ : ∀ (d : Day) (t : Nat) (l : zq), (d.flatMap Enc.enc : List PV).set t (L l) = (d.set t l).flatMap Enc.enc
 | [], t, l => rfl
 | m :: d, 0, l => rfl
 | m :: d, t + 1, l => by
  rw [List.set_cons_succ, List.flatMap_cons, List.flatMap_cons, ← ZaZ d t l]
  rfl
theorem ZhO {S : Store} {nx m : Nat} {obs : List Ob} (x y : Ob) (hm : m = nx + obs.length) : ((ext S nx obs).set (m + 3) x).set (m + 4) y = ext S nx (obs ++ [.dead, .dead, .dead, x, y]) := by
 subst hm
 rw [Vn 3]
 have := qE (S := S) (nx := nx) (obs := obs ++ List.replicate 3 .dead ++ [x]) y
 simpa [Nat.add_assoc] using this
theorem ZhP (d : Day) (hd0 : d.length ≤ 1048576) (hd1 : ∀ l ∈ d, l.length ≤ 1048576) (S : Store) (nx : Nat) (hd : zO nx S) :
  Spec Tryz.prog 109 [.agg [L d]] S (fun p S' => ∃ v, p = .agg [.sl (nx + 3) v 1 0 d.length] ∧ S' = S.set (nx + 3) (.cells v 72 (d.flatMap Enc.enc))) := by
 refine (Xi d d.length hd0 hd1 (by simp) S nx hd).mono ?_
 rintro _ _ ⟨v, ts, ob, ⟨h1, h2, -⟩, rfl, rfl⟩
 obtain ⟨rfl, rfl⟩ := h2 (Nat.le_refl _)
 rw [List.take_length]
 refine ⟨v, rfl, ?_⟩
 funext o
 by_cases h4 : o = nx + 4
 ·subst h4
  rw [Store.set_same, Store.set_other _ _ _ _ (by omega), hd _ (by omega)]
 ·rw [Store.set_other _ _ _ _ h4]
theorem ZhQ (cs : List PV) (i : Nat) (p q : PV) (h : i < cs.length) : zP (cs.set i p) i [q] = cs.set i q := by
 unfold zP
 rw [List.set_eq_take_append_cons_drop, if_pos h, List.set_eq_take_append_cons_drop, if_pos h]
 have hl : (cs.take i).length = i := by rw [List.length_take]; omega
 rw [List.take_append_of_le_length (by omega), List.take_of_length_le (by omega), List.drop_append, hl, List.drop_of_length_le (by rw [hl]; simp)]
 simp
theorem Za0 (id v sz k : Nat) (cs : List PV) (h : k * sz = cs.length) : yL id v cs (.sl id v sz 0 k) = .lst k cs := by simp [yL, h]
theorem Xr {α β : Type} {f : β → α → β} {b : β} {l : List α} {i : Nat} {a : α} (h : l[i]? = some a) : (l.take (i + 1)).foldl f b = f ((l.take i).foldl f b) a := by
 obtain ⟨hi, rfl⟩ := List.getElem?_eq_some_iff.1 h
 rw [List.take_succ_eq_append_getElem hi, List.foldl_append]; rfl
theorem ZhR {x : Inst} {d : Day} {s : Stop} {b : Spot} (h : b ∈ yi x d s) (hb : b.t ≠ d.length) : ∃ l, d[b.t]? = some l ∧ 0 < l.length ∧ b.p ≤ l.length := by
 obtain ⟨-, -, -, -, h⟩ := Yl h
 rcases h with ⟨l, hl, hi, ho, -⟩ | ⟨rfl, -⟩
 ·refine ⟨l, hl, ?_, hi⟩
  have hself : zu x l = 0 ∨ zu x l = 13 := by
   by_cases hf : zu x l = 13
   ·exact .inr hf
   ·rw [if_neg hf] at ho
    exact .inl (vM.1 (by omega) l (List.mem_of_getElem? hl))
  have hst : yt x l = true := by
   cases e : yt x l with
   | true => rfl
   | false => rw [Xn e] at hself; rcases hself with h | h <;> cases h
  exact List.length_pos_iff.2 (QC hst)
 ·exact absurd rfl hb
theorem ZhS {x : Inst} {d : Day} {s : Stop} {b : Spot} (h : b ∈ yi x d s) : b.t ≤ d.length := by
 obtain ⟨-, -, -, -, h⟩ := Yl h
 rcases h with ⟨l, hl, -⟩ | ⟨rfl, -⟩
 ·exact Nat.le_of_lt (List.getElem?_eq_some_iff.1 hl).1
 ·exact Nat.le_refl _
set_option maxRecDepth 20000 in
set_option maxHeartbeats 1600000 in
theorem ZhT (x : Inst) (d : Day) (s : Stop) (hx : x.cust.length ≤ 1048576) (hdo : DayOk d) (hf : d.flatten.length ≤ 1000000) : Pure Tryz.prog 71 [.agg (zt x), .agg [L d], .agg [I s.c, I s.q]] (.tup [.agg [L (qL x d s).1], B (qL x d s).2]) := by
 have hit := ZaX x d s hx hdo (by omega)
 have hsee := Zat x d hx hdo (by omega)
 have hmem := fun h => QB (l := yi x d s) h
 have hle : ∀ b ∈ yi x d s, b.t ≤ d.length := fun b hb => ZhS hb
 have htour : ∀ b ∈ yi x d s, b.t ≠ d.length → ∃ l, d[b.t]? = some l ∧ 0 < l.length ∧ b.p ≤ l.length := fun b hb => ZhR hb
 have hins : qL x d s = bif (xv (yi x d s)).2 then (qA d (xv (yi x d s)).1 s, true) else (d, false) := rfl
 have hsF := Zaq (xX x d) s rfl
 rw [hins]
 clear hins
 generalize yi x d s = xs at *
 generalize hlk : xX x d = lk at *
 have hdn := hdo.n
 have hd1 : ∀ l ∈ d, l.length ≤ 1000000 := fun l hl => Nat.le_trans (xZ hl).length_le hf
 refine pwe Tryz.func71 Tryz.ntmps71 Tryz.results71 fun S nx hd => ?_
 repeat apply za
 refine pwn ?_
 intro v0 v1 v2 v3
 repeat apply za
 refine pwn ?_
 intro v4 v5
 repeat apply za
 refine pwY none (Row.pures [0, 1, 2, 3, 4] .done) mixed trivial ?_
 refine pwP (hsee) trivial ?_
 refine pwP (hsF) trivial ?_
 intros
 repeat apply za
 refine zh (Z4 (xs := xs.map xY) (σ := Spot × Bool) (fun i st => st = (xs.take i).foldl wD (⟨0, 0, 0⟩, false)) [(3, .ptr nx v0 0), (4, .ptr (nx + 1) v1 0), (5, .ptr (nx + 2) v2 0), (6, .ptr (nx + 3) v3 0), (8, .ptr (nx + 4) v4 0), (9, .ptr (nx + 5) v5 0)] (fun _ => S)
  (fun (b, found) => [.cells v0 25 (zt x), .cells v1 66 [L d], .cells v2 50 [I s.c, I s.q], .cells v3 66 [yH], .cells v4 145 [I b.t, I b.p, I b.m], .cells v5 4 [B found]]) (⟨0, 0, 0⟩, false)
  hit rfl (by intro x hx; obtain ⟨y, _, rfl⟩ := List.mem_map.1 hx; rfl) (by decide) (by simp) (by simp) rfl (by simp) (by simp) ?_ ?_)
 ·rintro l i ⟨b, found⟩ more y hst hy
  simp only at hst ⊢
  rw [List.getElem?_map] at hy
  obtain ⟨p, hp, rfl⟩ := Option.map_eq_some_iff.1 hy
  have hsucc := Xr (f := wD) (b := (⟨0, 0, 0⟩, false)) hp
  rw [← hst] at hsucc
  unfold wD at hsucc
  simp only at hsucc
  repeat apply za
  refine pwn ?_
  intro v6
  refine zh ?_
  cases found with
  | false =>
   rw [if_pos (.inl rfl)] at hsucc
   repeat apply za
   refine pwN [(2, 21)] zp ?_
   intros
   repeat apply za
   refine zi rfl ?_
   (repeat apply za); refine pwn ?_; intros
   simp only [qD]
   exact jY (p, true) [_] hsucc.symm rfl (by simp; rfl)
  | true =>
   by_cases hm : p.m < b.m
   ·rw [if_pos (.inr hm)] at hsucc
    repeat apply za
    refine pwN [(2, 21)] (jn2 hm zp) ?_
    intros
    repeat apply za
    refine zi rfl ?_
    (repeat apply za); refine pwn ?_; intros
    simp only [qD]
    exact jY (p, true) [_] hsucc.symm rfl (by simp; rfl)
   ·rw [if_neg (by simp [hm])] at hsucc
    repeat apply za
    refine pwN [(2, 21)] (jn2 hm zp) ?_
    intros
    repeat apply za
    refine zk rfl ?_
    refine ze ?_
    simp only [qD]
    exact jY (b, true) [_] hsucc.symm rfl (by simp; rfl)
 ·rintro ⟨b, found⟩ hst
  simp only [List.length_map, List.take_length] at hst ⊢
  have hbz : xv xs = (b, found) := hst.symm
  rw [hbz] at hmem ⊢
  simp only at hmem ⊢
  cases found with
  | false =>
   simp only [cond_false]
   repeat apply za
   refine pwn ?_
   refine pwc (Zhj d hdn (fun l hl => Nat.le_trans (hd1 l hl) (by decide))) ?_
   intros
   repeat apply za
   refine zh ?_
   (repeat apply za); refine pwn ?_; intros
   repeat apply za
   refine zi rfl ?_
   (repeat apply za); refine pwn ?_; intros
   repeat apply za
   exact zb (zg hd (by simp; rfl) (by simp [zj]))
  | true =>
   have hb := hmem rfl
   have hbl := hle b hb
   simp only [cond_true]
   by_cases hbt : b.t = d.length
   ·have hpd : qA d b s = d ++ [[s]] := by unfold qA; rw [if_pos hbt]
    rw [hpd]
    have hfl : (d.flatMap Enc.enc : List PV).length = d.length := jE d
    have htk : (d.flatMap Enc.enc : List PV).take d.length = d.flatMap Enc.enc := List.take_of_length_le (by omega)
    have hsn : ((d ++ [[s]]).flatMap Enc.enc : List PV) = d.flatMap Enc.enc ++ [L [s]] := by rw [List.flatMap_append]; rfl
    repeat apply za
    refine zQ [] (by rfl) (by rfl) fun K Gc Gh hK hGc hGh X hX0 hX => ?_
    simp -implicitDefEqProofs [hX0, hX]
    try clear hX0 hX X
    refine hGc _ _ _ _ _ _ _ fun hsuf => ((ZhP d hdn (fun l hl => Nat.le_trans (hd1 l hl) (by decide)) _ _ jD).mono ?_).v
    rintro _ _ ⟨v7, rfl, rfl⟩
    refine ⟨_, _, Vn 3 _, ?_⟩
    clear hGc hGh
    clear Gc Gh
    refine zH hsuf (D := []) (by rfl) fun Gc Gh hGc hGh X hX0 hX => ?_
    simp -implicitDefEqProofs [hX0, hX, Nat.add_assoc]
    clear hX0 hX X
    intros
    refine hK _ _ _ ?_
    clear hK hGc hGh
    clear K Gc Gh
    generalize hds : (d.flatMap Enc.enc : List PV) = ds at *
    repeat apply za
    refine zh ?_
    (repeat apply za); refine pwn ?_; intros
    repeat apply za
    refine zk rfl ?_
    (repeat apply za); refine pwn ?_; intros
    repeat apply za
    refine zi (by simp; omega) ?_
    repeat apply za
    refine pwY (some [nx + 2]) (Row.pures [0, 2, 3, 4] (.alt 1 (.alt 5 (Row.pures [6] (.alt 7 (.done) .stop)) .stop) .stop)) mixed (jn2 hfl htk) ?_
    refine pwP (JW s) (jn2 hfl htk) ?_
    refine ⟨by omega, ?_⟩
    intros
    refine zL 9 rfl ?_
    (repeat apply za); refine pwn ?_; intros
    repeat apply za
    exact zb (zg hd (by simp; rfl) (by simp [zj, hfl, hds]))
   ·obtain ⟨l, hl, hl0, hp⟩ := htour b hb hbt
    have hblt : b.t < d.length := by omega
    have hpd : qA d b s = d.set b.t (qz l b.p s) := by unfold qA; rw [if_neg hbt, List.getD_eq_getElem?_getD, hl]; rfl
    have hl1 := hd1 l (List.mem_of_getElem? hl)
    rw [hpd]
    repeat apply za
    refine zQ [] (by rfl) (by rfl) fun K Gc Gh hK hGc hGh X hX0 hX => ?_
    simp -implicitDefEqProofs [hX0, hX]
    try clear hX0 hX X
    refine hGc _ _ _ _ _ _ _ fun hsuf => ((Zhk d b.t l hdn (fun l hl => Nat.le_trans (hd1 l hl) (by decide)) hl hl0 _ _ jD).mono ?_).v
    rintro _ _ ⟨v7, w7, rfl, rfl⟩
    refine ⟨_, _, ZhO _ _ rfl, ?_⟩
    clear hGc hGh
    clear Gc Gh
    refine zH hsuf (D := []) (by rfl) fun Gc Gh hGc hGh X hX0 hX => ?_
    simp -implicitDefEqProofs [hX0, hX, Nat.add_assoc]
    clear hX0 hX X
    intros
    refine hK _ _ _ ?_
    clear hK hGc hGh
    clear K Gc Gh
    repeat apply za
    refine zh ?_
    (repeat apply za); refine pwn ?_; intros
    repeat apply za
    refine zk rfl ?_
    (repeat apply za); refine pwn ?_; intros
    repeat apply za
    refine zk (by simp; omega) ?_
    repeat apply za
    refine pwN [] hblt ?_
    intros
    repeat apply za
    refine xE (some [nx + 4, nx + 2]) (Row.pures [0, 1, 2, 3, 5, 6, 7, 8] (.alt 4 (.alt 9 (Row.pures [10, 11] (.alt 12 (.done) .stop)) .stop) .stop)) mixed (by rfl) (by rfl) (by rfl) fun K Gp Gc Gh hK hGp hGc hGh X hX0 hX1 hX2 hX => ?_
    simp -implicitDefEqProofs [hX0, hX1, hX2, hX, hblt]
    try clear hX0 hX1 hX2 hX X
    refine hGc _ _ _ _ _ _ _ ?_
    refine ((Zhg l b.p s hp hl1 (by simp)).mono ?_).v
    rintro _ _ ⟨rfl, rfl⟩
    have hcl : ((qz l b.p s).flatMap Enc.enc : List PV).length = (l.length + 1) * 2 := by
     have e := (Yn l s b.p).length_eq
     rw [uu, e]; simp
    have hLi : L (qz l b.p s) = .lst (l.length + 1) ((qz l b.p s).flatMap Enc.enc) := by
     have e := (Yn l s b.p).length_eq
     show PV.lst _ _ = _
     rw [e]; rfl
    rw [show l.take b.p ++ s :: l.drop b.p = qz l b.p s from rfl]
    generalize hcs : ((qz l b.p s).flatMap Enc.enc : List PV) = cs at *
    rw [qn _ (by omega) (by simp), Nat.add_sub_cancel_left]
    refine ⟨by simp [zW], ?_⟩
    clear hGp hGc hGh
    clear Gp Gc Gh
    refine qS fun Gp Gc Gh hGp hGc hGh X hX0 hX1 hX2 hX => ?_
    simp -implicitDefEqProofs [hX0, hX1, hX2, hX, hblt]
    try clear hX0 hX1 hX2 hX X
    refine ⟨by omega, ?_⟩
    refine hK _ _ _ ?_
    clear hK hGp hGc hGh
    clear K Gp Gc Gh
    rw [ZhQ _ _ _ _ (by rw [jE]; exact hblt)]
    have e10 : yL (nx + 10) (w7 + 1) cs (.sl (nx + 10) (w7 + 1) 2 0 (l.length + 1)) = L (qz l b.p s) := by
     rw [Za0 _ _ _ _ _ hcl.symm, hLi]
    have e9 : yL (nx + 9) v7 ((d.set b.t (qz l b.p s)).flatMap Enc.enc) (.sl (nx + 9) v7 1 0 d.length) = L (d.set b.t (qz l b.p s)) := by
     rw [Za0 _ _ _ _ _ (by rw [jE]; simp)]
     show _ = PV.lst _ _
     rw [List.length_set]
    have n9 : yL (nx + 10) (w7 + 1) cs (.sl (nx + 9) v7 1 0 d.length) = .sl (nx + 9) v7 1 0 d.length := by
     simp only [yL]; rw [if_neg (by omega)]
    refine zL 10 rfl ?_
    simp only [List.map_cons, List.map_nil, List.set_cons_succ, List.set_cons_zero, jo, ZhN, e10, ZaZ, n9]
    refine zL 9 rfl ?_
    simp only [List.map_cons, List.map_nil, List.set_cons_succ, List.set_cons_zero, jo, e9]
    repeat apply za
    refine pwN [] (jn2 e9 n9) ?_
    intros
    repeat apply za
    exact zb (zg hd (by simp; rfl) (by simp [zj]))
open Go Go.Proofs
theorem Za1 {α : Type} (f : Nat → List α) (m : Nat) : ∀ n, (∀ t, t < n → (f t).length ≤ m) → ((List.range n).flatMap f).length ≤ n * m
 | 0, _ => by simp
 | n + 1, h => by
  rw [List.range_succ, List.flatMap_append, List.length_append]
  have h1 := Za1 f m n fun t ht => h t (by omega)
  have h2 := h n (by omega)
  simp only [List.flatMap_cons, List.flatMap_nil, List.append_nil]
  rw [Nat.add_mul, Nat.one_mul]; omega
theorem ZhU {d : Day} (h1 : d.length ≤ 1000000) (h2 : d.flatten.length ≤ 1000000) : (vN d).length ≤ 1000001 * 1000001 := by
 unfold vN
 refine Nat.le_trans (Za1 _ 1000001 _ fun t _ => ?_) (Nat.mul_le_mul_right _ (by omega))
 rw [List.length_map, List.length_range, List.getD_eq_getElem?_getD]
 cases hq : d[t]? with
 | none => simp
 | some l =>
  have := (xZ (List.mem_of_getElem? hq)).length_le
  simp only [Option.getD_some]; omega
theorem ZhV {x : Inst} {d : Day} {s : Stop} (hd : zT x d = 0) (h1 : d.length ≤ 1000000) (h2 : d.flatten.length ≤ 1000000) : (yi x d s).length ≤ 1000001 * 1000001 := by
 rw [ZhC hd]; exact Nat.le_trans (List.length_filterMap_le _ _) (ZhU h1 h2)
theorem ZhW (cs : List PV) (v : PV) (h : 0 < cs.length) : zP cs (cs.length - 1) [v] = cs.set (cs.length - 1) v := by
 unfold zP
 rw [List.set_eq_take_append_cons_drop, if_pos (by omega)]; simp
theorem Za2 : ∀ (l : List Int) (k : Nat) (v : Int), (l.flatMap Enc.enc : List PV).set k (I v) = (l.set k v).flatMap Enc.enc
 | [], k, v => rfl
 | a :: l, 0, v => rfl
 | a :: l, k + 1, v => by
  rw [List.set_cons_succ, List.flatMap_cons, List.flatMap_cons, ← Za2 l k v]
  rfl
theorem ZhX (st : List Int × Int) (p : Spot) : (jt st p).1.length ≤ st.1.length + 1 := by
 unfold jt; split <;> simp
def Xs (st : List Int × Int) : Prop := st.2 = -1 ∨ 0 < st.1.length
theorem ZhY {st : List Int × Int} (h : Xs st) (p : Spot) : Xs (jt st p) := by
 unfold jt
 split
 ·exact .inr (by simp)
 ·rename_i e
  rcases h with h | h
  ·exfalso; simp only [ne_eq] at e; omega
  ·exact .inr (by simpa using h)
set_option maxRecDepth 20000 in
set_option maxHeartbeats 1600000 in
theorem ZhZ (x : Inst) (d : Day) (s : Stop) (hx : x.cust.length ≤ 1048576) (hdo : DayOk d) (h0 : zT x d = 0) (h1 : d.length ≤ 1000000) (h2 : d.flatten.length ≤ 1000000) : Pure Tryz.prog 266 [.agg (xX x d), .agg [I s.c, I s.q]] (L (Zq x d s)) := by
 have hit := ZaX x d s hx hdo (by omega)
 have hfold := ZhH (s := s) h0
 have hlen := ZhV (s := s) h0 h1 h2
 have hml := ZhI x d s (d.length + 1)
 have hsF := Zaq (xX x d) s rfl
 unfold Zq
 rw [← hfold] at hml ⊢
 clear hfold
 generalize yi x d s = xs at *
 obtain ⟨on, tw, fs, bd, ls, ws, hlk⟩ : ∃ on tw fs bd ls ws, xX x d = xu x d on tw fs bd ls ws := ⟨_, _, _, _, _, _, rfl⟩
 rw [hlk] at hit hsF ⊢
 clear hlk
 refine pwe Tryz.func266 Tryz.ntmps266 Tryz.results266 fun S nx hd => ?_
 repeat apply za
 refine pwn ?_
 intro v0 v1
 repeat apply za
 refine pwn ?_
 intro v2
 repeat apply za
 refine pwn ?_
 intro v3
 repeat apply za
 refine pwn ?_
 refine pwc hsF ?_
 intros
 refine qT 2 0 3 1 rfl rfl fun v4 => ?_
 repeat apply za
 refine zh (Z4 (xs := xs.map xY) (σ := (List Int × Int) × Nat) (fun i st => st.1 = (xs.take i).foldl jt ([], -1) ∧ Xs st.1 ∧ st.1.1.length ≤ i ∧ i ≤ xs.length) [(2, .ptr nx v0 0), (3, .ptr (nx + 1) v1 0), (5, .ptr (nx + 2) v2 0), (6, .ptr (nx + 3) v3 0)] (fun _ => S)
  (fun ((l, last), v4) => [.cells v0 149 (xu x d on tw fs bd ls ws), .cells v1 50 [I s.c, I s.q], .cells v2 54 [.sl (nx + 4) v4 1 0 l.length], .cells v3 3 [I last], .cells v4 3 (l.flatMap Enc.enc)]) (([], -1), v4)
  hit rfl (by intro x hx; obtain ⟨y, _, rfl⟩ := List.mem_map.1 hx; rfl) (by decide) (by simp) ⟨rfl, .inl rfl, by simp, by simp⟩ rfl (by simp) (by simp) ?_ ?_)
 ·rintro lp i ⟨⟨l, last⟩, v4⟩ more y ⟨hst, hok, hli, hi⟩ hy
  simp only at hst hok hli hi ⊢
  rw [List.getElem?_map] at hy
  obtain ⟨p, hp, rfl⟩ := Option.map_eq_some_iff.1 hy
  have hsucc := Xr (f := jt) (b := ([], -1)) hp
  rw [← hst] at hsucc
  have hok2 := ZhY hok p
  have hln2 := ZhX (l, last) p
  simp only at hln2
  have hil := (List.getElem?_eq_some_iff.1 hp).1
  have hdef : jt (l, last) p = jt (l, last) p := rfl
  conv at hdef => rhs; unfold jt
  simp only at hdef
  have hlf : (l.flatMap Enc.enc : List PV).length = l.length := qy l
  have hlt : (l.flatMap Enc.enc : List PV).take l.length = l.flatMap Enc.enc := List.take_of_length_le (by omega)
  repeat apply za
  refine pwn ?_
  intro v5
  refine zh ?_
  (repeat apply za); refine pwn ?_; intros
  by_cases hpl : (p.t : Int) = last
  ·have hl0 : 0 < l.length := by
    rcases hok with e | e
    ·simp only at e; omega
    ·exact e
   obtain ⟨m, hm⟩ : ∃ m, l.length = m + 1 := ⟨l.length - 1, by omega⟩
   obtain ⟨z, tz, z1, z2, z3, z0⟩ := el1 rfl l m (by omega)
   rw [if_neg (by simp [hpl])] at hdef
   have hgz : l.getD (l.length - 1) 0 = z := by rw [hm, Nat.add_sub_cancel, List.getD_eq_getElem?_getD, z1]; rfl
   rw [hgz] at hdef
   have wm : IntKind.i64.wrap ((l.length : Int) - 1) = (m : Int) := by rw [wr _ (by omega) (by omega)]; omega
   have hml1 : m < l.length := by omega
   have hml2 : 1 ≤ l.length - m := by omega
   have hsp := ZhW (l.flatMap Enc.enc) (I (if p.m < z then p.m else z)) (by omega)
   rw [hlf, Za2] at hsp
   have hmin : xO z p.m = if p.m < z then p.m else z := rfl
   repeat apply za
   refine zk (by simp [hpl]) ?_
   refine ze ?_
   rw [show l.length - 1 = m by omega] at hsp
   repeat apply za
   refine pwY (some [nx + 2, nx + (more.length + 5)]) (Row.pures [0, 1, 2, 3, 4, 5, 6, 7, 8, 10, 11] (.alt 9 (Row.pures [12, 13] (.alt 14 (.done) .stop)) .stop)) mixed (jn6 wm hml1 hml2 z0 hmin hlf) ?_
   refine ⟨by omega, ?_⟩
   intros
   simp only [qD]
   rw [hm, Nat.add_sub_cancel] at hdef
   rw [hdef] at hsucc hok2
   refine jY ((l.set m (if p.m < z then p.m else z), last), v4) [_] ⟨hsucc.symm, hok2, by simp; omega, by omega⟩ rfl (by simp [hsp]; rfl)
  ·rw [if_pos hpl] at hdef
   rw [hdef] at hsucc hok2 hln2
   have w0 : IntKind.i64.wrap (l.length : Int) = (l.length : Int) := wr _ (by omega) (by omega)
   have w2 : (l.length : Int) < (l.length : Int) + 1 := by omega
   have hmin : xO p.m p.m = p.m := by unfold xO; split <;> rfl
   have hat : (l.flatMap Enc.enc ++ [I p.m] : List PV)[l.length]? = some (I p.m) := by rw [List.getElem?_append_right (by omega), hlf, Nat.sub_self]; rfl
   have hdl : (l.flatMap Enc.enc ++ [I p.m] : List PV).drop l.length = [I p.m] := by rw [← hlf, List.drop_left]
   have hspl : zP (l.flatMap Enc.enc ++ [I p.m] : List PV) l.length [I p.m] = l.flatMap Enc.enc ++ [I p.m] := by
    unfold zP
    rw [← hlf, List.take_left, List.drop_of_length_le (by simp)]; simp
   repeat apply za
   refine zi (by simp [hpl]) ?_
   repeat apply za
   refine pwY (some [nx + (more.length + 5)]) (Row.pures [1, 2, 3, 5, 6] (.alt 0 (.alt 4 (.alt 7 (.alt 8 (.done) .stop) .stop) .stop) .stop)) mixed (jn2 hlf hlt) ?_
   refine ⟨by omega, ?_⟩
   intros
   repeat apply za
   refine pwY (some [nx + 2, nx + (more.length + 5)]) (Row.pures [0, 1, 2, 3, 4, 5, 6, 7, 8, 10, 11] (.alt 9 (Row.pures [12, 13] (.alt 14 (.done) .stop)) .stop)) mixed (jn5 w0 w2 hmin hat hlf) ?_
   intros
   simp only [qD]
   refine jY ((l ++ [p.m], (p.t : Int)), v4 + 1) [_] ⟨hsucc.symm, hok2, by simp; omega, by omega⟩ rfl (by simp [hspl]; rfl)
 ·rintro ⟨⟨l, last⟩, v4⟩ ⟨hst, -⟩
  simp only [List.length_map, List.take_length] at hst ⊢
  rw [← hst] at hml ⊢
  simp only at hml ⊢
  have hz4 := vH l
  repeat apply za
  refine zQ [] (by rfl) (by rfl) fun K Gc Gh hK hGc hGh X hX0 hX => ?_
  simp -implicitDefEqProofs [hX0, hX]
  try clear hX0 hX X
  refine hGc _ _ _ _ _ _ _ fun hsuf => ((Qo l (by simp) (by omega)).mono ?_).v
  rintro _ _ rfl
  refine ⟨_, _, qn _ (by omega) (by simp), ?_⟩
  clear hGc hGh
  clear Gc Gh
  refine zH hsuf (D := []) (by rfl) fun Gc Gh hGc hGh X hX0 hX => ?_
  simp -implicitDefEqProofs [hX0, hX, (show nx + 4 - nx = 4 by omega)]
  clear hX0 hX X
  intros
  refine hK _ _ _ ?_
  clear hK hGc hGh
  clear K Gc Gh
  generalize yf l = c at *
  rw [← hz4]
  refine zL 4 rfl ?_
  (repeat apply za); refine pwn ?_; intros
  repeat apply za
  exact zb (zg hd (by simp; rfl) rfl)
open Go Go.Proofs Go.Shelf Go.RowKit Go.Lib
theorem Zh0 {P : Program} (b o : Nat) (vs : List Value) (w : World) (cur : Array Value) (t : TypeId) (hw : w.heap[b]? = some (.cells cur t (0, 0))) (hl : o + vs.length ≤ cur.size) (h1 : ∀ v ∈ vs, v.oneCell' = true) :
  w.setCells b o vs = w.setRow b (cur.toList.take o ++ vs ++ cur.toList.drop (o + vs.length)).toArray := by
 have a := run_storeCells_cells (P := P) b o vs 0 w (fun j hj => by simp [World.cell?, hw]; omega) (fun j _ => by simp [World.frozen?, hw]) h1
 have c := run_storeCells_at (P := P) b o t vs 0 cur w hw (by simpa using hl) h1
 rw [a] at c
 simpa using c
theorem Zh1 (zc : Array Value) : (Builtin.zeroCells zc 1).toList = zc.toList := by
 apply List.ext_getElem
 ·simp [Builtin.zeroCells]
 ·intro i h1 h2
  simp [Builtin.zeroCells, Nat.mod_eq_of_lt (show i < zc.size by simpa using h2)]
  exact getElem!_pos zc i (by simpa using h2)
theorem Zh2 {P : Program} (w : World) (t e ty : TypeId) (zc : Array Value) (ht : P.underlying t = some (.slice e)) (hv : ∀ w, (zeroValue e).run P w = .ok (.agg zc) w) (h1 : ∀ v ∈ zc.toList, v.oneCell' = true) (b o c : Nat) (cur : Array Value) (t' : TypeId) (hw : w.heap[b]? = some (.cells cur t' (0, 0))) (hl : o + zc.size ≤ cur.size) :
  (Builtin.clear_ #[t] ty #[.slice (some ⟨b, o, none⟩) 1 c]).run P w = .ok (.tuple #[]) (w.setRow b (cur.toList.take o ++ zc.toList ++ cur.toList.drop (o + zc.size)).toArray) := by
 have c := run_storeCells_at (P := P) b o t' zc.toList 0 cur w hw (by simpa using hl) h1
 simp only [Nat.add_zero, Array.length_toList] at c
 simp [Builtin.clear_, run_underlying ht, hv, Zh1, c]
set_option maxHeartbeats 4000000 in
set_option maxRecDepth 100000 in
theorem Zh3 (b n c i : Nat) (V : List Value) (w : World) (i0 : TypeInfo) (hi0 : Tryz.prog.info? 50 = some i0) (hzs : i0.size = 2) (cur : Array Value) (hcur : w.heap[b]? = some (.cells cur 50 (0, 0))) (hcc : cur.size = c * 2)
  (hi : i < n) (hnc : n ≤ c) (hc63 : c ≤ 9223372036854775807) (hn : n ≤ 1048576) (hV : V.length = n * 2) (hcV : cur.toList.take (n * 2) = V) (h1 : ∀ v ∈ V, v.oneCell' = true) (R1 R2 : Array Value)
  (hR1 : R1 = (cur.toList.take (i * 2) ++ V.drop ((i + 1) * 2) ++ cur.toList.drop (i * 2 + (V.drop ((i + 1) * 2)).length)).toArray) (hR2 : R2 = (R1.toList.take ((i + (n - (i + 1))) * 2) ++ ([.int .i64 0, .int .i64 0] : List Value) ++ R1.toList.drop ((i + (n - (i + 1))) * 2 + 2)).toArray) :
  Calls Tryz.prog 248 #[.slice (some ⟨b, 0, none⟩) n c, .int .i64 i, .int .i64 ((i : Int) + 1)] w fun e w' =>
   e = .returned (.slice (some ⟨b, 0, none⟩) (i + (n - (i + 1))) c) ∧ w' = (w.drew.setRow b R1).setRow b R2 := by
 obtain ⟨news, hnews⟩ : ∃ news, news = V.drop ((i + 1) * 2) := ⟨_, rfl⟩
 have hlen : news.length = (n - (i + 1)) * 2 := by rw [hnews, List.length_drop, hV]; omega
 have hget : ∀ t u, news[t]? = some u → w.drew.cell? ⟨b, (i + 1) * 2 + t, none⟩ = some u := by
  intro t u hu
  rw [hnews, List.getElem?_drop, ← hcV, List.getElem?_take] at hu
  split at hu
  ·rw [Array.getElem?_toList] at hu
   show w.cell? _ = _
   simp [World.cell?, hcur, hu]
  ·cases hu
 obtain ⟨A, hA, hsrc⟩ : ∃ A : Addr, (if c = i + 1 then some (⟨b, 0, none⟩ : Addr) else some ⟨b, (i + 1) * 2, none⟩) = some A ∧ Hid (∀ t u, news[t]? = some u → w.drew.cell? (A.add t) = some u) := by
  by_cases h : c = i + 1
  ·refine ⟨⟨b, 0, none⟩, by simp [h], fun t u hu => ?_⟩
   have h0 : news.length = 0 := by rw [hlen]; omega
   rw [List.length_eq_zero_iff.1 h0] at hu
   simp at hu
  ·refine ⟨⟨b, (i + 1) * 2, none⟩, by simp [h], fun t u hu => ?_⟩
   rw [Addr.add_lit]
   exact hget t u hu
 have s1 : Hid (news.length = (n - (i + 1)) * 2) := hlen
 have s2 : Hid (∀ u ∈ news, u.oneCell' = true) := fun u hu => h1 u (by rw [hnews] at hu; exact List.mem_of_mem_drop hu)
 have s3 : Hid (∀ t, t < news.length → (w.drew.cell? ⟨b, 0 + i * 2 + t, none⟩).isSome = true ∧ w.drew.frozen? ⟨b, 0 + i * 2 + t, none⟩ = false) := by
  intro t ht
  rw [hlen] at ht
  refine ⟨?_, ?_⟩
  ·show (w.cell? _).isSome = true
   simp [World.cell?, hcur]; omega
  ·show w.frozen? _ = false
   simp [World.frozen?, hcur]
 obtain ⟨W1, hW1⟩ : ∃ W1, W1 = w.drew.setCells b (0 + i * 2) news := ⟨_, rfl⟩
 have hW1' : W1 = w.drew.setRow b R1 := by
  rw [hW1, Zh0 (P := Tryz.prog) b (0 + i * 2) news w.drew cur 50 hcur (by rw [hlen, hcc]; omega) s2, hR1, hnews, Nat.zero_add]
 have hW1h : W1.heap[b]? = some (.cells R1 50 (0, 0)) := by rw [hW1']; exact setRow_heap _ _ _ _ _ _ hcur
 have hR1s : R1.size = c * 2 := by rw [hR1, ← hnews]; simp [hlen]; omega
 have hcl : ∀ ty, (Builtin.clear_ #[46] ty #[.slice (some ⟨b, (i + (n - (i + 1))) * 2, none⟩) (n - (i + (n - (i + 1)))) (c - (i + (n - (i + 1))))]).run Tryz.prog W1 = .ok (.tuple #[]) (W1.setRow b R2) := fun ty => by
  have := Zh2 (P := Tryz.prog) W1 46 50 ty #[.int .i64 0, .int .i64 0] Tryz.underlying46 Tryz.zeroValue50 (by intro v hv; simp at hv; rcases hv with rfl | rfl <;> rfl) b ((i + (n - (i + 1))) * 2) (c - (i + (n - (i + 1)))) R1 50 hW1h (by simp; omega)
  rw [show n - (i + (n - (i + 1))) = 1 by omega, this, hR2]
  simp
 have hW : Hid (W1 = w.drew.setCells b (0 + i * 2) news) := hW1
 have hX : Hid (W1 = w.drew.setRow b R1) := hW1'
 clear hW1 hW1' hW1h hR1 hR2 hR1s hcur hcV hget hnews hlen h1 hV hcc
 have hic : i ≤ c := by omega
 have hjc : i + 1 ≤ c := by omega
 have hin : i ≤ n := by omega
 have hjn : i + 1 ≤ n := by omega
 have hne : ¬ (i : Int) = (i : Int) + 1 := by omega
 have hb1 : (0 : Int) ≤ (i : Int) + 1 := by omega
 have htn : ((i : Int) + 1).toNat = i + 1 := by omega
 have hb2 : (i : Int) + 1 ≤ (n : Int) := by omega
 have hb3 : (i : Int) ≤ (i : Int) + 1 := by omega
 have hcn : ¬ c = i + (n - (i + 1)) := by omega
 have hnn : i + (n - (i + 1)) ≤ n := by omega
 have mixed : Tryz.prog.follows .mixedOrders = true := by kernel_rfl
 go_enter Tryz.func248, Tryz.ntmps248
 go_wp2_with fail
 go_region_law_o (refine step_append_room rfl (.tmp 22) (.tmp 25) 46 rfl 50 i0 2 Tryz.underlying46 hi0 hzs b 0 i c (by simp [Act.eval, Act.put]) A (n - (i + 1)) (c - (i + 1)) news (by simp [Act.eval, Act.put]) s1.out hsrc.out s2.out (by omega) s3.out ?_; rw [← hW.out])
 go_wp2
 go_ret
 exact ⟨rfl, by rw [hX.out]⟩
theorem Zh4 (l : List Stop) (i : Nat) (h : i < l.length) : zM (l.eraseIdx i) = (zM l).take (i * 2) ++ (zM l).drop ((i + 1) * 2) := by
 rw [List.eraseIdx_eq_take_drop_succ, Qp, VJ l i (by omega), VK l (i + 1) (by omega)]
theorem Zh5 {S : Store} {id ver : Nat} (cs : List Stop) (i : Nat) (hi : i < cs.length) (hn : cs.length ≤ 1000000) (hid : S id = .cells ver 50 (cs.flatMap Enc.enc)) :
  Spec Tryz.prog 248 [.sl id ver 2 0 cs.length, I i, I ((i : Int) + 1)] S (fun p S' => p = .sl id (ver + 1) 2 0 (cs.eraseIdx i).length ∧ S' = S.set id (.cells (ver + 1) 50 ((cs.eraseIdx i).flatMap Enc.enc))) := by
 refine ⟨yY Tryz.func248 (by rfl) rfl, ?_⟩
 intro C w vs hS hl hr
 obtain ⟨u, v, x, rfl⟩ := VL hl
 obtain rfl := ux (hr 1 _ v rfl rfl)
 obtain rfl := ux (hr 2 _ x rfl rfl)
 have hu := hr 0 _ u rfl rfl
 have hvl : (zM cs).length = cs.length * 2 := Zi cs
 have hel : (cs.eraseIdx i).length = i + (cs.length - (i + 1)) := by rw [List.length_eraseIdx_of_lt hi]; omega
 have hnew := Zh4 cs i hi
 have hnl : (zM (cs.eraseIdx i)).length = (i + (cs.length - (i + 1))) * 2 := by rw [Zi, hel]
 rw [VI] at hid ⊢
 rw [hel]
 generalize cs.eraseIdx i = es at *
 obtain ⟨i0, hi0⟩ := Option.isSome_iff_exists.1 i50
 have hc := c50
 simp only [Program.cellsOf, hi0, Option.map_some, Option.getD_some] at hc
 cases hu with
 | sl h1 h2 h3 =>
  obtain ⟨ad, cap, rfl, q1, q2, q3, q4⟩ := h1
  have hloc := (h3 ver (by rw [hid]; rfl)).2 rfl
  rcases hS.cells id ver _ _ hid with ⟨hno, hnil⟩ | ⟨b, k, c, g1, g2, g3, g4, g5, g6⟩
  ·have := congrArg List.length hnil
   simp [hvl] at this
   exfalso; omega
  rcases hloc with ⟨z1, _⟩ | ⟨b', k', ad', cap', z1, z2, z3, z4⟩
  ·rw [g1] at z1; cases z1
  rw [g1] at z1; cases z1; cases z2
  obtain ⟨rfl, hcap⟩ := z3 rfl
  rw [List.length_map, hvl] at g4
  have hcells : ∀ (j : Nat) v, (zM cs)[j]? = some v → c[j]? = some v := by
   intro j v hj
   have hjl := (List.getElem?_eq_some_iff.1 hj).1
   have e2 : c[j]? = some c[j] := Array.getElem?_eq_getElem (by omega)
   have := g6 j (.sc v) _ (by rw [List.getElem?_map, hj]; rfl) e2
   rw [e2]
   generalize c[j] = y at this
   cases this; rfl
  have hcur : c.toList.take (cs.length * 2) = zM cs := by
   apply List.ext_getElem?
   intro j
   by_cases hj : j < cs.length * 2
   ·rw [List.getElem?_take_of_lt hj, Array.getElem?_toList]
    have e : (zM cs)[j]? = some (zM cs)[j] := List.getElem?_eq_getElem (by omega)
    rw [e, hcells j _ e]
   ·rw [List.getElem?_eq_none (by simp; omega), List.getElem?_eq_none (by omega)]
  have hcsz : c.size = cap * 2 := g3.trans hcap.symm
  have hdl : ((zM cs).drop ((i + 1) * 2)).length = (cs.length - (i + 1)) * 2 := by rw [List.length_drop, hvl]; omega
  obtain ⟨R1, hR1⟩ : ∃ R1 : Array Value, R1 = (c.toList.take (i * 2) ++ (zM cs).drop ((i + 1) * 2) ++ c.toList.drop (i * 2 + ((zM cs).drop ((i + 1) * 2)).length)).toArray := ⟨_, rfl⟩
  obtain ⟨R2, hR2⟩ : ∃ R2 : Array Value, R2 = (R1.toList.take ((i + (cs.length - (i + 1))) * 2) ++ ([.int .i64 0, .int .i64 0] : List Value) ++ R1.toList.drop ((i + (cs.length - (i + 1))) * 2 + 2)).toArray := ⟨_, rfl⟩
  have htk : c.toList.take (i * 2) = (zM cs).take (i * 2) := by rw [← hcur, List.take_take, Nat.min_eq_left (by omega)]
  have hR1l : R1.toList.take ((i + (cs.length - (i + 1))) * 2) = zM es := by
   rw [hR1]
   simp only []
   rw [htk, ← hnew, ← hnl, List.take_left]
  have hR1s : R1.size = cap * 2 := by rw [hR1]; simp [hdl]; omega
  have hR2l : R2.toList = zM es ++ (([.int .i64 0, .int .i64 0] : List Value) ++ R1.toList.drop ((i + (cs.length - (i + 1))) * 2 + 2)) := by
   rw [hR2, hR1l]
   simp
  have hR2s : R2.size = cap * 2 := by
   rw [← Array.length_toList, hR2l]
   simp [hnl, hR1s]
   omega
  refine (Zh3 b cs.length cap i (zM cs) w i0 hi0 hc c g2 hcsz hi q1 (by unfold maxLen at q3; omega) (by omega) hvl hcur (Zj cs) R1 R2 hR1 hR2).mono ?_
  rintro e w' ⟨rfl, rfl⟩
  obtain ⟨r1, r2⟩ := JS (C := C) (S := S) (w := w) hR2l (Zj _)
  have hb1 := setRow_heap w.drew b c R1 _ _ g2
  obtain ⟨t1, t2⟩ := hS.turn (l := some (b, cap * 2)) (ver' := ver + 1) (cs' := (zM es).map .sc) hid (by omega) (fun h => absurd h (by omega)) (w' := (w.drew.setRow b R1).setRow b R2)
   (by
    rw [g1]
    refine ⟨⟨rfl, rfl, rfl, by simp [World.setRow], fun j hj hne => ?_⟩, Nat.le_succ _⟩
    have hjb : j ≠ b := fun e => hne (by rw [e]; rfl)
    rw [setRow_other _ _ _ _ hjb, setRow_other _ _ _ _ hjb]; rfl)
   (.inr ⟨b, cap * 2, R2, rfl, .inr (by rw [g1]; rfl), setRow_heap _ _ _ _ _ _ hb1, hR2s, by rw [List.length_map, hnl]; omega, r1, r2⟩)
  refine ⟨_, _, _, _, rfl, ⟨rfl, rfl⟩, ?_, t1, t2⟩
  refine .sl ⟨_, _, rfl, by omega, by unfold qQ; omega, q3, fun _ => ⟨_, _, rfl⟩⟩ ⟨h2.1, by simp only [Ctx.at]; omega⟩ fun v0 hv0 => ?_
  rw [Store.set_same] at hv0; cases hv0
  exact ⟨Nat.le_refl _, fun _ => .inr ⟨b, _, _, _, by simp [Ctx.at], rfl, fun _ => ⟨rfl, rfl⟩, fun _ => rfl⟩⟩
open Go Go.Proofs
def uI (c : Int) (l : List Stop) : Int := ((l.filter fun s => decide (s.c = c)).map (·.q)).sum
theorem Zh6 (c : Int) (d : Day) : ZaG c d = W (uI c d.flatten) := rfl
theorem Zh7 (c : Int) (l : List Stop) (s : Stop) : uI c (l ++ [s]) = uI c l + if s.c = c then s.q else 0 := by
 unfold uI
 rw [List.filter_append, List.map_append, List.sum_append]
 by_cases h : s.c = c <;> simp [h]
theorem Zh8 (c : Int) (l : List Stop) (s : Stop) : js c (l ++ [s]) = js c l ++ if s.c = c then [] else [s] := by
 unfold js
 rw [List.filter_append]
 by_cases h : s.c = c <;> simp [h]
theorem Zh9 (c : Int) (d : Day) (t : zq) : jh c (d ++ [t]) = jh c d ++ if (js c t).length = 0 then [] else [js c t] := by
 rw [Zhw]
 congr 1
 unfold jh
 rw [List.map_cons, List.map_nil]
 generalize js c t = u
 cases u <;> simp
theorem Za3 (c : Int) (t : zq) : (js c t).length ≤ t.length := List.length_filter_le _ _
theorem Zia (c : Int) (d : Day) : (jh c d).length ≤ d.length := by
 unfold jh
 exact Nat.le_trans (List.length_filter_le _ _) (by simp)
set_option maxRecDepth 20000 in
set_option maxHeartbeats 1600000 in
theorem Zib (d : Day) (c : Int) (hdn : d.length ≤ 1048576) (hdt : ∀ t ∈ d, t.length ≤ 1048576) : Pure Tryz.prog 68 [.agg [L d], I c] (.tup [.agg [L (jh c d)], I (ZaG c d)]) := by
 rw [Zh6]
 refine pwe Tryz.func68 Tryz.ntmps68 Tryz.results68 fun S nx hd => ?_
 repeat apply za
 refine pwn ?_
 intro v0 v1
 repeat apply za
 refine pwn ?_
 intro v2
 refine qT 2 0 72 1 rfl rfl fun v3 => ?_
 (repeat apply za); refine pwn ?_; intros
 (repeat apply za); refine pwn ?_; intros
 repeat apply za
 refine zh (zr (fun (s : Nat × Nat) => s.1 ≤ d.length) (fun (k, v3) => [(1, I c), (4, .ptr (nx + 1) v1 0), (6, .ptr (nx + 2) v2 0), (7, I (W (uI c (d.take k).flatten))), (14, L d), (15, I d.length), (16, I k)]) (fun (k, v3) => [.cells v0 66 [L d], .cells v1 66 [yH], .cells v2 66 [.sl (nx + 3) v3 1 0 (jh c (d.take k)).length], .cells v3 72 ((jh c (d.take k)).flatMap Enc.enc)]) (fun s => d.length - s.1) (0, v3) [] (by simp) (by simp [uI]) (by simp [jh]) ?_)
 rintro ⟨k, v3⟩ hk
 simp only at hk ⊢
 (repeat apply za); refine pwn ?_; intros
 repeat apply za
 refine zn rfl (fun hc => ?_) (fun hc => ?_)
 ·simp at hc
  obtain ⟨t, tl, a1, a2, a3, e0⟩ := el1 rfl d k hc
  have hk1 : 1 ≤ d.length - k := by omega
  have htm := List.mem_of_getElem? a1
  have htn := hdt t htm
  have hrd := Zh9 c (d.take k) t
  rw [← a3] at hrd
  have hfl : (d.take (k + 1)).flatten = (d.take k).flatten ++ t := by rw [a3, List.flatten_append]; simp
  generalize (d.take k).flatten = pre at *
  have hrl : (jh c (d.take k)).length ≤ 1048576 := Nat.le_trans (Zia _ _) (by rw [List.length_take]; omega)
  refine ze (za (zh ?_))
  generalize hrk : jh c (d.take k) = rk at *
  have hfz : ∀ id v cs, (rk.flatMap Enc.enc).map (yL id v cs) = (rk.flatMap Enc.enc : List PV) := fun id v cs => ZaY id v cs rk
  have hrf : (rk.flatMap Enc.enc : List PV).length = rk.length := jE rk
  have hrt : (rk.flatMap Enc.enc : List PV).take rk.length = rk.flatMap Enc.enc := List.take_of_length_le (by omega)
  repeat apply za
  refine pwN [] (jn3 hc e0 hk1) ?_
  intro v4
  (repeat apply za); refine pwn ?_; intros
  refine yK 10 50 2 rfl fun v5 => ?_
  (repeat apply za); refine pwn ?_; intros
  repeat apply za
  refine zh (zr (fun (s : Nat × Nat) => s.1 ≤ t.length) (fun (j, v5) => [(1, I c), (4, .ptr (nx + 1) v1 0), (6, .ptr (nx + 2) v2 0), (7, I (W (uI c (pre ++ t.take j)))), (10, .sl (nx + 5) v5 2 0 (js c (t.take j)).length), (14, L d), (15, I d.length), (16, I k), (21, L t), (22, I t.length), (23, I j)]) (fun (j, v5) => [.cells v0 66 [L d], .cells v1 66 [yH], .cells v2 66 [.sl (nx + 3) v3 1 0 rk.length], .cells v3 72 (rk.flatMap Enc.enc), .cells v4 72 [L t], .cells v5 50 ((js c (t.take j)).flatMap Enc.enc)]) (fun s => t.length - s.1) (0, v5) [] (by simp) (by simp [js]) (by simp [js]) ?_)
  rintro ⟨j, v5⟩ hj
  simp only at hj ⊢
  (repeat apply za); refine pwn ?_; intros
  repeat apply za
  refine zn rfl (fun hcj => ?_) (fun hcj => ?_)
  ·simp at hcj
   obtain ⟨s, ts, b1, b2, b3, b4, b5⟩ := el 2 rfl t j hcj
   have hj2 : 2 ≤ t.length * 2 - j * 2 := by omega
   have hsum := Zh7 c (pre ++ t.take j) s
   rw [List.append_assoc, ← b3] at hsum
   have hrs := Zh8 c (t.take j) s
   rw [← b3] at hrs
   have hul : (js c (t.take j)).length ≤ 1048576 := Nat.le_trans (Za3 _ _) (by rw [List.length_take]; omega)
   generalize js c (t.take j) = u at *
   have huf : (u.flatMap Enc.enc : List PV).length = u.length * 2 := uu u
   have hut : (u.flatMap Enc.enc : List PV).take (u.length * 2) = u.flatMap Enc.enc := List.take_of_length_le (by omega)
   refine ze (za (zh ?_))
   repeat apply za
   refine pwN [] (jn3 hcj b5 hj2) ?_
   intro v6
   (repeat apply za); refine pwn ?_; intros
   repeat apply za
   refine zn rfl (fun hq => ?_) (fun hq => ?_)
   ·simp at hq
    rw [if_pos hq] at hsum hrs
    rw [List.append_nil] at hrs
    (repeat apply za); refine pwn ?_; intros
    (repeat apply za); refine pwn ?_; intros
    exact zm (j + 1, v5) [_] (by simp; omega) (by simp; omega) (by simp [wrN j (by omega), hsum, xS, hrs]) rfl (by simp [hrs]; rfl)
   ·simp at hq
    rw [if_neg hq] at hsum hrs
    rw [Int.add_zero] at hsum
    have hul' : ((js c (t.take (j + 1))).flatMap Enc.enc : List PV) = u.flatMap Enc.enc ++ [I s.c, I s.q] := by rw [hrs, List.flatMap_append]; rfl
    repeat apply za
    refine pwN [] (jn2 huf hut) ?_
    refine ⟨by omega, ?_⟩
    intros
    (repeat apply za); refine pwn ?_; intros
    exact zm (j + 1, v5 + 1) [_] (by simp; omega) (by simp; omega) (by simp [wrN j (by omega), hsum, hrs]) rfl (by simp [hul']; rfl)
  ·simp at hcj
   obtain rfl : j = t.length := by omega
   refine zo ?_
   rw [List.take_length]
   have hul : (js c t).length ≤ 1048576 := Nat.le_trans (Za3 _ _) htn
   generalize js c t = u at *
   have huf : (u.flatMap Enc.enc : List PV).length = u.length * 2 := uu u
   refine zL 5 rfl ?_
   simp only [List.map_cons, List.map_nil, List.set_cons_succ, List.set_cons_zero, jo, hfz]
   (repeat apply za); refine pwn ?_; intros
   repeat apply za
   refine zn rfl (fun hq => ?_) (fun hq => ?_)
   ·simp at hq
    rw [if_neg (by omega)] at hrd
    have hrl' : ((rk ++ [u]).flatMap Enc.enc : List PV) = rk.flatMap Enc.enc ++ [L u] := by rw [List.flatMap_append]; rfl
    repeat apply za
    refine pwN [] (jn2 hrf hrt) ?_
    refine ⟨by omega, ?_⟩
    intros
    (repeat apply za); refine pwn ?_; intros
    exact zm (k + 1, v3 + 1) [_, _] (by simp; omega) (by simp; omega) (by simp [wrN k (by omega), hfl]) rfl (by simp [hrd, hrl']; exact ⟨rfl, rfl⟩)
   ·simp at hq
    rw [if_pos (by rw [hq]; rfl), List.append_nil] at hrd
    refine ze ?_
    (repeat apply za); refine pwn ?_; intros
    exact zm (k + 1, v3) [_, _] (by simp; omega) (by simp; omega) (by simp [wrN k (by omega), hfl]) rfl (by simp [hrd]; exact ⟨rfl, rfl⟩)
 ·simp at hc
  obtain rfl : k = d.length := by omega
  refine zo ?_
  refine zL 3 rfl ?_
  have g1 : d.take d.length = d := List.take_length
  (repeat apply za); refine pwn ?_; intros
  repeat apply za
  exact zb (zg hd (by simp; rfl) (by simp [zj, g1]))
open Go Hp
theorem Za4 {x : Inst} (h : ∀ row ∈ x.dist, ∀ d ∈ row, 0 ≤ d ∧ d ≤ 2147483648) : qJ x := by
 intro a b
 unfold arc
 split
 ·omega
 ·rw [List.getD_eq_getElem?_getD, List.getD_eq_getElem?_getD]
  cases hr : x.dist[a.toNat]? with
  | none => simp
  | some row =>
   simp only [Option.getD_some]
   cases hd : row[b.toNat]? with
   | none => simp
   | some d => exact h row (List.mem_of_getElem? hr) d (List.mem_of_getElem? hd)
open Go Go.Proofs
theorem Zic {x : Inst} {d : Day} {s : Stop} (hx : x.cust.length ≤ 1048576) (hdo : DayOk d) (hd1 : d.length ≤ 1000000) (hf : d.flatten.length ≤ 1000000) : DayOk (qL x d s).1 := by
 unfold qL
 cases hb : (xv (yi x d s)).2 with
 | false => exact hdo
 | true =>
  have hm := QB hb
  have hp := Xm hm
  have hs := ZaW hx (Yl hm).1
  simp only [cond_true]
  have hfl : (qA d (xv (yi x d s)).1 s).flatten.length ≤ 1000001 := by rw [hp.length_eq, List.length_cons]; omega
  refine ⟨?_, fun t ht => ?_, fun t ht a ha => ?_⟩
  ·unfold qA; split
   ·simp; omega
   ·simp; omega
  ·have := (xZ ht).length_le; omega
  ·have := hp.subset ((xZ ht).subset ha)
   rw [List.mem_cons] at this
   rcases this with rfl | h
   ·exact hs
   ·obtain ⟨u, hu, hau⟩ := List.mem_flatten.1 h
    exact hdo.s u hu a hau
open Go Go.Proofs
def x4 (l : List Int) : Int := if 1 < l.length then W (l.getD 1 0 - l.getD 0 0) else 1099511627776
def j7 (c : Stop → List Int) : List Stop → Nat → Int → Int → Int
 | [], _, place, _ => place
 | s :: l, i, place, most => if (c s).length = 0 then (i : Int) else if place < 0 ∨ most < x4 (c s) then j7 c l (i + 1) (i : Int) (x4 (c s)) else j7 c l (i + 1) place most
def wF (x : Inst) (d : Day) (l : List Stop) : Int := j7 (Zq x d) l 0 (-1) 0
theorem Xt (c : Stop → List Int) : ∀ (l : List Stop) (i : Nat) (place most : Int), (l ≠ [] ∨ 0 ≤ place) → place < i → 0 ≤ j7 c l i place most ∧ j7 c l i place most < (i + l.length : Nat)
 | [], i, place, most, h, hp => by
  rcases h with h | h
  ·exact absurd rfl h
  ·simp only [j7, List.length_nil]; omega
 | s :: l, i, place, most, _, hp => by
  unfold j7
  split
  ·simp only [List.length_cons]; omega
  ·split
   ·have := Xt c l (i + 1) i (x4 (c s)) (.inr (by omega)) (by omega)
    simp only [List.length_cons]; omega
   ·rename_i hc
    have := Xt c l (i + 1) place most (.inr (by omega)) (by omega)
    simp only [List.length_cons]; omega
theorem Za5 {x : Inst} {d : Day} {l : List Stop} (h : l ≠ []) : ∃ k : Nat, wF x d l = k ∧ k < l.length := by
 have := Xt (Zq x d) l 0 (-1) 0 (.inl h) (by omega)
 exact ⟨(wF x d l).toNat, by unfold wF; omega, by unfold wF; omega⟩
def j8 (x : Inst) : Nat → Day → List Stop → Day × Bool
 | 0, d, _ => (d, true)
 | n + 1, d, l => bif (qL x d (l.getD (wF x d l).toNat default)).2 then j8 x n (qL x d (l.getD (wF x d l).toNat default)).1 (l.eraseIdx (wF x d l).toNat) else (d, false)
def y8 (x : Inst) (l : List Stop) : Day × Bool := j8 x l.length [] l
structure RgOk (x : Inst) (d : Day) (l : List Stop) : Prop where
 ok : DayOk d
 may : zT x d = 0
 len : d.flatten.length + l.length ≤ 1000
theorem RgOk.dl {x : Inst} {d : Day} {l : List Stop} (h : RgOk x d l) : d.length ≤ 1000 := by
 have h1 := Yk d (ZaS h.may)
 have h2 := h.len
 omega
theorem RgOk.step {x : Inst} {d : Day} {l : List Stop} (hx : x.cust.length ≤ 1048576) (h : RgOk x d l) {i : Nat} (hi : i < l.length) {s : Stop} (hs : (qL x d s).2 = true) : RgOk x (qL x d s).1 (l.eraseIdx i) := by
 have hf := h.len
 have hl := h.dl
 refine ⟨Zic hx h.ok (by omega) (by omega), ?_, ?_⟩
 ·unfold qL at hs ⊢
  cases hb : (xv (yi x d s)).2 with
  | false => rw [hb] at hs; cases hs
  | true => exact Xo (QB hb)
 ·rw [(ZaE hs).length_eq, List.length_cons, List.length_eraseIdx_of_lt hi]; omega
theorem Za6 {x : Inst} (hv : 0 ≤ x.veh) {l : List Stop} (hl : l.length ≤ 1000) : RgOk x [] l :=
 ⟨⟨by simp, by simp, by simp⟩, (xJ x []).2 ⟨by simp, by simp, by simpa using hv⟩, by simpa using hl⟩
theorem Zid {c : Stop → List Int} {l : List Stop} {k : Nat} {s : Stop} {place most : Int} (hd : l.drop k = s :: l.drop (k + 1)) :
  j7 c (l.drop k) k place most = if (c s).length = 0 then (k : Int) else if place < 0 ∨ most < x4 (c s) then j7 c (l.drop (k + 1)) (k + 1) (k : Int) (x4 (c s)) else j7 c (l.drop (k + 1)) (k + 1) place most := by
 rw [hd]; rfl
set_option maxRecDepth 20000 in
set_option maxHeartbeats 1600000 in
theorem Zie (x : Inst) (d : Day) (l : List Stop) (hx : x.cust.length ≤ 1048576) (h : RgOk x d l) {S : Store} {id ver : Nat} (hid : S id = .cells ver 50 (l.flatMap Enc.enc)) :
  Spec Tryz.prog 247 [.agg (xX x d), .sl id ver 2 0 l.length] S (fun p S' => p = I (wF x d l) ∧ S' = S) := by
 have hf := h.len
 have hl := h.dl
 have hco := fun s => ZhZ x d s hx h.ok h.may (by omega) (by omega)
 have hu : wF x d l = j7 (Zq x d) (l.drop 0) 0 (-1) 0 := rfl
 rw [hu]
 clear hu
 obtain ⟨on, tw, fs, bd, ls, ws, hlk⟩ : ∃ on tw fs bd ls ws, xX x d = xu x d on tw fs bd ls ws := ⟨_, _, _, _, _, _, rfl⟩
 rw [hlk] at hco ⊢
 clear hlk
 generalize hcz : Zq x d = cz at *
 refine qp Tryz.func247 Tryz.ntmps247 Tryz.results247 fun nx hd => ?_
 have hlt : id < nx := yZ hd hid (by simp)
 have xid := fun obs => zB (S := S) (obs := obs) hlt
 repeat apply za
 refine pwn ?_
 intro v0
 (repeat apply za); refine pwn ?_; intros
 (repeat apply za); refine pwn ?_; intros
 repeat apply za
 refine zh (zr (fun s' : Nat × Int × Int => s'.1 ≤ l.length ∧ j7 cz (l.drop s'.1) s'.1 s'.2.1 s'.2.2 = j7 cz (l.drop 0) 0 (-1) 0) (fun (k, place, most) => [(2, .ptr nx v0 0), (5, I place), (6, I most), (11, .sl id ver 2 0 l.length), (12, I l.length), (13, I k)]) (fun _ => [.cells v0 149 (xu x d on tw fs bd ls ws)]) (fun s' => l.length - s'.1) (0, -1, 0) [] ⟨by simp, rfl⟩ (by simp) (by simp) ?_)
 rintro ⟨k, place, most⟩ ⟨hk, hg⟩
 simp only at hk hg ⊢
 rw [← hg]
 (repeat apply za); refine pwn ?_; intros
 repeat apply za
 refine zn rfl (fun hc => ?_) (fun hc => ?_)
 ·simp at hc
  obtain ⟨s, tl, a1, a2, a3, e1, e0⟩ := el 2 rfl l k hc
  have hk2 : 2 ≤ l.length * 2 - k * 2 := by omega
  have hun := Zid (c := cz) (place := place) (most := most) a2
  have hcs := hco s
  generalize hc0 : cz s = c at *
  have wk := wrN k (by omega)
  refine ze (za (zh ?_))
  repeat apply za
  refine pwN [] (jn5 xid hid e0 hc hk2) ?_
  intro v1
  repeat apply za
  refine pwn ?_
  refine pwc hcs ?_
  intros
  by_cases h0 : c.length = 0
  ·rw [if_pos h0] at hun
   repeat apply za
   refine pwN [] h0 ?_
   intros
   repeat apply za
   refine zi rfl ?_
   (repeat apply za); refine pwn ?_; intros
   repeat apply za
   exact zb ⟨_, S, (by simp; rfl), ⟨by simp [zj, hun], rfl⟩, zE hd⟩
  rw [if_neg h0] at hun
  (repeat apply za); refine pwn ?_; intros
  repeat apply za
  refine zk (by simp; exact fun e => h0 (by rw [e]; rfl)) ?_
  refine ze ?_
  (repeat apply za); refine pwn ?_; intros
  repeat apply za
  refine zX (nx := nx) (fun _ : Unit => True) (fun _ => [(2, .ptr nx v0 0), (5, I place), (6, I most), (7, I k), (10, I (x4 c)), (11, .sl id ver 2 0 l.length), (12, I l.length), (13, I k)]) (fun _ => S) (fun _ => [.cells v0 149 (xu x d on tw fs bd ls ws)]) ?_ ?_
  ·by_cases h1 : 1 < c.length
   ·obtain ⟨a, ta, q1, -, -, q0⟩ := el1 rfl c 1 h1
    obtain ⟨b, tb, r1, -, -, r0⟩ := el1 rfl c 0 (by omega)
    have hab : x4 c = W (a - b) := by unfold x4; rw [if_pos h1, List.getD_eq_getElem?_getD, List.getD_eq_getElem?_getD, q1, r1]; rfl
    have g1 : 1 ≤ c.length - 1 := by omega
    have g2 : 0 < c.length := by omega
    have g3 : 1 ≤ c.length := by omega
    have r0' : (c.flatMap Enc.enc : List PV) = Enc.enc b ++ tb := by simpa using r0
    have h1' : (1 : Int) < c.length := by omega
    repeat apply za
    refine zi (by simp; omega) ?_
    rw [r0'] at q0
    have htb : tb = I a :: ta := by simpa using q0
    rw [htb] at r0'
    repeat apply za
    refine pwY none (Row.pures [0, 1, 2, 3, 4, 5, 6, 7] .done) mixed (jn6 r0' h1 h1' g1 g2 g3) ?_
    intros
    exact zy () [_] trivial (by simp [hab]) rfl (by simp; rfl)
   ·have hab : x4 c = 1099511627776 := by unfold x4; rw [if_neg h1]
    repeat apply za
    refine zk (by simp; omega) ?_
    refine ze ?_
    exact zy () [_] trivial (by simp [hab]) rfl (by simp; rfl)
  ·rintro ⟨⟩ -
   generalize x4 c = ab at *
   by_cases hq : place < 0
   ·rw [if_pos (.inl hq)] at hun
    repeat apply za
    refine pwN [(2, 37)] (jn2 hq zp) ?_
    intros
    repeat apply za
    refine zi rfl ?_
    (repeat apply za); refine pwn ?_; intros
    (repeat apply za); refine pwn ?_; intros
    exact zm (k + 1, (k : Int), ab) [] ⟨hc, by rw [← hun, hg]⟩ (by simp; omega) (by simp [wk]) rfl (by simp)
   ·by_cases hq2 : most < ab
    ·rw [if_pos (.inr hq2)] at hun
     repeat apply za
     refine pwN [(2, 37)] (jn2 hq hq2) ?_
     intros
     repeat apply za
     refine zi rfl ?_
     (repeat apply za); refine pwn ?_; intros
     (repeat apply za); refine pwn ?_; intros
     exact zm (k + 1, (k : Int), ab) [] ⟨hc, by rw [← hun, hg]⟩ (by simp; omega) (by simp [wk]) rfl (by simp)
    ·rw [if_neg (by rintro (q | q); exact hq q; exact hq2 q)] at hun
     repeat apply za
     refine pwN [(2, 37)] (jn2 hq hq2) ?_
     intros
     repeat apply za
     refine zk rfl ?_
     refine ze ?_
     (repeat apply za); refine pwn ?_; intros
     exact zm (k + 1, place, most) [] ⟨hc, by rw [← hun, hg]⟩ (by simp; omega) (by simp [wk]) rfl (by simp)
 ·simp at hc
  obtain rfl : k = l.length := by omega
  refine zo ?_
  have hgl : j7 cz (l.drop l.length) l.length place most = place := by rw [List.drop_length]; rfl
  (repeat apply za); refine pwn ?_; intros
  repeat apply za
  exact zb ⟨_, S, (by simp; rfl), ⟨by simp [zj]; rfl, rfl⟩, zE hd⟩
open Go Go.Proofs
theorem Zif {x : Inst} {d : Day} {l : List Stop} {k : Nat} {s : Stop} (hu : wF x d l = k) (hk : l[k]? = some s) :
  j8 x l.length d l = bif (qL x d s).2 then j8 x (l.eraseIdx k).length (qL x d s).1 (l.eraseIdx k) else (d, false) := by
 have hlt := (List.getElem?_eq_some_iff.1 hk).1
 obtain ⟨n, hn⟩ : ∃ n, l.length = n + 1 := ⟨l.length - 1, by omega⟩
 have he : (l.eraseIdx k).length = n := by rw [List.length_eraseIdx_of_lt hlt]; omega
 have hg : l.getD k default = s := by rw [List.getD_eq_getElem?_getD, hk]; rfl
 rw [hn, he, j8, hu, Int.toNat_natCast, hg]
theorem Zig {x : Inst} {d : Day} {l : List Stop} (h : RgOk x d l) : d.length ≤ 1000 ∧ d.flatten.length ≤ 1000 ∧ l.length ≤ 1000 := by
 have h1 := h.dl
 have h2 := h.len
 omega
set_option maxRecDepth 20000 in
set_option maxHeartbeats 1600000 in
theorem Zih (x : Inst) (l : List Stop) (hx : x.cust.length ≤ 1048576) (hv : 0 ≤ x.veh) (hl : l.length ≤ 1000) : Pure Tryz.prog 221 [.agg (zt x), L l] (.tup [.agg [L (y8 x l).1], B (y8 x l).2]) := by
 have hb := Za6 hv hl
 unfold y8
 by_cases h0 : 0 < l.length
 case neg =>
  obtain rfl : l = [] := List.eq_nil_of_length_eq_zero (by omega)
  have hcl := Qy [] (by simp)
  refine pwe Tryz.func221 Tryz.ntmps221 Tryz.results221 fun S nx hd => ?_
  repeat apply za
  refine pwn ?_
  intro v0 v1
  repeat apply za
  refine pwn ?_
  intro v2
  refine Ze 2 0 rfl rfl ?_
  repeat apply za
  refine pwn ?_
  refine pwc hcl ?_
  intros
  repeat apply za
  refine zh (zr (fun _ : Nat => True) (fun _ => [(2, .ptr nx v0 0), (4, .ptr (nx + 1) v1 0), (6, .ptr (nx + 2) v2 0), (7, L ([] : List Stop))]) (fun _ => [.cells v0 25 (zt x), .cells v1 66 [yH], .cells v2 66 [L ([] : Day)]]) (fun k => k) 0 [] trivial (by simp) (by simp) ?_)
  rintro k -
  (repeat apply za); refine pwn ?_; intros
  repeat apply za
  refine zk rfl ?_
  refine zo ?_
  (repeat apply za); refine pwn ?_; intros
  repeat apply za
  exact zb (zg hd (by simp; rfl) (by simp [zj, j8]))
 refine pwe Tryz.func221 Tryz.ntmps221 Tryz.results221 fun S nx hd => ?_
 repeat apply za
 refine pwn ?_
 intro v0 v1
 repeat apply za
 refine pwn ?_
 intro v2
 refine Ze 2 0 rfl rfl ?_
 repeat apply za
 refine zQ [] (by rfl) (by rfl) fun K Gc Gh hK hGc hGh X hX0 hX => ?_
 simp -implicitDefEqProofs [hX0, hX]
 try clear hX0 hX X
 refine hGc _ _ _ _ _ _ _ fun hsuf => ((Xh l h0 (by omega) _ _ wv).mono ?_).v
 rintro _ _ ⟨v3, rfl, rfl⟩
 refine ⟨_, _, qE _, ?_⟩
 clear hGc hGh
 clear Gc Gh
 refine zH hsuf (D := []) (by rfl) fun Gc Gh hGc hGh X hX0 hX => ?_
 simp -implicitDefEqProofs [hX0, hX]
 clear hX0 hX X
 intros
 refine hK _ _ _ ?_
 clear hK hGc hGh
 clear K Gc Gh
 repeat apply za
 refine zh (zr (fun s' : Day × List Stop × Nat => j8 x s'.2.1.length s'.1 s'.2.1 = j8 x l.length [] l ∧ RgOk x s'.1 s'.2.1) (fun (d, m, v3) => [(2, .ptr nx v0 0), (4, .ptr (nx + 1) v1 0), (6, .ptr (nx + 2) v2 0), (7, .sl (nx + 3) v3 2 0 m.length)]) (fun (d, m, v3) => [.cells v0 25 (zt x), .cells v1 66 [yH], .cells v2 66 [L d], .cells v3 50 (m.flatMap Enc.enc)]) (fun s' => s'.2.1.length) ([], l, v3) [] ⟨rfl, hb⟩ (by simp) (by simp) ?_)
 rintro ⟨d, m, v3⟩ ⟨hr, hok⟩
 simp only at hr hok ⊢
 rw [← hr]
 by_cases hm : m = []
 ·subst hm
  (repeat apply za); refine pwn ?_; intros
  repeat apply za
  refine zk rfl ?_
  refine zo ?_
  (repeat apply za); refine pwn ?_; intros
  repeat apply za
  exact zb (zg hd (by simp; rfl) (by simp [zj, j8]))
 ·have hm0 : 0 < m.length := List.length_pos_iff.2 hm
  obtain ⟨k, hu, hk⟩ := Za5 (x := x) (d := d) hm
  obtain ⟨s, tl, a1, a2, a3, e1, e0⟩ := el 2 rfl m k hk
  have hk2 : 2 ≤ m.length * 2 - k * 2 := by omega
  have hst := Zif hu a1
  obtain ⟨b1, b2, b3⟩ := Zig hok
  have hsee := Zat x d hx hok.ok (by omega)
  have hins := ZhT x d s hx hok.ok (by omega)
  have hnx := fun h => hok.step hx hk (s := s) h
  have hurg := fun (S : Store) (id ver : Nat) h => Zie x d m hx hok (S := S) (id := id) (ver := ver) h
  rw [hu] at hurg
  obtain ⟨on, tw, fs, bd, ls, ws, hlk⟩ : ∃ on tw fs bd ls ws, xX x d = xu x d on tw fs bd ls ws := ⟨_, _, _, _, _, _, rfl⟩
  rw [hlk] at hsee hurg
  clear hlk
  have hno := Zhu (x := x) (d := d) (s := s)
  generalize hi : qL x d s = r at *
  obtain ⟨d2, ok⟩ := r
  simp only at hst hnx hno
  have wk := wrN k (by omega)
  have hm0' : (0 : Int) < m.length := by omega
  repeat apply za
  refine pwN [] hm0' ?_
  intros
  repeat apply za
  refine zi (by simp; exact hm0) ?_
  refine ze (zh ?_)
  repeat apply za
  refine zQ [] (by rfl) (by rfl) fun K Gc Gh hK hGc hGh X hX0 hX => ?_
  simp -implicitDefEqProofs [hX0, hX]
  try clear hX0 hX X
  refine hGc _ _ _ _ _ _ _ fun hsuf => ((hsee _).mono ?_).v
  rintro _ _ ⟨rfl, rfl⟩
  refine ⟨_, _, rfl, ?_⟩
  clear hGc hGh
  clear Gc Gh
  refine zH hsuf (D := []) (by rfl) fun Gc Gh hGc hGh X hX0 hX => ?_
  simp -implicitDefEqProofs [hX0, hX]
  clear hX0 hX X
  refine hGc _ _ _ _ _ _ _ fun hsuf => ((hurg _ _ _ (by rw [qe]; rfl)).mono ?_).v
  rintro _ _ ⟨rfl, rfl⟩
  refine ⟨_, _, rfl, ?_⟩
  clear hGc hGh
  clear Gc Gh
  refine zH hsuf (D := []) (by rfl) fun Gc Gh hGc hGh X hX0 hX => ?_
  simp -implicitDefEqProofs [hX0, hX]
  clear hX0 hX X
  intros
  refine hK _ _ _ ?_
  clear hK hGc hGh
  clear K Gc Gh
  repeat apply za
  refine pwY (some [nx, nx + 2, nx + 3]) (Row.pures [0, 1, 2, 3, 4, 5, 6, 7, 8, 9] (.alt 10 (.alt 11 (Row.pures [12] .done) .stop) .stop)) mixed (jn3 e0 hk hk2) ?_
  refine pwP (hins) trivial ?_
  intro v4
  intros
  (repeat apply za); refine pwn ?_; intros
  cases ok with
  | false =>
   simp only [cond_false] at hst
   repeat apply za
   refine zi rfl ?_
   (repeat apply za); refine pwn ?_; intros
   repeat apply za
   exact zb (zg hd (by simp; rfl) (by simp [zj, hst]))
  | true =>
   simp only [cond_true] at hst
   repeat apply za
   refine zk rfl ?_
   refine ze ?_
   have hkl := List.length_eraseIdx_of_lt hk
   repeat apply za
   refine xE (some [nx + 4]) (Row.pures [0, 1, 2, 3, 4] (.alt 5 (.alt 6 (Row.pures [7] .done) .stop) .stop)) mixed (by rfl) (by rfl) (by rfl) fun K Gp Gc Gh hK hGp hGc hGh X hX0 hX1 hX2 hX => ?_
   simp -implicitDefEqProofs [hX0, hX1, hX2, hX, wk]
   try clear hX0 hX1 hX2 hX X
   refine hGc _ _ _ _ _ _ _ ?_
   refine ((Zh5 m k hk (by omega) (by rw [qe]; rfl)).mono ?_).v
   rintro _ _ ⟨rfl, rfl⟩
   rw [qn _ (by omega) (by simp), Nat.add_sub_cancel_left]
   refine ⟨by simp [zW], ?_⟩
   clear hGp hGc hGh
   clear Gp Gc Gh
   refine qS fun Gp Gc Gh hGp hGc hGh X hX0 hX1 hX2 hX => ?_
   simp -implicitDefEqProofs [hX0, hX1, hX2, hX]
   try clear hX0 hX1 hX2 hX X
   refine hK _ _ _ ?_
   clear hK hGp hGc hGh
   clear K Gp Gc Gh
   exact zm (d2, m.eraseIdx k, v3 + 1) [_] ⟨hst.symm, hnx rfl⟩ (by simp only; omega) (by simp) rfl (by simp; rfl)
open Go Go.Proofs
def jI (step : Day → Option Day) : Nat → Day → Day
 | 0, d => d
 | n + 1, d => match step d with
  | none => d
  | some e => jI step n e
def x5 (step : Day → Option Day) : Nat → Day → Nat
 | 0, _ => 0
 | n + 1, d => match step d with
  | none => 0
  | some e => x5 step n e + 1
def Za7 (x : Inst) (step : Day → Option Day) (G : Day → Prop) : Prop := ∀ d, G d → ∃ mk ma mb mi mj least, Pure Tryz.prog 115 [.agg (zt x), .agg [L d]] (.tup [.agg [I mk, I ma, I mb, I mi, I mj], I least, B (step d).isSome]) ∧
 ∀ e, step d = some e → Pure Tryz.prog 116 [.agg (zt x), .agg [L d], .agg [I mk, I ma, I mb, I mi, I mj]] (.tup [.agg [L e], I 0]) ∧ G e
set_option maxRecDepth 20000 in
set_option maxHeartbeats 1600000 in
theorem Zii (x : Inst) (d : Day) (b : Int) (step : Day → Option Day) (G : Day → Prop) (hb : b ≤ 9223372036854775807) (hdn : d.length ≤ 1048576) (hdt : ∀ t ∈ d, t.length ≤ 1048576) (hd' : 0 < b → G d) (hs : Za7 x step G) : Pure Tryz.prog 76 [.agg (zt x), .agg [L d], I b] (.tup [.agg [L (jI step b.toNat d)], I (if x5 step b.toNat d < b.toNat then (x5 step b.toNat d : Int) else jX b 0)]) := by
 refine pwe Tryz.func76 Tryz.ntmps76 Tryz.results76 fun S nx hd => ?_
 repeat apply za
 refine pwn ?_
 intro v0 v1 v2
 repeat apply za
 refine pwn ?_
 intro v3
 refine qT 3 0 72 1 rfl rfl fun v4 => ?_
 (repeat apply za); refine pwn ?_; intros
 repeat apply za
 refine zh (zr (fun s' : Nat × Nat => s'.1 ≤ d.length) (fun (k, v4) => [(2, I b), (3, .ptr nx v0 0), (6, .ptr (nx + 2) v2 0), (7, I 0), (8, .ptr (nx + 3) v3 0), (16, L d), (17, I d.length), (18, I k)]) (fun (k, v4) => [.cells v0 25 (zt x), .cells v1 66 [L d], .cells v2 66 [yH], .cells v3 66 [.sl (nx + 4) v4 1 0 k], .cells v4 72 ((d.take k).flatMap Enc.enc)]) (fun s' => d.length - s'.1) (0, v4) [] (by simp) (by simp) (by simp) ?_)
 rintro ⟨k, v4⟩ hk
 simp only at hk ⊢
 (repeat apply za); refine pwn ?_; intros
 repeat apply za
 refine zn rfl (fun hc => ?_) (fun hc => ?_)
 ·simp at hc
  obtain ⟨t, tl, a1, a2, a3, e0⟩ := el1 rfl d k hc
  have hk1 : 1 ≤ d.length - k := by omega
  have hcl := Qy t (hdt t (List.mem_of_getElem? a1))
  have hcl' : ((d.take k).flatMap Enc.enc : List PV).length = k := by rw [jE, List.length_take]; omega
  have hct : ((d.take k).flatMap Enc.enc : List PV).take k = (d.take k).flatMap Enc.enc := List.take_of_length_le (by omega)
  have hcn : ((d.take (k + 1)).flatMap Enc.enc : List PV) = (d.take k).flatMap Enc.enc ++ [L t] := by rw [a3, List.flatMap_append]; rfl
  generalize ((d.take k).flatMap Enc.enc : List PV) = cs at *
  refine ze (za (zh ?_))
  repeat apply za
  refine pwN [] (jn3 e0 hc hk1) ?_
  intro v5
  repeat apply za
  refine pwY (some [nx + 5]) (Row.pures [0, 2, 3, 4, 5, 6] (.alt 1 (.alt 7 (Row.pures [8] (.alt 9 (.done) .stop)) .stop) .stop)) mixed (jn2 hcl' hct) ?_
  refine pwP (hcl) (jn2 hcl' hct) ?_
  refine ⟨by omega, ?_⟩
  intros
  (repeat apply za); refine pwn ?_; intros
  exact zm (k + 1, v4 + 1) [_] hc (by simp; omega) (by simp [wrN k (by omega)]) rfl (by simp [hcn]; rfl)
 ·simp at hc
  obtain rfl : k = d.length := by omega
  have g1 : d.take d.length = d := List.take_length
  refine zo ?_
  rw [g1]
  refine zL 4 rfl ?_
  (repeat apply za); refine pwn ?_; intros
  clear hk hc g1
  repeat apply za
  refine zh (zr (fun s' : Nat × Day => s'.1 ≤ b.toNat ∧ (0 < b → G s'.2) ∧ jI step (b.toNat - s'.1) s'.2 = jI step b.toNat d ∧ s'.1 + x5 step (b.toNat - s'.1) s'.2 = x5 step b.toNat d) (fun (k, e) => [(2, I b), (3, .ptr nx v0 0), (6, .ptr (nx + 2) v2 0), (8, .ptr (nx + 3) v3 0), (11, I k)]) (fun (k, e) => [.cells v0 25 (zt x), .cells v1 66 [L d], .cells v2 66 [yH], .cells v3 66 [L e]]) (fun s' => b.toNat - s'.1) (0, d) [.dead] ⟨by simp, hd', by simp, by simp⟩ (by simp) (by simp) ?_)
  rintro ⟨k, e⟩ ⟨hk, hG, hi, hco⟩
  simp only at hk hG hi hco ⊢
  rw [← hi]
  (repeat apply za); refine pwn ?_; intros
  repeat apply za
  refine zn rfl (fun hc => ?_) (fun hc => ?_)
  ·simp at hc
   obtain ⟨mk, ma, mb, mi, mj, least, hB, hM⟩ := hs e (hG (by omega))
   obtain ⟨n, hn⟩ : ∃ n, b.toNat - k = n + 1 := ⟨b.toNat - k - 1, by omega⟩
   refine ze (za (zh ?_))
   repeat apply za
   refine pwn ?_
   refine pwc hB ?_
   intro v5
   intros
   (repeat apply za); refine pwn ?_; intros
   cases hst : step e with
   | none =>
    have hr : jI step (b.toNat - k) e = e := by rw [hn]; unfold jI; rw [hst]
    have hr2 : x5 step (b.toNat - k) e = 0 := by rw [hn]; unfold x5; rw [hst]
    rw [hr2] at hco
    rw [hr, ← hco, if_pos (by omega)]
    repeat apply za
    refine zi rfl ?_
    (repeat apply za); refine pwn ?_; intros
    repeat apply za
    exact zb (zg hd (by simp; rfl) (by simp [zj]))
   | some e2 =>
    have hr : jI step (b.toNat - k) e = jI step (b.toNat - (k + 1)) e2 := by rw [hn, show b.toNat - (k + 1) = n by omega]; conv => lhs; unfold jI; rw [hst]
    have hr2 : x5 step (b.toNat - k) e = x5 step (b.toNat - (k + 1)) e2 + 1 := by rw [hn, show b.toNat - (k + 1) = n by omega]; conv => lhs; unfold x5; rw [hst]
    obtain ⟨hM1, hG2⟩ := hM e2 hst
    repeat apply za
    refine zk rfl ?_
    refine ze ?_
    repeat apply za
    refine pwn ?_
    refine pwc hM1 ?_
    intros
    (repeat apply za); refine pwn ?_; intros
    exact zm (k + 1, e2) [_] ⟨by simp; omega, fun _ => hG2, hr.symm, by simp only; omega⟩ (by simp; omega) (by simp [wrN k (by omega)]) rfl (by simp; rfl)
  ·simp at hc
   have hz : b.toNat - k = 0 := by omega
   rw [hz] at hco ⊢
   have hco' : x5 step b.toNat d = k := by rw [← hco]; rfl
   rw [hco', if_neg (by omega)]
   refine zo ?_
   (repeat apply za); refine pwn ?_; intros
   repeat apply za
   exact zb (zg hd (by simp; rfl) (by simp [zj, jI]))
open Go Go.Proofs
structure Pc where
 t : Nat
 f : Nat
 o : Nat
 b : Bool
 deriving DecidableEq
def pc0 : Pc := ⟨0, 0, 0, false⟩
abbrev pcL (p : Pc) : List PV := [I p.t, I p.f, I p.o, B p.b]
structure Rw5 where
 a : Pc
 b : Pc
 c : Pc
 d : Pc
 e : Pc
abbrev rwL (r : Rw5) : List PV := [I r.a.t, I r.a.f, I r.a.o, B r.a.b, I r.b.t, I r.b.f, I r.b.o, B r.b.b, I r.c.t, I r.c.f, I r.c.o, B r.c.b, I r.d.t, I r.d.f, I r.d.o, B r.d.b, I r.e.t, I r.e.f, I r.e.o, B r.e.b]
def Rw5.l (r : Rw5) : List Pc := [r.a, r.b, r.c, r.d, r.e]
def rw0 : Rw5 := ⟨pc0, pc0, pc0, pc0, pc0⟩
structure Mv where
 k : Nat
 a : Nat
 b : Nat
 i : Nat
 j : Nat
 deriving DecidableEq
abbrev mvL (m : Mv) : List PV := [I m.k, I m.a, I m.b, I m.i, I m.j]
abbrev vwL (m : Mv) (la lb : Nat) : List PV := [I m.k, I m.a, I m.b, I m.i, I m.j, I la, I lb]
def jS (m : Mv) (la lb : Nat) : Bool :=
 if m.k = 0 then decide (m.b = m.a ∧ m.i < m.j ∧ m.j < la)
 else if m.k = 1 then decide (m.i < la ∧ (if m.a = m.b then m.j < lb else m.j ≤ lb))
 else if m.k = 2 then decide (¬ (m.b < m.a ∨ m.a = m.b ∧ m.j ≤ m.i) ∧ m.i < la ∧ m.j < lb)
 else decide (m.a < m.b ∧ m.i ≤ la ∧ m.j ≤ lb)
def qW (m : Mv) (la lb : Nat) : Rw5 × Rw5 :=
 if m.k = 0 then (⟨⟨m.a, 0, m.i, false⟩, ⟨m.a, m.i, m.j + 1, true⟩, ⟨m.a, m.j + 1, la, false⟩, pc0, pc0⟩, rw0)
 else if m.k = 1 then
  (if m.a ≠ m.b then (⟨⟨m.a, 0, m.i, false⟩, ⟨m.a, m.i + 1, la, false⟩, pc0, pc0, pc0⟩, ⟨⟨m.b, 0, m.j, false⟩, ⟨m.a, m.i, m.i + 1, false⟩, ⟨m.b, m.j, lb, false⟩, pc0, pc0⟩)
  else if m.i < m.j then (⟨⟨m.a, 0, m.i, false⟩, ⟨m.a, m.i + 1, m.j + 1, false⟩, ⟨m.a, m.i, m.i + 1, false⟩, ⟨m.a, m.j + 1, la, false⟩, pc0⟩, rw0)
  else (⟨⟨m.a, 0, m.j, false⟩, ⟨m.a, m.i, m.i + 1, false⟩, ⟨m.a, m.j, m.i, false⟩, ⟨m.a, m.i + 1, la, false⟩, pc0⟩, rw0))
 else if m.k = 2 then
  (if m.a = m.b then (⟨⟨m.a, 0, m.i, false⟩, ⟨m.b, m.j, m.j + 1, false⟩, ⟨m.a, m.i + 1, m.j, false⟩, ⟨m.a, m.i, m.i + 1, false⟩, ⟨m.a, m.j + 1, la, false⟩⟩, rw0)
  else (⟨⟨m.a, 0, m.i, false⟩, ⟨m.b, m.j, m.j + 1, false⟩, ⟨m.a, m.i + 1, la, false⟩, pc0, pc0⟩, ⟨⟨m.b, 0, m.j, false⟩, ⟨m.a, m.i, m.i + 1, false⟩, ⟨m.b, m.j + 1, lb, false⟩, pc0, pc0⟩))
 else (⟨⟨m.a, 0, m.i, false⟩, ⟨m.b, m.j, lb, false⟩, pc0, pc0, pc0⟩, ⟨⟨m.b, 0, m.j, false⟩, ⟨m.a, m.i, la, false⟩, pc0, pc0, pc0⟩)
set_option maxRecDepth 20000 in
theorem Zij (m : Mv) (la lb : Nat) (hk : m.k = 0) : Pure Tryz.prog 231 [.agg (vwL m la lb)] (B (jS m la lb)) := by
 unfold jS
 rw [if_pos hk]
 refine pwe Tryz.func231 Tryz.ntmps231 Tryz.results231 fun S nx hd => ?_
 repeat apply za
 refine pwn ?_
 intro v0
 by_cases h1 : m.b = m.a
 case neg =>
  have h1' : ¬ (m.b : Int) = m.a := by omega
  repeat apply za
  refine pwN [(7, 10), (13, 16), (22, 25)] (jn2 h1' zp) ?_
  intros
  repeat apply za
  exact zb (zg hd rfl (by simp [h1, zj]))
 have h1' : (m.b : Int) = m.a := by omega
 by_cases h2 : m.i < m.j
 case neg =>
  have h2' : ¬ (m.i : Int) < m.j := by omega
  repeat apply za
  refine pwN [(7, 10), (13, 16), (22, 25)] (jn3 h1' h2 zp) ?_
  intros
  repeat apply za
  exact zb (zg hd rfl (by simp [h2, zj]))
 by_cases h3 : m.j < la
 case neg =>
  repeat apply za
  refine pwN [(7, 10), (13, 16), (22, 25)] (jn4 h1' h2 h3 zp) ?_
  intros
  repeat apply za
  exact zb (zg hd rfl (by simp [h3, zj]))
 repeat apply za
 refine pwN [(7, 10), (13, 16), (22, 25)] (jn3 h1' h2 h3) ?_
 intros
 repeat apply za
 exact zb (zg hd rfl (by simp [h1, h2, h3, zj]))
set_option maxRecDepth 20000 in
theorem Zik (m : Mv) (la lb : Nat) (hk : m.k = 1) (hlb : lb ≤ 1048576) : Pure Tryz.prog 233 [.agg (vwL m la lb)] (B (jS m la lb)) := by
 unfold jS
 rw [if_neg (by omega), if_pos hk]
 refine pwe Tryz.func233 Tryz.ntmps233 Tryz.results233 fun S nx hd => ?_
 repeat apply za
 refine pwn ?_
 intro v0
 (repeat apply za); refine pwn ?_; intros
 refine za ?_
 refine zX (nx := nx) (fun z : Int => (m.j : Int) ≤ z ↔ (if m.a = m.b then m.j < lb else m.j ≤ lb)) (fun z => [(1, .ptr nx v0 0), (3, I z)]) (fun _ => S) (fun _ => [.cells v0 265 (vwL m la lb)]) ?_ ?_
 ·by_cases h1 : m.a = m.b
  ·have h1' : (m.a : Int) = m.b := by omega
   have w1 : IntKind.i64.wrap ((lb : Int) - 1) = (lb : Int) - 1 := wr _ (by omega) (by omega)
   repeat apply za
   refine pwN [] h1' ?_
   intros
   repeat apply za
   refine zi rfl ?_
   repeat apply za
   refine pwN [] w1 ?_
   intros
   exact zy ((lb : Int) - 1) [] (by rw [if_pos h1]; omega) (by simp) rfl (by simp)
  ·have h1' : ¬ (m.a : Int) = m.b := by omega
   repeat apply za
   refine pwN [] h1' ?_
   intros
   repeat apply za
   refine zk rfl ?_
   refine ze ?_
   exact zy (lb : Int) [] (by rw [if_neg h1]; omega) (by simp) rfl (by simp)
 ·intro z hz
  by_cases h2 : m.i < la
  case neg =>
   repeat apply za
   refine pwN [(4, 19), (12, 27), (18, 33)] (jn2 h2 zp) ?_
   intros
   repeat apply za
   exact zb (zg hd rfl (by simp [h2, zj]))
  by_cases h3 : (m.j : Int) ≤ z
  case neg =>
   have h4 := (not_congr hz).1 h3
   repeat apply za
   refine pwN [(4, 19), (12, 27), (18, 33)] (jn2 h2 h3) ?_
   intros
   repeat apply za
   exact zb (zg hd rfl (by simp [h2, h4, zj]))
  have h4 := hz.1 h3
  repeat apply za
  refine pwN [(4, 19), (12, 27), (18, 33)] (jn2 h2 h3) ?_
  intros
  repeat apply za
  exact zb (zg hd rfl (by simp [h2, h4, zj]))
set_option maxRecDepth 20000 in
theorem Zil (m : Mv) (la lb : Nat) (hk : m.k = 2) : Pure Tryz.prog 235 [.agg (vwL m la lb)] (B (jS m la lb)) := by
 unfold jS
 rw [if_neg (by omega), if_neg (by omega), if_pos hk]
 refine pwe Tryz.func235 Tryz.ntmps235 Tryz.results235 fun S nx hd => ?_
 repeat apply za
 refine pwn ?_
 intro v0
 have rest : ∀ (P : Prop), (m.i < la → m.j < lb → P) → (¬ (m.i < la ∧ m.j < lb) → P) → P := fun P a b => by
  by_cases q : m.i < la ∧ m.j < lb
  ·exact a q.1 q.2
  ·exact b q
 by_cases h1 : m.b < m.a
 ·repeat apply za
  refine pwN [(7, 10), (15, 18)] (jn2 h1 zp) ?_
  intros
  repeat apply za
  refine zi rfl ?_
  (repeat apply za); refine pwn ?_; intros
  repeat apply za
  exact zb (zg hd rfl (by simp [h1, zj]))
 by_cases h2 : m.a = m.b
 ·have h2' : (m.a : Int) = m.b := by omega
  by_cases h3 : m.j ≤ m.i
  ·have h1' : ¬ m.b < m.b := by omega
   repeat apply za
   refine pwN [(7, 10), (15, 18)] (jn3 h2' h1' h3) ?_
   intros
   repeat apply za
   refine zi rfl ?_
   (repeat apply za); refine pwn ?_; intros
   repeat apply za
   exact zb (zg hd rfl (by simp [h2, h3, zj]))
  ·have h1' : ¬ m.b < m.b := by omega
   have h0 : ¬ (m.b < m.a ∨ m.a = m.b ∧ m.j ≤ m.i) := by omega
   repeat apply za
   refine pwN [(7, 10), (15, 18)] (jn3 h2' h1' h3) ?_
   intros
   repeat apply za
   refine zk rfl ?_
   refine ze ?_
   by_cases h4 : m.i < la
   case neg =>
    repeat apply za
    refine pwN [(4, 32), (12, 40), (18, 46)] (jn2 h4 zp) ?_
    intros
    repeat apply za
    exact zb (zg hd rfl (by simp [h4, zj]))
   by_cases h5 : m.j < lb
   case neg =>
    repeat apply za
    refine pwN [(4, 32), (12, 40), (18, 46)] (jn2 h4 h5) ?_
    intros
    repeat apply za
    exact zb (zg hd rfl (by simp [h5, zj]))
   repeat apply za
   refine pwN [(4, 32), (12, 40), (18, 46)] (jn2 h4 h5) ?_
   intros
   repeat apply za
   exact zb (zg hd rfl (by simp [h0, h4, h5, zj]))
 ·have h2' : ¬ (m.a : Int) = m.b := by omega
  have h0 : ¬ (m.b < m.a ∨ m.a = m.b ∧ m.j ≤ m.i) := by omega
  repeat apply za
  refine pwN [(7, 10), (15, 18)] (jn3 h1 h2' zp) ?_
  intros
  repeat apply za
  refine zk rfl ?_
  refine ze ?_
  by_cases h4 : m.i < la
  case neg =>
   repeat apply za
   refine pwN [(4, 32), (12, 40), (18, 46)] (jn2 h4 zp) ?_
   intros
   repeat apply za
   exact zb (zg hd rfl (by simp [h4, zj]))
  by_cases h5 : m.j < lb
  case neg =>
   repeat apply za
   refine pwN [(4, 32), (12, 40), (18, 46)] (jn2 h4 h5) ?_
   intros
   repeat apply za
   exact zb (zg hd rfl (by simp [h5, zj]))
  repeat apply za
  refine pwN [(4, 32), (12, 40), (18, 46)] (jn2 h4 h5) ?_
  intros
  repeat apply za
  exact zb (zg hd rfl (by simp [h0, h4, h5, zj]))
set_option maxRecDepth 20000 in
theorem Zim (m : Mv) (la lb : Nat) (hk : 3 ≤ m.k) : Pure Tryz.prog 237 [.agg (vwL m la lb)] (B (jS m la lb)) := by
 unfold jS
 rw [if_neg (by omega), if_neg (by omega), if_neg (by omega)]
 refine pwe Tryz.func237 Tryz.ntmps237 Tryz.results237 fun S nx hd => ?_
 repeat apply za
 refine pwn ?_
 intro v0
 by_cases h1 : m.a < m.b
 case neg =>
  repeat apply za
  refine pwN [(7, 10), (13, 16), (21, 24), (27, 30)] (jn2 h1 zp) ?_
  intros
  repeat apply za
  exact zb (zg hd rfl (by simp [h1, zj]))
 by_cases h2 : m.i ≤ la
 case neg =>
  repeat apply za
  refine pwN [(7, 10), (13, 16), (21, 24), (27, 30)] (jn3 h1 h2 zp) ?_
  intros
  repeat apply za
  exact zb (zg hd rfl (by simp [h2, zj]))
 by_cases h3 : m.j ≤ lb
 case neg =>
  repeat apply za
  refine pwN [(7, 10), (13, 16), (21, 24), (27, 30)] (jn3 h1 h2 h3) ?_
  intros
  repeat apply za
  exact zb (zg hd rfl (by simp [h3, zj]))
 repeat apply za
 refine pwN [(7, 10), (13, 16), (21, 24), (27, 30)] (jn3 h1 h2 h3) ?_
 intros
 repeat apply za
 exact zb (zg hd rfl (by simp [h1, h2, h3, zj]))
set_option maxRecDepth 20000 in
theorem Zin (m : Mv) (la lb : Nat) (hk : m.k = 0) (hi : m.i ≤ 1048576) (hj : m.j ≤ 1048576) : Pure Tryz.prog 232 [.agg (vwL m la lb)] (.tup [.agg (rwL (qW m la lb).1), .agg (rwL (qW m la lb).2)]) := by
 have wi := wrN m.i (by omega)
 have wj := wrN m.j (by omega)
 unfold qW
 rw [if_pos hk]
 refine pwe Tryz.func232 Tryz.ntmps232 Tryz.results232 fun S nx hd => ?_
 repeat apply za
 refine pwn ?_
 intro v0 v1 v2
 repeat apply za
 refine pwY (some [nx]) (Row.pures [0, 1, 2, 3, 4, 5, 6, 7, 8, 9, 10, 11] .done) mixed trivial ?_
 intros
 repeat apply za
 refine pwN [] wj ?_
 intros
 repeat apply za
 exact zb (zg hd (by simp; rfl) (by simp [zj, rw0, pc0]))
set_option maxRecDepth 20000 in
theorem Zio (m : Mv) (la lb : Nat) (hk : 3 ≤ m.k) : Pure Tryz.prog 238 [.agg (vwL m la lb)] (.tup [.agg (rwL (qW m la lb).1), .agg (rwL (qW m la lb).2)]) := by
 unfold qW
 rw [if_neg (by omega), if_neg (by omega), if_neg (by omega)]
 refine pwe Tryz.func238 Tryz.ntmps238 Tryz.results238 fun S nx hd => ?_
 repeat apply za
 refine pwn ?_
 intro v0 v1 v2
 repeat apply za
 refine pwY (some [nx]) (Row.pures [0, 1, 2, 3, 4, 5, 6, 7, 8, 9, 10, 11, 12, 13, 14, 15] .done) mixed trivial ?_
 intros
 repeat apply za
 refine pwY (some [nx]) (Row.pures [0, 1, 2, 3, 4, 5, 6, 7, 8, 9, 10, 11, 12, 13, 14, 15, 16, 17] (.alt 18 (.alt 19 (.done) .stop) .stop)) mixed trivial ?_
 intros
 repeat apply za
 exact zb (zg hd (by simp; rfl) (by simp [zj, rw0, pc0]))
set_option maxRecDepth 20000 in
theorem Zip (m : Mv) (la lb : Nat) (hk : m.k = 1) (hi : m.i ≤ 1048576) (hj : m.j ≤ 1048576) : Pure Tryz.prog 234 [.agg (vwL m la lb)] (.tup [.agg (rwL (qW m la lb).1), .agg (rwL (qW m la lb).2)]) := by
 have wi := wrN m.i (by omega)
 have wj := wrN m.j (by omega)
 unfold qW
 rw [if_neg (by omega), if_pos hk]
 refine pwe Tryz.func234 Tryz.ntmps234 Tryz.results234 fun S nx hd => ?_
 repeat apply za
 refine pwn ?_
 intro v0 v1 v2
 repeat apply za
 refine pwY (some [nx]) (Row.pures [0, 1, 2, 3, 4, 5, 6, 7, 8, 9, 10, 11, 12, 13, 14, 15] .done) mixed trivial ?_
 intros
 repeat apply za
 refine pwN [] wi ?_
 intro v3
 refine za (zh ?_)
 by_cases h1 : m.a = m.b
 case neg =>
  have h1' : ¬ (m.a : Int) = m.b := by omega
  rw [if_pos h1]
  repeat apply za
  refine pwN [] h1' ?_
  intros
  repeat apply za
  refine zi rfl ?_
  repeat apply za
  refine pwY (some [nx, nx + 3]) (Row.pures [0, 1, 2, 3, 4, 5, 6, 7, 8, 9, 10, 11, 12, 13, 14, 15, 16, 17, 18, 19] (.alt 20 (.alt 21 (.done) .stop) .stop)) mixed wi ?_
  intros
  repeat apply za
  exact zb (zg hd (by simp; rfl) (by simp [zj, rw0, pc0]))
 have h1' : (m.a : Int) = m.b := by omega
 rw [if_neg (by simpa using h1)]
 repeat apply za
 refine pwN [] h1' ?_
 intros
 repeat apply za
 refine zk rfl ?_
 by_cases h2 : m.i < m.j
 ·rw [if_pos h2]
  repeat apply za
  refine pwN [] h2 ?_
  intros
  repeat apply za
  refine zi rfl ?_
  repeat apply za
  refine pwN [] (jn2 wi wj) ?_
  intros
  repeat apply za
  exact zb (zg hd (by simp; rfl) (by simp [zj, rw0, pc0, h1]))
 ·rw [if_neg h2]
  repeat apply za
  refine pwN [] h2 ?_
  intros
  repeat apply za
  refine zk rfl ?_
  refine ze ?_
  repeat apply za
  refine pwN [] (jn2 wi wj) ?_
  intros
  repeat apply za
  exact zb (zg hd (by simp; rfl) (by simp [zj, rw0, pc0, h1]))
set_option maxRecDepth 20000 in
theorem Ziq (m : Mv) (la lb : Nat) (hk : m.k = 2) (hi : m.i ≤ 1048576) (hj : m.j ≤ 1048576) : Pure Tryz.prog 236 [.agg (vwL m la lb)] (.tup [.agg (rwL (qW m la lb).1), .agg (rwL (qW m la lb).2)]) := by
 have wi := wrN m.i (by omega)
 have wj := wrN m.j (by omega)
 unfold qW
 rw [if_neg (by omega), if_neg (by omega), if_pos hk]
 refine pwe Tryz.func236 Tryz.ntmps236 Tryz.results236 fun S nx hd => ?_
 repeat apply za
 refine pwn ?_
 intro v0 v1 v2
 repeat apply za
 refine pwY (some [nx]) (Row.pures [0, 1, 2, 3, 4, 5, 6, 7, 8, 9, 10, 11, 12, 13, 14, 15] .done) mixed trivial ?_
 intros
 repeat apply za
 refine pwN [] (jn2 wi wj) ?_
 intro v3 v4
 by_cases h1 : m.a = m.b
 ·have h1' : (m.a : Int) = m.b := by omega
  rw [if_pos h1]
  repeat apply za
  refine pwN [] h1' ?_
  intros
  repeat apply za
  refine zi rfl ?_
  repeat apply za
  refine pwN [] (jn2 wi wj) ?_
  intros
  repeat apply za
  exact zb (zg hd (by simp; rfl) (by simp [zj, rw0, pc0, h1]))
 ·have h1' : ¬ (m.a : Int) = m.b := by omega
  rw [if_neg h1]
  repeat apply za
  refine pwN [] h1' ?_
  intros
  repeat apply za
  refine zk rfl ?_
  refine ze ?_
  repeat apply za
  refine pwY (some [nx, nx + 3, nx + 4]) (Row.pures [0, 1, 2, 3, 4, 5, 6, 7, 8, 9, 10, 11, 12, 13, 14, 15, 16, 17, 18, 19, 20, 21] (.alt 22 (.alt 23 (.done) .stop) .stop)) mixed (jn2 wi wj) ?_
  intros
  repeat apply za
  exact zb (zg hd (by simp; rfl) (by simp [zj, rw0, pc0]))
open Go Go.Proofs
abbrev QE : List PV := [.fn (.func 231) [] [], .fn (.func 232) [] [], .fn (.func 233) [] [], .fn (.func 234) [] [], .fn (.func 235) [] [], .fn (.func 236) [] [], .fn (.func 237) [] [], .fn (.func 238) [] []]
set_option maxRecDepth 20000 in
theorem Za8 : Pure Tryz.prog 197 [] (.agg QE) := by
 refine pwe Tryz.func197 Tryz.ntmps197 Tryz.results197 fun S nx hd => ?_
 repeat apply za
 refine pwn ?_
 intro v0
 (repeat apply za); refine pwn ?_; intros
 repeat apply za
 exact zb (zg hd (by simp; rfl) rfl)
def tlen (d : Day) (t : Nat) : Nat := (d.getD t []).length
def ji (d : Day) (m : Mv) : Bool := decide (m.k ≤ 3 ∧ m.a < d.length ∧ m.b < d.length) && jS m (tlen d m.a) (tlen d m.b)
def zJ (d : Day) (m : Mv) : Rw5 × Rw5 := qW m (tlen d m.a) (tlen d m.b)
def wG (d : Day) (m : Mv) : Rw5 × Rw5 × Bool := if ji d m = true then ((zJ d m).1, (zJ d m).2, true) else (rw0, rw0, false)
set_option maxRecDepth 20000 in
set_option maxHeartbeats 1600000 in
theorem Xu (d : Day) (m : Mv) (hdn : d.length ≤ 1048576) (hdt : ∀ t ∈ d, t.length ≤ 1048576) (hk : m.k ≤ 3) (ha : m.a < d.length) (hb : m.b < d.length) (hi : m.i ≤ 1048576) (hj : m.j ≤ 1048576) : Pure Tryz.prog 155 [.agg [L d], .agg (mvL m)]
  (.tup [.agg (rwL (wG d m).1), .agg (rwL (wG d m).2.1), B (wG d m).2.2]) := by
 obtain ⟨ta, xa, a1, -, -, a0⟩ := el1 rfl d m.a ha
 obtain ⟨tb, xb, b1, -, -, b0⟩ := el1 rfl d m.b hb
 have ha1 : 1 ≤ d.length - m.a := by omega
 have hb1 : 1 ≤ d.length - m.b := by omega
 have la : tlen d m.a = ta.length := by unfold tlen; rw [List.getD_eq_getElem?_getD, a1]; rfl
 have lb : tlen d m.b = tb.length := by unfold tlen; rw [List.getD_eq_getElem?_getD, b1]; rfl
 have hbl := hdt tb (List.mem_of_getElem? b1)
 have hmay : ji d m = jS m ta.length tb.length := by unfold ji; rw [la, lb, decide_eq_true ⟨hk, ha, hb⟩]; rfl
 have hcut : zJ d m = qW m ta.length tb.length := by unfold zJ; rw [la, lb]
 unfold wG
 rw [hmay, hcut]
 clear hmay hcut la lb
 have call : ∀ f g : Nat, m.k = m.k → True := fun _ _ _ => trivial
 clear call
 have g1 : ¬ (m.k : Int) < 0 := by omega
 have g2 : ¬ (3 : Int) < m.k := by omega
 have g3 : ¬ (m.a : Int) < 0 := by omega
 have g4 : ¬ d.length ≤ m.a := by omega
 have g5 : ¬ (m.b : Int) < 0 := by omega
 have g6 : ¬ d.length ≤ m.b := by omega
 refine pwe Tryz.func155 Tryz.ntmps155 Tryz.results155 fun S nx hd => ?_
 repeat apply za
 refine pwn ?_
 intro v0 v1 v2 v3
 (repeat apply za); refine pwn ?_; intros
 repeat apply za
 refine pwN [(3, 18), (8, 23), (13, 28), (19, 34), (24, 39)] (jn6 g1 g2 g3 g4 g5 g6) ?_
 intros
 repeat apply za
 refine zk rfl ?_
 refine ze ?_
 repeat apply za
 refine pwY (some [nx, nx + 1]) (Row.pures [0, 1, 2, 3, 4, 5, 6, 7, 8, 9, 10, 11, 12, 13, 14, 15, 16, 17] (.alt 18 (.alt 19 (.done) .stop) .stop)) mixed (jn6 a0 b0 ha hb ha1 hb1) ?_
 intro v4
 obtain ⟨mf, cf, hmf, hcf, hidx⟩ : ∃ mf cf : Nat, Pure Tryz.prog mf [.agg (vwL m ta.length tb.length)] (B (jS m ta.length tb.length)) ∧ Pure Tryz.prog cf [.agg (vwL m ta.length tb.length)] (.tup [.agg (rwL (qW m ta.length tb.length).1), .agg (rwL (qW m ta.length tb.length).2)]) ∧
   ∃ k : Nat, (k : Int) = m.k ∧ k < 4 ∧ (QE.drop (k * 2)).take 2 = [.fn (.func mf) [] [], .fn (.func cf) [] []] := by
  have h4 : m.k = 0 ∨ m.k = 1 ∨ m.k = 2 ∨ m.k = 3 := by omega
  rcases h4 with h | h | h | h
  ·exact ⟨_, _, Zij m _ _ h, Zin m _ _ h hi hj, 0, by omega, by omega, rfl⟩
  ·exact ⟨_, _, Zik m _ _ h hbl, Zip m _ _ h hi hj, 1, by omega, by omega, rfl⟩
  ·exact ⟨_, _, Zil m _ _ h, Ziq m _ _ h hi hj, 2, by omega, by omega, rfl⟩
  ·exact ⟨_, _, Zim m _ _ (by omega), Zio m _ _ (by omega), 3, by omega, by omega, rfl⟩
 obtain ⟨k, hkk, hk4, hkt⟩ := hidx
 obtain rfl : k = m.k := by omega
 have hk4' : (m.k : Int) < 4 := by omega
 have hk5 : 2 ≤ 8 - m.k * 2 := by omega
 generalize hmz : jS m ta.length tb.length = mz at *
 generalize hcz : qW m ta.length tb.length = cz at *
 obtain ⟨r1, r2⟩ := cz
 generalize hkl : QE = kl at hkt
 have hkinds := Za8
 rw [hkl] at hkinds
 have hkll : kl.length = 8 := by rw [← hkl]; rfl
 clear hkl
 repeat apply za
 refine pwY (some [nx + 1]) (Row.pures [0, 1, 2, 3] (.alt 4 (.alt 5 (.done) .stop) .stop)) mixed (jn5 hkt hk4 hk4' hkll hk5) ?_
 refine pwP (hkinds) (jn5 hkt hk4 hk4' hkll hk5) ?_
 intro v5
 intros
 repeat apply za
 refine pwn ?_
 refine pwc hmf ?_
 intros
 cases mz with
 | false =>
  repeat apply za
  refine zi rfl ?_
  (repeat apply za); refine pwn ?_; intros
  repeat apply za
  exact zb (zg hd (by simp; rfl) (by simp [zj, rw0, pc0]))
 | true =>
  repeat apply za
  refine zk rfl ?_
  refine ze ?_
  repeat apply za
  refine pwn ?_
  refine pwc hcf ?_
  intro v6 v7
  intros
  repeat apply za
  refine pwY (some [nx + 6, nx + 7]) (Row.pures [0, 1] (.alt 2 (.alt 3 (Row.pures [4] .done) .stop) .stop)) mixed trivial ?_
  intros
  repeat apply za
  exact zb (zg hd (by simp; rfl) (by simp [zj]))
end Go.Proofs.YtaiplainginmaaaGreat.Pv
