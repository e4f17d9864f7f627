/- slices.SortFunc at rows of integers, its comparison a closure that is told by a contract; told of ghost objects. -/
import Derived.Test.YtafcjklojnhbnaaGreatGs
import Derived.Shelf.SlSortCmp.NoneTotal
import Derived.Lib.QuietBelow
namespace Go.Proofs.YtafcjklojnhbnaaGreat.Pv
open Go Go.Shelf Go.RowKit Go.Lib Go.Sort

/-! ### Values of which nothing can be written -/

def Se : Store := fun _ => .dead
def Ce : Ctx := ⟨fun _ => none, 0, 0⟩
theorem simE (w : World) : Sim Ce Se w :=
  ⟨fun _ h => absurd rfl h, (fun _ _ h => by cases h), fun _ _ _ _ _ h => absurd rfl h, (fun _ _ _ _ h => by cases h), (fun _ _ _ h => by cases h)⟩
theorem notMe (b : Nat) : ¬ Ce.M Se b := by rintro ⟨o, k, h, _⟩; exact h rfl

inductive Fz : PV → Prop where
  | junk : Fz .junk
  | sc (v : Value) : Fz (.sc v)
  | agg {cs : List PV} (h : ∀ p ∈ cs, Fz p) : Fz (.agg cs)
  | lst {n : Nat} {cs : List PV} (h : ∀ p ∈ cs, Fz p) : Fz (.lst n cs)
  | ip {cs : List PV} (h : ∀ p ∈ cs, Fz p) : Fz (.ip cs)

theorem rel_fz {C : Ctx} {S : Store} {w : World} {p : PV} {v : Value} (h : Rel C S w p v) : Fz p → Rel Ce Se w p v := by
  induction h with
  | junk v => intro _; exact .junk v
  | sc v => intro _; exact .sc v
  | agg hl h1 _ ih => intro hz; cases hz with | agg hz => exact .agg hl h1 fun i c v hc hv => ih i c v hc hv (hz c (List.mem_of_getElem? hc))
  | tup hl _ ih => intro hz; cases hz
  | lst0 => intro _; exact .lst0
  | lst1 hn hm hb hM hs h1 _ ih => intro hz; cases hz with | lst hz => exact .lst1 hn hm hb (notMe _) hs h1 fun i c v hc hv => ih i c v hc hv (hz c (List.mem_of_getElem? hc))
  | ip hb hM hs h1 _ ih => intro hz; cases hz with | ip hz => exact .ip hb (notMe _) hs h1 fun i c v hc hv => ih i c v hc hv (hz c (List.mem_of_getElem? hc))
  | ptr _ _ _ => intro hz; cases hz
  | sl _ _ _ => intro hz; cases hz
  | fn _ _ _ _ _ _ => intro hz; cases hz
  | ifc _ _ => intro hz; cases hz
  | mp _ _ _ => intro hz; cases hz

/-- Where nothing may be written, a step only draws and lays. -/
theorem grown_of_step {W w' : World} {C' : Ctx} {S' : Store} (h : Step Ce Se W C' S' w') : ∃ q os', w' = grow (W.drewN q) os' := by
  obtain ⟨p, hp⟩ := regrown_of_below (w := W) (w' := w') ⟨h.os, h.tape.1, h.output, h.size, fun b hb => (h.blocks b hb (notMe b)).1⟩
  have hd := h.tape.2
  rw [hp] at hd
  refine ⟨p.d - W.drawn, p.os, ?_⟩
  rw [hp]
  have hd' : W.drawn ≤ p.d := hd
  have e : W.drawn + (p.d - W.drawn) = p.d := by omega
  unfold grow redrawn World.drewN
  rw [e]

section
variable {P : Program} {α : Type} [Inhabited α] {val : α → Int}

theorem rel_I {C : Ctx} {S : Store} {w : World} {x : Int} {v : Value} (h : Rel C S w (I x) v) : v = .int .i64 x := by cases h; rfl

abbrev encV (val : α → Int) (x : α) : Value := .int .i64 (val x)

theorem cmp_lays {g : Nat} {caps : List PV} {cf : α → α → Int} (hg : ∀ x y : α, Pure P g (I (val x) :: I (val y) :: caps) (I (cf x y))) (cb : Array Value) (hl : caps.length = cb.size) {w : World} {blk size : Nat}
    (hr : ∀ (m : Nat) (os : Array Obj) (dk : Array α), dk.size = size → ∀ (i : Nat) (c : PV) (v : Value), caps[i]? = some c → cb[i]? = some v → Rel Ce Se (sortWorld (encV val) w blk 0 m dk os) c v) : CmpLays1 P g cb (encV val) cf blk 0 size w := by
  intro m os dk hs x y
  refine ((hg x y Se).2 Ce (sortWorld (encV val) w blk 0 m dk os) (#[encV val x, encV val y] ++ cb) (simE _) (by simp; omega) ?_).mono ?_
  · intro i c v hc hv
    match i with
    | 0 => rw [Array.getElem?_append_left (by simp)] at hv; cases hc; cases hv; exact .sc _
    | 1 => rw [Array.getElem?_append_left (by simp)] at hv; cases hc; cases hv; exact .sc _
    | i + 2 =>
      simp only [List.getElem?_cons_succ] at hc
      rw [Array.getElem?_append_right (by simp)] at hv
      exact hr m os dk hs i c v hc (by simpa using hv)
  · rintro e w' ⟨p, v, S', C', rfl, ⟨rfl, rfl⟩, hrel, _, hst⟩
    cases hrel
    exact ⟨rfl, grown_of_step hst⟩

theorem turn_row {C : Ctx} {S : Store} {w : World} (hS : Sim C S w) {id ver e b k : Nat} {cs0 : List PV} {c : Array Value} (hid : S id = .cells ver e cs0) (g1 : C.loc id = some (b, k)) (g2 : w.heap[b]? = some (.cells c e (0, 0))) (g3 : c.size = k) (dk : Array α) (hdk : dk.size ≤ k) (q : Nat) (os : Array Obj) :
    Sim (C.at id ver (C.loc id)) (S.set id (.cells ver e (dk.toList.map fun x => I (val x)))) (sortWorld (encV val) w b 0 q dk os) ∧
    Step C S w (C.at id ver (C.loc id)) (S.set id (.cells ver e (dk.toList.map fun x => I (val x)))) (sortWorld (encV val) w b 0 q dk os) := by
  have hb : b < w.heap.size := lt_of_heap g2
  have hh : (sortWorld (encV val) w b 0 q dk os).heap[b]? = some (.cells (putCells (encV val) 0 dk c) e (0, 0)) := by
    unfold sortWorld
    rw [heap_grow_old _ _ (by simpa using hb)]
    simp [putRow, mapBlock, Sort.ahead, Array.getElem?_modify, g2, onCells]
  have hgr : w.grownBy (sortWorld (encV val) w b 0 q dk os) (some b) := by
    refine ⟨rfl, rfl, rfl, by simp [sortWorld], fun j hj hne => ?_⟩
    unfold sortWorld
    rw [heap_grow_old _ _ (by simpa using hj)]
    have : b ≠ j := fun e => hne (by rw [e])
    simp [putRow, mapBlock, Sort.ahead, Array.getElem?_modify, this]
  have hcell : ∀ i, i < dk.size → ∀ v, (putCells (encV val) 0 dk c)[i]? = some v → v = encV val dk[i]! := by
    intro i hi v hv
    have hic : i < c.size := by omega
    simp [putCells, hi, hic] at hv
    rw [← hv, getElem!_pos dk i hi]
  refine hS.turn (l := C.loc id) (ver' := ver) (cs' := dk.toList.map fun x => I (val x)) hid (Nat.le_refl _) (fun _ => rfl) ⟨by rw [g1]; exact hgr, Nat.le_add_right _ _⟩
    (.inr ⟨b, k, _, g1, .inr (by rw [g1]; rfl), hh, by simp [putCells, g3], by simpa using hdk, fun i v hi hv => ?_, fun i p v hp hv => ?_⟩)
  · rw [hcell i (by simpa using hi) v hv]; rfl
  · have hi : i < dk.size := by have := (List.getElem?_eq_some_iff.1 hp).1; simpa using this
    rw [hcell i hi v hv]
    rw [List.getElem?_map, Array.getElem?_toList, Array.getElem?_eq_getElem hi] at hp
    simp only [Option.map_some, Option.some.injEq] at hp
    rw [← hp, getElem!_pos dk i hi]
    exact .sc _

/-- Where there is nothing to sort. -/
theorem sortF_none {ρ : Ren} (L : SlLaysF.n6 P ρ) (hE : Enters P (ρ.f 6)) {S : Store} {id ver : Nat} {f : PV} : Spec P (ρ.f 6) [.sl id ver 1 0 0, f] S (fun _ S' => S' = S) := by
  refine ⟨hE, ?_⟩
  intro C w vs hS hl hr
  obtain ⟨v0, v1, rfl⟩ : ∃ v0 v1, vs = #[v0, v1] := by
    match vs, hl with
    | ⟨[a, b]⟩, _ => exact ⟨a, b, rfl⟩
  have hv0 := hr 0 _ v0 rfl rfl
  cases hv0 with
  | sl h1 h2 h3 =>
    obtain ⟨a, cap, rfl, q1, q2, q3, q4⟩ := h1
    refine (AnyF.slices_SortFunc_none { L with } a cap _ w).mono ?_
    rintro e w' ⟨rfl, rfl⟩
    exact ⟨.junk, _, S, C, rfl, rfl, .junk _, hS, .refl _ _ _⟩

theorem sortF_ok {ρ : Ren} (L : SlLaysF.n6 P ρ) (hE : Enters P (ρ.f 6)) {S : Store} {id ver e : Nat} (zs : List α) (hid : S id = .cells ver e (zs.map fun x => I (val x))) (hn : zs.length ≤ 1048576)
    {g : Nat} (hG : Enters P g) {caps : List PV} (hz : ∀ p ∈ caps, Fz p) (cf : α → α → Int) (hO : SWO (ltOf cf)) (hT : ∀ x y, (ltOf cf) x y = false → (ltOf cf) y x = false → x = y)
    (hg : ∀ x y : α, Pure P g (I (val x) :: I (val y) :: caps) (I (cf x y))) :
    Spec P (ρ.f 6) [.sl id ver 1 0 zs.length, .fn (.func g) [] caps] S (fun _ S' => S' = S.set id (.cells ver e ((zs.mergeSort fun x y => !(ltOf cf) y x).map fun x => I (val x)))) := by
  refine ⟨hE, ?_⟩
  intro C w vs hS hl hr
  obtain ⟨v0, v1, rfl⟩ : ∃ v0 v1, vs = #[v0, v1] := by
    match vs, hl with
    | ⟨[a, b]⟩, _ => exact ⟨a, b, rfl⟩
  have hv0 := hr 0 _ v0 rfl rfl
  have hv1 := hr 1 _ v1 rfl rfl
  cases hv1 with
  | @fn _ _ _ fv cv hf hc hh' hcap =>
  obtain rfl : fv = #[] := by
    have : fv.size = 0 := by simpa using hf.symm
    exact Array.eq_empty_of_size_eq_zero this
  cases hv0 with
  | sl h1 h2 h3 =>
    obtain ⟨a, cap, rfl, q1, q2, q3, q4⟩ := h1
    by_cases h0 : zs = []
    · subst h0
      refine (AnyF.slices_SortFunc_none { L with } a cap _ w).mono ?_
      rintro e w' ⟨rfl, rfl⟩
      refine ⟨.junk, _, S, C, rfl, ?_, .junk _, hS, .refl _ _ _⟩
      funext i
      simp only [Store.set, List.mergeSort_nil]
      split
      · rename_i e; rw [e, hid]
      · rfl
    · have hpos : 0 < zs.length := List.length_pos_iff.2 h0
      rcases hS.cells id ver _ _ hid with ⟨hn', hnil⟩ | ⟨b, k, c, g1, g2, g3, g4, g5, g6⟩
      · simp at hnil; exact absurd hnil h0
      · have ha : a = some ⟨b, 0, none⟩ := by
          rcases (h3 ver (by rw [hid]; rfl)).2 rfl with ⟨z1, _⟩ | ⟨b', k', a', cap', z1, z2, z3, z4⟩
          · rw [g1] at z1; cases z1
          · rw [g1] at z1; cases z1; cases z2; exact (z3 rfl).1
        subst ha
        rw [List.length_map] at g4 g5
        have hcells : ∀ i (hi : i < zs.length), c[i]? = some (encV val zs[i]) := by
          intro i hi
          have hi' : i < c.size := by omega
          have e1 : (zs.map fun x => I (val x))[i]? = some (I (val zs[i])) := by simp [hi]
          have e2 : c[i]? = some c[i] := by simp
          rw [e2, rel_I (g6 i _ _ e1 e2)]
        have hH : Holds (encV val) w b 0 zs.toArray := by
          intro j hj
          have hj' : j < zs.length := by simpa using hj
          refine ⟨?_, by simp [World.frozen?, g2]⟩
          simp only [World.cell?, g2, Nat.zero_add, Option.isSome_none, Bool.false_eq_true, if_false]
          rw [hcells j hj', getElem!_pos zs.toArray j hj]
          simp
        have hlays : CmpLays1 P g cv (encV val) cf b 0 zs.toArray.size w := by
          refine cmp_lays hg cv (by simpa using hc) fun m os dk hs i p v hp hv => ?_
          obtain ⟨_, st⟩ := turn_row (val := val) hS hid g1 g2 g3 dk (by rw [hs]; simpa using g4) m os
          exact rel_fz ((hcap i p v hp hv).mono st) (hz p (List.mem_of_getElem? hp))
        have hk := Any.slices_SortFunc_total L (encV val) (fun _ => rfl) cf hO g cv b 0 cap zs.toArray w hG hlays hH (lt_of_heap g2) (by simp; omega) hT
        simp only [List.size_toArray] at hk
        refine hk.mono ?_
        rintro e w' ⟨rfl, m, os, rfl⟩
        obtain ⟨t1, t2⟩ := turn_row (val := val) hS hid g1 g2 g3 (zs.mergeSort fun x y => !(ltOf cf) y x).toArray (by simpa using g4) m os
        exact ⟨.junk, _, _, _, rfl, rfl, .junk _, t1, t2⟩
end

end Go.Proofs.YtafcjklojnhbnaaGreat.Pv
