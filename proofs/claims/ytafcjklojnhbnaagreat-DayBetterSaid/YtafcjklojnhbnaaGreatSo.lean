/- slices.Sort at []int, told of ghost objects. -/
import Derived.Test.YtafcjklojnhbnaaGreatTy
import Derived.Test.YtafcjklojnhbnaaGreatFa
import Derived.Test.YtafcjklojnhbnaaGreatShelf
import Derived.Sort.OwnSortedInts
namespace Go.Proofs.YtafcjklojnhbnaaGreat.Pv
open Go

abbrev sortZ (l : List Int) : List Int := l.mergeSort fun x y => decide (x ≤ y)
theorem sortZ_len (l : List Int) : (sortZ l).length = l.length := List.length_mergeSort l
theorem flat_int (l : List Int) : l.flatMap Enc.enc = l.map I := by induction l <;> simp_all
theorem set_self (S : Store) (o : Nat) (x : Ob) (h : S o = x) : S.set o x = S := by
  funext i; simp only [Store.set]; split
  · rename_i e; rw [e, h]
  · rfl

theorem rel_int {C : Ctx} {S : Store} {w : World} {x : Int} {v : Value} (h : Rel C S w (I x) v) : v = .int .i64 x := by cases h; rfl

theorem arr1 {vs : Array Value} (h : 1 = vs.size) : ∃ v, vs = #[v] := by
  match vs, h with
  | ⟨[v]⟩, _ => exact ⟨v, rfl⟩

theorem sort_ok {S : Store} {id ver : Nat} (zs : List Int) (hid : S id = .cells ver 3 (zs.flatMap Enc.enc)) (hn : zs.length ≤ 1048576) :
    Spec Tryz.prog 54 [.sl id ver 1 0 zs.length] S (fun _ S' => S' = S.set id (.cells ver 3 ((sortZ zs).flatMap Enc.enc))) := by
  refine ⟨enters_of Tryz.func54 (by rfl) rfl, ?_⟩
  intro C w vs hS hl hr
  obtain ⟨v, rfl⟩ := arr1 hl
  have hv := hr 0 _ v rfl rfl
  cases hv with
  | sl h1 h2 h3 =>
    obtain ⟨a, cap, rfl, q1, q2, q3, q4⟩ := h1
    by_cases h0 : zs = []
    · subst h0
      refine (Tryz.slices_Sort_int_none a cap w).mono ?_
      rintro e w' ⟨rfl, rfl⟩
      exact ⟨.junk, _, S, C, rfl, by rw [show sortZ [] = [] from by simp [sortZ]]; exact (set_self S id _ hid).symm, .junk _, hS, .refl _ _ _⟩
    · have hpos : 0 < zs.length := List.length_pos_iff.2 h0
      rcases hS.cells id ver _ _ hid with ⟨hn', hnil⟩ | ⟨b, k, c, g1, g2, g3, g4, g5, g6⟩
      · rw [flat_int] at hnil; simp at hnil; exact absurd hnil h0
      · have ha : a = some ⟨b, 0, none⟩ := by
          rcases (h3 ver (by rw [hid]; rfl)).2 rfl with ⟨z1, _⟩ | ⟨b', k', a', cap', z1, z2, z3, z4⟩
          · rw [g1] at z1; cases z1
          · rw [g1] at z1; cases z1; cases z2; exact (z3 rfl).1
        subst ha
        rw [flen_int] at g4
        have hcells : ∀ i, i < zs.length → c[i]? = some (.int .i64 (zs.getD i 0)) := by
          intro i hi
          have hi' : i < c.size := by omega
          have e1 : (zs.flatMap Enc.enc)[i]? = some (I (zs.getD i 0)) := by rw [flat_int]; simp [hi]
          have e2 : c[i]? = some c[i] := by simp
          have := rel_int (g6 i _ _ e1 e2)
          rw [e2, this]
        have htake : c.toList.take zs.length = zs.map (Value.int .i64) := by
          apply List.ext_getElem?
          intro i
          by_cases hi : i < zs.length
          · rw [List.getElem?_take_of_lt hi, Array.getElem?_toList, hcells i hi]; simp [hi]
          · rw [List.getElem?_eq_none (by simp; omega), List.getElem?_eq_none (by simp; omega)]
        refine (Tryz.slices_Sort_int b 0 cap zs w (holds_of_blockI g2 htake) (lt_of_heap g2) (by omega)).mono ?_
        rintro e w' ⟨rfl, n, os, rfl⟩
        have hb' := heap_sortedI (n := n) (os := os) (sortZ zs).toArray g2
        have hlz := sortZ_len zs
        have hcs : ∀ i, (Sort.putCells (Value.int .i64) 0 (sortZ zs).toArray c)[i]? = if i < zs.length then some (.int .i64 ((sortZ zs).getD i 0)) else c[i]? := by
          intro i
          by_cases hi : i < zs.length
          · rw [if_pos hi]
            have : i < c.size := by omega
            have hi2 : i < (sortZ zs).length := by omega
            simp [Sort.putCells, this]
            intro h; omega
          · rw [if_neg hi]
            by_cases hc : i < c.size
            · have hi2 : ¬ i < (sortZ zs).length := by omega
              simp [Sort.putCells, hc]
              intro h; omega
            · rw [Array.getElem?_eq_none (by simp [Sort.putCells]; omega), Array.getElem?_eq_none (by omega)]
        obtain ⟨t1, t2⟩ := hS.turn (l := C.loc id) (ver' := ver) (cs' := (sortZ zs).flatMap Enc.enc) hid (Nat.le_refl _) (fun _ => rfl) (by rw [g1]; exact ⟨grownBy_sortedI (n := n) (os := os) (sortZ zs).toArray, Nat.le_add_right _ _⟩)
          (.inr ⟨b, k, _, g1, .inr (by rw [g1]; rfl), hb', by simp [Sort.putCells, g3], by rw [flen_int, hlz]; exact g4, fun i z hi hz => by
              rw [hcs] at hz
              rw [flen_int, hlz] at hi
              rw [if_pos hi] at hz; cases hz; rfl,
            fun i p z hp hz => by
              rw [hcs] at hz
              have hi : i < zs.length := by
                have := (List.getElem?_eq_some_iff.1 hp).1
                rw [flen_int, hlz] at this; exact this
              rw [if_pos hi] at hz; cases hz
              rw [flat_int, List.getElem?_map] at hp
              have hi2 : i < (sortZ zs).length := by omega
              rw [List.getElem?_eq_getElem hi2] at hp
              cases hp
              rw [List.getD_eq_getElem?_getD, List.getElem?_eq_getElem hi2]
              exact .sc _⟩)
        exact ⟨.junk, _, _, _, rfl, rfl, .junk _, t1, t2⟩

end Go.Proofs.YtafcjklojnhbnaaGreat.Pv
