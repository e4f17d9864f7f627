/- A part of the proof of the statement that the last text of this claim proves; no condition is added. Packed by a program of the prover. -/
import Derived.Test.YtafcjklojnhbnaaGreatT4
namespace Go.Proofs.YtafcjklojnhbnaaGreat.Pv
open Go Go.Proofs
theorem wayS_bd {x : Inst} (h : ArcOk x) : ∀ (l : List Int) (a : Int), 0 ≤ wayS x a l ∧ wayS x a l ≤ 2147483648 * ((l.length : Int) + 1)
  | [], a => by
    have := h a 0
    simp only [wayS, List.length_nil]; omega
  | c :: l, a => by
    have h1 := h a (c + 1)
    have h2 := wayS_bd h l (c + 1)
    simp only [wayS, List.length_cons]; omega
theorem wayZ_bd {x : Inst} (h : ArcOk x) (l : List Int) : 0 ≤ wayZ x l ∧ wayZ x l ≤ 2147483648 * ((l.length : Int) + 1) := by
  unfold wayZ; split
  · omega
  · exact wayS_bd h l 0
theorem costZ_bd {x : Inst} (h : ArcOk x) : ∀ d : Day, 0 ≤ costZ x d ∧ costZ x d ≤ 2147483648 * ((d.flatten.length : Int) + d.length)
  | [] => by simp [costZ]
  | t :: d => by
    have h1 := wayZ_bd h (t.map (·.c))
    have h2 := costZ_bd h d
    unfold costZ at h2 ⊢
    rw [List.length_map] at h1
    simp only [List.map_cons, List.sum_cons, List.flatten_cons, List.length_append, List.length_cons]; omega
theorem costZ_W {x : Inst} (h : ArcOk x) {d : Day} (h1 : d.flatten.length ≤ 1048576) (h2 : d.length ≤ 1048576) : W (costZ x d) = costZ x d := by
  have := costZ_bd h d
  exact wr _ (by omega) (by omega)
def candsZ (d : Day) : List (Nat × Nat) := (List.range (d.length + 1)).flatMap fun t => (List.range ((d.getD t []).length + 1)).map fun p => (t, p)
def putC (d : Day) (s : Stop) (c : Nat × Nat) : Day := putD d ⟨c.1, c.2, 0⟩ s
def pmore (x : Inst) (d : Day) (s : Stop) (c : Nat × Nat) : Int := if c.1 = d.length then W (wayZ x [s.c]) else moreZ x (d.getD c.1 []) s c.2
def candS (x : Inst) (d : Day) (s : Stop) (c : Nat × Nat) : Option Spot := if dayT x (putC d s c) = 0 then some ⟨c.1, c.2, pmore x d s c⟩ else none
theorem putC_put (d : Day) (s : Stop) (b : Spot) : putD d b s = putC d s (b.t, b.p) := rfl
theorem candsZ_mem {d : Day} {c : Nat × Nat} : c ∈ candsZ d ↔ c.1 ≤ d.length ∧ c.2 ≤ (d.getD c.1 []).length := by
  unfold candsZ
  rw [List.mem_flatMap]
  constructor
  · rintro ⟨t, ht, hc⟩
    obtain ⟨p, hp, rfl⟩ := List.mem_map.1 hc
    rw [List.mem_range] at ht hp
    simp only; omega
  · rintro ⟨h1, h2⟩
    exact ⟨c.1, List.mem_range.2 (by omega), List.mem_map.2 ⟨c.2, List.mem_range.2 (by omega), rfl⟩⟩
abbrev outZ (x : Inst) (d : Day) (s : Stop) : Prop := mayT x [s] = 1 ∨ s.c ∈ d.flatten.map (·.c) ∨ ¬ (d.flatten.map (·.c)).Nodup ∨ x.veh < d.length
theorem putC_at {d : Day} {s : Stop} {t p : Nat} {l : Tour} (hl : d[t]? = some l) : putC d s (t, p) = d.set t (insT l p s) := by
  have hlt := (List.getElem?_eq_some_iff.1 hl).1
  unfold putC putD; rw [if_neg (by simp only; omega), List.getD_eq_getElem?_getD, hl]; rfl
theorem putC_end (d : Day) (s : Stop) (p : Nat) : putC d s (d.length, p) = d ++ [[s]] := by
  unfold putC putD; rw [if_pos rfl]
theorem putC_perm {d : Day} {s : Stop} {c : Nat × Nat} (hc : c ∈ candsZ d) : (putC d s c).flatten.Perm (s :: d.flatten) := by
  obtain ⟨t, p⟩ := c
  obtain ⟨h1, h2⟩ := candsZ_mem.1 hc
  simp only at h1 h2
  by_cases ht : t = d.length
  · subst ht
    rw [putC_end]
    simp only [List.flatten_append, List.flatten_cons, List.flatten_nil, List.append_nil]
    exact List.perm_append_comm
  · have hl : d[t]? = some (d.getD t []) := by rw [List.getD_eq_getElem?_getD, List.getElem?_eq_getElem (by omega)]; rfl
    rw [putC_at hl]
    exact set_flatten_perm d t _ _ s hl (insT_perm _ s p)
theorem putC_len (d : Day) (s : Stop) (c : Nat × Nat) : d.length ≤ (putC d s c).length ∧ (putC d s c).length ≤ d.length + 1 := by
  unfold putC putD
  split
  · simp
  · simp
theorem putC_in {x : Inst} {d : Day} {s : Stop} (hd : dayT x d = 0) {c : Nat × Nat} (hc : c ∈ candsZ d) (h : dayT x (putC d s c) = 0) : ¬ outZ x d s := by
  have hp := putC_perm (s := s) hc
  obtain ⟨g1, g2, g3⟩ := (dayT_zero x _).1 h
  obtain ⟨e1, e2, e3⟩ := (dayT_zero x _).1 hd
  rw [(hp.map _).nodup_iff, List.map_cons, List.nodup_cons] at g2
  rintro (q | q | q | q)
  · obtain ⟨u, hu, hsu⟩ := List.mem_flatten.1 (hp.symm.subset (List.mem_cons_self (a := s)))
    have hm := ((mayT_zero x u).1 (g1 u hu)).1
    unfold stopsB at hm
    simp only [Bool.and_eq_true, List.all_eq_true] at hm
    have hgs := hm.1 s hsu
    have : mayT x [s] ≠ 1 := by
      unfold mayT stopsB
      rw [if_neg (by simp [hgs])]
      split
      · decide
      · split
        · decide
        · split <;> decide
    exact this q
  · exact g2.1 q
  · exact q e2
  · omega
theorem spot_iff {x : Inst} {d : Day} {s : Stop} (hd : dayT x d = 0) (ho : ¬ outZ x d s) {t p : Nat} {l : Tour} (hl : d[t]? = some l) (hp : p ≤ l.length) :
    dayT x (putC d s (t, p)) = 0 ↔ W (tourL l + s.q) ≤ x.cap ∧ W (tourW x l + moreZ x l s p) ≤ x.len := by
  obtain ⟨e1, e2, e3⟩ := (dayT_zero x _).1 hd
  have hlm := List.mem_of_getElem? hl
  have hlt := (List.getElem?_eq_some_iff.1 hl).1
  have hm0 := e1 l hlm
  have hne : l ≠ [] := stopsB_ne ((mayT_zero x l).1 hm0).1
  have hb : badN x d = 0 := badN_zero.2 e1
  have hg : d.getD t [] = l := by rw [List.getD_eq_getElem?_getD, hl]; rfl
  constructor
  · intro h
    obtain ⟨g1, -, -⟩ := (dayT_zero x _).1 h
    rw [putC_at hl] at g1
    have := g1 (insT l p s) (List.mem_of_getElem? (i := t) (by simp [hlt]))
    obtain ⟨-, -, a, b⟩ := (mayT_zero x _).1 this
    have ha := tourL_ins l s p
    have hw := tourW_ins x l s p hne hp
    unfold tourL at ha
    unfold tourW at hw
    rw [ha] at a; rw [hw] at b
    exact ⟨a, b⟩
  · rintro ⟨a, b⟩
    have hmem : (⟨t, p, moreZ x l s p⟩ : Spot) ∈ spotsZ x d s := by
      unfold spotsZ
      rw [if_neg ho]
      refine List.mem_append_left _ (List.mem_flatMap.2 ⟨t, List.mem_range.2 hlt, ?_⟩)
      rw [hg, hb, hm0]
      unfold withinZ
      rw [if_neg (by simp; omega)]
      refine List.mem_filterMap.2 ⟨p, List.mem_range.2 (by omega), ?_⟩
      unfold spotAt; rw [if_pos b]
    have := putD_may hmem
    rwa [putC_put] at this
theorem spot_end {x : Inst} {d : Day} {s : Stop} (hd : dayT x d = 0) (ho : ¬ outZ x d s) : dayT x (putC d s (d.length, 0)) = 0 ↔ mayT x [s] = 0 ∧ (d.length : Int) < x.veh := by
  obtain ⟨e1, e2, e3⟩ := (dayT_zero x _).1 hd
  have hb : badN x d = 0 := badN_zero.2 e1
  constructor
  · intro h
    obtain ⟨g1, -, g3⟩ := (dayT_zero x _).1 h
    rw [putC_end] at g1 g3
    rw [List.length_append] at g3
    simp at g3
    exact ⟨g1 [s] (by simp), by omega⟩
  · rintro ⟨a, b⟩
    have hmem : (⟨d.length, 0, W (wayZ x [s.c])⟩ : Spot) ∈ spotsZ x d s := by
      unfold spotsZ
      rw [if_neg ho, if_pos ⟨hb, a, b⟩]
      exact List.mem_append_right _ (by simp)
    have := putD_may hmem
    rwa [putC_put] at this
theorem filterMap_none {α β : Type} {f : α → Option β} {l : List α} (h : ∀ a ∈ l, f a = none) : l.filterMap f = [] := by
  rw [List.filterMap_eq_nil_iff]; exact h
theorem flatMap_congr' {α β : Type} {f g : α → List β} : ∀ {l : List α}, (∀ a ∈ l, f a = g a) → l.flatMap f = l.flatMap g
  | [], _ => rfl
  | a :: l, h => by rw [List.flatMap_cons, List.flatMap_cons, h a (by simp), flatMap_congr' fun b hb => h b (by simp [hb])]
theorem filterMap_congr' {α β : Type} {f g : α → Option β} : ∀ {l : List α}, (∀ a ∈ l, f a = g a) → l.filterMap f = l.filterMap g
  | [], _ => rfl
  | a :: l, h => by
    have ih := filterMap_congr' (f := f) (g := g) (l := l) fun b hb => h b (by simp [hb])
    rw [List.filterMap_cons, List.filterMap_cons, h a (by simp), ih]
def groupZ (x : Inst) (d : Day) (s : Stop) (t : Nat) : List Spot := ((List.range ((d.getD t []).length + 1)).map fun p => (t, p)).filterMap (candS x d s)
theorem spots_groups {x : Inst} {d : Day} {s : Stop} (hd : dayT x d = 0) : spotsZ x d s = (List.range (d.length + 1)).flatMap (groupZ x d s) := by
  by_cases ho : outZ x d s
  · unfold spotsZ
    rw [if_pos ho]
    symm
    rw [List.flatMap_eq_nil_iff]
    intro t ht
    rw [List.mem_range] at ht
    refine filterMap_none fun c hc => ?_
    obtain ⟨p, hp, rfl⟩ := List.mem_map.1 hc
    rw [List.mem_range] at hp
    unfold candS
    rw [if_neg]
    intro h
    exact putC_in hd (candsZ_mem.2 ⟨by simp only; omega, by simp only; omega⟩) h ho
  · unfold spotsZ
    obtain ⟨e1, e2, e3⟩ := (dayT_zero x _).1 hd
    have hb : badN x d = 0 := badN_zero.2 e1
    rw [if_neg ho, List.range_succ, List.flatMap_append]
    congr 1
    · refine flatMap_congr' fun t ht => ?_
      rw [List.mem_range] at ht
      have hl : d[t]? = some (d.getD t []) := by rw [List.getD_eq_getElem?_getD, List.getElem?_eq_getElem ht]; rfl
      have hm0 := e1 _ (List.mem_of_getElem? hl)
      unfold groupZ withinZ
      rw [hm0, hb, List.filterMap_map]
      by_cases hcap : x.cap < W (tourL (d.getD t []) + s.q)
      · rw [if_pos (.inr hcap)]
        symm
        refine filterMap_none fun p hp => ?_
        rw [List.mem_range] at hp
        simp only [Function.comp_apply]
        unfold candS
        rw [if_neg]
        rw [spot_iff hd ho hl (by omega)]
        omega
      · rw [if_neg (show ¬ (0 < ((0 : Nat) : Int) - (if (0 : Int) = 13 then 1 else 0) ∨ x.cap < W (tourL (d.getD t []) + s.q)) from by rintro (q | q); exact absurd q (by decide); exact hcap q)]
        refine filterMap_congr' fun p hp => ?_
        rw [List.mem_range] at hp
        simp only [Function.comp_apply]
        have hi := spot_iff (p := p) hd ho hl (by omega)
        unfold candS spotAt pmore
        simp only
        rw [if_neg (show ¬ t = d.length by omega)]
        by_cases hw : W (tourW x (d.getD t []) + moreZ x (d.getD t []) s p) ≤ x.len
        · rw [if_pos hw, if_pos (hi.2 ⟨by omega, hw⟩)]
        · rw [if_neg hw, if_neg fun e => hw (hi.1 e).2]
    · have hi := spot_end hd ho
      simp only [List.flatMap_cons, List.flatMap_nil, List.append_nil]
      unfold groupZ
      rw [show d.getD d.length [] = ([] : Tour) from by rw [List.getD_eq_getElem?_getD, List.getElem?_eq_none (Nat.le_refl _)]; rfl]
      simp only [List.length_nil, Nat.zero_add, List.range_one, List.map_cons, List.map_nil, List.filterMap_cons, List.filterMap_nil]
      unfold candS pmore
      simp only [if_true]
      by_cases hc : mayT x [s] = 0 ∧ (d.length : Int) < x.veh
      · rw [if_pos ⟨hb, hc⟩, if_pos (hi.2 hc)]
      · rw [if_neg fun e => hc e.2, if_neg fun e => hc (hi.1 e)]
theorem flatMap_filterMap {α β γ : Type} (f : α → List β) (g : β → Option γ) : ∀ l : List α, (l.flatMap f).filterMap g = l.flatMap fun a => (f a).filterMap g
  | [] => rfl
  | a :: l => by rw [List.flatMap_cons, List.filterMap_append, flatMap_filterMap f g l, List.flatMap_cons]
theorem spots_cands {x : Inst} {d : Day} {s : Stop} (hd : dayT x d = 0) : spotsZ x d s = (candsZ d).filterMap (candS x d s) := by
  rw [spots_groups hd]; unfold candsZ; rw [flatMap_filterMap]; rfl
theorem moreZ_eq {x : Inst} (h : ArcOk x) (l : Tour) (s : Stop) (p : Nat) : moreZ x l s p = arc x (ahZ l p) (s.c + 1) + arc x (s.c + 1) (beZ l p) - arc x (ahZ l p) (beZ l p) := by
  unfold moreZ
  have h1 := h (ahZ l p) (s.c + 1)
  have h2 := h (s.c + 1) (beZ l p)
  have h3 := h (ahZ l p) (beZ l p)
  rw [show W (arc x (ahZ l p) (s.c + 1) + arc x (s.c + 1) (beZ l p)) = arc x (ahZ l p) (s.c + 1) + arc x (s.c + 1) (beZ l p) from wr _ (by omega) (by omega)]
  exact wr _ (by omega) (by omega)
theorem put_cost {x : Inst} (h : ArcOk x) {d : Day} {s : Stop} {c : Nat × Nat} (hc : c ∈ candsZ d) (hne : ∀ t ∈ d, t ≠ []) : costZ x (putC d s c) = costZ x d + pmore x d s c := by
  obtain ⟨t, p⟩ := c
  obtain ⟨h1, h2⟩ := candsZ_mem.1 hc
  simp only at h1 h2
  unfold pmore
  by_cases ht : t = d.length
  · subst ht
    rw [putC_end, costZ_snoc]
    simp only [if_true, List.map_cons, List.map_nil]
    have := wayZ_bd h [s.c]
    simp only [List.length_cons, List.length_nil] at this
    rw [show W (wayZ x [s.c]) = wayZ x [s.c] from wr _ (by omega) (by omega)]
  · have hl : d[t]? = some (d.getD t []) := by rw [List.getD_eq_getElem?_getD, List.getElem?_eq_getElem (by omega)]; rfl
    rw [putC_at hl, if_neg (by simpa using ht)]
    unfold costZ
    rw [sum_set (fun t : Tour => wayZ x (t.map (·.c))) d t _ _ hl, moreZ_eq h, way_ins x _ s p (hne _ (List.mem_of_getElem? hl)) h2]
    simp only
    omega
def insRS (x : Inst) (d : Day) (s : Stop) (st : Day × Bool) (c : Nat × Nat) : Day × Bool :=
  if dayT x (putC d s c) = 0 then (if st.2 = false ∨ W (costZ x (putC d s c)) < W (costZ x st.1) then (putC d s c, true) else st) else st
def insertR (x : Inst) (d : Day) (s : Stop) : Day × Bool := (candsZ d).foldl (insRS x d s) (d, false)
theorem cand_bd {d : Day} {s : Stop} (h1 : d.length ≤ 1000000) (h2 : d.flatten.length ≤ 1000000) {c : Nat × Nat} (hc : c ∈ candsZ d) : (putC d s c).flatten.length ≤ 1048576 ∧ (putC d s c).length ≤ 1048576 := by
  have e := (putC_perm (s := s) hc).length_eq
  have e2 := putC_len d s c
  rw [List.length_cons] at e
  omega
theorem insR_fold {x : Inst} (h : ArcOk x) {d : Day} {s : Stop} (hne : ∀ t ∈ d, t ≠ []) (h1 : d.length ≤ 1000000) (h2 : d.flatten.length ≤ 1000000) : ∀ (l : List (Nat × Nat)) (st : Day × Bool) (bt : Spot × Bool), (∀ c ∈ l, c ∈ candsZ d) →
    (st.2 = bt.2 ∧ (bt.2 = false → st.1 = d) ∧ (bt.2 = true → (bt.1.t, bt.1.p) ∈ candsZ d ∧ st.1 = putC d s (bt.1.t, bt.1.p) ∧ bt.1.m = pmore x d s (bt.1.t, bt.1.p))) →
    l.foldl (insRS x d s) st = (bif ((l.filterMap (candS x d s)).foldl bestS bt).2 then (putD d ((l.filterMap (candS x d s)).foldl bestS bt).1 s, true) else (d, false))
  | [], st, bt, _, hst => by
    obtain ⟨a, b⟩ := st
    obtain ⟨e1, e2, e3⟩ := hst
    simp only at e1 e2 e3
    simp only [List.foldl_nil, List.filterMap_nil]
    cases hb : bt.2 with
    | false => rw [hb] at e1; rw [e1, e2 hb]; rfl
    | true => rw [hb] at e1; rw [e1, (e3 hb).2.1]; rfl
  | c :: l, st, bt, hl, hst => by
    have hc := hl c (by simp)
    have hl' : ∀ c ∈ l, c ∈ candsZ d := fun q hq => hl q (by simp [hq])
    rw [List.foldl_cons, List.filterMap_cons]
    by_cases h0 : dayT x (putC d s c) = 0
    · have hcs : candS x d s c = some ⟨c.1, c.2, pmore x d s c⟩ := by unfold candS; rw [if_pos h0]
      rw [hcs]
      simp only [List.foldl_cons]
      refine insR_fold h hne h1 h2 l _ _ hl' ?_
      obtain ⟨e1, e2, e3⟩ := hst
      unfold insRS bestS
      rw [if_pos h0]
      have hcmp : (st.2 = false ∨ W (costZ x (putC d s c)) < W (costZ x st.1)) ↔ (bt.2 = false ∨ pmore x d s c < bt.1.m) := by
        rw [e1]
        cases hb : bt.2 with
        | false => simp
        | true =>
          obtain ⟨q1, q2, q3⟩ := e3 hb
          have b1 := cand_bd (s := s) h1 h2 hc
          have b2 := cand_bd (s := s) h1 h2 q1
          rw [q2, costZ_W h b1.1 b1.2, costZ_W h b2.1 b2.2, put_cost h hc hne, put_cost h q1 hne, q3]
          simp only [Bool.true_eq_false, false_or]
          omega
      by_cases hq : st.2 = false ∨ W (costZ x (putC d s c)) < W (costZ x st.1)
      · rw [if_pos hq, if_pos (hcmp.1 hq)]
        exact ⟨rfl, (fun e => by cases e), fun _ => ⟨hc, rfl, rfl⟩⟩
      · rw [if_neg hq, if_neg fun e => hq (hcmp.2 e)]
        exact ⟨e1, e2, e3⟩
    · have hcs : candS x d s c = none := by unfold candS; rw [if_neg h0]
      rw [hcs]
      unfold insRS
      rw [if_neg h0]
      exact insR_fold h hne h1 h2 l _ _ hl' hst
theorem dayT_ne {x : Inst} {d : Day} (h : dayT x d = 0) : ∀ t ∈ d, t ≠ [] := fun t ht => stopsB_ne ((mayT_zero x t).1 (((dayT_zero x d).1 h).1 t ht)).1
theorem insertR_eq {x : Inst} (h : ArcOk x) {d : Day} {s : Stop} (hd : dayT x d = 0) (h1 : d.length ≤ 1000000) (h2 : d.flatten.length ≤ 1000000) : insertR x d s = insertD x d s := by
  unfold insertR insertD bestZ
  rw [insR_fold h (dayT_ne hd) h1 h2 (candsZ d) (d, false) (⟨0, 0, 0⟩, false) (fun _ h => h) ⟨rfl, fun _ => rfl, fun e => by cases e⟩, spots_cands hd]
def minS (st : Int × Bool) (m : Int) : Int × Bool := if st.2 = false ∨ m < st.1 then (m, true) else st
def minZ (l : List Int) : Int × Bool := l.foldl minS (0, false)
def minsZ (x : Inst) (d : Day) (s : Stop) (n : Nat) : List Int := (List.range n).filterMap fun t => bif (minZ ((groupZ x d s t).map (·.m))).2 then some (minZ ((groupZ x d s t).map (·.m))).1 else none
def costsZ (x : Inst) (d : Day) (s : Stop) : List Int := sortZ (minsZ x d s (d.length + 1))
theorem minS_true : ∀ (l : List Int) (m : Int), (l.foldl minS (m, true)).2 = true
  | [], _ => rfl
  | a :: l, m => by
    rw [List.foldl_cons]
    unfold minS
    split
    · exact minS_true l a
    · exact minS_true l m
theorem minZ_nil : minZ [] = (0, false) := rfl
theorem minZ_cons (a : Int) (l : List Int) : minZ (a :: l) = l.foldl minS (a, true) := by
  unfold minZ; rw [List.foldl_cons]; unfold minS; simp
def cstS (st : List Int × Int) (p : Spot) : List Int × Int :=
  if (p.t : Int) ≠ st.2 then (st.1 ++ [p.m], (p.t : Int)) else (st.1.set (st.1.length - 1) (if p.m < st.1.getD (st.1.length - 1) 0 then p.m else st.1.getD (st.1.length - 1) 0), st.2)
theorem cst_same (t : Nat) : ∀ (g : List Spot) (l : List Int) (m : Int), (∀ p ∈ g, p.t = t) → g.foldl cstS (l ++ [m], (t : Int)) = (l ++ [((g.map (·.m)).foldl minS (m, true)).1], (t : Int))
  | [], l, m, _ => rfl
  | p :: g, l, m, h => by
    have hp := h p (by simp)
    have hs : cstS (l ++ [m], (t : Int)) p = (l ++ [if p.m < m then p.m else m], (t : Int)) := by
      unfold cstS
      rw [hp, if_neg (by simp)]
      simp
    have hm : minS (m, true) p.m = (if p.m < m then p.m else m, true) := by
      unfold minS
      by_cases q : p.m < m <;> simp [q]
    rw [List.foldl_cons, hs, List.map_cons, List.foldl_cons, hm]
    exact cst_same t g l _ fun q hq => h q (by simp [hq])
theorem cst_group {t : Nat} {g : List Spot} (hg : ∀ p ∈ g, p.t = t) (l : List Int) (last : Int) (hl : last < t) :
    g.foldl cstS (l, last) = (l ++ (bif (minZ (g.map (·.m))).2 then [(minZ (g.map (·.m))).1] else []), if g = [] then last else (t : Int)) := by
  cases g with
  | nil => simp [minZ_nil]
  | cons p g =>
    have hp := hg p (by simp)
    have hs : cstS (l, last) p = (l ++ [p.m], (t : Int)) := by
      unfold cstS; rw [hp, if_pos (by simp only [ne_eq]; omega)]
    rw [List.foldl_cons, hs, cst_same t g l p.m fun q hq => hg q (by simp [hq]), List.map_cons, minZ_cons, minS_true]
    simp
theorem group_t {x : Inst} {d : Day} {s : Stop} {t : Nat} : ∀ p ∈ groupZ x d s t, p.t = t := by
  intro b hb
  unfold groupZ at hb
  obtain ⟨c, hc, he⟩ := List.mem_filterMap.1 hb
  obtain ⟨p, -, rfl⟩ := List.mem_map.1 hc
  unfold candS at he
  split at he
  · cases he; rfl
  · cases he
theorem cst_all (x : Inst) (d : Day) (s : Stop) : ∀ n : Nat, ∃ last : Int, last < n ∧ ((List.range n).flatMap (groupZ x d s)).foldl cstS ([], -1) = (minsZ x d s n, last)
  | 0 => ⟨-1, by omega, rfl⟩
  | n + 1 => by
    obtain ⟨last, h1, h2⟩ := cst_all x d s n
    rw [List.range_succ, List.flatMap_append, List.foldl_append, h2]
    simp only [List.flatMap_cons, List.flatMap_nil, List.append_nil]
    rw [cst_group group_t _ _ h1]
    refine ⟨_, ?_, by
      congr 1
      unfold minsZ
      rw [List.range_succ, List.filterMap_append]
      congr 1
      cases hm : (minZ ((groupZ x d s n).map (·.m))).2 <;> simp [hm]⟩
    split <;> omega
theorem spots_fold {x : Inst} {d : Day} {s : Stop} (hd : dayT x d = 0) : ((spotsZ x d s).foldl cstS ([], -1)).1 = minsZ x d s (d.length + 1) := by
  rw [spots_groups hd]
  obtain ⟨last, -, h⟩ := cst_all x d s (d.length + 1)
  rw [h]
theorem sortedZ_eq : ∀ {a b : List Int}, a.Perm b → a.Pairwise (· ≤ ·) → b.Pairwise (· ≤ ·) → a = b
  | [], b, h, _, _ => (List.nil_perm.1 h).symm
  | x :: a, [], h, _, _ => absurd h.symm (by simp)
  | x :: a, y :: b, h, ha, hb => by
    rw [List.pairwise_cons] at ha hb
    have hxy : x = y := by
      have h1 : x ∈ y :: b := h.subset (by simp)
      have h2 : y ∈ x :: a := h.symm.subset (by simp)
      have q1 : y ≤ x := by
        rcases List.mem_cons.1 h1 with e | e
        · omega
        · exact hb.1 x e
      have q2 : x ≤ y := by
        rcases List.mem_cons.1 h2 with e | e
        · omega
        · exact ha.1 y e
      omega
    subst hxy
    rw [sortedZ_eq ((List.perm_cons x).1 h) ha.2 hb.2]
theorem put_sorted {out : List Int} {b : Int} (h : out.Pairwise (· ≤ ·)) {k : Nat} (hk : k ≤ out.length) (h1 : ∀ (j : Nat) z, k ≤ j → out[j]? = some z → b < z) (h2 : k = 0 ∨ ∃ z, out[k - 1]? = some z ∧ z ≤ b) : (out.take k ++ b :: out.drop k).Pairwise (· ≤ ·) := by
  rw [List.pairwise_append, List.pairwise_cons]
  refine ⟨h.sublist (List.take_sublist _ _), ⟨fun z hz => ?_, h.sublist (List.drop_sublist _ _)⟩, fun a ha z hz => ?_⟩
  · obtain ⟨j, hj⟩ := List.mem_iff_getElem?.1 hz
    rw [List.getElem?_drop] at hj
    have := h1 (k + j) z (by omega) hj
    omega
  · have hab : a ≤ b := by
      obtain ⟨i, hi⟩ := List.mem_iff_getElem?.1 ha
      rw [List.getElem?_take] at hi
      split at hi
      · rename_i hik
        rcases h2 with rfl | ⟨y, hy, hyb⟩
        · omega
        · obtain ⟨g1, g2⟩ := List.getElem?_eq_some_iff.1 hi
          obtain ⟨g3, g4⟩ := List.getElem?_eq_some_iff.1 hy
          by_cases e : i = k - 1
          · subst e; rw [← g2, g4]; exact hyb
          · have := List.pairwise_iff_getElem.1 h i (k - 1) g1 g3 (by omega)
            omega
      · cases hi
    rcases List.mem_cons.1 hz with rfl | hz
    · exact hab
    · obtain ⟨j, hj⟩ := List.mem_iff_getElem?.1 hz
      rw [List.getElem?_drop] at hj
      have := h1 (k + j) z (by omega) hj
      omega
theorem put_sort {l out : List Int} {b : Int} (ho : out = sortZ l) {k : Nat} (hk : k ≤ out.length) (h1 : ∀ (j : Nat) z, k ≤ j → out[j]? = some z → b < z) (h2 : k = 0 ∨ ∃ z, out[k - 1]? = some z ∧ z ≤ b) : out.take k ++ b :: out.drop k = sortZ (l ++ [b]) := by
  refine sortedZ_eq ?_ (put_sorted (ho ▸ sortZ_le l) hk h1 h2) (sortZ_le _)
  refine (List.perm_middle.trans ?_).trans (sortZ_perm _).symm
  rw [List.take_append_drop, ho]
  exact ((sortZ_perm l).cons b).trans (List.perm_append_singleton b l).symm
open Go Go.Proofs
def rowI (l : Tour) (b : Bool) (p : Nat) (s : Stop) (i : Nat) : Tour := (List.range i).flatMap fun q => (if b = true ∧ q = p then [s] else []) ++ (if q < l.length then [l.getD q default] else [])
theorem rowI_succ (l : Tour) (b : Bool) (p : Nat) (s : Stop) (i : Nat) : rowI l b p s (i + 1) = rowI l b p s i ++ (if b = true ∧ i = p then [s] else []) ++ (if i < l.length then [l.getD i default] else []) := by
  unfold rowI; rw [List.range_succ, List.flatMap_append]; simp
theorem take_next (l : Tour) (i : Nat) : l.take i ++ (if i < l.length then [l.getD i default] else []) = l.take (i + 1) := by
  by_cases h : i < l.length
  · rw [if_pos h, List.take_succ_eq_append_getElem h, List.getD_eq_getElem?_getD, List.getElem?_eq_getElem h]; rfl
  · rw [if_neg h, List.append_nil, List.take_of_length_le (by omega), List.take_of_length_le (by omega)]
theorem rowI_eq (l : Tour) (b : Bool) (p : Nat) (s : Stop) (hp : p ≤ l.length) : ∀ i, rowI l b p s i = if b = true ∧ p < i then l.take p ++ s :: (l.drop p).take (i - p) else l.take i
  | 0 => by simp [rowI]
  | i + 1 => by
    rw [rowI_succ, rowI_eq l b p s hp i]
    by_cases hb : b = true
    · rcases Nat.lt_trichotomy i p with h | h | h
      · rw [if_neg (show ¬ (b = true ∧ p < i) from fun e => by omega), if_neg (show ¬ (b = true ∧ i = p) from fun e => by omega), if_neg (show ¬ (b = true ∧ p < i + 1) from fun e => by omega), List.append_nil, take_next]
      · subst h
        rw [if_neg (show ¬ (b = true ∧ i < i) from fun e => by omega), if_pos (show b = true ∧ i = i from ⟨hb, rfl⟩), if_pos (show b = true ∧ i < i + 1 from ⟨hb, by omega⟩), show i + 1 - i = 1 by omega]
        by_cases hl : i < l.length
        · rw [if_pos hl, List.drop_eq_getElem_cons hl, List.getD_eq_getElem?_getD, List.getElem?_eq_getElem hl, List.append_assoc]; rfl
        · rw [if_neg hl, List.drop_of_length_le (by omega)]; simp
      · have := take_next (l.drop p) (i - p)
        rw [List.length_drop] at this
        rw [if_pos (show b = true ∧ p < i from ⟨hb, h⟩), if_neg (show ¬ (b = true ∧ i = p) from fun e => by omega), if_pos (show b = true ∧ p < i + 1 from ⟨hb, by omega⟩), List.append_nil, List.append_assoc, List.cons_append, show i + 1 - p = i - p + 1 by omega, ← this]
        by_cases hl : i < l.length
        · rw [if_pos hl, if_pos (show i - p < l.length - p by omega), List.getD_eq_getElem?_getD, List.getD_eq_getElem?_getD, List.getElem?_drop, show p + (i - p) = i by omega]
        · rw [if_neg hl, if_neg (show ¬ i - p < l.length - p by omega)]
    · rw [if_neg (show ¬ (b = true ∧ p < i) from fun e => hb e.1), if_neg (show ¬ (b = true ∧ i = p) from fun e => hb e.1), if_neg (show ¬ (b = true ∧ p < i + 1) from fun e => hb e.1), List.append_nil, take_next]
theorem rowI_len (l : Tour) (b : Bool) (p : Nat) (s : Stop) : ∀ i, (rowI l b p s i).length ≤ 2 * i
  | 0 => by simp [rowI]
  | i + 1 => by
    have := rowI_len l b p s i
    rw [rowI_succ, List.length_append, List.length_append]
    split <;> split <;> simp <;> omega
theorem rowI_all (l : Tour) (b : Bool) (p : Nat) (s : Stop) (hp : p ≤ l.length) : rowI l b p s (l.length + 1) = if b = true then insT l p s else l := by
  rw [rowI_eq l b p s hp]
  cases b with
  | true => rw [if_pos ⟨rfl, by omega⟩, if_pos rfl, List.take_of_length_le (l := l.drop p) (by rw [List.length_drop]; omega)]; rfl
  | false => rw [if_neg (by simp), if_neg (by simp), List.take_of_length_le (by omega)]
def putI (d : Day) (t p : Nat) (s : Stop) (j : Nat) : Day := (List.range j).map fun i => if i = t then insT (d.getD i []) p s else d.getD i []
theorem putI_succ (d : Day) (t p : Nat) (s : Stop) (j : Nat) : putI d t p s (j + 1) = putI d t p s j ++ [if j = t then insT (d.getD j []) p s else d.getD j []] := by
  unfold putI; rw [List.range_succ, List.map_append]; rfl
theorem putI_len (d : Day) (t p : Nat) (s : Stop) (j : Nat) : (putI d t p s j).length = j := by simp [putI]
theorem putI_all (d : Day) (t p : Nat) (s : Stop) : putI d t p s d.length = d.set t (insT (d.getD t []) p s) := by
  apply List.ext_getElem?
  intro j
  unfold putI
  rw [List.getElem?_map, List.getElem?_set]
  by_cases hj : j < d.length
  · rw [List.getElem?_range hj]
    simp only [Option.map_some]
    by_cases h : t = j
    · subst h; rw [if_pos rfl, if_pos rfl, if_pos hj]
    · rw [if_neg (fun e => h e.symm), if_neg h, List.getElem?_eq_getElem hj, List.getD_eq_getElem?_getD, List.getElem?_eq_getElem hj]; rfl
  · rw [List.getElem?_eq_none (by simp; omega)]
    by_cases h : t = j
    · subst h; rw [if_pos rfl, if_neg hj]; rfl
    · rw [if_neg h, List.getElem?_eq_none (by omega)]; rfl
theorem putI_put {d : Day} {t p : Nat} {s : Stop} (ht : t ≤ d.length) : putI d t p s d.length ++ (if t = d.length then [[s]] else []) = putC d s (t, p) := by
  rw [putI_all]
  by_cases h : t = d.length
  · subst h
    rw [if_pos rfl, putC_end, List.set_eq_of_length_le (Nat.le_refl _)]
  · rw [if_neg h, List.append_nil]
    unfold putC putD
    rw [if_neg (by simpa using h)]
set_option maxRecDepth 20000 in
set_option maxHeartbeats 1600000 in
theorem putR_ok (d : Day) (t p : Nat) (s : Stop) (hd0 : d.length ≤ 1000000) (hd1 : ∀ l ∈ d, l.length ≤ 1000000) (ht : t ≤ d.length) (hp : p ≤ (d.getD t []).length) : Pure Tryz.prog 103 [.agg [L d], I t, I p, .agg [I s.c, I s.q]] (.agg [L (putC d s (t, p))]) := by
  rw [← putI_put ht]
  refine pwe Tryz.func103 Tryz.ntmps103 Tryz.results103 fun S nx hd => ?_
  repeat refine pw_seq ?_
  refine pwn ?_
  intro v0 v1 v2
  repeat refine pw_seq ?_
  refine pwn ?_
  intro v3
  refine pw_nilObX 3 0 66 1 rfl rfl fun v4 => ?_
  repeat refine pw_seq ?_
  refine pwn ?_
  intros
  repeat refine pw_seq ?_
  refine pw_block (pw_loopL (fun s' : Nat × Nat => s'.1 ≤ d.length) (fun (j, v4) => [(1, I t), (2, I p), (4, .ptr nx v0 0), (7, .ptr (nx + 1) v1 0), (8, .ptr (nx + 2) v2 0), (9, .ptr (nx + 3) v3 0), (10, I j)]) (fun (j, v4) => [.cells v0 35 [L d], .cells v1 43 [I s.c, I s.q], .cells v2 35 [nilS], .cells v3 35 [.sl (nx + 4) v4 1 0 j], .cells v4 66 ((putI d t p s j).flatMap Enc.enc)]) (fun s' => d.length - s'.1) (0, v4) [] (by simp) (by simp) (by simp [putI]) ?_)
  rintro ⟨j, v4⟩ hj
  simp only at hj ⊢
  repeat refine pw_seq ?_
  refine pwn ?_
  intros
  repeat refine pw_seq ?_
  refine pw_cond rfl (fun hc => ?_) (fun hc => ?_)
  · simp at hc
    obtain ⟨l, tl, a1, a2, a3, e0⟩ := el1 rfl d j hc
    have hj1 : 1 ≤ d.length - j := by omega
    have hlm := List.mem_of_getElem? a1
    have hln := hd1 l hlm
    have hgl : d.getD j [] = l := by rw [List.getD_eq_getElem?_getD, a1]; rfl
    obtain ⟨b, hb⟩ : ∃ b, b = decide (j = t) := ⟨_, rfl⟩
    have hps := putI_succ d t p s j
    have hpp : b = true → p ≤ l.length := fun e => by
      have e : j = t := of_decide_eq_true (hb ▸ e)
      rw [← e, hgl] at hp; exact hp
    have hall : rowI l b p s (l.length + 1) = if j = t then insT (d.getD j []) p s else d.getD j [] := by
      rw [hgl]
      cases hbb : b with
      | true =>
        rw [rowI_all l true p s (hpp hbb), if_pos rfl]
        rw [hbb] at hb
        rw [if_pos (of_decide_eq_true hb.symm)]
      | false =>
        have key : ∀ i, rowI l false p s i = l.take i := by
          intro i
          induction i with
          | zero => simp [rowI]
          | succ i ih => rw [rowI_succ, ih, if_neg (by simp), List.append_nil, take_next]
        rw [key, List.take_of_length_le (by omega)]
        rw [hbb] at hb
        rw [if_neg (of_decide_eq_false hb.symm)]
    rw [← hall] at hps
    have hpl := putI_len d t p s j
    have hps2 : ((putI d t p s (j + 1)).flatMap Enc.enc : List PV) = (putI d t p s j).flatMap Enc.enc ++ [L (rowI l b p s (l.length + 1))] := by rw [hps, List.flatMap_append]; rfl
    have hpf : ((putI d t p s j).flatMap Enc.enc : List PV).length = j := by rw [flen_list, hpl]
    have hpt : ((putI d t p s j).flatMap Enc.enc : List PV).take j = (putI d t p s j).flatMap Enc.enc := List.take_of_length_le (by omega)
    clear hps hpl hall
    have hfz : ∀ id v cs, ((putI d t p s j).flatMap Enc.enc).map (frzP id v cs) = ((putI d t p s j).flatMap Enc.enc : List PV) := fun id v cs => frz_flat id v cs _
    generalize ((putI d t p s j).flatMap Enc.enc : List PV) = pcs at *
    refine pw_skip (pw_seq (pw_block ?_))
    repeat refine pw_seq ?_
    refine pwn ?_
    intros
    refine pw_nilX 11 43 2 rfl fun v5 => ?_
    repeat refine pw_seq ?_
    refine pwn ?_
    intros
    repeat refine pw_seq ?_
    refine pw_block (pw_loopL (fun s' : Nat × Nat => s'.1 ≤ l.length + 1) (fun (i, v5) => [(1, I t), (2, I p), (4, .ptr nx v0 0), (7, .ptr (nx + 1) v1 0), (8, .ptr (nx + 2) v2 0), (9, .ptr (nx + 3) v3 0), (10, I j), (11, .sl (nx + 5) v5 2 0 (rowI l b p s i).length), (12, I i)]) (fun (i, v5) => [.cells v0 35 [L d], .cells v1 43 [I s.c, I s.q], .cells v2 35 [nilS], .cells v3 35 [.sl (nx + 4) v4 1 0 j], .cells v4 66 pcs, .cells v5 43 ((rowI l b p s i).flatMap Enc.enc)]) (fun s' => l.length + 1 - s'.1) (0, v5) [] (by simp) (by simp [rowI]) (by simp [rowI]) ?_)
    rintro ⟨i, v5⟩ hi
    simp only at hi ⊢
    repeat refine pw_seq ?_
    refine pwN [] (jn3 e0 hc hj1) ?_
    intros
    repeat refine pw_seq ?_
    refine pw_cond rfl (fun hci => ?_) (fun hci => ?_)
    · simp at hci
      have hrl := rowI_len l b p s i
      have hrs := rowI_succ l b p s i
      generalize rowI l b p s i = r0 at *
      have wi := wrN i (by omega)
      have hrf : (r0.flatMap Enc.enc : List PV).length = r0.length * 2 := flen_stop r0
      have hrt : (r0.flatMap Enc.enc : List PV).take (r0.length * 2) = r0.flatMap Enc.enc := List.take_of_length_le (by omega)
      refine pw_skip (pw_seq (pw_block ?_))
      repeat refine pw_seq ?_
      refine pw_joinK (nx := nx) (fun b' : Bool => b' = decide (b = true ∧ i = p)) (fun b' => [(1, I t), (2, I p), (4, .ptr nx v0 0), (7, .ptr (nx + 1) v1 0), (8, .ptr (nx + 2) v2 0), (9, .ptr (nx + 3) v3 0), (10, I j), (11, .sl (nx + 5) v5 2 0 r0.length), (12, I i), (38, B b')]) (fun _ => S) (fun _ => [.cells v0 35 [L d], .cells v1 43 [I s.c, I s.q], .cells v2 35 [nilS], .cells v3 35 [.sl (nx + 4) v4 1 0 j], .cells v4 66 pcs, .cells v5 43 (r0.flatMap Enc.enc)]) ?_ ?_
      · by_cases h1 : j = t
        · subst h1
          by_cases h2 : i = p
          · subst h2
            repeat refine pw_seq ?_
            refine pwN [(3, 34)] undef_eq ?_
            intros
            exact at_mk _ [] rfl (by simp [hb]) rfl (by simp)
          · have h2' : ¬ (i : Int) = p := by omega
            repeat refine pw_seq ?_
            refine pwN [(3, 34)] h2' ?_
            intros
            exact at_mk _ [] rfl (by simp [hb, h2]) rfl (by simp)
        · have h1' : ¬ (j : Int) = t := by omega
          repeat refine pw_seq ?_
          refine pwN [(3, 34)] (jn2 h1' undef_eq) ?_
          intros
          exact at_mk _ [] rfl (by simp [hb, h1]) rfl (by simp)
      · rintro b' hb'
        repeat refine pw_seq ?_
        refine pw_joinK (nx := nx) (fun s' : Tour × Nat => s'.1 = r0 ++ (if b = true ∧ i = p then [s] else [])) (fun (r, v5) => [(1, I t), (2, I p), (4, .ptr nx v0 0), (7, .ptr (nx + 1) v1 0), (8, .ptr (nx + 2) v2 0), (9, .ptr (nx + 3) v3 0), (10, I j), (11, .sl (nx + 5) v5 2 0 r.length), (12, I i)]) (fun _ => S) (fun (r, v5) => [.cells v0 35 [L d], .cells v1 43 [I s.c, I s.q], .cells v2 35 [nilS], .cells v3 35 [.sl (nx + 4) v4 1 0 j], .cells v4 66 pcs, .cells v5 43 (r.flatMap Enc.enc)]) ?_ ?_
        · by_cases hq : b = true ∧ i = p
          · rw [decide_eq_true hq] at hb'
            subst hb'
            rw [if_pos hq]
            repeat refine pw_seq ?_
            refine pw_ct rfl ?_
            repeat refine pw_seq ?_
            refine pwN [] (jn2 hrf hrt) ?_
            refine ⟨by omega, ?_⟩
            intros
            exact at_mk (r0 ++ [s], v5 + 1) [] rfl (by simp) rfl (by simp)
          · rw [decide_eq_false hq] at hb'
            subst hb'
            rw [if_neg hq, List.append_nil]
            repeat refine pw_seq ?_
            refine pw_cf rfl ?_
            refine pw_skip ?_
            exact at_mk (r0, v5) [] rfl (by simp) rfl (by simp)
        · rintro ⟨r, v5⟩ hr
          simp only at hr ⊢
          rw [← hr] at hrs
          have hrl2 : r.length ≤ 2 * i + 1 := by rw [hr]; split <;> simp <;> omega
          clear hr
          have hrf : (r.flatMap Enc.enc : List PV).length = r.length * 2 := flen_stop r
          have hrt : (r.flatMap Enc.enc : List PV).take (r.length * 2) = r.flatMap Enc.enc := List.take_of_length_le (by omega)
          repeat refine pw_seq ?_
          refine pwN [] (jn3 e0 hc hj1) ?_
          intros
          repeat refine pw_seq ?_
          refine pw_cond rfl (fun hq => ?_) (fun hq => ?_)
          · simp at hq
            obtain ⟨u, tu, u1, u2, u3, u4, u0⟩ := el 2 rfl l i hq
            have hi2 : 2 ≤ l.length * 2 - i * 2 := by omega
            have hgu : l.getD i default = u := by rw [List.getD_eq_getElem?_getD, u1]; rfl
            rw [if_pos hq, hgu] at hrs
            have hrc : ((rowI l b p s (i + 1)).flatMap Enc.enc : List PV) = r.flatMap Enc.enc ++ [I u.c, I u.q] := by rw [hrs, List.flatMap_append]; rfl
            repeat refine pw_seq ?_
            refine pwN [] (jn6 e0 hc hj1 u0 hq (jn3 hi2 hrf hrt)) ?_
            refine ⟨by omega, ?_⟩
            intros
            repeat refine pw_seq ?_
            refine pwn ?_
            intros
            exact again_mk (i + 1, v5 + 1) [] (by simp; omega) (by simp; omega) (by simp [wi, hrs]) rfl (by simp [hrc])
          · simp at hq
            rw [if_neg (by omega), List.append_nil] at hrs
            refine pw_skip ?_
            repeat refine pw_seq ?_
            refine pwn ?_
            intros
            exact again_mk (i + 1, v5) [] (by simp; omega) (by simp; omega) (by simp [wi, hrs]) rfl (by simp [hrs])
    · simp at hci
      obtain rfl : i = l.length + 1 := by omega
      refine pw_exit ?_
      generalize rowI l b p s (l.length + 1) = r at *
      have hrf : (r.flatMap Enc.enc : List PV).length = r.length * 2 := flen_stop r
      refine pw_frz 5 rfl ?_
      simp only [List.map_cons, List.map_nil, List.set_cons_succ, List.set_cons_zero, frzO, hfz]
      repeat refine pw_seq ?_
      refine pwN [] (jn3 hrf hpf hpt) ?_
      refine ⟨by omega, ?_⟩
      intros
      repeat refine pw_seq ?_
      refine pwn ?_
      intros
      exact again_mk (j + 1, v4 + 1) [_] hc (by simp; omega) (by simp [wrN j (by omega)]) rfl (by simp [hps2]; rfl)
  · simp at hc
    obtain rfl : j = d.length := by omega
    refine pw_exit ?_
    have hpl := putI_len d t p s d.length
    generalize putI d t p s d.length = e at *
    have hpf : (e.flatMap Enc.enc : List PV).length = d.length := by rw [flen_list, hpl]
    have hpt : (e.flatMap Enc.enc : List PV).take d.length = e.flatMap Enc.enc := List.take_of_length_le (by omega)
    by_cases htd : t = d.length
    · have htd' : (t : Int) = d.length := by omega
      rw [if_pos htd]
      repeat refine pw_seq ?_
      refine pwN [] htd' ?_
      intros
      repeat refine pw_seq ?_
      refine pw_ct rfl ?_
      repeat refine pw_seq ?_
      refine pwN [] (jn2 hpf hpt) ?_
      refine ⟨by omega, ?_⟩
      intros
      have hel : (e ++ [[s]]).length = d.length + 1 := by simp [hpl]
      have hec : ((e ++ [[s]]).flatMap Enc.enc : List PV) = e.flatMap Enc.enc ++ [L [s]] := by rw [List.flatMap_append]; rfl
      refine pw_frz 4 rfl ?_
      repeat refine pw_seq ?_
      refine pwN [] hpf ?_
      intros
      repeat refine pw_seq ?_
      exact pw_ret (ret_pure hd (by simp; rfl) (by simp [oneOf, hel, hec, hpl]))
    · have htd' : ¬ (t : Int) = d.length := by omega
      rw [if_neg htd, List.append_nil]
      repeat refine pw_seq ?_
      refine pwN [] htd' ?_
      intros
      repeat refine pw_seq ?_
      refine pw_cf rfl ?_
      refine pw_skip ?_
      refine pw_frz 4 rfl ?_
      repeat refine pw_seq ?_
      refine pwN [] hpf ?_
      intros
      repeat refine pw_seq ?_
      exact pw_ret (ret_pure hd (by simp; rfl) (by simp [oneOf, hpl]))
open Go Go.Proofs
def rowC (d : Day) (t : Nat) : List (Nat × Nat) := (List.range ((d.getD t []).length + 1)).map fun p => (t, p)
def candsTo (d : Day) (t p : Nat) : List (Nat × Nat) := (List.range t).flatMap (rowC d) ++ (List.range p).map fun p => (t, p)
theorem candsTo_succ (d : Day) (t p : Nat) : candsTo d t (p + 1) = candsTo d t p ++ [(t, p)] := by
  unfold candsTo; rw [List.range_succ, List.map_append, List.append_assoc]; rfl
theorem candsTo_row (d : Day) (t : Nat) : candsTo d t ((d.getD t []).length + 1) = candsTo d (t + 1) 0 := by
  unfold candsTo; rw [List.range_succ (n := t), List.flatMap_append]; simp [rowC]
theorem candsTo_all (d : Day) : candsTo d (d.length + 1) 0 = candsZ d := by
  unfold candsTo candsZ; simp [rowC]; rfl
theorem putC_ok {x : Inst} {d : Day} {s : Stop} {c : Nat × Nat} (hx : x.cust.length ≤ 1048576) (h1 : d.length ≤ 1000000) (h2 : d.flatten.length ≤ 1000000) (hc : c ∈ candsZ d) :
    (putC d s c).length ≤ 1048576 ∧ (∀ t ∈ putC d s c, t.length ≤ 1048576) ∧ (putC d s c).flatten.length ≤ 1048576 ∧ (dayT x (putC d s c) = 0 → DayOk (putC d s c)) := by
  obtain ⟨b1, b2⟩ := cand_bd (s := s) h1 h2 hc
  have b3 : ∀ t ∈ putC d s c, t.length ≤ 1048576 := fun t ht => Nat.le_trans (tour_sub ht).length_le b1
  refine ⟨b2, b3, b1, fun h => ⟨b2, b3, fun t ht a ha => ?_⟩⟩
  have hm := ((mayT_zero x t).1 (((dayT_zero x _).1 h).1 t ht)).1
  unfold stopsB at hm
  simp only [Bool.and_eq_true] at hm
  exact small_of hx hm.1 a ha
def BestOk (x : Inst) (d : Day) (st : Day × Bool) : Prop := (st.2 = false → st.1 = d) ∧ (st.2 = true → DayOk st.1)
theorem best_step {x : Inst} {d : Day} {s : Stop} {st : Day × Bool} (h : BestOk x d st) {c : Nat × Nat} (hk : dayT x (putC d s c) = 0 → DayOk (putC d s c)) : BestOk x d (insRS x d s st c) := by
  unfold insRS
  split
  · rename_i h0
    split
    · exact ⟨fun e => (by cases e), fun _ => hk h0⟩
    · exact h
  · exact h
set_option maxRecDepth 20000 in
set_option maxHeartbeats 1600000 in
theorem insertR_ok (x : Inst) (d : Day) (s : Stop) (hx : x.cust.length ≤ 1048576) (h1 : d.length ≤ 1000000) (h2 : d.flatten.length ≤ 1000000) : Pure Tryz.prog 73 [.agg (instL x), .agg [L d], .agg [I s.c, I s.q]] (.tup [.agg [L (insertR x d s).1], B (insertR x d s).2]) := by
  have htl : ∀ l ∈ d, l.length ≤ 1000000 := fun l hl => Nat.le_trans (tour_sub hl).length_le h2
  unfold insertR
  rw [← candsTo_all]
  refine pwe Tryz.func73 Tryz.ntmps73 Tryz.results73 fun S nx hd => ?_
  repeat refine pw_seq ?_
  refine pwn ?_
  intro v0 v1 v2 v3
  repeat refine pw_seq ?_
  refine pwn ?_
  intro v4
  repeat refine pw_seq ?_
  refine pwn ?_
  intros
  repeat refine pw_seq ?_
  refine pwn ?_
  intros
  repeat refine pw_seq ?_
  refine pw_block (pw_loopL (fun s' : Nat × Day × Bool => s'.1 ≤ d.length + 1 ∧ s'.2 = (candsTo d s'.1 0).foldl (insRS x d s) (d, false) ∧ BestOk x d s'.2) (fun (t, b, f) => [(3, .ptr nx v0 0), (4, .ptr (nx + 1) v1 0), (5, .ptr (nx + 2) v2 0), (6, .ptr (nx + 3) v3 0), (8, .ptr (nx + 4) v4 0), (9, B f), (10, I t)]) (fun (t, b, f) => [.cells v0 25 (instL x), .cells v1 35 [L d], .cells v2 43 [I s.c, I s.q], .cells v3 35 [nilS], .cells v4 35 [L b]]) (fun s' => d.length + 1 - s'.1) (0, d, false) [] ⟨by simp, rfl, fun _ => rfl, fun e => (by cases e)⟩ (by simp) (by simp) ?_)
  rintro ⟨t, b, f⟩ ⟨ht, hst, hbo⟩
  simp only at ht hst hbo ⊢
  repeat refine pw_seq ?_
  refine pwn ?_
  intros
  repeat refine pw_seq ?_
  refine pw_cond rfl (fun hc => ?_) (fun hc => ?_)
  · simp at hc
    have hc' : t ≤ d.length := by omega
    obtain ⟨n, hn⟩ : ∃ n, n = (d.getD t []).length := ⟨_, rfl⟩
    have hnb : n ≤ 1000000 := by
      rw [hn, List.getD_eq_getElem?_getD]
      cases hq : d[t]? with
      | none => simp
      | some l => exact htl l (List.mem_of_getElem? hq)
    refine pw_skip (pw_seq (pw_block ?_))
    repeat refine pw_seq ?_
    refine pwn ?_
    intros
    repeat refine pw_seq ?_
    refine pwn ?_
    intros
    repeat refine pw_seq ?_
    refine pw_joinK (nx := nx) (fun _ : Unit => True) (fun _ => [(3, .ptr nx v0 0), (4, .ptr (nx + 1) v1 0), (5, .ptr (nx + 2) v2 0), (6, .ptr (nx + 3) v3 0), (8, .ptr (nx + 4) v4 0), (9, B f), (10, I t), (11, I n)]) (fun _ => S) (fun _ => [.cells v0 25 (instL x), .cells v1 35 [L d], .cells v2 43 [I s.c, I s.q], .cells v3 35 [nilS], .cells v4 35 [L b]]) ?_ ?_
    · repeat refine pw_seq ?_
      refine pw_cond rfl (fun hq => ?_) (fun hq => ?_)
      · simp at hq
        obtain ⟨l, tl, a1, a2, a3, e0⟩ := el1 rfl d t hq
        have ht1 : 1 ≤ d.length - t := by omega
        have hnl : n = l.length := by rw [hn, List.getD_eq_getElem?_getD, a1]; rfl
        repeat refine pw_seq ?_
        refine pwN [] (jn3 e0 hq ht1) ?_
        intros
        exact at_mk () [] trivial (by simp [hnl]) rfl (by simp)
      · simp at hq
        have hnl : n = 0 := by rw [hn, List.getD_eq_getElem?_getD, List.getElem?_eq_none (by omega)]; rfl
        refine pw_skip ?_
        exact at_mk () [] trivial (by simp [hnl]) rfl (by simp)
    · rintro ⟨⟩ -
      repeat refine pw_seq ?_
      refine pwn ?_
      intros
      repeat refine pw_seq ?_
      refine pw_block (pw_loopL (fun s' : Nat × Day × Bool => s'.1 ≤ n + 1 ∧ s'.2 = (candsTo d t s'.1).foldl (insRS x d s) (d, false) ∧ BestOk x d s'.2) (fun (p, b, f) => [(3, .ptr nx v0 0), (4, .ptr (nx + 1) v1 0), (5, .ptr (nx + 2) v2 0), (6, .ptr (nx + 3) v3 0), (8, .ptr (nx + 4) v4 0), (9, B f), (10, I t), (11, I n), (12, I p)]) (fun (p, b, f) => [.cells v0 25 (instL x), .cells v1 35 [L d], .cells v2 43 [I s.c, I s.q], .cells v3 35 [nilS], .cells v4 35 [L b]]) (fun s' => n + 1 - s'.1) (0, b, f) [] ⟨by simp, hst, hbo⟩ (by simp) (by simp) ?_)
      clear hst hbo b f
      rintro ⟨p, b, f⟩ ⟨hp, hst, hbo⟩
      simp only at hp hst hbo ⊢
      repeat refine pw_seq ?_
      refine pwn ?_
      intros
      repeat refine pw_seq ?_
      refine pw_cond rfl (fun hcp => ?_) (fun hcp => ?_)
      · simp at hcp
        have hcp' : p ≤ (d.getD t []).length := by omega
        have hcand : (t, p) ∈ candsZ d := candsZ_mem.2 ⟨hc', hcp'⟩
        obtain ⟨k1, k2, k3, k4⟩ := putC_ok (s := s) hx h1 h2 hcand
        have hput := putR_ok d t p s h1 htl hc' hcp'
        have hday := dayR_ok x (putC d s (t, p)) hx k1 k2 k3
        have hstep : insRS x d s (b, f) (t, p) = (candsTo d t (p + 1)).foldl (insRS x d s) (d, false) := by rw [candsTo_succ, List.foldl_append, ← hst]; rfl
        have hbn := best_step (x := x) (s := s) hbo k4
        have hdef : insRS x d s (b, f) (t, p) = insRS x d s (b, f) (t, p) := rfl
        conv at hdef => rhs; unfold insRS
        have hcst := costR_ok x (putC d s (t, p))
        generalize putC d s (t, p) = e at *
        have wp := wrN p (by omega)
        refine pw_skip (pw_seq (pw_block ?_))
        repeat refine pw_seq ?_
        refine pwn ?_
        refine pwc hput ?_
        intro v5
        intros
        repeat refine pw_seq ?_
        refine pwn ?_
        refine pwc hday ?_
        intros
        by_cases h0 : dayT x e = 0
        case neg =>
          rw [if_neg h0] at hdef
          repeat refine pw_seq ?_
          refine pw_ct (by simp [h0]) ?_
          refine pw_exit ?_
          repeat refine pw_seq ?_
          refine pwn ?_
          intros
          exact again_mk (p + 1, b, f) [_] ⟨by simp; omega, by rw [← hstep, hdef], by rw [← hdef]; exact hbn⟩ (by simp; omega) (by simp [wp]) rfl (by simp; rfl)
        rw [if_pos h0] at hdef
        repeat refine pw_seq ?_
        refine pw_cf (by simp [h0]) ?_
        refine pw_skip ?_
        cases f with
        | false =>
          rw [if_pos (.inl rfl)] at hdef
          repeat refine pw_seq ?_
          refine pwY (some [nx, nx + 4, nx + 5]) (Row.pures [0, 1, 2, 3, 4, 5, 6, 7, 8, 9, 10] .done) mixed undef_eq ?_
          intros
          repeat refine pw_seq ?_
          refine pw_ct rfl ?_
          repeat refine pw_seq ?_
          refine pwn ?_
          intros
          repeat refine pw_seq ?_
          refine pwn ?_
          intros
          repeat refine pw_seq ?_
          refine pwn ?_
          intros
          exact again_mk (p + 1, e, true) [_] ⟨by simp; omega, by rw [← hstep, hdef], by rw [← hdef]; exact hbn⟩ (by simp; omega) (by simp [wp]) rfl (by simp; rfl)
        | true =>
          have hcb := costR_ok x b (hbo.2 rfl)
          have hce := hcst (k4 h0)
          generalize hw1 : W (costZ x e) = ce at *
          generalize hw2 : W (costZ x b) = cb at *
          repeat refine pw_seq ?_
          refine pwY (some [nx, nx + 4, nx + 5]) (Row.pures [0, 1, 2, 3, 4, 5, 6, 7, 8, 9, 10] .done) mixed trivial ?_
          refine pwP (hce) trivial ?_
          refine pwP (hcb) trivial ?_
          intros
          by_cases hlt : ce < cb
          · rw [if_pos (.inr hlt)] at hdef
            repeat refine pw_seq ?_
            refine pw_ct (by simp [hlt]) ?_
            repeat refine pw_seq ?_
            refine pwn ?_
            intros
            repeat refine pw_seq ?_
            refine pwn ?_
            intros
            repeat refine pw_seq ?_
            refine pwn ?_
            intros
            exact again_mk (p + 1, e, true) [_] ⟨by simp; omega, by rw [← hstep, hdef], by rw [← hdef]; exact hbn⟩ (by simp; omega) (by simp [wp]) rfl (by simp; rfl)
          · rw [if_neg (by simp [hlt])] at hdef
            repeat refine pw_seq ?_
            refine pw_cf (by simp [hlt]) ?_
            refine pw_skip ?_
            repeat refine pw_seq ?_
            refine pwn ?_
            intros
            exact again_mk (p + 1, b, true) [_] ⟨by simp; omega, by rw [← hstep, hdef], by rw [← hdef]; exact hbn⟩ (by simp; omega) (by simp [wp]) rfl (by simp; rfl)
      · simp at hcp
        obtain rfl : p = n + 1 := by omega
        rw [hn, candsTo_row] at hst
        refine pw_exit ?_
        repeat refine pw_seq ?_
        refine pwn ?_
        intros
        exact again_mk (t + 1, b, f) [] ⟨by simp; omega, hst, hbo⟩ (by simp; omega) (by simp [wrN t (by omega)]) rfl (by simp)
  · simp at hc
    obtain rfl : t = d.length + 1 := by omega
    refine pw_exit ?_
    rw [← hst]
    repeat refine pw_seq ?_
    refine pwn ?_
    intros
    repeat refine pw_seq ?_
    exact pw_ret (ret_pure hd (by simp; rfl) (by simp [oneOf]))
open Go Go.Proofs
def minP (x : Inst) (d : Day) (s : Stop) (t p : Nat) : Int × Bool := minZ ((((List.range p).map fun p => (t, p)).filterMap (candS x d s)).map (·.m))
theorem minP_zero (x : Inst) (d : Day) (s : Stop) (t : Nat) : minP x d s t 0 = (0, false) := rfl
theorem minP_succ (x : Inst) (d : Day) (s : Stop) (t p : Nat) : minP x d s t (p + 1) = if dayT x (putC d s (t, p)) = 0 then minS (minP x d s t p) (pmore x d s (t, p)) else minP x d s t p := by
  unfold minP minZ
  rw [List.range_succ, List.map_append, List.filterMap_append, List.map_append, List.foldl_append]
  simp only [List.map_cons, List.map_nil, List.filterMap_cons, List.filterMap_nil]
  by_cases h : dayT x (putC d s (t, p)) = 0
  · rw [if_pos h]; unfold candS; rw [if_pos h]; rfl
  · rw [if_neg h]; unfold candS; rw [if_neg h]; rfl
theorem minP_all (x : Inst) (d : Day) (s : Stop) (t : Nat) : minP x d s t ((d.getD t []).length + 1) = minZ ((groupZ x d s t).map (·.m)) := rfl
theorem minsZ_succ (x : Inst) (d : Day) (s : Stop) (t : Nat) : minsZ x d s (t + 1) = minsZ x d s t ++ (bif (minZ ((groupZ x d s t).map (·.m))).2 then [(minZ ((groupZ x d s t).map (·.m))).1] else []) := by
  unfold minsZ
  rw [List.range_succ, List.filterMap_append]
  congr 1
  cases hm : (minZ ((groupZ x d s t).map (·.m))).2 <;> simp [hm]
theorem minsZ_len (x : Inst) (d : Day) (s : Stop) (t : Nat) : (minsZ x d s t).length ≤ t := by
  unfold minsZ; exact Nat.le_trans (List.length_filterMap_le _ _) (by simp)
theorem more_wr {x : Inst} (ha : ArcOk x) {d : Day} {s : Stop} (h0 : dayT x d = 0) (h1 : d.length ≤ 1000000) (h2 : d.flatten.length ≤ 1000000) {c : Nat × Nat} (hc : c ∈ candsZ d) :
    IntKind.i64.wrap (W (costZ x (putC d s c)) - W (costZ x d)) = pmore x d s c := by
  obtain ⟨b1, b2⟩ := cand_bd (s := s) h1 h2 hc
  have e1 := costZ_bd ha (putC d s c)
  have e2 := costZ_bd ha d
  have e3 := put_cost ha (s := s) hc (dayT_ne h0)
  rw [costZ_W ha b1 b2, costZ_W ha (by omega) (by omega), wr _ (by omega) (by omega)]
  omega
set_option maxRecDepth 20000 in
set_option maxHeartbeats 1600000 in
theorem costsR_ok (x : Inst) (d : Day) (s : Stop) (hx : x.cust.length ≤ 1048576) (ha : ArcOk x) (hdo : DayOk d) (h0 : dayT x d = 0) (h1 : d.length ≤ 1000000) (h2 : d.flatten.length ≤ 1000000) : Pure Tryz.prog 72 [.agg (instL x), .agg [L d], .agg [I s.c, I s.q]] (L (costsZ x d s)) := by
  have htl : ∀ l ∈ d, l.length ≤ 1000000 := fun l hl => Nat.le_trans (tour_sub hl).length_le h2
  have hcd := costR_ok x d hdo
  unfold costsZ
  refine pwe Tryz.func72 Tryz.ntmps72 Tryz.results72 fun S nx hd => ?_
  repeat refine pw_seq ?_
  refine pwn ?_
  intro v0 v1 v2
  repeat refine pw_seq ?_
  refine pwn ?_
  intros
  refine pw_seq (pw_nil_lst 7 rfl ?_)
  repeat refine pw_seq ?_
  refine pwn ?_
  refine pwc hcd ?_
  intros
  repeat refine pw_seq ?_
  refine pwn ?_
  intros
  repeat refine pw_seq ?_
  refine pw_block (pw_loopL (fun s' : Nat × List Int => s'.1 ≤ d.length + 1 ∧ s'.2 = sortZ (minsZ x d s s'.1)) (fun (t, out) => [(3, .ptr nx v0 0), (4, .ptr (nx + 1) v1 0), (5, .ptr (nx + 2) v2 0), (7, L out), (8, I (W (costZ x d))), (9, I t)]) (fun (t, out) => [.cells v0 25 (instL x), .cells v1 35 [L d], .cells v2 43 [I s.c, I s.q]]) (fun s' => d.length + 1 - s'.1) (0, []) [] ⟨by simp, by simp [minsZ]⟩ (by simp) (by simp) ?_)
  rintro ⟨t, out⟩ ⟨ht, ho⟩
  simp only at ht ho ⊢
  have hol : out.length ≤ t := by rw [ho, sortZ_len]; exact minsZ_len x d s t
  repeat refine pw_seq ?_
  refine pwn ?_
  intros
  repeat refine pw_seq ?_
  refine pw_cond rfl (fun hc => ?_) (fun hc => ?_)
  · simp at hc
    have hc' : t ≤ d.length := by omega
    obtain ⟨n, hn⟩ : ∃ n, n = (d.getD t []).length := ⟨_, rfl⟩
    have hnb : n ≤ 1000000 := by
      rw [hn, List.getD_eq_getElem?_getD]
      cases hq : d[t]? with
      | none => simp
      | some l => exact htl l (List.mem_of_getElem? hq)
    refine pw_skip (pw_seq (pw_block ?_))
    repeat refine pw_seq ?_
    refine pwn ?_
    intros
    repeat refine pw_seq ?_
    refine pwn ?_
    intros
    repeat refine pw_seq ?_
    refine pw_joinK (nx := nx) (fun _ : Unit => True) (fun _ => [(3, .ptr nx v0 0), (4, .ptr (nx + 1) v1 0), (5, .ptr (nx + 2) v2 0), (7, L out), (8, I (W (costZ x d))), (9, I t), (10, I n)]) (fun _ => S) (fun _ => [.cells v0 25 (instL x), .cells v1 35 [L d], .cells v2 43 [I s.c, I s.q]]) ?_ ?_
    · repeat refine pw_seq ?_
      refine pw_cond rfl (fun hq => ?_) (fun hq => ?_)
      · simp at hq
        obtain ⟨l, tl, a1, a2, a3, e0⟩ := el1 rfl d t hq
        have ht1 : 1 ≤ d.length - t := by omega
        have hnl : n = l.length := by rw [hn, List.getD_eq_getElem?_getD, a1]; rfl
        repeat refine pw_seq ?_
        refine pwN [] (jn3 e0 hq ht1) ?_
        intros
        exact at_mk () [] trivial (by simp [hnl]) rfl (by simp)
      · simp at hq
        have hnl : n = 0 := by rw [hn, List.getD_eq_getElem?_getD, List.getElem?_eq_none (by omega)]; rfl
        refine pw_skip ?_
        exact at_mk () [] trivial (by simp [hnl]) rfl (by simp)
    · rintro ⟨⟩ -
      repeat refine pw_seq ?_
      refine pwn ?_
      intros
      repeat refine pw_seq ?_
      refine pwn ?_
      intros
      repeat refine pw_seq ?_
      refine pwn ?_
      intros
      repeat refine pw_seq ?_
      refine pw_block (pw_loopL (fun p : Nat => p ≤ n + 1) (fun p => [(3, .ptr nx v0 0), (4, .ptr (nx + 1) v1 0), (5, .ptr (nx + 2) v2 0), (7, L out), (8, I (W (costZ x d))), (9, I t), (10, I n), (11, I (minP x d s t p).1), (12, B (minP x d s t p).2), (13, I p)]) (fun p => [.cells v0 25 (instL x), .cells v1 35 [L d], .cells v2 43 [I s.c, I s.q]]) (fun p => n + 1 - p) 0 [] (by simp) (by simp [minP_zero]) (by simp) ?_)
      rintro p hp
      repeat refine pw_seq ?_
      refine pwn ?_
      intros
      repeat refine pw_seq ?_
      refine pw_cond rfl (fun hcp => ?_) (fun hcp => ?_)
      · simp at hcp
        have hcp' : p ≤ (d.getD t []).length := by omega
        have hcand : (t, p) ∈ candsZ d := candsZ_mem.2 ⟨hc', hcp'⟩
        obtain ⟨k1, k2, k3, k4⟩ := putC_ok (s := s) hx h1 h2 hcand
        have hput := putR_ok d t p s h1 htl hc' hcp'
        have hday := dayR_ok x (putC d s (t, p)) hx k1 k2 k3
        have hcst := costR_ok x (putC d s (t, p))
        have hmw := more_wr ha (s := s) h0 h1 h2 hcand
        have hms := minP_succ x d s t p
        generalize putC d s (t, p) = e at *
        generalize pmore x d s (t, p) = by_ at *
        have wp := wrN p (by omega)
        refine pw_skip (pw_seq (pw_block ?_))
        repeat refine pw_seq ?_
        refine pwn ?_
        refine pwc hput ?_
        intro v5
        intros
        repeat refine pw_seq ?_
        refine pwn ?_
        refine pwc hday ?_
        intros
        by_cases h0' : dayT x e = 0
        case neg =>
          rw [if_neg h0'] at hms
          repeat refine pw_seq ?_
          refine pw_ct (by simp [h0']) ?_
          refine pw_exit ?_
          repeat refine pw_seq ?_
          refine pwn ?_
          intros
          exact again_mk (p + 1) [_] (by omega) (by omega) (by simp [wp, hms]) rfl (by simp; rfl)
        rw [if_pos h0'] at hms
        repeat refine pw_seq ?_
        refine pw_cf (by simp [h0']) ?_
        refine pw_skip ?_
        have hce := hcst (k4 h0')
        repeat refine pw_seq ?_
        refine pwn ?_
        refine pwC [] hce hmw ?_
        intros
        generalize hmp : minP x d s t p = mp at *
        obtain ⟨b, f⟩ := mp
        unfold minS at hms
        simp only at hms ⊢
        cases f with
        | false =>
          rw [if_pos (.inl rfl)] at hms
          repeat refine pw_seq ?_
          refine pwN [(2, 61)] undef_eq ?_
          intros
          repeat refine pw_seq ?_
          refine pw_ct rfl ?_
          repeat refine pw_seq ?_
          refine pwn ?_
          intros
          repeat refine pw_seq ?_
          refine pwn ?_
          intros
          repeat refine pw_seq ?_
          refine pwn ?_
          intros
          exact again_mk (p + 1) [_] (by omega) (by omega) (by simp [wp, hms]) rfl (by simp; rfl)
        | true =>
          by_cases hlt : by_ < b
          · rw [if_pos (.inr hlt)] at hms
            repeat refine pw_seq ?_
            refine pwN [(2, 61)] hlt ?_
            intros
            repeat refine pw_seq ?_
            refine pw_ct rfl ?_
            repeat refine pw_seq ?_
            refine pwn ?_
            intros
            repeat refine pw_seq ?_
            refine pwn ?_
            intros
            repeat refine pw_seq ?_
            refine pwn ?_
            intros
            exact again_mk (p + 1) [_] (by omega) (by omega) (by simp [wp, hms]) rfl (by simp; rfl)
          · rw [if_neg (by simp [hlt])] at hms
            repeat refine pw_seq ?_
            refine pwN [(2, 61)] hlt ?_
            intros
            repeat refine pw_seq ?_
            refine pw_cf rfl ?_
            refine pw_skip ?_
            repeat refine pw_seq ?_
            refine pwn ?_
            intros
            exact again_mk (p + 1) [_] (by omega) (by omega) (by simp [wp, hms]) rfl (by simp; rfl)
      · simp at hcp
        obtain rfl : p = n + 1 := by omega
        have hmall := minP_all x d s t
        rw [← hn] at hmall
        have hms := minsZ_succ x d s t
        rw [← hmall] at hms
        generalize minP x d s t (n + 1) = mp at *
        obtain ⟨b, f⟩ := mp
        simp only at hms ⊢
        have wt := wrN t (by omega)
        refine pw_exit ?_
        repeat refine pw_seq ?_
        refine pwn ?_
        intros
        cases f with
        | false =>
          simp only [cond_false, List.append_nil] at hms
          repeat refine pw_seq ?_
          refine pw_cf rfl ?_
          refine pw_skip ?_
          repeat refine pw_seq ?_
          refine pwn ?_
          intros
          exact again_mk (t + 1, out) [] ⟨by simp; omega, by rw [hms, ho]⟩ (by simp; omega) (by simp [wt]) rfl (by simp)
        | true =>
          simp only [cond_true] at hms
          repeat refine pw_seq ?_
          refine pw_ct rfl ?_
          repeat refine pw_seq ?_
          refine pwn ?_
          intros
          repeat refine pw_seq ?_
          refine pw_joinK (nx := nx) (fun j : Nat => j ≤ out.length ∧ (∀ (j' : Nat) z, j ≤ j' → out[j']? = some z → b < z) ∧ (j = 0 ∨ ∃ z, out[j - 1]? = some z ∧ z ≤ b)) (fun j => [(3, .ptr nx v0 0), (4, .ptr (nx + 1) v1 0), (5, .ptr (nx + 2) v2 0), (7, L out), (8, I (W (costZ x d))), (9, I t), (11, I b), (16, I j)]) (fun _ => S) (fun _ => [.cells v0 25 (instL x), .cells v1 35 [L d], .cells v2 43 [I s.c, I s.q]]) ?_ ?_
          · refine pw_block (pw_loopL (fun j : Nat => j ≤ out.length ∧ (∀ (j' : Nat) z, j ≤ j' → out[j']? = some z → b < z)) (fun j => [(3, .ptr nx v0 0), (4, .ptr (nx + 1) v1 0), (5, .ptr (nx + 2) v2 0), (7, L out), (8, I (W (costZ x d))), (9, I t), (11, I b), (16, I j)]) (fun _ => [.cells v0 25 (instL x), .cells v1 35 [L d], .cells v2 43 [I s.c, I s.q]]) (fun j => j) out.length [] ⟨Nat.le_refl _, fun j' z q1 q2 => by have := (List.getElem?_eq_some_iff.1 q2).1; omega⟩ (by simp) (by simp) ?_)
            rintro j ⟨hj, hj2⟩
            by_cases hz : 0 < j
            · obtain ⟨m, rfl⟩ : ∃ m, j = m + 1 := ⟨j - 1, by omega⟩
              obtain ⟨z, tz, c1, c2, c3, g0⟩ := el1 rfl out m (by omega)
              have wm : IntKind.i64.wrap (m : Int) = m := wr _ (by omega) (by omega)
              have hm1 : m < out.length := by omega
              have hm2 : (0 : Int) < (m : Int) + 1 := by omega
              have hm3 : 1 ≤ out.length - m := by omega
              by_cases hgt : b < z
              · repeat refine pw_seq ?_
                refine pwN [(2, 72)] (jn6 wm hm1 hm2 g0 hm3 hgt) ?_
                intros
                repeat refine pw_seq ?_
                refine pw_ct rfl ?_
                refine pw_skip (pw_block ?_)
                repeat refine pw_seq ?_
                refine pwN [] wm ?_
                intros
                refine again_mk m [] ⟨by omega, fun j' z' q1 q2 => ?_⟩ (by simp) (by simp [wm]) rfl (by simp)
                by_cases e : j' = m
                · subst e; rw [c1] at q2; cases q2; exact hgt
                · exact hj2 j' z' (by omega) q2
              · repeat refine pw_seq ?_
                refine pwN [(2, 72)] (jn6 wm hm1 hm2 g0 hm3 hgt) ?_
                intros
                repeat refine pw_seq ?_
                refine pw_cf rfl ?_
                refine pw_exit ?_
                exact at_mk (m + 1) [] ⟨hj, hj2, .inr ⟨z, c1, by omega⟩⟩ (by simp) rfl (by simp)
            · obtain rfl : j = 0 := by omega
              repeat refine pw_seq ?_
              refine pwN [(2, 72)] undef_eq ?_
              intros
              repeat refine pw_seq ?_
              refine pw_cf rfl ?_
              refine pw_exit ?_
              exact at_mk 0 [] ⟨hj, hj2, .inl rfl⟩ (by simp) rfl (by simp)
          · rintro j ⟨hj, hj1, hj2⟩
            have hnew := put_sort ho hj hj1 hj2
            rw [← hms] at hnew
            have htk3 : (out.flatMap Enc.enc : List PV).take j = (out.take j).flatMap Enc.enc := by have := flat_take Enc.enc 1 (fun _ => rfl) out j; simpa using this
            have hdr3 : (out.flatMap Enc.enc : List PV).drop j = (out.drop j).flatMap Enc.enc := by have := flat_drop Enc.enc 1 (fun _ => rfl) out j; simpa using this
            repeat refine pw_seq ?_
            refine pwn ?_
            intros
            refine pw_seq (pw_nilX 17 3 1 rfl fun v5 => ?_)
            repeat refine pw_seq ?_
            refine pwN [] (jn2 htk3 hj) ?_
            refine ⟨by omega, ?_⟩
            intros
            have hjl : (out.take j).length = j := by simp; omega
            have hfl : ((out.take j).flatMap Enc.enc : List PV).length = j := by rw [flen_int, hjl]
            have hjm : min j out.length = j := by omega
            have htt : ((out.take j).flatMap Enc.enc : List PV).take j = (out.take j).flatMap Enc.enc := List.take_of_length_le (by omega)
            have hw1 : ((out.take j).flatMap Enc.enc ++ [I b] : List PV).length = j + 1 := by simp [hfl]; omega
            have hw2 : ((out.take j).flatMap Enc.enc ++ [I b] : List PV).take (j + 1) = (out.take j).flatMap Enc.enc ++ [I b] := List.take_of_length_le (by omega)
            repeat refine pw_seq ?_
            refine pwN [] (jn3 hfl hjm htt) ?_
            refine ⟨by omega, ?_⟩
            intros
            repeat refine pw_seq ?_
            refine pwN [] (jn4 hdr3 hj hw1 hw2) ?_
            refine ⟨by omega, ?_⟩
            intros
            refine pw_frz 3 rfl ?_
            repeat refine pw_seq ?_
            refine pwn ?_
            intros
            have hol2 : (out.take j ++ b :: out.drop j).length = out.length + 1 := by simp; omega
            refine again_mk (t + 1, out.take j ++ b :: out.drop j) [_] ⟨by simp; omega, hnew⟩ (by simp; omega) ?_ rfl (by simp; rfl)
            simp [wt, hol2]
            have x1 : j + 1 + (out.length - j) = out.length + 1 := by omega
            have x2 : ((out.drop j).flatMap Enc.enc : List PV).take (out.length - j) = (out.drop j).flatMap Enc.enc := List.take_of_length_le (by rw [flen_int]; simp)
            rw [if_pos (by omega), x2, x1]
            simp [hol2]
  · simp at hc
    obtain rfl : t = d.length + 1 := by omega
    refine pw_exit ?_
    rw [← ho]
    repeat refine pw_seq ?_
    refine pwn ?_
    intros
    repeat refine pw_seq ?_
    exact pw_ret (ret_pure hd (by simp; rfl) (by simp [oneOf]))
open Go Go.Proofs
theorem Sim.drewN {C : Ctx} {S : Store} {w : World} (h : Sim C S w) : ∀ q : Nat, Sim C S (w.drewN q) ∧ Step C S w C S (w.drewN q)
  | 0 => by
    have e : w.drewN 0 = w := rfl
    rw [e]; exact ⟨h, .refl _ _ _⟩
  | q + 1 => by
    obtain ⟨a, b⟩ := Sim.drewN h q
    obtain ⟨c, d⟩ := a.drew
    have e : w.drewN (q + 1) = (w.drewN q).drew := by unfold World.drewN World.drew; simp [Nat.add_assoc]
    rw [e]
    exact ⟨c, b.trans d⟩
theorem search_ok (zs : List Int) (c : Int) (hn : zs.length ≤ 1048576) (hs : zs.Pairwise (· ≤ ·)) : Pure Tryz.prog 77 [L zs, I c] (.tup [I (zs.countP (· < c) : Nat), B (zs.contains c)]) := by
  intro S
  refine ⟨enters_of Tryz.func77 (by rfl) rfl, ?_⟩
  intro C w vs hS hl hr
  obtain ⟨u, v, rfl⟩ : ∃ u v, vs = #[u, v] := arr2 hl
  obtain rfl := rel_int (hr 1 _ v rfl rfl)
  have h0 : Rel C S w (.lst zs.length (zs.flatMap Enc.enc)) u := hr 0 _ u rfl rfl
  have hret : ∀ (k : Int) (b : Bool), Rel C S w (.tup [I k, B b]) (.tuple #[.int .i64 k, .bool b]) := by
    intro k b
    refine .tup rfl ?_
    intro i p v hc hv
    match i with
    | 0 => have hc : some (I k) = some p := hc; have hv : some (Value.int .i64 k) = some v := hv; cases hc; cases hv; exact .sc _
    | 1 => have hc : some (B b) = some p := hc; have hv : some (Value.bool b) = some v := hv; cases hc; cases hv; exact .sc _
    | i + 2 => simp at hc
  rw [flat_int] at h0
  generalize hcs : zs.map I = cs at h0
  generalize hzl : zs.length = n at h0 hn
  cases h0 with
  | lst0 =>
    obtain rfl : zs = [] := List.eq_nil_of_length_eq_zero hzl
    refine (Tryz.slices_BinarySearch_int_empty _ _ c w).mono ?_
    rintro e w' ⟨rfl, rfl⟩
    exact ⟨_, _, _, _, rfl, ⟨rfl, rfl⟩, hret 0 false, hS, .refl _ _ _⟩
  | lst1 g1 g2 g3 g4 g5 g6 g7 =>
    rename_i cap b o ca e fz
    by_cases hz : zs = []
    · subst hz
      simp at hzl
      subst hzl
      refine (Tryz.slices_BinarySearch_int_empty _ _ c w).mono ?_
      rintro e w' ⟨rfl, rfl⟩
      exact ⟨_, _, _, _, rfl, ⟨rfl, rfl⟩, hret 0 false, hS, .refl _ _ _⟩
    · subst hcs
      have g5' := g5 (by simpa using hz)
      rw [List.length_map] at g5'
      have hcell : ∀ j, j < zs.length → w.cell? ⟨b, o + j, none⟩ = some (.int .i64 (zs.getD j 0)) := by
        intro j hj
        have e2 : ca[o + j]? = some ca[o + j] := by rw [Array.getElem?_eq_getElem]
        have e3 := rel_int (g7 j (I (zs.getD j 0)) _ (by simp [hj]) e2)
        rw [e3] at e2
        simp [World.cell?, g3, e2]
      refine (Tryz.slices_BinarySearch_int b o n cap zs c w (by omega) (by omega) hcell (hs.sublist (List.take_sublist _ _))).mono ?_
      rintro e w' ⟨rfl, q, rfl⟩
      obtain ⟨s1, s2⟩ := hS.drewN q
      rw [List.take_of_length_le (by omega)]
      exact ⟨_, _, _, _, rfl, ⟨rfl, rfl⟩, (hret _ _).mono s2, s1, s2⟩
theorem fmap_at {n k : Nat} (hk : k < n) (W : Nat → List Spot) (E : List Spot) (i : Nat) (x : List PV) (h : ((W k).map spotE)[i]? = some x) : (((List.range n).flatMap W ++ E).map spotE)[((List.range k).flatMap W).length + i]? = some x := by
  obtain ⟨m, rfl⟩ : ∃ m, n = k + (m + 1) := ⟨n - k - 1, by omega⟩
  rw [List.getElem?_map] at h ⊢
  rw [List.range_add, List.flatMap_append, List.append_assoc, List.getElem?_append_right (Nat.le_add_right _ _), Nat.add_sub_cancel_left, List.range_succ_eq_map]
  have hi : i < (W k).length := by
    rcases Nat.lt_or_ge i (W k).length with e | e
    · exact e
    · rw [List.getElem?_eq_none e] at h; cases h
  rw [List.getElem?_append_left (by simp; omega)]
  simp only [List.map_cons, List.flatMap_cons, Nat.add_zero]
  rw [List.getElem?_append_left (by omega)]
  exact h
theorem fmap_len (W : Nat → List Spot) (k : Nat) : ((List.range (k + 1)).flatMap W).length = ((List.range k).flatMap W).length + (W k).length := by
  rw [List.range_succ, List.flatMap_append, List.length_append]; simp
theorem contains_sortZ (l : List Int) (c : Int) : (sortZ l).contains c = l.contains c := by
  rw [Bool.eq_iff_iff, List.contains_iff_mem, List.contains_iff_mem]
  exact (List.mergeSort_perm l _).mem_iff
theorem small_stop {x : Inst} {s : Stop} (hx : x.cust.length ≤ 1048576) (h : mayT x [s] ≠ 1) : small s.c := by
  have := single_good h
  unfold goodS at this
  simp only [Bool.and_eq_true, decide_eq_true_eq] at this
  unfold small; omega
set_option maxRecDepth 20000 in
set_option maxHeartbeats 1600000 in
theorem spots_iter (x : Inst) (d : Day) (s : Stop) (hx : x.cust.length ≤ 1048576) (hdo : DayOk d) (hf : d.flatten.length ≤ 1048576) : Iter Tryz.prog 76 [.ip [I s.c, I s.q], .ip (lookL x d)] ((spotsZ x d s).map spotE) := by
  have hmay := mayP_ok x [s] hx (by simp)
  have hse := search_ok (sortZ (d.flatten.map (·.c))) s.c (by rw [sortZ_len, List.length_map]; exact hf) (sortZ_le _)
  rw [contains_sortZ] at hse
  generalize ((sortZ (d.flatten.map (·.c))).countP (· < s.c) : Nat) = cnt at hse
  obtain ⟨tw, htw⟩ : ∃ tw, tw = decide (¬ (sortZ (d.flatten.map (·.c))).Nodup) := ⟨_, rfl⟩
  have htw' : tw = decide (¬ (d.flatten.map (·.c)).Nodup) := by rw [htw]; exact decide_eq_decide.2 (not_congr (List.mergeSort_perm _ _).nodup_iff)
  obtain ⟨th, hth⟩ : ∃ th, th = (d.flatten.map (·.c)).contains s.c := ⟨_, rfl⟩
  rw [← hth] at hse
  have hlk : lookL x d = lookG x d (sortZ (d.flatten.map (·.c))) tw (d.map (mayT x)) (badN x d) (d.map tourL) (d.map (tourW x)) := by rw [htw]
  rw [hlk]
  obtain ⟨on, hon⟩ : ∃ on, on = sortZ (d.flatten.map (·.c)) := ⟨_, rfl⟩
  rw [← hon] at hse ⊢
  obtain ⟨fa, hfa⟩ : ∃ fa, fa = mayT x [s] := ⟨_, rfl⟩
  rw [← hfa] at hmay
  have hdn := hdo.n
  refine iter_enter Tryz.func76 (by rfl) rfl Tryz.ntmps76 (congrArg Array.toList Tryz.results76) (by simp) fun l V keep nx J hJd hY A0 hA0 => ?_
  repeat refine pw_seq ?_
  refine pwY (some []) (Row.pures [0, 1, 2, 3, 4, 5] (.alt 6 (.alt 7 (Row.pures [8] .done) .stop) .stop)) mixed trivial ?_
  refine pwP (singleP_ok s) trivial ?_
  intro v0
  intros
  repeat refine pw_seq ?_
  refine pwn ?_
  refine pwc hmay ?_
  intros
  repeat refine pw_seq ?_
  refine pwn ?_
  refine pwc hse ?_
  intros
  by_cases hout : mayT x [s] = 1 ∨ s.c ∈ d.flatten.map (·.c) ∨ ¬ (d.flatten.map (·.c)).Nodup ∨ x.veh < d.length
  · have hz : spotsZ x d s = [] := by unfold spotsZ; rw [if_pos hout]
    rw [hz] at hY ⊢
    by_cases h1 : fa = 1
    · repeat refine pw_seq ?_
      refine pwN [(2, 30), (5, 33), (9, 37)] (jn2 h1 undef_eq) ?_
      intros
      repeat refine pw_seq ?_
      refine pw_ct rfl ?_
      exact pw_ret (ret_iter (hJd _ _ hA0) rfl (by simpa using hA0))
    cases h2 : th with
    | true =>
      repeat refine pw_seq ?_
      refine pwN [(2, 30), (5, 33), (9, 37)] (jn2 h1 undef_eq) ?_
      intros
      repeat refine pw_seq ?_
      refine pw_ct rfl ?_
      exact pw_ret (ret_iter (hJd _ _ hA0) rfl (by simpa using hA0))
    | false =>
      cases h3 : tw with
      | true =>
        repeat refine pw_seq ?_
        refine pwN [(2, 30), (5, 33), (9, 37)] (jn2 h1 undef_eq) ?_
        intros
        repeat refine pw_seq ?_
        refine pw_ct rfl ?_
        exact pw_ret (ret_iter (hJd _ _ hA0) rfl (by simpa using hA0))
      | false =>
        have h4 : x.veh < d.length := by
          rcases hout with e | e | e | e
          · exact absurd (hfa.trans e) h1
          · have : th = true := by rw [hth, List.contains_iff_mem]; exact e
            rw [h2] at this; cases this
          · have : tw = true := by rw [htw']; exact decide_eq_true e
            rw [h3] at this; cases this
          · exact e
        repeat refine pw_seq ?_
        refine pwN [(2, 30), (5, 33), (9, 37)] (jn3 h1 h4 undef_eq) ?_
        intros
        repeat refine pw_seq ?_
        refine pw_ct rfl ?_
        exact pw_ret (ret_iter (hJd _ _ hA0) rfl (by simpa using hA0))
  have h1 : ¬ fa = 1 := fun e => hout (.inl (hfa ▸ e))
  have h2 : th = false := by
    cases e : th with
    | false => rfl
    | true => rw [hth, List.contains_iff_mem] at e; exact absurd (.inr (.inl e)) hout
  have h3 : tw = false := by
    cases e : tw with
    | false => rfl
    | true => rw [htw'] at e; exact absurd (.inr (.inr (.inl (of_decide_eq_true e)))) hout
  have h4 : ¬ x.veh < d.length := fun e => hout (.inr (.inr (.inr e)))
  have hsm := small_stop hx (s := s) (fun e => hout (.inl e))
  obtain ⟨WW, hWW⟩ : ∃ WW : Nat → List Spot, WW = fun t => withinZ x t (d.getD t []) (mayT x (d.getD t [])) (badN x d) (tourL (d.getD t [])) (tourW x (d.getD t [])) s := ⟨_, rfl⟩
  obtain ⟨EE, hEE⟩ : ∃ EE : List Spot, EE = if badN x d = 0 ∧ mayT x [s] = 0 ∧ (d.length : Int) < x.veh then [⟨d.length, 0, W (wayZ x [s.c])⟩] else [] := ⟨_, rfl⟩
  have hz : spotsZ x d s = (List.range d.length).flatMap WW ++ EE := by unfold spotsZ; rw [if_neg hout, hWW, hEE]
  rw [hz] at hY ⊢
  subst h2 h3
  repeat refine pw_seq ?_
  refine pwN [(2, 30), (5, 33), (9, 37)] (jn3 h1 h4 undef_eq) ?_
  intros
  repeat refine pw_seq ?_
  refine pw_cf rfl ?_
  refine pw_skip ?_
  repeat refine pw_seq ?_
  refine pwn ?_
  intros
  repeat refine pw_seq ?_
  refine pw_block (pw_loopB (σ := Nat × Store) (fun s' => s'.1 ≤ d.length ∧ J ((List.range s'.1).flatMap WW).length s'.2) (fun s' => [(0, yld l), (1, .ip [I s.c, I s.q]), (2, .ip (lookG x d on false (d.map (mayT x)) (badN x d) (d.map tourL) (d.map (tourW x)))), (4, .ptr nx v0 0), (5, I d.length), (6, I fa), (44, I d.length), (45, I s'.1)]) (fun s' => s'.2)
    (fun _ => [.cells v0 66 [L [s]]]) (fun s' => d.length - s'.1) (at_mk (0, A0) [] (by simpa using hA0) (by simp) rfl (by simp)) ?_)
  rintro ⟨k, A⟩ ⟨hk, hJ⟩
  simp only at hk hJ ⊢
  repeat refine pw_seq ?_
  refine pwn ?_
  intros
  repeat refine pw_seq ?_
  refine pw_cond rfl (fun hc => ?_) (fun hc => ?_)
  · simp at hc
    have hdk : d[k]? = some d[k] := List.getElem?_eq_getElem hc
    have hg : d.getD k [] = d[k] := by rw [List.getD_eq_getElem?_getD, hdk]; rfl
    have hb : mayT x d[k] = 13 → 0 < badN x d := by
      intro e
      rcases Nat.eq_zero_or_pos (badN x d) with q | q
      · rw [badN_zero.1 q _ (List.getElem_mem hc)] at e; cases e
      · exact q
    have hw := within_ok x d on false (d.map (mayT x)) (badN x d) (d.map tourL) (d.map (tourW x)) k d[k] s (mayT x d[k]) (tourL d[k]) (tourW x d[k]) (Nat.le_trans (badN_le x d) hdn) hdn hdk (by rw [List.getElem?_map, hdk]; rfl) (by rw [List.getElem?_map, hdk]; rfl) (by rw [List.getElem?_map, hdk]; rfl) (by simp) (by simp) (by simp) hb (hdo.t _ (List.getElem_mem hc)) (hdo.s _ (List.getElem_mem hc)) hsm
    have hWk : WW k = withinZ x k d[k] (mayT x d[k]) (badN x d) (tourL d[k]) (tourW x d[k]) s := by rw [hWW]; simp only [hg]
    rw [← hWk] at hw
    have hlen := fmap_len WW k
    refine pw_skip (pw_seq (pw_block ?_))
    repeat refine pw_seq ?_
    refine pwn ?_
    intros
    repeat refine pw_seq ?_
    refine pw_N [] (by rfl) (by rfl) fun K Gc Gh hK hGc hGh X hX0 hX => ?_
    simp -implicitDefEqProofs [hX0, hX]
    try clear hX0 hX X
    refine hGc _ _ _ _ _ _ _ fun hsuf => ((sub_use hw keep hY _ (fmap_at hc WW EE) hJ _).mono ?_)
    rintro _ _ ⟨A', rfl, hJ', rfl⟩
    rw [List.length_map, ← hlen] at hJ'
    refine ⟨_, _, rfl, ?_⟩
    clear hGc hGh
    clear Gc Gh
    refine xs_go hsuf (D := []) (by rfl) fun Gc Gh hGc hGh X hX0 hX => ?_
    simp -implicitDefEqProofs [hX0, hX]
    clear hX0 hX X
    intros
    refine hK _ _ _ ?_
    clear hK hGc hGh
    clear K Gc Gh
    repeat refine pw_seq ?_
    refine pw_cf rfl ?_
    refine pw_skip ?_
    repeat refine pw_seq ?_
    refine pwn ?_
    intros
    exact again_mk (k + 1, A') [] ⟨hc, hJ'⟩ (by simp; omega) (by simp [wrN k (by omega)]) rfl (by simp)
  · simp at hc
    obtain rfl : k = d.length := by omega
    refine pw_exit ?_
    by_cases he : badN x d = 0 ∧ mayT x [s] = 0 ∧ (d.length : Int) < x.veh
    · have hE : EE = [⟨d.length, 0, W (wayZ x [s.c])⟩] := by rw [hEE, if_pos he]
      obtain ⟨e1, e2, e3⟩ := he
      have hlw := lengthP_ok x [s] (by simp) (by simpa using hsm)
      have h5 : fa = 0 := hfa.trans e2
      have hy : (((List.range d.length).flatMap WW ++ EE).map spotE)[((List.range d.length).flatMap WW).length]? = some (spotE ⟨d.length, 0, W (wayZ x [s.c])⟩) := by
        rw [List.getElem?_map, List.getElem?_append_right (Nat.le_refl _), Nat.sub_self, hE]; rfl
      simp only [List.map_cons, List.map_nil] at hlw
      repeat refine pw_seq ?_
      refine pwN [(3, 58), (7, 62)] (jn4 e1 h5 e3 undef_eq) ?_
      intros
      repeat refine pw_seq ?_
      refine pw_ct rfl ?_
      repeat refine pw_seq ?_
      refine pw_N [] (by rfl) (by rfl) fun K Gc Gh hK hGc hGh X hX0 hX => ?_
      simp -implicitDefEqProofs [hX0, hX]
      try clear hX0 hX X
      refine hGc _ _ _ _ _ _ _ fun hsuf => ((hlw _).mono ?_).v
      rintro _ _ ⟨rfl, rfl⟩
      refine ⟨_, _, rfl, ?_⟩
      clear hGc hGh
      clear Gc Gh
      refine xs_go hsuf (D := []) (by rfl) fun Gc Gh hGc hGh X hX0 hX => ?_
      simp -implicitDefEqProofs [hX0, hX]
      try clear hX0 hX X
      refine hGh _ _ _ _ _ fun hsuf => po_yield rfl rfl rfl (hY _ _ _ _ hy hJ) ?_
      rintro _ ⟨A', hJ', rfl⟩
      refine ⟨_, _, rfl, ?_⟩
      clear hGc hGh
      clear Gc Gh
      refine xs_go hsuf (D := []) (by rfl) fun Gc Gh hGc hGh X hX0 hX => ?_
      simp -implicitDefEqProofs [hX0, hX]
      try clear hX0 hX X
      intros
      refine hK _ _ _ ?_
      clear hK hGc hGh
      clear K Gc Gh
      exact ret_iter (hJd _ _ hJ') rfl (by rw [List.length_map, List.length_append, hE]; exact hJ')
    · have hE : EE = [] := by rw [hEE, if_neg he]
      have hfin : J (((List.range d.length).flatMap WW ++ EE).map spotE).length A := by rw [hE, List.append_nil, List.length_map]; exact hJ
      by_cases e1 : badN x d = 0
      · by_cases e2 : fa = 0
        · have e3 : ¬ (d.length : Int) < x.veh := fun e => he ⟨e1, hfa ▸ e2, e⟩
          repeat refine pw_seq ?_
          refine pwN [(3, 58), (7, 62)] (jn4 e1 e2 e3 undef_eq) ?_
          intros
          repeat refine pw_seq ?_
          refine pw_cf rfl ?_
          refine pw_skip ?_
          exact ret_iter (hJd _ _ hJ) rfl hfin
        · repeat refine pw_seq ?_
          refine pwN [(3, 58), (7, 62)] (jn3 e1 e2 undef_eq) ?_
          intros
          repeat refine pw_seq ?_
          refine pw_cf rfl ?_
          refine pw_skip ?_
          exact ret_iter (hJd _ _ hJ) rfl hfin
      · repeat refine pw_seq ?_
        refine pwN [(3, 58), (7, 62)] (jn2 e1 undef_eq) ?_
        intros
        repeat refine pw_seq ?_
        refine pw_cf rfl ?_
        refine pw_skip ?_
        exact ret_iter (hJd _ _ hJ) rfl hfin
open Go Go.Proofs
theorem frz_day (id v : Nat) (cs : List PV) (d : Day) : (d.flatMap Enc.enc).map (frzP id v cs) = (d.flatMap Enc.enc : List PV) := by
  induction d with
  | nil => rfl
  | cons l d ih => rw [List.flatMap_cons, List.map_append, ih]; rfl
theorem frz_set (id v : Nat) (cs : List PV) (d : Day) (t : Nat) (p : PV) : ((d.flatMap Enc.enc).set t p).map (frzP id v cs) = (d.flatMap Enc.enc : List PV).set t (frzP id v cs p) := by
  rw [List.map_set, frz_day]
theorem enc_set : ∀ (d : Day) (t : Nat) (l : Tour), (d.flatMap Enc.enc : List PV).set t (L l) = (d.set t l).flatMap Enc.enc
  | [], t, l => rfl
  | m :: d, 0, l => rfl
  | m :: d, t + 1, l => by
    rw [List.set_cons_succ, List.flatMap_cons, List.flatMap_cons, ← enc_set d t l]
    rfl
theorem ext_push2 {S : Store} {nx m : Nat} {obs : List Ob} (x y : Ob) (hm : m = nx + obs.length) : ((ext S nx obs).set (m + 3) x).set (m + 4) y = ext S nx (obs ++ [.dead, .dead, .dead, x, y]) := by
  subst hm
  rw [ext_pushK 3]
  have := ext_push (S := S) (nx := nx) (obs := obs ++ List.replicate 3 .dead ++ [x]) y
  simpa [Nat.add_assoc] using this
theorem cloneDO_ok (d : Day) (hd0 : d.length ≤ 1048576) (hd1 : ∀ l ∈ d, l.length ≤ 1048576) (S : Store) (nx : Nat) (hd : DeadFrom nx S) :
    Spec Tryz.prog 48 [.agg [L d]] S (fun p S' => ∃ v, p = .agg [.sl (nx + 3) v 1 0 d.length] ∧ S' = S.set (nx + 3) (.cells v 66 (d.flatMap Enc.enc))) := by
  refine (cloneD_ok d d.length hd0 hd1 (by simp) S nx hd).mono ?_
  rintro _ _ ⟨v, ts, ob, ⟨h1, h2, -⟩, rfl, rfl⟩
  obtain ⟨rfl, rfl⟩ := h2 (Nat.le_refl _)
  rw [List.take_length]
  refine ⟨v, rfl, ?_⟩
  funext o
  by_cases h4 : o = nx + 4
  · subst h4
    rw [Store.set_same, Store.set_other _ _ _ _ (by omega), hd _ (by omega)]
  · rw [Store.set_other _ _ _ _ h4]
theorem splice_at (cs : List PV) (i : Nat) (p q : PV) (h : i < cs.length) : splice (cs.set i p) i [q] = cs.set i q := by
  unfold splice
  rw [List.set_eq_take_append_cons_drop, if_pos h, List.set_eq_take_append_cons_drop, if_pos h]
  have hl : (cs.take i).length = i := by rw [List.length_take]; omega
  rw [List.take_append_of_le_length (by omega), List.take_of_length_le (by omega), List.drop_append, hl, List.drop_of_length_le (by rw [hl]; simp)]
  simp
theorem frz_self (id v sz k : Nat) (cs : List PV) (h : k * sz = cs.length) : frzP id v cs (.sl id v sz 0 k) = .lst k cs := by simp [frzP, h]
theorem foldl_at {α β : Type} {f : β → α → β} {b : β} {l : List α} {i : Nat} {a : α} (h : l[i]? = some a) : (l.take (i + 1)).foldl f b = f ((l.take i).foldl f b) a := by
  obtain ⟨hi, rfl⟩ := List.getElem?_eq_some_iff.1 h
  rw [List.take_succ_eq_append_getElem hi, List.foldl_append]; rfl
theorem spot_tour {x : Inst} {d : Day} {s : Stop} {b : Spot} (h : b ∈ spotsZ x d s) (hb : b.t ≠ d.length) : ∃ l, d[b.t]? = some l ∧ 0 < l.length ∧ b.p ≤ l.length := by
  obtain ⟨-, -, -, -, h⟩ := spotsZ_mem h
  rcases h with ⟨l, hl, hi, ho, -⟩ | ⟨rfl, -⟩
  · refine ⟨l, hl, ?_, hi⟩
    have hself : mayT x l = 0 ∨ mayT x l = 13 := by
      by_cases hf : mayT x l = 13
      · exact .inr hf
      · rw [if_neg hf] at ho
        exact .inl (badN_zero.1 (by omega) l (List.mem_of_getElem? hl))
    have hst : stopsB x l = true := by
      cases e : stopsB x l with
      | true => rfl
      | false => rw [mayT_one e] at hself; rcases hself with h | h <;> cases h
    exact List.length_pos_iff.2 (stopsB_ne hst)
  · exact absurd rfl hb
theorem spot_le {x : Inst} {d : Day} {s : Stop} {b : Spot} (h : b ∈ spotsZ x d s) : b.t ≤ d.length := by
  obtain ⟨-, -, -, -, h⟩ := spotsZ_mem h
  rcases h with ⟨l, hl, -⟩ | ⟨rfl, -⟩
  · exact Nat.le_of_lt (List.getElem?_eq_some_iff.1 hl).1
  · exact Nat.le_refl _
set_option maxRecDepth 20000 in
set_option maxHeartbeats 1600000 in
theorem insert_ok (x : Inst) (d : Day) (s : Stop) (hx : x.cust.length ≤ 1048576) (hdo : DayOk d) (hf : d.flatten.length ≤ 1000000) : Pure Tryz.prog 26 [.agg (instL x), .agg [L d], .agg [I s.c, I s.q]] (.tup [.agg [L (insertD x d s).1], B (insertD x d s).2]) := by
  have hit := spots_iter x d s hx hdo (by omega)
  have hsee := see_ok x d hx hdo (by omega)
  have hmem := fun h => bestZ_mem (l := spotsZ x d s) h
  have hle : ∀ b ∈ spotsZ x d s, b.t ≤ d.length := fun b hb => spot_le hb
  have htour : ∀ b ∈ spotsZ x d s, b.t ≠ d.length → ∃ l, d[b.t]? = some l ∧ 0 < l.length ∧ b.p ≤ l.length := fun b hb => spot_tour hb
  have hins : insertD x d s = bif (bestZ (spotsZ x d s)).2 then (putD d (bestZ (spotsZ x d s)).1 s, true) else (d, false) := rfl
  have hsF := spotsF_ok (lookL x d) s rfl
  rw [hins]
  clear hins
  generalize spotsZ x d s = xs at *
  generalize hlk : lookL x d = lk at *
  have hdn := hdo.n
  have hd1 : ∀ l ∈ d, l.length ≤ 1000000 := fun l hl => Nat.le_trans (tour_sub hl).length_le hf
  refine pwe Tryz.func26 Tryz.ntmps26 Tryz.results26 fun S nx hd => ?_
  repeat refine pw_seq ?_
  refine pwn ?_
  intro v0 v1 v2 v3
  repeat refine pw_seq ?_
  refine pwn ?_
  intro v4 v5
  repeat refine pw_seq ?_
  refine pwY none (Row.pures [0, 1, 2, 3, 4] .done) mixed trivial ?_
  refine pwP (hsee) trivial ?_
  refine pwP (hsF) trivial ?_
  intros
  repeat refine pw_seq ?_
  refine pw_block (pw_rangeFunc (xs := xs.map spotE) (σ := Spot × Bool) (fun i st => st = (xs.take i).foldl bestS (⟨0, 0, 0⟩, false)) [(3, .ptr nx v0 0), (4, .ptr (nx + 1) v1 0), (5, .ptr (nx + 2) v2 0), (6, .ptr (nx + 3) v3 0), (8, .ptr (nx + 4) v4 0), (9, .ptr (nx + 5) v5 0)] (fun _ => S)
    (fun (b, found) => [.cells v0 25 (instL x), .cells v1 35 [L d], .cells v2 43 [I s.c, I s.q], .cells v3 35 [nilS], .cells v4 82 [I b.t, I b.p, I b.m], .cells v5 4 [B found]]) (⟨0, 0, 0⟩, false)
    hit rfl (by intro x hx; obtain ⟨y, _, rfl⟩ := List.mem_map.1 hx; rfl) (by decide) (by simp) (by simp) rfl (by simp) (by simp) ?_ ?_)
  · rintro l i ⟨b, found⟩ more y hst hy
    simp only at hst ⊢
    rw [List.getElem?_map] at hy
    obtain ⟨p, hp, rfl⟩ := Option.map_eq_some_iff.1 hy
    have hsucc := foldl_at (f := bestS) (b := (⟨0, 0, 0⟩, false)) hp
    rw [← hst] at hsucc
    unfold bestS at hsucc
    simp only at hsucc
    repeat refine pw_seq ?_
    refine pwn ?_
    intro v6
    refine pw_block ?_
    cases found with
    | false =>
      rw [if_pos (.inl rfl)] at hsucc
      repeat refine pw_seq ?_
      refine pwN [(2, 21)] undef_eq ?_
      intros
      repeat refine pw_seq ?_
      refine pw_ct rfl ?_
      repeat refine pw_seq ?_
      refine pwn ?_
      intros
      simp only [inBlockQ]
      exact rnd_mk (p, true) [_] hsucc.symm rfl (by simp; rfl)
    | true =>
      by_cases hm : p.m < b.m
      · rw [if_pos (.inr hm)] at hsucc
        repeat refine pw_seq ?_
        refine pwN [(2, 21)] (jn2 hm undef_eq) ?_
        intros
        repeat refine pw_seq ?_
        refine pw_ct rfl ?_
        repeat refine pw_seq ?_
        refine pwn ?_
        intros
        simp only [inBlockQ]
        exact rnd_mk (p, true) [_] hsucc.symm rfl (by simp; rfl)
      · rw [if_neg (by simp [hm])] at hsucc
        repeat refine pw_seq ?_
        refine pwN [(2, 21)] (jn2 hm undef_eq) ?_
        intros
        repeat refine pw_seq ?_
        refine pw_cf rfl ?_
        refine pw_skip ?_
        simp only [inBlockQ]
        exact rnd_mk (b, true) [_] hsucc.symm rfl (by simp; rfl)
  · rintro ⟨b, found⟩ hst
    simp only [List.length_map, List.take_length] at hst ⊢
    have hbz : bestZ xs = (b, found) := hst.symm
    rw [hbz] at hmem ⊢
    simp only at hmem ⊢
    cases found with
    | false =>
      simp only [cond_false]
      repeat refine pw_seq ?_
      refine pwn ?_
      refine pwc (cloneDP_ok d hdn (fun l hl => Nat.le_trans (hd1 l hl) (by decide))) ?_
      intros
      repeat refine pw_seq ?_
      refine pw_block ?_
      repeat refine pw_seq ?_
      refine pwn ?_
      intros
      repeat refine pw_seq ?_
      refine pw_ct rfl ?_
      repeat refine pw_seq ?_
      refine pwn ?_
      intros
      repeat refine pw_seq ?_
      exact pw_ret (ret_pure hd (by simp; rfl) (by simp [oneOf]))
    | true =>
      have hb := hmem rfl
      have hbl := hle b hb
      simp only [cond_true]
      by_cases hbt : b.t = d.length
      · have hpd : putD d b s = d ++ [[s]] := by unfold putD; rw [if_pos hbt]
        rw [hpd]
        have hfl : (d.flatMap Enc.enc : List PV).length = d.length := flen_list d
        have htk : (d.flatMap Enc.enc : List PV).take d.length = d.flatMap Enc.enc := List.take_of_length_le (by omega)
        have hsn : ((d ++ [[s]]).flatMap Enc.enc : List PV) = d.flatMap Enc.enc ++ [L [s]] := by rw [List.flatMap_append]; rfl
        repeat refine pw_seq ?_
        refine pw_N [] (by rfl) (by rfl) fun K Gc Gh hK hGc hGh X hX0 hX => ?_
        simp -implicitDefEqProofs [hX0, hX]
        try clear hX0 hX X
        refine hGc _ _ _ _ _ _ _ fun hsuf => ((cloneDO_ok d hdn (fun l hl => Nat.le_trans (hd1 l hl) (by decide)) _ _ ext_dead).mono ?_).v
        rintro _ _ ⟨v7, rfl, rfl⟩
        refine ⟨_, _, ext_pushK 3 _, ?_⟩
        clear hGc hGh
        clear Gc Gh
        refine xs_go hsuf (D := []) (by rfl) fun Gc Gh hGc hGh X hX0 hX => ?_
        simp -implicitDefEqProofs [hX0, hX, Nat.add_assoc]
        clear hX0 hX X
        intros
        refine hK _ _ _ ?_
        clear hK hGc hGh
        clear K Gc Gh
        generalize hds : (d.flatMap Enc.enc : List PV) = ds at *
        repeat refine pw_seq ?_
        refine pw_block ?_
        repeat refine pw_seq ?_
        refine pwn ?_
        intros
        repeat refine pw_seq ?_
        refine pw_cf rfl ?_
        repeat refine pw_seq ?_
        refine pwn ?_
        intros
        repeat refine pw_seq ?_
        refine pw_ct (by simp; omega) ?_
        repeat refine pw_seq ?_
        refine pwY (some [nx + 2]) (Row.pures [0, 2, 3, 4] (.alt 1 (.alt 5 (Row.pures [6] (.alt 7 (.done) .stop)) .stop) .stop)) mixed (jn2 hfl htk) ?_
        refine pwP (singleP_ok s) (jn2 hfl htk) ?_
        refine ⟨by omega, ?_⟩
        intros
        refine pw_frz 9 rfl ?_
        repeat refine pw_seq ?_
        refine pwn ?_
        intros
        repeat refine pw_seq ?_
        exact pw_ret (ret_pure hd (by simp; rfl) (by simp [oneOf, hfl, hds]))
      · obtain ⟨l, hl, hl0, hp⟩ := htour b hb hbt
        have hblt : b.t < d.length := by omega
        have hpd : putD d b s = d.set b.t (insT l b.p s) := by unfold putD; rw [if_neg hbt, List.getD_eq_getElem?_getD, hl]; rfl
        have hl1 := hd1 l (List.mem_of_getElem? hl)
        rw [hpd]
        repeat refine pw_seq ?_
        refine pw_N [] (by rfl) (by rfl) fun K Gc Gh hK hGc hGh X hX0 hX => ?_
        simp -implicitDefEqProofs [hX0, hX]
        try clear hX0 hX X
        refine hGc _ _ _ _ _ _ _ fun hsuf => ((cloneDT_ok d b.t l hdn (fun l hl => Nat.le_trans (hd1 l hl) (by decide)) hl hl0 _ _ ext_dead).mono ?_).v
        rintro _ _ ⟨v7, w7, rfl, rfl⟩
        refine ⟨_, _, ext_push2 _ _ rfl, ?_⟩
        clear hGc hGh
        clear Gc Gh
        refine xs_go hsuf (D := []) (by rfl) fun Gc Gh hGc hGh X hX0 hX => ?_
        simp -implicitDefEqProofs [hX0, hX, Nat.add_assoc]
        clear hX0 hX X
        intros
        refine hK _ _ _ ?_
        clear hK hGc hGh
        clear K Gc Gh
        repeat refine pw_seq ?_
        refine pw_block ?_
        repeat refine pw_seq ?_
        refine pwn ?_
        intros
        repeat refine pw_seq ?_
        refine pw_cf rfl ?_
        repeat refine pw_seq ?_
        refine pwn ?_
        intros
        repeat refine pw_seq ?_
        refine pw_cf (by simp; omega) ?_
        repeat refine pw_seq ?_
        refine pwN [] hblt ?_
        intros
        repeat refine pw_seq ?_
        refine pw_Y (some [nx + 4, nx + 2]) (Row.pures [0, 1, 2, 3, 5, 6, 7, 8] (.alt 4 (.alt 9 (Row.pures [10, 11] (.alt 12 (.done) .stop)) .stop) .stop)) mixed (by rfl) (by rfl) (by rfl) fun K Gp Gc Gh hK hGp hGc hGh X hX0 hX1 hX2 hX => ?_
        simp -implicitDefEqProofs [hX0, hX1, hX2, hX, hblt]
        try clear hX0 hX1 hX2 hX X
        refine hGc _ _ _ _ _ _ _ ?_
        refine ((insA_ok l b.p s hp hl1 (by simp)).mono ?_).v
        rintro _ _ ⟨rfl, rfl⟩
        have hcl : ((insT l b.p s).flatMap Enc.enc : List PV).length = (l.length + 1) * 2 := by
          have e := (insT_perm l s b.p).length_eq
          rw [flen_stop, e]; simp
        have hLi : L (insT l b.p s) = .lst (l.length + 1) ((insT l b.p s).flatMap Enc.enc) := by
          have e := (insT_perm l s b.p).length_eq
          show PV.lst _ _ = _
          rw [e]; rfl
        rw [show l.take b.p ++ s :: l.drop b.p = insT l b.p s from rfl]
        generalize hcs : ((insT l b.p s).flatMap Enc.enc : List PV) = cs at *
        rw [ext_set _ (by omega) (by simp), Nat.add_sub_cancel_left]
        refine ⟨by simp [Agree], ?_⟩
        clear hGp hGc hGh
        clear Gp Gc Gh
        refine px_go fun Gp Gc Gh hGp hGc hGh X hX0 hX1 hX2 hX => ?_
        simp -implicitDefEqProofs [hX0, hX1, hX2, hX, hblt]
        try clear hX0 hX1 hX2 hX X
        refine ⟨by omega, ?_⟩
        refine hK _ _ _ ?_
        clear hK hGp hGc hGh
        clear K Gp Gc Gh
        rw [splice_at _ _ _ _ (by rw [flen_list]; exact hblt)]
        have e10 : frzP (nx + 10) (w7 + 1) cs (.sl (nx + 10) (w7 + 1) 2 0 (l.length + 1)) = L (insT l b.p s) := by
          rw [frz_self _ _ _ _ _ hcl.symm, hLi]
        have e9 : frzP (nx + 9) v7 ((d.set b.t (insT l b.p s)).flatMap Enc.enc) (.sl (nx + 9) v7 1 0 d.length) = L (d.set b.t (insT l b.p s)) := by
          rw [frz_self _ _ _ _ _ (by rw [flen_list]; simp)]
          show _ = PV.lst _ _
          rw [List.length_set]
        have n9 : frzP (nx + 10) (w7 + 1) cs (.sl (nx + 9) v7 1 0 d.length) = .sl (nx + 9) v7 1 0 d.length := by
          simp only [frzP]; rw [if_neg (by omega)]
        refine pw_frz 10 rfl ?_
        simp only [List.map_cons, List.map_nil, List.set_cons_succ, List.set_cons_zero, frzO, frz_set, e10, enc_set, n9]
        refine pw_frz 9 rfl ?_
        simp only [List.map_cons, List.map_nil, List.set_cons_succ, List.set_cons_zero, frzO, e9]
        repeat refine pw_seq ?_
        refine pwN [] (jn2 e9 n9) ?_
        intros
        repeat refine pw_seq ?_
        exact pw_ret (ret_pure hd (by simp; rfl) (by simp [oneOf]))
open Go Go.Proofs
theorem flatMap_le {α : Type} (f : Nat → List α) (m : Nat) : ∀ n, (∀ t, t < n → (f t).length ≤ m) → ((List.range n).flatMap f).length ≤ n * m
  | 0, _ => by simp
  | n + 1, h => by
    rw [List.range_succ, List.flatMap_append, List.length_append]
    have h1 := flatMap_le f m n fun t ht => h t (by omega)
    have h2 := h n (by omega)
    simp only [List.flatMap_cons, List.flatMap_nil, List.append_nil]
    rw [Nat.add_mul, Nat.one_mul]; omega
theorem candsZ_len {d : Day} (h1 : d.length ≤ 1000000) (h2 : d.flatten.length ≤ 1000000) : (candsZ d).length ≤ 1000001 * 1000001 := by
  unfold candsZ
  refine Nat.le_trans (flatMap_le _ 1000001 _ fun t _ => ?_) (Nat.mul_le_mul_right _ (by omega))
  rw [List.length_map, List.length_range, List.getD_eq_getElem?_getD]
  cases hq : d[t]? with
  | none => simp
  | some l =>
    have := (tour_sub (List.mem_of_getElem? hq)).length_le
    simp only [Option.getD_some]; omega
theorem spotsZ_len {x : Inst} {d : Day} {s : Stop} (hd : dayT x d = 0) (h1 : d.length ≤ 1000000) (h2 : d.flatten.length ≤ 1000000) : (spotsZ x d s).length ≤ 1000001 * 1000001 := by
  rw [spots_cands hd]; exact Nat.le_trans (List.length_filterMap_le _ _) (candsZ_len h1 h2)
theorem splice_last1 (cs : List PV) (v : PV) (h : 0 < cs.length) : splice cs (cs.length - 1) [v] = cs.set (cs.length - 1) v := by
  unfold splice
  rw [List.set_eq_take_append_cons_drop, if_pos (by omega)]; simp
theorem enc_setI : ∀ (l : List Int) (k : Nat) (v : Int), (l.flatMap Enc.enc : List PV).set k (I v) = (l.set k v).flatMap Enc.enc
  | [], k, v => rfl
  | a :: l, 0, v => rfl
  | a :: l, k + 1, v => by
    rw [List.set_cons_succ, List.flatMap_cons, List.flatMap_cons, ← enc_setI l k v]
    rfl
theorem cstS_len (st : List Int × Int) (p : Spot) : (cstS st p).1.length ≤ st.1.length + 1 := by
  unfold cstS; split <;> simp
def CstOk (st : List Int × Int) : Prop := st.2 = -1 ∨ 0 < st.1.length
theorem cstOk_step {st : List Int × Int} (h : CstOk st) (p : Spot) : CstOk (cstS st p) := by
  unfold cstS
  split
  · exact .inr (by simp)
  · rename_i e
    rcases h with h | h
    · exfalso; simp only [ne_eq] at e; omega
    · exact .inr (by simpa using h)
set_option maxRecDepth 20000 in
set_option maxHeartbeats 1600000 in
theorem costsP_ok (x : Inst) (d : Day) (s : Stop) (hx : x.cust.length ≤ 1048576) (hdo : DayOk d) (h0 : dayT x d = 0) (h1 : d.length ≤ 1000000) (h2 : d.flatten.length ≤ 1000000) : Pure Tryz.prog 129 [.agg (lookL x d), .agg [I s.c, I s.q]] (L (costsZ x d s)) := by
  have hit := spots_iter x d s hx hdo (by omega)
  have hfold := spots_fold (s := s) h0
  have hlen := spotsZ_len (s := s) h0 h1 h2
  have hml := minsZ_len x d s (d.length + 1)
  have hsF := spotsF_ok (lookL x d) s rfl
  unfold costsZ
  rw [← hfold] at hml ⊢
  clear hfold
  generalize spotsZ x d s = xs at *
  obtain ⟨on, tw, fs, bd, ls, ws, hlk⟩ : ∃ on tw fs bd ls ws, lookL x d = lookG x d on tw fs bd ls ws := ⟨_, _, _, _, _, _, rfl⟩
  rw [hlk] at hit hsF ⊢
  clear hlk
  refine pwe Tryz.func129 Tryz.ntmps129 Tryz.results129 fun S nx hd => ?_
  repeat refine pw_seq ?_
  refine pwn ?_
  intro v0 v1
  repeat refine pw_seq ?_
  refine pwn ?_
  intro v2
  repeat refine pw_seq ?_
  refine pwn ?_
  intro v3
  repeat refine pw_seq ?_
  refine pwn ?_
  refine pwc hsF ?_
  intros
  refine pw_nilObX 2 0 3 1 rfl rfl fun v4 => ?_
  repeat refine pw_seq ?_
  refine pw_block (pw_rangeFunc (xs := xs.map spotE) (σ := (List Int × Int) × Nat) (fun i st => st.1 = (xs.take i).foldl cstS ([], -1) ∧ CstOk st.1 ∧ st.1.1.length ≤ i ∧ i ≤ xs.length) [(2, .ptr nx v0 0), (3, .ptr (nx + 1) v1 0), (5, .ptr (nx + 2) v2 0), (6, .ptr (nx + 3) v3 0)] (fun _ => S)
    (fun ((l, last), v4) => [.cells v0 87 (lookG x d on tw fs bd ls ws), .cells v1 43 [I s.c, I s.q], .cells v2 62 [.sl (nx + 4) v4 1 0 l.length], .cells v3 3 [I last], .cells v4 3 (l.flatMap Enc.enc)]) (([], -1), v4)
    hit rfl (by intro x hx; obtain ⟨y, _, rfl⟩ := List.mem_map.1 hx; rfl) (by decide) (by simp) ⟨rfl, .inl rfl, by simp, by simp⟩ rfl (by simp) (by simp) ?_ ?_)
  · rintro lp i ⟨⟨l, last⟩, v4⟩ more y ⟨hst, hok, hli, hi⟩ hy
    simp only at hst hok hli hi ⊢
    rw [List.getElem?_map] at hy
    obtain ⟨p, hp, rfl⟩ := Option.map_eq_some_iff.1 hy
    have hsucc := foldl_at (f := cstS) (b := ([], -1)) hp
    rw [← hst] at hsucc
    have hok2 := cstOk_step hok p
    have hln2 := cstS_len (l, last) p
    simp only at hln2
    have hil := (List.getElem?_eq_some_iff.1 hp).1
    have hdef : cstS (l, last) p = cstS (l, last) p := rfl
    conv at hdef => rhs; unfold cstS
    simp only at hdef
    have hlf : (l.flatMap Enc.enc : List PV).length = l.length := flen_int l
    have hlt : (l.flatMap Enc.enc : List PV).take l.length = l.flatMap Enc.enc := List.take_of_length_le (by omega)
    repeat refine pw_seq ?_
    refine pwn ?_
    intro v5
    refine pw_block ?_
    repeat refine pw_seq ?_
    refine pwn ?_
    intros
    by_cases hpl : (p.t : Int) = last
    · have hl0 : 0 < l.length := by
        rcases hok with e | e
        · simp only at e; omega
        · exact e
      obtain ⟨m, hm⟩ : ∃ m, l.length = m + 1 := ⟨l.length - 1, by omega⟩
      obtain ⟨z, tz, z1, z2, z3, z0⟩ := el1 rfl l m (by omega)
      rw [if_neg (by simp [hpl])] at hdef
      have hgz : l.getD (l.length - 1) 0 = z := by rw [hm, Nat.add_sub_cancel, List.getD_eq_getElem?_getD, z1]; rfl
      rw [hgz] at hdef
      have wm : IntKind.i64.wrap ((l.length : Int) - 1) = (m : Int) := by rw [wr _ (by omega) (by omega)]; omega
      have hml1 : m < l.length := by omega
      have hml2 : 1 ≤ l.length - m := by omega
      have hsp := splice_last1 (l.flatMap Enc.enc) (I (if p.m < z then p.m else z)) (by omega)
      rw [hlf, enc_setI] at hsp
      have hmin : minI z p.m = if p.m < z then p.m else z := rfl
      repeat refine pw_seq ?_
      refine pw_cf (by simp [hpl]) ?_
      refine pw_skip ?_
      rw [show l.length - 1 = m by omega] at hsp
      repeat refine pw_seq ?_
      refine pwY (some [nx + 2, nx + (more.length + 5)]) (Row.pures [0, 1, 2, 3, 4, 5, 6, 7, 8, 10, 11] (.alt 9 (Row.pures [12, 13] (.alt 14 (.done) .stop)) .stop)) mixed (jn6 wm hml1 hml2 z0 hmin hlf) ?_
      refine ⟨by omega, ?_⟩
      intros
      simp only [inBlockQ]
      rw [hm, Nat.add_sub_cancel] at hdef
      rw [hdef] at hsucc hok2
      refine rnd_mk ((l.set m (if p.m < z then p.m else z), last), v4) [_] ⟨hsucc.symm, hok2, by simp; omega, by omega⟩ rfl (by simp [hsp]; rfl)
    · rw [if_pos hpl] at hdef
      rw [hdef] at hsucc hok2 hln2
      have w0 : IntKind.i64.wrap (l.length : Int) = (l.length : Int) := wr _ (by omega) (by omega)
      have w2 : (l.length : Int) < (l.length : Int) + 1 := by omega
      have hmin : minI p.m p.m = p.m := by unfold minI; split <;> rfl
      have hat : (l.flatMap Enc.enc ++ [I p.m] : List PV)[l.length]? = some (I p.m) := by rw [List.getElem?_append_right (by omega), hlf, Nat.sub_self]; rfl
      have hdl : (l.flatMap Enc.enc ++ [I p.m] : List PV).drop l.length = [I p.m] := by rw [← hlf, List.drop_left]
      have hspl : splice (l.flatMap Enc.enc ++ [I p.m] : List PV) l.length [I p.m] = l.flatMap Enc.enc ++ [I p.m] := by
        unfold splice
        rw [← hlf, List.take_left, List.drop_of_length_le (by simp)]; simp
      repeat refine pw_seq ?_
      refine pw_ct (by simp [hpl]) ?_
      repeat refine pw_seq ?_
      refine pwY (some [nx + (more.length + 5)]) (Row.pures [1, 2, 3, 5, 6] (.alt 0 (.alt 4 (.alt 7 (.alt 8 (.done) .stop) .stop) .stop) .stop)) mixed (jn2 hlf hlt) ?_
      refine ⟨by omega, ?_⟩
      intros
      repeat refine pw_seq ?_
      refine pwY (some [nx + 2, nx + (more.length + 5)]) (Row.pures [0, 1, 2, 3, 4, 5, 6, 7, 8, 10, 11] (.alt 9 (Row.pures [12, 13] (.alt 14 (.done) .stop)) .stop)) mixed (jn5 w0 w2 hmin hat hlf) ?_
      intros
      simp only [inBlockQ]
      refine rnd_mk ((l ++ [p.m], (p.t : Int)), v4 + 1) [_] ⟨hsucc.symm, hok2, by simp; omega, by omega⟩ rfl (by simp [hspl]; rfl)
  · rintro ⟨⟨l, last⟩, v4⟩ ⟨hst, -⟩
    simp only [List.length_map, List.take_length] at hst ⊢
    rw [← hst] at hml ⊢
    simp only at hml ⊢
    have hz4 := sortZ_len l
    repeat refine pw_seq ?_
    refine pw_N [] (by rfl) (by rfl) fun K Gc Gh hK hGc hGh X hX0 hX => ?_
    simp -implicitDefEqProofs [hX0, hX]
    try clear hX0 hX X
    refine hGc _ _ _ _ _ _ _ fun hsuf => ((sort_ok l (by simp) (by omega)).mono ?_).v
    rintro _ _ rfl
    refine ⟨_, _, ext_set _ (by omega) (by simp), ?_⟩
    clear hGc hGh
    clear Gc Gh
    refine xs_go hsuf (D := []) (by rfl) fun Gc Gh hGc hGh X hX0 hX => ?_
    simp -implicitDefEqProofs [hX0, hX, (show nx + 4 - nx = 4 by omega)]
    clear hX0 hX X
    intros
    refine hK _ _ _ ?_
    clear hK hGc hGh
    clear K Gc Gh
    generalize sortZ l = c at *
    rw [← hz4]
    refine pw_frz 4 rfl ?_
    repeat refine pw_seq ?_
    refine pwn ?_
    intros
    repeat refine pw_seq ?_
    exact pw_ret (ret_pure hd (by simp; rfl) rfl)
open Go Go.Proofs Go.Shelf Go.RowKit Go.Lib
theorem setCells_row {P : Program} (b o : Nat) (vs : List Value) (w : World) (cur : Array Value) (t : TypeId) (hw : w.heap[b]? = some (.cells cur t (0, 0))) (hl : o + vs.length ≤ cur.size) (h1 : ∀ v ∈ vs, v.oneCell' = true) :
    w.setCells b o vs = w.setRow b (cur.toList.take o ++ vs ++ cur.toList.drop (o + vs.length)).toArray := by
  have a := run_storeCells_cells (P := P) b o vs 0 w (fun j hj => by simp [World.cell?, hw]; omega) (fun j _ => by simp [World.frozen?, hw]) h1
  have c := run_storeCells_at (P := P) b o t vs 0 cur w hw (by simpa using hl) h1
  rw [a] at c
  simpa using c
theorem zero1 (zc : Array Value) : (Builtin.zeroCells zc 1).toList = zc.toList := by
  apply List.ext_getElem
  · simp [Builtin.zeroCells]
  · intro i h1 h2
    simp [Builtin.zeroCells, Nat.mod_eq_of_lt (show i < zc.size by simpa using h2)]
    exact getElem!_pos zc i (by simpa using h2)
theorem run_clear_one {P : Program} (w : World) (t e ty : TypeId) (zc : Array Value) (ht : P.underlying t = some (.slice e)) (hv : ∀ w, (zeroValue e).run P w = .ok (.agg zc) w) (h1 : ∀ v ∈ zc.toList, v.oneCell' = true) (b o c : Nat) (cur : Array Value) (t' : TypeId) (hw : w.heap[b]? = some (.cells cur t' (0, 0))) (hl : o + zc.size ≤ cur.size) :
    (Builtin.clear_ #[t] ty #[.slice (some ⟨b, o, none⟩) 1 c]).run P w = .ok (.tuple #[]) (w.setRow b (cur.toList.take o ++ zc.toList ++ cur.toList.drop (o + zc.size)).toArray) := by
  have c := run_storeCells_at (P := P) b o t' zc.toList 0 cur w hw (by simpa using hl) h1
  simp only [Nat.add_zero, Array.length_toList] at c
  simp [Builtin.clear_, run_underlying ht, hv, zero1, c]
set_option maxHeartbeats 4000000 in
set_option maxRecDepth 100000 in
theorem del_raw (b n c i : Nat) (V : List Value) (w : World) (i0 : TypeInfo) (hi0 : Tryz.prog.info? 43 = some i0) (hzs : i0.size = 2) (cur : Array Value) (hcur : w.heap[b]? = some (.cells cur 43 (0, 0))) (hcc : cur.size = c * 2)
    (hi : i < n) (hnc : n ≤ c) (hc63 : c ≤ 9223372036854775807) (hn : n ≤ 1048576) (hV : V.length = n * 2) (hcV : cur.toList.take (n * 2) = V) (h1 : ∀ v ∈ V, v.oneCell' = true) (R1 R2 : Array Value)
    (hR1 : R1 = (cur.toList.take (i * 2) ++ V.drop ((i + 1) * 2) ++ cur.toList.drop (i * 2 + (V.drop ((i + 1) * 2)).length)).toArray) (hR2 : R2 = (R1.toList.take ((i + (n - (i + 1))) * 2) ++ ([.int .i64 0, .int .i64 0] : List Value) ++ R1.toList.drop ((i + (n - (i + 1))) * 2 + 2)).toArray) :
    Calls Tryz.prog 95 #[.slice (some ⟨b, 0, none⟩) n c, .int .i64 i, .int .i64 ((i : Int) + 1)] w fun e w' =>
      e = .returned (.slice (some ⟨b, 0, none⟩) (i + (n - (i + 1))) c) ∧ w' = (w.drew.setRow b R1).setRow b R2 := by
  obtain ⟨news, hnews⟩ : ∃ news, news = V.drop ((i + 1) * 2) := ⟨_, rfl⟩
  have hlen : news.length = (n - (i + 1)) * 2 := by rw [hnews, List.length_drop, hV]; omega
  have hget : ∀ t u, news[t]? = some u → w.drew.cell? ⟨b, (i + 1) * 2 + t, none⟩ = some u := by
    intro t u hu
    rw [hnews, List.getElem?_drop, ← hcV, List.getElem?_take] at hu
    split at hu
    · rw [Array.getElem?_toList] at hu
      show w.cell? _ = _
      simp [World.cell?, hcur, hu]
    · cases hu
  obtain ⟨A, hA, hsrc⟩ : ∃ A : Addr, (if c = i + 1 then some (⟨b, 0, none⟩ : Addr) else some ⟨b, (i + 1) * 2, none⟩) = some A ∧ Hid (∀ t u, news[t]? = some u → w.drew.cell? (A.add t) = some u) := by
    by_cases h : c = i + 1
    · refine ⟨⟨b, 0, none⟩, by simp [h], fun t u hu => ?_⟩
      have h0 : news.length = 0 := by rw [hlen]; omega
      rw [List.length_eq_zero_iff.1 h0] at hu
      simp at hu
    · refine ⟨⟨b, (i + 1) * 2, none⟩, by simp [h], fun t u hu => ?_⟩
      rw [Addr.add_lit]
      exact hget t u hu
  have s1 : Hid (news.length = (n - (i + 1)) * 2) := hlen
  have s2 : Hid (∀ u ∈ news, u.oneCell' = true) := fun u hu => h1 u (by rw [hnews] at hu; exact List.mem_of_mem_drop hu)
  have s3 : Hid (∀ t, t < news.length → (w.drew.cell? ⟨b, 0 + i * 2 + t, none⟩).isSome = true ∧ w.drew.frozen? ⟨b, 0 + i * 2 + t, none⟩ = false) := by
    intro t ht
    rw [hlen] at ht
    refine ⟨?_, ?_⟩
    · show (w.cell? _).isSome = true
      simp [World.cell?, hcur]; omega
    · show w.frozen? _ = false
      simp [World.frozen?, hcur]
  obtain ⟨W1, hW1⟩ : ∃ W1, W1 = w.drew.setCells b (0 + i * 2) news := ⟨_, rfl⟩
  have hW1' : W1 = w.drew.setRow b R1 := by
    rw [hW1, setCells_row (P := Tryz.prog) b (0 + i * 2) news w.drew cur 43 hcur (by rw [hlen, hcc]; omega) s2, hR1, hnews, Nat.zero_add]
  have hW1h : W1.heap[b]? = some (.cells R1 43 (0, 0)) := by rw [hW1']; exact setRow_heap _ _ _ _ _ _ hcur
  have hR1s : R1.size = c * 2 := by rw [hR1, ← hnews]; simp [hlen]; omega
  have hcl : ∀ ty, (Builtin.clear_ #[26] ty #[.slice (some ⟨b, (i + (n - (i + 1))) * 2, none⟩) (n - (i + (n - (i + 1)))) (c - (i + (n - (i + 1))))]).run Tryz.prog W1 = .ok (.tuple #[]) (W1.setRow b R2) := fun ty => by
    have := run_clear_one (P := Tryz.prog) W1 26 43 ty #[.int .i64 0, .int .i64 0] Tryz.underlying26 Tryz.zeroValue43 (by intro v hv; simp at hv; rcases hv with rfl | rfl <;> rfl) b ((i + (n - (i + 1))) * 2) (c - (i + (n - (i + 1)))) R1 43 hW1h (by simp; omega)
    rw [show n - (i + (n - (i + 1))) = 1 by omega, this, hR2]
    simp
  have hW : Hid (W1 = w.drew.setCells b (0 + i * 2) news) := hW1
  have hX : Hid (W1 = w.drew.setRow b R1) := hW1'
  clear hW1 hW1' hW1h hR1 hR2 hR1s hcur hcV hget hnews hlen h1 hV hcc
  have hic : i ≤ c := by omega
  have hjc : i + 1 ≤ c := by omega
  have hin : i ≤ n := by omega
  have hjn : i + 1 ≤ n := by omega
  have hne : ¬ (i : Int) = (i : Int) + 1 := by omega
  have hb1 : (0 : Int) ≤ (i : Int) + 1 := by omega
  have htn : ((i : Int) + 1).toNat = i + 1 := by omega
  have hb2 : (i : Int) + 1 ≤ (n : Int) := by omega
  have hb3 : (i : Int) ≤ (i : Int) + 1 := by omega
  have hcn : ¬ c = i + (n - (i + 1)) := by omega
  have hnn : i + (n - (i + 1)) ≤ n := by omega
  have mixed : Tryz.prog.follows .mixedOrders = true := by kernel_rfl
  go_enter Tryz.func95, Tryz.ntmps95
  go_wp2_with fail
  go_region_law_o (refine step_append_room rfl (.tmp 22) (.tmp 25) 26 rfl 43 i0 2 Tryz.underlying26 hi0 hzs b 0 i c (by simp [Act.eval, Act.put]) A (n - (i + 1)) (c - (i + 1)) news (by simp [Act.eval, Act.put]) s1.out hsrc.out s2.out (by omega) s3.out ?_; rw [← hW.out])
  go_wp2
  go_ret
  exact ⟨rfl, by rw [hX.out]⟩
theorem valS_erase (l : List Stop) (i : Nat) (h : i < l.length) : valS (l.eraseIdx i) = (valS l).take (i * 2) ++ (valS l).drop ((i + 1) * 2) := by
  rw [List.eraseIdx_eq_take_drop_succ, valS_app, valS_take l i (by omega), valS_drop l (i + 1) (by omega)]
theorem del_ok {S : Store} {id ver : Nat} (cs : List Stop) (i : Nat) (hi : i < cs.length) (hn : cs.length ≤ 1000000) (hid : S id = .cells ver 43 (cs.flatMap Enc.enc)) :
    Spec Tryz.prog 95 [.sl id ver 2 0 cs.length, I i, I ((i : Int) + 1)] S (fun p S' => p = .sl id (ver + 1) 2 0 (cs.eraseIdx i).length ∧ S' = S.set id (.cells (ver + 1) 43 ((cs.eraseIdx i).flatMap Enc.enc))) := by
  refine ⟨enters_of Tryz.func95 (by rfl) rfl, ?_⟩
  intro C w vs hS hl hr
  obtain ⟨u, v, x, rfl⟩ := arr3 hl
  obtain rfl := rel_int (hr 1 _ v rfl rfl)
  obtain rfl := rel_int (hr 2 _ x rfl rfl)
  have hu := hr 0 _ u rfl rfl
  have hvl : (valS cs).length = cs.length * 2 := valS_len cs
  have hel : (cs.eraseIdx i).length = i + (cs.length - (i + 1)) := by rw [List.length_eraseIdx_of_lt hi]; omega
  have hnew := valS_erase cs i hi
  have hnl : (valS (cs.eraseIdx i)).length = (i + (cs.length - (i + 1))) * 2 := by rw [valS_len, hel]
  rw [valS_enc] at hid ⊢
  rw [hel]
  generalize cs.eraseIdx i = es at *
  obtain ⟨i0, hi0⟩ := Option.isSome_iff_exists.1 i43
  have hc := c43
  simp only [Program.cellsOf, hi0, Option.map_some, Option.getD_some] at hc
  cases hu with
  | sl h1 h2 h3 =>
    obtain ⟨ad, cap, rfl, q1, q2, q3, q4⟩ := h1
    have hloc := (h3 ver (by rw [hid]; rfl)).2 rfl
    rcases hS.cells id ver _ _ hid with ⟨hno, hnil⟩ | ⟨b, k, c, g1, g2, g3, g4, g5, g6⟩
    · have := congrArg List.length hnil
      simp [hvl] at this
      exfalso; omega
    rcases hloc with ⟨z1, _⟩ | ⟨b', k', ad', cap', z1, z2, z3, z4⟩
    · rw [g1] at z1; cases z1
    rw [g1] at z1; cases z1; cases z2
    obtain ⟨rfl, hcap⟩ := z3 rfl
    rw [List.length_map, hvl] at g4
    have hcells : ∀ (j : Nat) v, (valS cs)[j]? = some v → c[j]? = some v := by
      intro j v hj
      have hjl := (List.getElem?_eq_some_iff.1 hj).1
      have e2 : c[j]? = some c[j] := Array.getElem?_eq_getElem (by omega)
      have := g6 j (.sc v) _ (by rw [List.getElem?_map, hj]; rfl) e2
      rw [e2]
      generalize c[j] = y at this
      cases this; rfl
    have hcur : c.toList.take (cs.length * 2) = valS cs := by
      apply List.ext_getElem?
      intro j
      by_cases hj : j < cs.length * 2
      · rw [List.getElem?_take_of_lt hj, Array.getElem?_toList]
        have e : (valS cs)[j]? = some (valS cs)[j] := List.getElem?_eq_getElem (by omega)
        rw [e, hcells j _ e]
      · rw [List.getElem?_eq_none (by simp; omega), List.getElem?_eq_none (by omega)]
    have hcsz : c.size = cap * 2 := g3.trans hcap.symm
    have hdl : ((valS cs).drop ((i + 1) * 2)).length = (cs.length - (i + 1)) * 2 := by rw [List.length_drop, hvl]; omega
    obtain ⟨R1, hR1⟩ : ∃ R1 : Array Value, R1 = (c.toList.take (i * 2) ++ (valS cs).drop ((i + 1) * 2) ++ c.toList.drop (i * 2 + ((valS cs).drop ((i + 1) * 2)).length)).toArray := ⟨_, rfl⟩
    obtain ⟨R2, hR2⟩ : ∃ R2 : Array Value, R2 = (R1.toList.take ((i + (cs.length - (i + 1))) * 2) ++ ([.int .i64 0, .int .i64 0] : List Value) ++ R1.toList.drop ((i + (cs.length - (i + 1))) * 2 + 2)).toArray := ⟨_, rfl⟩
    have htk : c.toList.take (i * 2) = (valS cs).take (i * 2) := by rw [← hcur, List.take_take, Nat.min_eq_left (by omega)]
    have hR1l : R1.toList.take ((i + (cs.length - (i + 1))) * 2) = valS es := by
      rw [hR1]
      simp only []
      rw [htk, ← hnew, ← hnl, List.take_left]
    have hR1s : R1.size = cap * 2 := by rw [hR1]; simp [hdl]; omega
    have hR2l : R2.toList = valS es ++ (([.int .i64 0, .int .i64 0] : List Value) ++ R1.toList.drop ((i + (cs.length - (i + 1))) * 2 + 2)) := by
      rw [hR2, hR1l]
      simp
    have hR2s : R2.size = cap * 2 := by
      rw [← Array.length_toList, hR2l]
      simp [hnl, hR1s]
      omega
    refine (del_raw b cs.length cap i (valS cs) w i0 hi0 hc c g2 hcsz hi q1 (by unfold maxLen at q3; omega) (by omega) hvl hcur (valS_one cs) R1 R2 hR1 hR2).mono ?_
    rintro e w' ⟨rfl, rfl⟩
    obtain ⟨r1, r2⟩ := row_rel (C := C) (S := S) (w := w) hR2l (valS_one _)
    have hb1 := setRow_heap w.drew b c R1 _ _ g2
    obtain ⟨t1, t2⟩ := hS.turn (l := some (b, cap * 2)) (ver' := ver + 1) (cs' := (valS es).map .sc) hid (by omega) (fun h => absurd h (by omega)) (w' := (w.drew.setRow b R1).setRow b R2)
      (by
        rw [g1]
        refine ⟨⟨rfl, rfl, rfl, by simp [World.setRow], fun j hj hne => ?_⟩, Nat.le_succ _⟩
        have hjb : j ≠ b := fun e => hne (by rw [e]; rfl)
        rw [setRow_other _ _ _ _ hjb, setRow_other _ _ _ _ hjb]; rfl)
      (.inr ⟨b, cap * 2, R2, rfl, .inr (by rw [g1]; rfl), setRow_heap _ _ _ _ _ _ hb1, hR2s, by rw [List.length_map, hnl]; omega, r1, r2⟩)
    refine ⟨_, _, _, _, rfl, ⟨rfl, rfl⟩, ?_, t1, t2⟩
    refine .sl ⟨_, _, rfl, by omega, by unfold maxN; omega, q3, fun _ => ⟨_, _, rfl⟩⟩ ⟨h2.1, by simp only [Ctx.at]; omega⟩ fun v0 hv0 => ?_
    rw [Store.set_same] at hv0; cases hv0
    exact ⟨Nat.le_refl _, fun _ => .inr ⟨b, _, _, _, by simp [Ctx.at], rfl, fun _ => ⟨rfl, rfl⟩, fun _ => rfl⟩⟩
open Go Hp
theorem arcOk_of {x : Inst} (h : ∀ row ∈ x.dist, ∀ d ∈ row, 0 ≤ d ∧ d ≤ 2147483648) : ArcOk x := by
  intro a b
  unfold arc
  split
  · omega
  · rw [List.getD_eq_getElem?_getD, List.getD_eq_getElem?_getD]
    cases hr : x.dist[a.toNat]? with
    | none => simp
    | some row =>
      simp only [Option.getD_some]
      cases hd : row[b.toNat]? with
      | none => simp
      | some d => exact h row (List.mem_of_getElem? hr) d (List.mem_of_getElem? hd)
def cu15 : Cust := ⟨1, 1, [1], 0, 0, 0, 0, 0⟩
def x15 : Inst := ⟨1, 1, 9, 99, [cu15], [[0, 5], [5, 0]]⟩
theorem x15_ok : ArcOk x15 := arcOk_of (by decide)
theorem j15 : joinP x15 [] = [] := by
  unfold joinP joinAll
  have : pairsP x15 (([] : List Stop).map (·.c)) = [] := (pairsP_of (x := x15) (c := []) (l := []) (by decide) (by decide) (by unfold Sd; decide)).symm
  rw [this]
  rfl
theorem r15 : solveR x15 0 [[], [], [], []] = ([], 0) := by decide
theorem m15 : mayT x15 [⟨0, 1⟩] = 0 := by decide
theorem solve15_ok : Pure Tryz.prog 15 [.agg (instL x15), nilS, I 0] (.tup [.agg [L ([] : Day)], I 0]) := by
  have hA : Pure Tryz.prog 59 [nilS] (.agg [L ([] : Day)]) := pure_wk (.cons .nil .nil) (apartP_ok [] (by decide))
  have hF : Pure Tryz.prog 11 [.agg (instL x15), nilS] (I 0) := pure_wk (.cons .rfl (.cons .nil .nil)) (fitsP_ok x15 [] (by decide) (by decide))
  have hJ : Pure Tryz.prog 61 [.agg (instL x15), nilS] (.agg [L ([] : Day)]) := by
    have := pure_wk (.cons .rfl (.cons .nil .nil)) (join_all_ok x15 [] x15_ok (by decide) (by decide) (by simp) (by decide))
    rwa [j15] at this
  have hI := improve0_ok x15
  have hit := tries_iter (fsL x15 nilS 0) [some [], some [], some [], some []] rfl (by decide) (by
    intro k f hf
    match k with
    | 0 => cases hf; exact ⟨_, _, L ([] : Day), rfl, try1_ok nilS [] plike_nil hA, fun d hd => by cases hd; rfl⟩
    | 1 => cases hf; exact ⟨_, _, L ([] : Day), rfl, try2_ok x15 nilS 0 [] [] 0 plike_nil hJ hI, fun d hd => by cases hd; rfl⟩
    | 2 => cases hf; exact ⟨_, _, L ([] : Day), rfl, try3_ok x15 nilS 0 [] [] 0 plike_nil hA hI, fun d hd => by cases hd; rfl⟩
    | 3 => cases hf; exact ⟨_, _, L ([] : Day), rfl, try4_ok x15 nilS 0 [] [] true 0 plike_nil (regret0_ok x15) (fun _ => hI), fun d hd => by cases hd; rfl⟩
    | k + 4 => cases hf)
  have := solve_ok x15 nilS 0 0 [[], [], [], []] plike_nil (by decide) hF (fun _ => hit) (fun _ d hd => by
    have : d = [] := by simpa using hd
    subst this
    exact ⟨⟨by decide, by simp, by simp⟩, by decide⟩)
  rwa [r15] at this
set_option maxRecDepth 20000 in
theorem lives15_ok : Pure Tryz.prog 13 [] (B true) := by
  have h1 := solve15_ok
  have h2 := insert0_ok x15 ⟨0, 1⟩ (by decide) m15 (by decide) (by unfold small; decide)
  refine pwe Tryz.func13 Tryz.ntmps13 Tryz.results13 fun S nx hd => ?_
  repeat refine pw_seq ?_
  refine pwn ?_
  intros
  repeat refine pw_seq ?_
  refine pwn ?_
  intro v0
  repeat refine pw_seq ?_
  refine pwn ?_
  intro v1
  repeat refine pw_seq ?_
  refine pwn ?_
  refine pwc h1 ?_
  intro v2
  intros
  repeat refine pw_seq ?_
  refine pwn ?_
  refine pwc h2 ?_
  intro v3
  intros
  repeat refine pw_seq ?_
  refine pwN [(4, 31), (8, 35), (14, 41)] trivial ?_
  intros
  repeat refine pw_seq ?_
  exact pw_ret (ret_pure hd rfl rfl)
open Go Go.Proofs
theorem take_ne {α : Type} {a b : List α} {k : Nat} {x y : α} (hx : a[k]? = some x) (hy : b[k]? = some y) (h : x ≠ y) : a ≠ b := by
  rintro rfl; rw [hx] at hy; cases hy; exact h rfl
set_option maxRecDepth 20000 in
set_option maxHeartbeats 1600000 in
theorem sameD_ok (a b : Day) (ha : a.length ≤ 1048576) (hat : ∀ t ∈ a, t.length ≤ 1048576) : Pure Tryz.prog 17 [.agg [L a], .agg [L b]] (B (decide (a = b))) := by
  refine pwe Tryz.func17 Tryz.ntmps17 Tryz.results17 fun S nx hd => ?_
  repeat refine pw_seq ?_
  refine pwn ?_
  intro v0 v1
  by_cases hab : a.length = b.length
  case neg =>
    have : a ≠ b := fun e => hab (by rw [e])
    repeat refine pw_seq ?_
    refine pwn ?_
    intros
    repeat refine pw_seq ?_
    refine pw_ct (by simp; omega) ?_
    repeat refine pw_seq ?_
    refine pwn ?_
    intros
    repeat refine pw_seq ?_
    exact pw_ret (ret_pure hd rfl (by simp [this]))
  repeat refine pw_seq ?_
  refine pwn ?_
  intros
  repeat refine pw_seq ?_
  refine pw_cf (by simp; omega) ?_
  refine pw_skip ?_
  repeat refine pw_seq ?_
  refine pwn ?_
  intros
  repeat refine pw_seq ?_
  refine pw_block (pw_loopL (fun k : Nat => k ≤ a.length ∧ a.take k = b.take k) (fun k => [(2, .ptr nx v0 0), (3, .ptr (nx + 1) v1 0), (5, I k)]) (fun _ => [.cells v0 35 [L a], .cells v1 35 [L b]]) (fun k => a.length - k) 0 [] (by simp) (by simp) (by simp) ?_)
  rintro k ⟨hk, hkt⟩
  repeat refine pw_seq ?_
  refine pwn ?_
  intros
  repeat refine pw_seq ?_
  refine pw_cond rfl (fun hc => ?_) (fun hc => ?_)
  · simp at hc
    obtain ⟨s, ts, a1, -, a3, e1⟩ := el1 rfl a k hc
    obtain ⟨t, tt, b1, -, b3, e2⟩ := el1 rfl b k (by omega)
    have hcb : k < b.length := by omega
    have h1 : 1 ≤ a.length - k := by omega
    have h2 : 1 ≤ b.length - k := by omega
    have hsl := hat s (List.mem_of_getElem? a1)
    refine pw_skip (pw_seq (pw_block ?_))
    repeat refine pw_seq ?_
    refine pwY (some [nx, nx + 1]) (Row.pures [0, 1, 2, 3, 4, 5, 6, 7, 8, 9, 10, 11, 12, 13, 14] .done) mixed (jn6 e1 e2 hc hcb h1 h2) ?_
    intros
    by_cases hst : s.length = t.length
    case neg =>
      have : a ≠ b := take_ne a1 b1 fun e => hst (by rw [e])
      repeat refine pw_seq ?_
      refine pw_ct (by simp; omega) ?_
      repeat refine pw_seq ?_
      refine pwn ?_
      intros
      repeat refine pw_seq ?_
      exact pw_ret (ret_pure hd rfl (by simp [this]))
    repeat refine pw_seq ?_
    refine pw_cf (by simp; omega) ?_
    refine pw_skip ?_
    repeat refine pw_seq ?_
    refine pwn ?_
    intros
    repeat refine pw_seq ?_
    refine pw_block (pw_loopL (fun j : Nat => j ≤ s.length ∧ s.take j = t.take j) (fun j => [(2, .ptr nx v0 0), (3, .ptr (nx + 1) v1 0), (5, I k), (6, I j)]) (fun _ => [.cells v0 35 [L a], .cells v1 35 [L b]]) (fun j => s.length - j) 0 [] (by simp) (by simp) (by simp) ?_)
    rintro j ⟨hj, hjt⟩
    repeat refine pw_seq ?_
    refine pwN [] (jn3 e1 hc h1) ?_
    intros
    repeat refine pw_seq ?_
    refine pw_cond rfl (fun hcj => ?_) (fun hcj => ?_)
    · simp at hcj
      obtain ⟨p, tp, p1, -, p3, -, q1⟩ := el 2 rfl s j hcj
      obtain ⟨q, tq, c1, -, c3, -, q2⟩ := el 2 rfl t j (by omega)
      have hjb : j < t.length := by omega
      have g1 : 2 ≤ s.length * 2 - j * 2 := by omega
      have g2 : 2 ≤ t.length * 2 - j * 2 := by omega
      refine pw_skip (pw_seq (pw_block ?_))
      repeat refine pw_seq ?_
      refine pwY (some [nx, nx + 1]) (Row.pures [0, 1, 2, 3, 4, 5, 6, 7, 8, 9, 10, 11, 12, 13, 14, 15, 16, 17, 18] .done) mixed (jn6 e1 e2 hc hcb h1 (jn2 (jn6 h2 q1 q2 hcj hjb g1) g2)) ?_
      intros
      by_cases hpq : p = q
      · subst hpq
        repeat refine pw_seq ?_
        refine pw_cf (by simp) ?_
        refine pw_skip ?_
        repeat refine pw_seq ?_
        refine pwn ?_
        intros
        exact again_mk (j + 1) [] ⟨by omega, by rw [p3, c3, hjt]⟩ (by omega) (by simp [wrN j (by omega)]) rfl (by simp)
      · have hne : ¬ p.c = q.c ∨ ¬ p.q = q.q := by
          by_cases h1 : p.c = q.c
          · right
            intro h2
            apply hpq
            cases p; cases q
            cases h1; cases h2; rfl
          · exact .inl h1
        have : a ≠ b := take_ne a1 b1 (take_ne p1 c1 hpq)
        repeat refine pw_seq ?_
        refine pw_ct (by simp; exact hne) ?_
        repeat refine pw_seq ?_
        refine pwn ?_
        intros
        repeat refine pw_seq ?_
        exact pw_ret (ret_pure hd rfl (by simp [this]))
    · simp at hcj
      obtain rfl : j = s.length := by omega
      rw [List.take_length, hst, List.take_length] at hjt
      refine pw_exit ?_
      repeat refine pw_seq ?_
      refine pwn ?_
      intros
      exact again_mk (k + 1) [] ⟨by omega, by rw [a3, b3, hkt, hjt]⟩ (by omega) (by simp [wrN k (by omega)]) rfl (by simp)
  · simp at hc
    obtain rfl : k = a.length := by omega
    rw [List.take_length, hab, List.take_length] at hkt
    refine pw_exit ?_
    repeat refine pw_seq ?_
    refine pwn ?_
    intros
    repeat refine pw_seq ?_
    exact pw_ret (ret_pure hd rfl (by simp [hkt]))
theorem putD_ok {x : Inst} {d : Day} {s : Stop} (hx : x.cust.length ≤ 1048576) (hdo : DayOk d) (hd1 : d.length ≤ 1000000) (hf : d.flatten.length ≤ 1000000) : DayOk (insertD x d s).1 := by
  unfold insertD
  cases hb : (bestZ (spotsZ x d s)).2 with
  | false => exact hdo
  | true =>
    have hm := bestZ_mem hb
    have hp := putD_perm hm
    have hs := small_stop hx (spotsZ_mem hm).1
    simp only [cond_true]
    have hfl : (putD d (bestZ (spotsZ x d s)).1 s).flatten.length ≤ 1000001 := by rw [hp.length_eq, List.length_cons]; omega
    refine ⟨?_, fun t ht => ?_, fun t ht a ha => ?_⟩
    · unfold putD; split
      · simp; omega
      · simp; omega
    · have := (tour_sub ht).length_le; omega
    · have := hp.subset ((tour_sub ht).subset ha)
      rw [List.mem_cons] at this
      rcases this with rfl | h
      · exact hs
      · obtain ⟨u, hu, hau⟩ := List.mem_flatten.1 h
        exact hdo.s u hu a hau
open Go Go.Proofs
def aboveZ (l : List Int) : Int := if 1 < l.length then W (l.getD 1 0 - l.getD 0 0) else 1099511627776
def urgG (c : Stop → List Int) : List Stop → Nat → Int → Int → Int
  | [], _, place, _ => place
  | s :: l, i, place, most => if (c s).length = 0 then (i : Int) else if place < 0 ∨ most < aboveZ (c s) then urgG c l (i + 1) (i : Int) (aboveZ (c s)) else urgG c l (i + 1) place most
def urgentZ (x : Inst) (d : Day) (l : List Stop) : Int := urgG (costsZ x d) l 0 (-1) 0
theorem urgG_in (c : Stop → List Int) : ∀ (l : List Stop) (i : Nat) (place most : Int), (l ≠ [] ∨ 0 ≤ place) → place < i → 0 ≤ urgG c l i place most ∧ urgG c l i place most < (i + l.length : Nat)
  | [], i, place, most, h, hp => by
    rcases h with h | h
    · exact absurd rfl h
    · simp only [urgG, List.length_nil]; omega
  | s :: l, i, place, most, _, hp => by
    unfold urgG
    split
    · simp only [List.length_cons]; omega
    · split
      · have := urgG_in c l (i + 1) i (aboveZ (c s)) (.inr (by omega)) (by omega)
        simp only [List.length_cons]; omega
      · rename_i hc
        have := urgG_in c l (i + 1) place most (.inr (by omega)) (by omega)
        simp only [List.length_cons]; omega
theorem urgent_in {x : Inst} {d : Day} {l : List Stop} (h : l ≠ []) : ∃ k : Nat, urgentZ x d l = k ∧ k < l.length := by
  have := urgG_in (costsZ x d) l 0 (-1) 0 (.inl h) (by omega)
  exact ⟨(urgentZ x d l).toNat, by unfold urgentZ; omega, by unfold urgentZ; omega⟩
def regN (x : Inst) : Nat → Day → List Stop → Day × Bool
  | 0, d, _ => (d, true)
  | n + 1, d, l => bif (insertD x d (l.getD (urgentZ x d l).toNat default)).2 then regN x n (insertD x d (l.getD (urgentZ x d l).toNat default)).1 (l.eraseIdx (urgentZ x d l).toNat) else (d, false)
def regretZ (x : Inst) (l : List Stop) : Day × Bool := regN x l.length [] l
structure RgOk (x : Inst) (d : Day) (l : List Stop) : Prop where
  ok : DayOk d
  may : dayT x d = 0
  len : d.flatten.length + l.length ≤ 1000
theorem RgOk.dl {x : Inst} {d : Day} {l : List Stop} (h : RgOk x d l) : d.length ≤ 1000 := by
  have h1 := flat_len_ge d (dayT_ne h.may)
  have h2 := h.len
  omega
theorem RgOk.step {x : Inst} {d : Day} {l : List Stop} (hx : x.cust.length ≤ 1048576) (h : RgOk x d l) {i : Nat} (hi : i < l.length) {s : Stop} (hs : (insertD x d s).2 = true) : RgOk x (insertD x d s).1 (l.eraseIdx i) := by
  have hf := h.len
  have hl := h.dl
  refine ⟨putD_ok hx h.ok (by omega) (by omega), ?_, ?_⟩
  · unfold insertD at hs ⊢
    cases hb : (bestZ (spotsZ x d s)).2 with
    | false => rw [hb] at hs; cases hs
    | true => exact putD_may (bestZ_mem hb)
  · rw [(insertD_perm hs).length_eq, List.length_cons, List.length_eraseIdx_of_lt hi]; omega
theorem rgOk_begin {x : Inst} (hv : 0 ≤ x.veh) {l : List Stop} (hl : l.length ≤ 1000) : RgOk x [] l :=
  ⟨⟨by simp, by simp, by simp⟩, (dayT_zero x []).2 ⟨by simp, by simp, by simpa using hv⟩, by simpa using hl⟩
theorem urg_next {c : Stop → List Int} {l : List Stop} {k : Nat} {s : Stop} {place most : Int} (hd : l.drop k = s :: l.drop (k + 1)) :
    urgG c (l.drop k) k place most = if (c s).length = 0 then (k : Int) else if place < 0 ∨ most < aboveZ (c s) then urgG c (l.drop (k + 1)) (k + 1) (k : Int) (aboveZ (c s)) else urgG c (l.drop (k + 1)) (k + 1) place most := by
  rw [hd]; rfl
set_option maxRecDepth 20000 in
set_option maxHeartbeats 1600000 in
theorem urgentP_ok (x : Inst) (d : Day) (l : List Stop) (hx : x.cust.length ≤ 1048576) (h : RgOk x d l) {S : Store} {id ver : Nat} (hid : S id = .cells ver 43 (l.flatMap Enc.enc)) :
    Spec Tryz.prog 94 [.agg (lookL x d), .sl id ver 2 0 l.length] S (fun p S' => p = I (urgentZ x d l) ∧ S' = S) := by
  have hf := h.len
  have hl := h.dl
  have hco := fun s => costsP_ok x d s hx h.ok h.may (by omega) (by omega)
  have hu : urgentZ x d l = urgG (costsZ x d) (l.drop 0) 0 (-1) 0 := rfl
  rw [hu]
  clear hu
  obtain ⟨on, tw, fs, bd, ls, ws, hlk⟩ : ∃ on tw fs bd ls ws, lookL x d = lookG x d on tw fs bd ls ws := ⟨_, _, _, _, _, _, rfl⟩
  rw [hlk] at hco ⊢
  clear hlk
  generalize hcz : costsZ x d = cz at *
  refine pwes Tryz.func94 Tryz.ntmps94 Tryz.results94 fun nx hd => ?_
  have hlt : id < nx := lt_of_live hd hid (by simp)
  have xid := fun obs => ext_old (S := S) (obs := obs) hlt
  repeat refine pw_seq ?_
  refine pwn ?_
  intro v0
  repeat refine pw_seq ?_
  refine pwn ?_
  intros
  repeat refine pw_seq ?_
  refine pwn ?_
  intros
  repeat refine pw_seq ?_
  refine pw_block (pw_loopL (fun s' : Nat × Int × Int => s'.1 ≤ l.length ∧ urgG cz (l.drop s'.1) s'.1 s'.2.1 s'.2.2 = urgG cz (l.drop 0) 0 (-1) 0) (fun (k, place, most) => [(2, .ptr nx v0 0), (5, I place), (6, I most), (11, .sl id ver 2 0 l.length), (12, I l.length), (13, I k)]) (fun _ => [.cells v0 87 (lookG x d on tw fs bd ls ws)]) (fun s' => l.length - s'.1) (0, -1, 0) [] ⟨by simp, rfl⟩ (by simp) (by simp) ?_)
  rintro ⟨k, place, most⟩ ⟨hk, hg⟩
  simp only at hk hg ⊢
  rw [← hg]
  repeat refine pw_seq ?_
  refine pwn ?_
  intros
  repeat refine pw_seq ?_
  refine pw_cond rfl (fun hc => ?_) (fun hc => ?_)
  · simp at hc
    obtain ⟨s, tl, a1, a2, a3, e1, e0⟩ := el 2 rfl l k hc
    have hk2 : 2 ≤ l.length * 2 - k * 2 := by omega
    have hun := urg_next (c := cz) (place := place) (most := most) a2
    have hcs := hco s
    generalize hc0 : cz s = c at *
    have wk := wrN k (by omega)
    refine pw_skip (pw_seq (pw_block ?_))
    repeat refine pw_seq ?_
    refine pwN [] (jn5 xid hid e0 hc hk2) ?_
    intro v1
    repeat refine pw_seq ?_
    refine pwn ?_
    refine pwc hcs ?_
    intros
    by_cases h0 : c.length = 0
    · rw [if_pos h0] at hun
      repeat refine pw_seq ?_
      refine pwN [] h0 ?_
      intros
      repeat refine pw_seq ?_
      refine pw_ct rfl ?_
      repeat refine pw_seq ?_
      refine pwn ?_
      intros
      repeat refine pw_seq ?_
      exact pw_ret ⟨_, S, (by simp; rfl), ⟨by simp [oneOf, hun], rfl⟩, ext_kill0 hd⟩
    rw [if_neg h0] at hun
    repeat refine pw_seq ?_
    refine pwn ?_
    intros
    repeat refine pw_seq ?_
    refine pw_cf (by simp; exact fun e => h0 (by rw [e]; rfl)) ?_
    refine pw_skip ?_
    repeat refine pw_seq ?_
    refine pwn ?_
    intros
    repeat refine pw_seq ?_
    refine pw_joinK (nx := nx) (fun _ : Unit => True) (fun _ => [(2, .ptr nx v0 0), (5, I place), (6, I most), (7, I k), (10, I (aboveZ c)), (11, .sl id ver 2 0 l.length), (12, I l.length), (13, I k)]) (fun _ => S) (fun _ => [.cells v0 87 (lookG x d on tw fs bd ls ws)]) ?_ ?_
    · by_cases h1 : 1 < c.length
      · obtain ⟨a, ta, q1, -, -, q0⟩ := el1 rfl c 1 h1
        obtain ⟨b, tb, r1, -, -, r0⟩ := el1 rfl c 0 (by omega)
        have hab : aboveZ c = W (a - b) := by unfold aboveZ; rw [if_pos h1, List.getD_eq_getElem?_getD, List.getD_eq_getElem?_getD, q1, r1]; rfl
        have g1 : 1 ≤ c.length - 1 := by omega
        have g2 : 0 < c.length := by omega
        have g3 : 1 ≤ c.length := by omega
        have r0' : (c.flatMap Enc.enc : List PV) = Enc.enc b ++ tb := by simpa using r0
        have h1' : (1 : Int) < c.length := by omega
        repeat refine pw_seq ?_
        refine pw_ct (by simp; omega) ?_
        rw [r0'] at q0
        have htb : tb = I a :: ta := by simpa using q0
        rw [htb] at r0'
        repeat refine pw_seq ?_
        refine pwY none (Row.pures [0, 1, 2, 3, 4, 5, 6, 7] .done) mixed (jn6 r0' h1 h1' g1 g2 g3) ?_
        intros
        exact at_mk () [_] trivial (by simp [hab]) rfl (by simp; rfl)
      · have hab : aboveZ c = 1099511627776 := by unfold aboveZ; rw [if_neg h1]
        repeat refine pw_seq ?_
        refine pw_cf (by simp; omega) ?_
        refine pw_skip ?_
        exact at_mk () [_] trivial (by simp [hab]) rfl (by simp; rfl)
    · rintro ⟨⟩ -
      generalize aboveZ c = ab at *
      by_cases hq : place < 0
      · rw [if_pos (.inl hq)] at hun
        repeat refine pw_seq ?_
        refine pwN [(2, 37)] (jn2 hq undef_eq) ?_
        intros
        repeat refine pw_seq ?_
        refine pw_ct rfl ?_
        repeat refine pw_seq ?_
        refine pwn ?_
        intros
        repeat refine pw_seq ?_
        refine pwn ?_
        intros
        exact again_mk (k + 1, (k : Int), ab) [] ⟨hc, by rw [← hun, hg]⟩ (by simp; omega) (by simp [wk]) rfl (by simp)
      · by_cases hq2 : most < ab
        · rw [if_pos (.inr hq2)] at hun
          repeat refine pw_seq ?_
          refine pwN [(2, 37)] (jn2 hq hq2) ?_
          intros
          repeat refine pw_seq ?_
          refine pw_ct rfl ?_
          repeat refine pw_seq ?_
          refine pwn ?_
          intros
          repeat refine pw_seq ?_
          refine pwn ?_
          intros
          exact again_mk (k + 1, (k : Int), ab) [] ⟨hc, by rw [← hun, hg]⟩ (by simp; omega) (by simp [wk]) rfl (by simp)
        · rw [if_neg (by rintro (q | q); exact hq q; exact hq2 q)] at hun
          repeat refine pw_seq ?_
          refine pwN [(2, 37)] (jn2 hq hq2) ?_
          intros
          repeat refine pw_seq ?_
          refine pw_cf rfl ?_
          refine pw_skip ?_
          repeat refine pw_seq ?_
          refine pwn ?_
          intros
          exact again_mk (k + 1, place, most) [] ⟨hc, by rw [← hun, hg]⟩ (by simp; omega) (by simp [wk]) rfl (by simp)
  · simp at hc
    obtain rfl : k = l.length := by omega
    refine pw_exit ?_
    have hgl : urgG cz (l.drop l.length) l.length place most = place := by rw [List.drop_length]; rfl
    repeat refine pw_seq ?_
    refine pwn ?_
    intros
    repeat refine pw_seq ?_
    exact pw_ret ⟨_, S, (by simp; rfl), ⟨by simp [oneOf]; rfl, rfl⟩, ext_kill0 hd⟩
open Go Go.Proofs
theorem regN_step {x : Inst} {d : Day} {l : List Stop} {k : Nat} {s : Stop} (hu : urgentZ x d l = k) (hk : l[k]? = some s) :
    regN x l.length d l = bif (insertD x d s).2 then regN x (l.eraseIdx k).length (insertD x d s).1 (l.eraseIdx k) else (d, false) := by
  have hlt := (List.getElem?_eq_some_iff.1 hk).1
  obtain ⟨n, hn⟩ : ∃ n, l.length = n + 1 := ⟨l.length - 1, by omega⟩
  have he : (l.eraseIdx k).length = n := by rw [List.length_eraseIdx_of_lt hlt]; omega
  have hg : l.getD k default = s := by rw [List.getD_eq_getElem?_getD, hk]; rfl
  rw [hn, he, regN, hu, Int.toNat_natCast, hg]
theorem rgOk_stops {x : Inst} {d : Day} {l : List Stop} (h : RgOk x d l) : d.length ≤ 1000 ∧ d.flatten.length ≤ 1000 ∧ l.length ≤ 1000 := by
  have h1 := h.dl
  have h2 := h.len
  omega
set_option maxRecDepth 20000 in
set_option maxHeartbeats 1600000 in
theorem regretP_ok (x : Inst) (l : List Stop) (hx : x.cust.length ≤ 1048576) (hv : 0 ≤ x.veh) (hl : l.length ≤ 1000) : Pure Tryz.prog 64 [.agg (instL x), L l] (.tup [.agg [L (regretZ x l).1], B (regretZ x l).2]) := by
  have hb := rgOk_begin hv hl
  unfold regretZ
  by_cases h0 : 0 < l.length
  case neg =>
    obtain rfl : l = [] := List.eq_nil_of_length_eq_zero (by omega)
    have hcl := cloneP_ok [] (by simp)
    refine pwe Tryz.func64 Tryz.ntmps64 Tryz.results64 fun S nx hd => ?_
    repeat refine pw_seq ?_
    refine pwn ?_
    intro v0 v1
    repeat refine pw_seq ?_
    refine pwn ?_
    intro v2
    refine pw_nilC 2 0 rfl rfl ?_
    repeat refine pw_seq ?_
    refine pwn ?_
    refine pwc hcl ?_
    intros
    repeat refine pw_seq ?_
    refine pw_block (pw_loopL (fun _ : Nat => True) (fun _ => [(2, .ptr nx v0 0), (4, .ptr (nx + 1) v1 0), (6, .ptr (nx + 2) v2 0), (7, L ([] : List Stop))]) (fun _ => [.cells v0 25 (instL x), .cells v1 35 [nilS], .cells v2 35 [L ([] : Day)]]) (fun k => k) 0 [] trivial (by simp) (by simp) ?_)
    rintro k -
    repeat refine pw_seq ?_
    refine pwn ?_
    intros
    repeat refine pw_seq ?_
    refine pw_cf rfl ?_
    refine pw_exit ?_
    repeat refine pw_seq ?_
    refine pwn ?_
    intros
    repeat refine pw_seq ?_
    exact pw_ret (ret_pure hd (by simp; rfl) (by simp [oneOf, regN]))
  refine pwe Tryz.func64 Tryz.ntmps64 Tryz.results64 fun S nx hd => ?_
  repeat refine pw_seq ?_
  refine pwn ?_
  intro v0 v1
  repeat refine pw_seq ?_
  refine pwn ?_
  intro v2
  refine pw_nilC 2 0 rfl rfl ?_
  repeat refine pw_seq ?_
  refine pw_N [] (by rfl) (by rfl) fun K Gc Gh hK hGc hGh X hX0 hX => ?_
  simp -implicitDefEqProofs [hX0, hX]
  try clear hX0 hX X
  refine hGc _ _ _ _ _ _ _ fun hsuf => ((cloneS_ok l h0 (by omega) _ _ ext_new).mono ?_).v
  rintro _ _ ⟨v3, rfl, rfl⟩
  refine ⟨_, _, ext_push _, ?_⟩
  clear hGc hGh
  clear Gc Gh
  refine xs_go hsuf (D := []) (by rfl) fun Gc Gh hGc hGh X hX0 hX => ?_
  simp -implicitDefEqProofs [hX0, hX]
  clear hX0 hX X
  intros
  refine hK _ _ _ ?_
  clear hK hGc hGh
  clear K Gc Gh
  repeat refine pw_seq ?_
  refine pw_block (pw_loopL (fun s' : Day × List Stop × Nat => regN x s'.2.1.length s'.1 s'.2.1 = regN x l.length [] l ∧ RgOk x s'.1 s'.2.1) (fun (d, m, v3) => [(2, .ptr nx v0 0), (4, .ptr (nx + 1) v1 0), (6, .ptr (nx + 2) v2 0), (7, .sl (nx + 3) v3 2 0 m.length)]) (fun (d, m, v3) => [.cells v0 25 (instL x), .cells v1 35 [nilS], .cells v2 35 [L d], .cells v3 43 (m.flatMap Enc.enc)]) (fun s' => s'.2.1.length) ([], l, v3) [] ⟨rfl, hb⟩ (by simp) (by simp) ?_)
  rintro ⟨d, m, v3⟩ ⟨hr, hok⟩
  simp only at hr hok ⊢
  rw [← hr]
  by_cases hm : m = []
  · subst hm
    repeat refine pw_seq ?_
    refine pwn ?_
    intros
    repeat refine pw_seq ?_
    refine pw_cf rfl ?_
    refine pw_exit ?_
    repeat refine pw_seq ?_
    refine pwn ?_
    intros
    repeat refine pw_seq ?_
    exact pw_ret (ret_pure hd (by simp; rfl) (by simp [oneOf, regN]))
  · have hm0 : 0 < m.length := List.length_pos_iff.2 hm
    obtain ⟨k, hu, hk⟩ := urgent_in (x := x) (d := d) hm
    obtain ⟨s, tl, a1, a2, a3, e1, e0⟩ := el 2 rfl m k hk
    have hk2 : 2 ≤ m.length * 2 - k * 2 := by omega
    have hst := regN_step hu a1
    obtain ⟨b1, b2, b3⟩ := rgOk_stops hok
    have hsee := see_ok x d hx hok.ok (by omega)
    have hins := insert_ok x d s hx hok.ok (by omega)
    have hnx := fun h => hok.step hx hk (s := s) h
    have hurg := fun (S : Store) (id ver : Nat) h => urgentP_ok x d m hx hok (S := S) (id := id) (ver := ver) h
    rw [hu] at hurg
    obtain ⟨on, tw, fs, bd, ls, ws, hlk⟩ : ∃ on tw fs bd ls ws, lookL x d = lookG x d on tw fs bd ls ws := ⟨_, _, _, _, _, _, rfl⟩
    rw [hlk] at hsee hurg
    clear hlk
    have hno := insertD_no (x := x) (d := d) (s := s)
    generalize hi : insertD x d s = r at *
    obtain ⟨d2, ok⟩ := r
    simp only at hst hnx hno
    have wk := wrN k (by omega)
    have hm0' : (0 : Int) < m.length := by omega
    repeat refine pw_seq ?_
    refine pwN [] hm0' ?_
    intros
    repeat refine pw_seq ?_
    refine pw_ct (by simp; exact hm0) ?_
    refine pw_skip (pw_block ?_)
    repeat refine pw_seq ?_
    refine pw_N [] (by rfl) (by rfl) fun K Gc Gh hK hGc hGh X hX0 hX => ?_
    simp -implicitDefEqProofs [hX0, hX]
    try clear hX0 hX X
    refine hGc _ _ _ _ _ _ _ fun hsuf => ((hsee _).mono ?_).v
    rintro _ _ ⟨rfl, rfl⟩
    refine ⟨_, _, rfl, ?_⟩
    clear hGc hGh
    clear Gc Gh
    refine xs_go hsuf (D := []) (by rfl) fun Gc Gh hGc hGh X hX0 hX => ?_
    simp -implicitDefEqProofs [hX0, hX]
    clear hX0 hX X
    refine hGc _ _ _ _ _ _ _ fun hsuf => ((hurg _ _ _ (by rw [ext_at]; rfl)).mono ?_).v
    rintro _ _ ⟨rfl, rfl⟩
    refine ⟨_, _, rfl, ?_⟩
    clear hGc hGh
    clear Gc Gh
    refine xs_go hsuf (D := []) (by rfl) fun Gc Gh hGc hGh X hX0 hX => ?_
    simp -implicitDefEqProofs [hX0, hX]
    clear hX0 hX X
    intros
    refine hK _ _ _ ?_
    clear hK hGc hGh
    clear K Gc Gh
    repeat refine pw_seq ?_
    refine pwY (some [nx, nx + 2, nx + 3]) (Row.pures [0, 1, 2, 3, 4, 5, 6, 7, 8, 9] (.alt 10 (.alt 11 (Row.pures [12] .done) .stop) .stop)) mixed (jn3 e0 hk hk2) ?_
    refine pwP (hins) trivial ?_
    intro v4
    intros
    repeat refine pw_seq ?_
    refine pwn ?_
    intros
    cases ok with
    | false =>
      simp only [cond_false] at hst
      repeat refine pw_seq ?_
      refine pw_ct rfl ?_
      repeat refine pw_seq ?_
      refine pwn ?_
      intros
      repeat refine pw_seq ?_
      exact pw_ret (ret_pure hd (by simp; rfl) (by simp [oneOf, hst]))
    | true =>
      simp only [cond_true] at hst
      repeat refine pw_seq ?_
      refine pw_cf rfl ?_
      refine pw_skip ?_
      have hkl := List.length_eraseIdx_of_lt hk
      repeat refine pw_seq ?_
      refine pw_Y (some [nx + 4]) (Row.pures [0, 1, 2, 3, 4] (.alt 5 (.alt 6 (Row.pures [7] .done) .stop) .stop)) mixed (by rfl) (by rfl) (by rfl) fun K Gp Gc Gh hK hGp hGc hGh X hX0 hX1 hX2 hX => ?_
      simp -implicitDefEqProofs [hX0, hX1, hX2, hX, wk]
      try clear hX0 hX1 hX2 hX X
      refine hGc _ _ _ _ _ _ _ ?_
      refine ((del_ok m k hk (by omega) (by rw [ext_at]; rfl)).mono ?_).v
      rintro _ _ ⟨rfl, rfl⟩
      rw [ext_set _ (by omega) (by simp), Nat.add_sub_cancel_left]
      refine ⟨by simp [Agree], ?_⟩
      clear hGp hGc hGh
      clear Gp Gc Gh
      refine px_go fun Gp Gc Gh hGp hGc hGh X hX0 hX1 hX2 hX => ?_
      simp -implicitDefEqProofs [hX0, hX1, hX2, hX]
      try clear hX0 hX1 hX2 hX X
      refine hK _ _ _ ?_
      clear hK hGp hGc hGh
      clear K Gp Gc Gh
      exact again_mk (d2, m.eraseIdx k, v3 + 1) [_] ⟨hst.symm, hnx rfl⟩ (by simp only; omega) (by simp) rfl (by simp; rfl)
set_option maxRecDepth 20000 in
set_option maxHeartbeats 1600000 in
theorem regretR_ok (x : Inst) (l : List Stop) (hx : x.cust.length ≤ 1048576) (ha : ArcOk x) (hv : 0 ≤ x.veh) (hl : l.length ≤ 1000) : Pure Tryz.prog 41 [.agg (instL x), L l] (.tup [.agg [L (regretZ x l).1], B (regretZ x l).2]) := by
  have hb := rgOk_begin hv hl
  unfold regretZ
  refine pwe Tryz.func41 Tryz.ntmps41 Tryz.results41 fun S nx hd => ?_
  repeat refine pw_seq ?_
  refine pwn ?_
  intro v0 v1
  repeat refine pw_seq ?_
  refine pwn ?_
  intro v2
  refine pw_nilC 2 0 rfl rfl ?_
  repeat refine pw_seq ?_
  refine pwn ?_
  refine ⟨by omega, ?_⟩
  intro v3
  intros
  repeat refine pw_seq ?_
  refine pw_block (pw_loopL (fun s' : Day × List Stop × Nat => regN x s'.2.1.length s'.1 s'.2.1 = regN x l.length [] l ∧ RgOk x s'.1 s'.2.1) (fun (d, m, v3) => [(2, .ptr nx v0 0), (4, .ptr (nx + 1) v1 0), (6, .ptr (nx + 2) v2 0), (7, .sl (nx + 3) v3 2 0 m.length)]) (fun (d, m, v3) => [.cells v0 25 (instL x), .cells v1 35 [nilS], .cells v2 35 [L d], .cells v3 43 (m.flatMap Enc.enc)]) (fun s' => s'.2.1.length) ([], l, v3) [] ⟨rfl, hb⟩ (by simp) (by simp) ?_)
  rintro ⟨d, m, v3⟩ ⟨hr, hok⟩
  simp only at hr hok ⊢
  rw [← hr]
  by_cases hm : m = []
  · subst hm
    repeat refine pw_seq ?_
    refine pwn ?_
    intros
    repeat refine pw_seq ?_
    refine pw_cf rfl ?_
    refine pw_exit ?_
    repeat refine pw_seq ?_
    refine pwn ?_
    intros
    repeat refine pw_seq ?_
    exact pw_ret (ret_pure hd (by simp; rfl) (by simp [oneOf, regN]))
  · have hm0 : 0 < m.length := List.length_pos_iff.2 hm
    obtain ⟨k, hu, hk⟩ := urgent_in (x := x) (d := d) hm
    obtain ⟨s, tl, a1, a2, a3, e1, e0⟩ := el 2 rfl m k hk
    have hk2 : 2 ≤ m.length * 2 - k * 2 := by omega
    have hst := regN_step hu a1
    obtain ⟨b1, b2, b3⟩ := rgOk_stops hok
    have hins := insertR_ok x d s hx (by omega) (by omega)
    rw [insertR_eq ha hok.may (by omega) (by omega)] at hins
    have hnx := fun h => hok.step hx hk (s := s) h
    have hco := fun s => costsR_ok x d s hx ha hok.ok hok.may (by omega) (by omega)
    have hug : urgG (costsZ x d) (m.drop 0) 0 (-1) 0 = k := hu
    generalize hcz : costsZ x d = cz at *
    generalize hi : insertD x d s = r at *
    obtain ⟨d2, ok⟩ := r
    simp only at hst hnx
    have wk := wrN k (by omega)
    have hm0' : (0 : Int) < m.length := by omega
    repeat refine pw_seq ?_
    refine pwN [] hm0' ?_
    intros
    repeat refine pw_seq ?_
    refine pw_ct (by simp; exact hm0) ?_
    refine pw_skip (pw_block ?_)
    repeat refine pw_seq ?_
    refine pwn ?_
    intros
    repeat refine pw_seq ?_
    refine pwn ?_
    intros
    repeat refine pw_seq ?_
    refine pwn ?_
    intros
    repeat refine pw_seq ?_
    refine pw_joinK (nx := nx) (fun _ : Unit => True) (fun _ => [(2, .ptr nx v0 0), (4, .ptr (nx + 1) v1 0), (6, .ptr (nx + 2) v2 0), (7, .sl (nx + 3) v3 2 0 m.length), (8, I k)]) (fun _ => S) (fun _ => [.cells v0 25 (instL x), .cells v1 35 [nilS], .cells v2 35 [L d], .cells v3 43 (m.flatMap Enc.enc)]) ?_ ?_
    · refine pw_block (pw_loopL (fun s' : Nat × Int × Int => s'.1 ≤ m.length ∧ urgG cz (m.drop s'.1) s'.1 s'.2.1 s'.2.2 = k) (fun (i, at_, most) => [(2, .ptr nx v0 0), (4, .ptr (nx + 1) v1 0), (6, .ptr (nx + 2) v2 0), (7, .sl (nx + 3) v3 2 0 m.length), (8, I at_), (9, I most), (10, I i)]) (fun _ => [.cells v0 25 (instL x), .cells v1 35 [nilS], .cells v2 35 [L d], .cells v3 43 (m.flatMap Enc.enc)]) (fun s' => m.length - s'.1) (0, -1, 0) [] ⟨by simp, hug⟩ (by simp) (by simp) ?_)
      rintro ⟨i, at_, most⟩ ⟨hik, hg⟩
      simp only at hik hg ⊢
      repeat refine pw_seq ?_
      refine pwn ?_
      intros
      repeat refine pw_seq ?_
      refine pw_cond rfl (fun hc => ?_) (fun hc => ?_)
      · simp at hc
        obtain ⟨u, tu, c1, c2, c3, f1, f0⟩ := el 2 rfl m i hc
        have hi2 : 2 ≤ m.length * 2 - i * 2 := by omega
        have hun := urg_next (c := cz) (place := at_) (most := most) c2
        rw [hg] at hun
        have hcs := hco u
        generalize hc0 : cz u = c at *
        have wi := wrN i (by omega)
        refine pw_skip (pw_seq (pw_block ?_))
        repeat refine pw_seq ?_
        refine pwY (some [nx, nx + 2, nx + 3]) (Row.pures [0, 1, 2, 3, 4, 5, 6, 7] .done) mixed (jn3 f0 hc hi2) ?_
        refine pwP (hcs) trivial ?_
        intros
        by_cases h0 : c.length = 0
        · rw [if_pos h0] at hun
          repeat refine pw_seq ?_
          refine pwN [] h0 ?_
          intros
          repeat refine pw_seq ?_
          refine pw_ct rfl ?_
          repeat refine pw_seq ?_
          refine pwn ?_
          intros
          refine pw_exit ?_
          exact at_mk () [] trivial (by simp [hun]) rfl (by simp)
        rw [if_neg h0] at hun
        repeat refine pw_seq ?_
        refine pwn ?_
        intros
        repeat refine pw_seq ?_
        refine pw_cf (by simp; exact fun e => h0 (by rw [e]; rfl)) ?_
        refine pw_skip ?_
        repeat refine pw_seq ?_
        refine pwn ?_
        intros
        repeat refine pw_seq ?_
        refine pwn ?_
        intros
        repeat refine pw_seq ?_
        refine pw_joinK (nx := nx) (fun _ : Unit => True) (fun _ => [(2, .ptr nx v0 0), (4, .ptr (nx + 1) v1 0), (6, .ptr (nx + 2) v2 0), (7, .sl (nx + 3) v3 2 0 m.length), (8, I at_), (9, I most), (10, I i), (12, I (aboveZ c))]) (fun _ => S) (fun _ => [.cells v0 25 (instL x), .cells v1 35 [nilS], .cells v2 35 [L d], .cells v3 43 (m.flatMap Enc.enc)]) ?_ ?_
        · by_cases h1 : 1 < c.length
          · obtain ⟨a, ta, q1, -, -, q0⟩ := el1 rfl c 1 h1
            obtain ⟨b, tb, r1, -, -, r0⟩ := el1 rfl c 0 (by omega)
            have hab : aboveZ c = W (a - b) := by unfold aboveZ; rw [if_pos h1, List.getD_eq_getElem?_getD, List.getD_eq_getElem?_getD, q1, r1]; rfl
            have g1 : 1 ≤ c.length - 1 := by omega
            have g2 : 0 < c.length := by omega
            have g3 : 1 ≤ c.length := by omega
            have r0' : (c.flatMap Enc.enc : List PV) = Enc.enc b ++ tb := by simpa using r0
            have h1' : (1 : Int) < c.length := by omega
            rw [r0'] at q0
            have htb : tb = I a :: ta := by simpa using q0
            rw [htb] at r0'
            repeat refine pw_seq ?_
            refine pw_ct (by simp; omega) ?_
            repeat refine pw_seq ?_
            refine pwY none (Row.pures [0, 1, 2, 3, 4, 5, 6, 7] .done) mixed (jn6 r0' h1 h1' g1 g2 g3) ?_
            intros
            exact at_mk () [] trivial (by simp [hab]) rfl (by simp)
          · have hab : aboveZ c = 1099511627776 := by unfold aboveZ; rw [if_neg h1]
            repeat refine pw_seq ?_
            refine pw_cf (by simp; omega) ?_
            refine pw_skip ?_
            exact at_mk () [] trivial (by simp [hab]) rfl (by simp)
        · rintro ⟨⟩ -
          generalize aboveZ c = ab at *
          by_cases hq : at_ < 0
          · rw [if_pos (.inl hq)] at hun
            repeat refine pw_seq ?_
            refine pwN [(2, 49)] (jn2 hq undef_eq) ?_
            intros
            repeat refine pw_seq ?_
            refine pw_ct rfl ?_
            repeat refine pw_seq ?_
            refine pwn ?_
            intros
            repeat refine pw_seq ?_
            refine pwn ?_
            intros
            repeat refine pw_seq ?_
            refine pwn ?_
            intros
            exact again_mk (i + 1, (i : Int), ab) [] ⟨hc, hun.symm⟩ (by simp; omega) (by simp [wi]) rfl (by simp)
          · by_cases hq2 : most < ab
            · rw [if_pos (.inr hq2)] at hun
              repeat refine pw_seq ?_
              refine pwN [(2, 49)] (jn2 hq hq2) ?_
              intros
              repeat refine pw_seq ?_
              refine pw_ct rfl ?_
              repeat refine pw_seq ?_
              refine pwn ?_
              intros
              repeat refine pw_seq ?_
              refine pwn ?_
              intros
              repeat refine pw_seq ?_
              refine pwn ?_
              intros
              exact again_mk (i + 1, (i : Int), ab) [] ⟨hc, hun.symm⟩ (by simp; omega) (by simp [wi]) rfl (by simp)
            · rw [if_neg (by rintro (q | q); exact hq q; exact hq2 q)] at hun
              repeat refine pw_seq ?_
              refine pwN [(2, 49)] (jn2 hq hq2) ?_
              intros
              repeat refine pw_seq ?_
              refine pw_cf rfl ?_
              refine pw_skip ?_
              repeat refine pw_seq ?_
              refine pwn ?_
              intros
              exact again_mk (i + 1, at_, most) [] ⟨hc, hun.symm⟩ (by simp; omega) (by simp [wi]) rfl (by simp)
      · simp at hc
        obtain rfl : i = m.length := by omega
        have hgl : urgG cz (m.drop m.length) m.length at_ most = at_ := by rw [List.drop_length]; rfl
        rw [hgl] at hg
        refine pw_exit ?_
        exact at_mk () [] trivial (by simp [hg]) rfl (by simp)
    · rintro ⟨⟩ -
      repeat refine pw_seq ?_
      refine pwY (some [nx, nx + 2, nx + 3]) (Row.pures [0, 1, 2, 3, 4, 5, 6, 7, 8, 9] (.alt 10 (.alt 11 (Row.pures [12] .done) .stop) .stop)) mixed (jn3 e0 hk hk2) ?_
      refine pwP (hins) trivial ?_
      intro v4
      intros
      repeat refine pw_seq ?_
      refine pwn ?_
      intros
      cases ok with
      | false =>
        simp only [cond_false] at hst
        repeat refine pw_seq ?_
        refine pw_ct rfl ?_
        repeat refine pw_seq ?_
        refine pwn ?_
        intros
        repeat refine pw_seq ?_
        exact pw_ret (ret_pure hd (by simp; rfl) (by simp [oneOf, hst]))
      | true =>
        simp only [cond_true] at hst
        repeat refine pw_seq ?_
        refine pw_cf rfl ?_
        refine pw_skip ?_
        repeat refine pw_seq ?_
        refine pwn ?_
        intros
        have hkl := List.length_eraseIdx_of_lt hk
        have hec : ((m.eraseIdx k).flatMap Enc.enc : List PV) = (m.flatMap Enc.enc).take (k * 2) ++ ((m.flatMap Enc.enc).drop ((k + 1) * 2)).take ((m.length - (k + 1)) * 2) := by
          rw [List.eraseIdx_eq_take_drop_succ, List.flatMap_append, ← flat_take Enc.enc 2 (fun _ => rfl) m k, ← flat_drop Enc.enc 2 (fun _ => rfl) m (k + 1)]
          congr 1
          rw [List.take_of_length_le]
          rw [List.length_drop, flen_stop]; omega
        have hml : (m.flatMap Enc.enc : List PV).length = m.length * 2 := flen_stop m
        have n1 : k ≤ m.length := by omega
        have n2 : k + 1 ≤ m.length := by omega
        have n3 : (k : Int) ≤ m.length := by omega
        have n4 : (k : Int) + 1 ≤ m.length := by omega
        have n5 : (0 : Int) ≤ (k : Int) + 1 := by omega
        have n6 : ((k : Int) + 1).toNat = k + 1 := by omega
        have wk' : IntKind.i64.wrap ((k : Int) + 1) = (k : Int) + 1 := wr _ (by omega) (by omega)
        have n7 : (k + 1) * 2 + (m.length - (k + 1)) * 2 ≤ m.length * 2 := by omega
        repeat refine pw_seq ?_
        refine pwY (some []) (Row.pures [0, 1, 2, 3, 4, 5, 6] (.alt 7 (Row.pures [8] .done) .stop)) mixed (jn6 wk' hml n1 n2 n3 (jn4 n4 n5 n6 n7)) ?_
        refine ⟨⟨by omega, by omega⟩, ?_⟩
        intros
        have hkl' : (m.eraseIdx k).length = k + (m.length - (k + 1)) := by omega
        exact again_mk (d2, m.eraseIdx k, v3 + 1) [_] ⟨hst.symm, hnx rfl⟩ (by simp only; omega) (by simp [hkl']) rfl (by simp [hec]; rfl)
open Go Go.Proofs
def impN (step : Day → Option Day) : Nat → Day → Day
  | 0, d => d
  | n + 1, d => match step d with
    | none => d
    | some e => impN step n e
def impC (step : Day → Option Day) : Nat → Day → Nat
  | 0, _ => 0
  | n + 1, d => match step d with
    | none => 0
    | some e => impC step n e + 1
def StepP (x : Inst) (step : Day → Option Day) (G : Day → Prop) : Prop := ∀ d, G d → ∃ mk ma mb mi mj least, Pure Tryz.prog 90 [.agg (instL x), .agg [L d]] (.tup [.agg [I mk, I ma, I mb, I mi, I mj], I least, B (step d).isSome]) ∧
  ∀ e, step d = some e → Pure Tryz.prog 91 [.agg (instL x), .agg [L d], .agg [I mk, I ma, I mb, I mi, I mj]] (.tup [.agg [L e], I 0]) ∧ G e
def StepR (x : Inst) (step : Day → Option Day) (G : Day → Prop) : Prop := ∀ d, G d → ∃ mk ma mb mi mj least, Pure Tryz.prog 69 [.agg (instL x), .agg [L d]] (.tup [.agg [I mk, I ma, I mb, I mi, I mj], I least, B (step d).isSome]) ∧
  ∀ e, step d = some e → Pure Tryz.prog 70 [.agg [L d], .agg [I mk, I ma, I mb, I mi, I mj]] (.agg [L e]) ∧ G e
set_option maxRecDepth 20000 in
set_option maxHeartbeats 1600000 in
theorem improveR_ok (x : Inst) (d : Day) (b : Int) (step : Day → Option Day) (G : Day → Prop) (hb : b ≤ 9223372036854775807) (hd' : 0 < b → G d) (hs : StepR x step G) : Pure Tryz.prog 39 [.agg (instL x), .agg [L d], I b] (.agg [L (impN step b.toNat d)]) := by
  refine pwe Tryz.func39 Tryz.ntmps39 Tryz.results39 fun S nx hd => ?_
  repeat refine pw_seq ?_
  refine pwn ?_
  intro v0 v1 v2
  repeat refine pw_seq ?_
  refine pwn ?_
  intros
  repeat refine pw_seq ?_
  refine pw_block (pw_loopL (fun s' : Nat × Day => s'.1 ≤ b.toNat ∧ (0 < b → G s'.2) ∧ impN step (b.toNat - s'.1) s'.2 = impN step b.toNat d) (fun (k, e) => [(2, I b), (3, .ptr nx v0 0), (4, .ptr (nx + 1) v1 0), (6, .ptr (nx + 2) v2 0), (7, I k)]) (fun (k, e) => [.cells v0 25 (instL x), .cells v1 35 [L e], .cells v2 35 [nilS]]) (fun s' => b.toNat - s'.1) (0, d) [] ⟨by simp, hd', by simp⟩ (by simp) (by simp) ?_)
  rintro ⟨k, e⟩ ⟨hk, hG, hi⟩
  simp only at hk hG hi ⊢
  rw [← hi]
  repeat refine pw_seq ?_
  refine pwn ?_
  intros
  repeat refine pw_seq ?_
  refine pw_cond rfl (fun hc => ?_) (fun hc => ?_)
  · simp at hc
    obtain ⟨mk, ma, mb, mi, mj, least, hB, hM⟩ := hs e (hG (by omega))
    obtain ⟨n, hn⟩ : ∃ n, b.toNat - k = n + 1 := ⟨b.toNat - k - 1, by omega⟩
    refine pw_skip (pw_seq (pw_block ?_))
    repeat refine pw_seq ?_
    refine pwn ?_
    refine pwc hB ?_
    intro v3
    intros
    repeat refine pw_seq ?_
    refine pwn ?_
    intros
    cases hst : step e with
    | none =>
      have hr : impN step (b.toNat - k) e = e := by rw [hn]; unfold impN; rw [hst]
      rw [hr]
      repeat refine pw_seq ?_
      refine pw_ct rfl ?_
      repeat refine pw_seq ?_
      refine pwn ?_
      intros
      repeat refine pw_seq ?_
      exact pw_ret (ret_pure hd (by simp; rfl) (by simp [oneOf]))
    | some e2 =>
      have hr : impN step (b.toNat - k) e = impN step (b.toNat - (k + 1)) e2 := by rw [hn, show b.toNat - (k + 1) = n by omega]; conv => lhs; unfold impN; rw [hst]
      obtain ⟨hM1, hG2⟩ := hM e2 hst
      repeat refine pw_seq ?_
      refine pw_cf rfl ?_
      refine pw_skip ?_
      repeat refine pw_seq ?_
      refine pwn ?_
      refine pwc hM1 ?_
      intros
      repeat refine pw_seq ?_
      refine pwn ?_
      intros
      exact again_mk (k + 1, e2) [_] ⟨by simp; omega, fun _ => hG2, hr.symm⟩ (by simp; omega) (by simp [wrN k (by omega)]) rfl (by simp; rfl)
  · simp at hc
    have hz : b.toNat - k = 0 := by omega
    rw [hz]
    refine pw_exit ?_
    repeat refine pw_seq ?_
    refine pwn ?_
    intros
    repeat refine pw_seq ?_
    exact pw_ret (ret_pure hd (by simp; rfl) (by simp [oneOf, impN]))
set_option maxRecDepth 20000 in
set_option maxHeartbeats 1600000 in
theorem improveP_ok (x : Inst) (d : Day) (b : Int) (step : Day → Option Day) (G : Day → Prop) (hb : b ≤ 9223372036854775807) (hdn : d.length ≤ 1048576) (hdt : ∀ t ∈ d, t.length ≤ 1048576) (hd' : 0 < b → G d) (hs : StepP x step G) : Pure Tryz.prog 57 [.agg (instL x), .agg [L d], I b] (.tup [.agg [L (impN step b.toNat d)], I (if impC step b.toNat d < b.toNat then (impC step b.toNat d : Int) else maxI b 0)]) := by
  refine pwe Tryz.func57 Tryz.ntmps57 Tryz.results57 fun S nx hd => ?_
  repeat refine pw_seq ?_
  refine pwn ?_
  intro v0 v1 v2
  repeat refine pw_seq ?_
  refine pwn ?_
  intro v3
  refine pw_nilObX 3 0 66 1 rfl rfl fun v4 => ?_
  repeat refine pw_seq ?_
  refine pwn ?_
  intros
  repeat refine pw_seq ?_
  refine pw_block (pw_loopL (fun s' : Nat × Nat => s'.1 ≤ d.length) (fun (k, v4) => [(2, I b), (3, .ptr nx v0 0), (6, .ptr (nx + 2) v2 0), (7, I 0), (8, .ptr (nx + 3) v3 0), (16, L d), (17, I d.length), (18, I k)]) (fun (k, v4) => [.cells v0 25 (instL x), .cells v1 35 [L d], .cells v2 35 [nilS], .cells v3 35 [.sl (nx + 4) v4 1 0 k], .cells v4 66 ((d.take k).flatMap Enc.enc)]) (fun s' => d.length - s'.1) (0, v4) [] (by simp) (by simp) (by simp) ?_)
  rintro ⟨k, v4⟩ hk
  simp only at hk ⊢
  repeat refine pw_seq ?_
  refine pwn ?_
  intros
  repeat refine pw_seq ?_
  refine pw_cond rfl (fun hc => ?_) (fun hc => ?_)
  · simp at hc
    obtain ⟨t, tl, a1, a2, a3, e0⟩ := el1 rfl d k hc
    have hk1 : 1 ≤ d.length - k := by omega
    have hcl := cloneP_ok t (hdt t (List.mem_of_getElem? a1))
    have hcl' : ((d.take k).flatMap Enc.enc : List PV).length = k := by rw [flen_list, List.length_take]; omega
    have hct : ((d.take k).flatMap Enc.enc : List PV).take k = (d.take k).flatMap Enc.enc := List.take_of_length_le (by omega)
    have hcn : ((d.take (k + 1)).flatMap Enc.enc : List PV) = (d.take k).flatMap Enc.enc ++ [L t] := by rw [a3, List.flatMap_append]; rfl
    generalize ((d.take k).flatMap Enc.enc : List PV) = cs at *
    refine pw_skip (pw_seq (pw_block ?_))
    repeat refine pw_seq ?_
    refine pwN [] (jn3 e0 hc hk1) ?_
    intro v5
    repeat refine pw_seq ?_
    refine pwY (some [nx + 5]) (Row.pures [0, 2, 3, 4, 5, 6] (.alt 1 (.alt 7 (Row.pures [8] (.alt 9 (.done) .stop)) .stop) .stop)) mixed (jn2 hcl' hct) ?_
    refine pwP (hcl) (jn2 hcl' hct) ?_
    refine ⟨by omega, ?_⟩
    intros
    repeat refine pw_seq ?_
    refine pwn ?_
    intros
    exact again_mk (k + 1, v4 + 1) [_] hc (by simp; omega) (by simp [wrN k (by omega)]) rfl (by simp [hcn]; rfl)
  · simp at hc
    obtain rfl : k = d.length := by omega
    have g1 : d.take d.length = d := List.take_length
    refine pw_exit ?_
    rw [g1]
    refine pw_frz 4 rfl ?_
    repeat refine pw_seq ?_
    refine pwn ?_
    intros
    clear hk hc g1
    repeat refine pw_seq ?_
    refine pw_block (pw_loopL (fun s' : Nat × Day => s'.1 ≤ b.toNat ∧ (0 < b → G s'.2) ∧ impN step (b.toNat - s'.1) s'.2 = impN step b.toNat d ∧ s'.1 + impC step (b.toNat - s'.1) s'.2 = impC step b.toNat d) (fun (k, e) => [(2, I b), (3, .ptr nx v0 0), (6, .ptr (nx + 2) v2 0), (8, .ptr (nx + 3) v3 0), (11, I k)]) (fun (k, e) => [.cells v0 25 (instL x), .cells v1 35 [L d], .cells v2 35 [nilS], .cells v3 35 [L e]]) (fun s' => b.toNat - s'.1) (0, d) [.dead] ⟨by simp, hd', by simp, by simp⟩ (by simp) (by simp) ?_)
    rintro ⟨k, e⟩ ⟨hk, hG, hi, hco⟩
    simp only at hk hG hi hco ⊢
    rw [← hi]
    repeat refine pw_seq ?_
    refine pwn ?_
    intros
    repeat refine pw_seq ?_
    refine pw_cond rfl (fun hc => ?_) (fun hc => ?_)
    · simp at hc
      obtain ⟨mk, ma, mb, mi, mj, least, hB, hM⟩ := hs e (hG (by omega))
      obtain ⟨n, hn⟩ : ∃ n, b.toNat - k = n + 1 := ⟨b.toNat - k - 1, by omega⟩
      refine pw_skip (pw_seq (pw_block ?_))
      repeat refine pw_seq ?_
      refine pwn ?_
      refine pwc hB ?_
      intro v5
      intros
      repeat refine pw_seq ?_
      refine pwn ?_
      intros
      cases hst : step e with
      | none =>
        have hr : impN step (b.toNat - k) e = e := by rw [hn]; unfold impN; rw [hst]
        have hr2 : impC step (b.toNat - k) e = 0 := by rw [hn]; unfold impC; rw [hst]
        rw [hr2] at hco
        rw [hr, ← hco, if_pos (by omega)]
        repeat refine pw_seq ?_
        refine pw_ct rfl ?_
        repeat refine pw_seq ?_
        refine pwn ?_
        intros
        repeat refine pw_seq ?_
        exact pw_ret (ret_pure hd (by simp; rfl) (by simp [oneOf]))
      | some e2 =>
        have hr : impN step (b.toNat - k) e = impN step (b.toNat - (k + 1)) e2 := by rw [hn, show b.toNat - (k + 1) = n by omega]; conv => lhs; unfold impN; rw [hst]
        have hr2 : impC step (b.toNat - k) e = impC step (b.toNat - (k + 1)) e2 + 1 := by rw [hn, show b.toNat - (k + 1) = n by omega]; conv => lhs; unfold impC; rw [hst]
        obtain ⟨hM1, hG2⟩ := hM e2 hst
        repeat refine pw_seq ?_
        refine pw_cf rfl ?_
        refine pw_skip ?_
        repeat refine pw_seq ?_
        refine pwn ?_
        refine pwc hM1 ?_
        intros
        repeat refine pw_seq ?_
        refine pwn ?_
        intros
        exact again_mk (k + 1, e2) [_] ⟨by simp; omega, fun _ => hG2, hr.symm, by simp only; omega⟩ (by simp; omega) (by simp [wrN k (by omega)]) rfl (by simp; rfl)
    · simp at hc
      have hz : b.toNat - k = 0 := by omega
      rw [hz] at hco ⊢
      have hco' : impC step b.toNat d = k := by rw [← hco]; rfl
      rw [hco', if_neg (by omega)]
      refine pw_exit ?_
      repeat refine pw_seq ?_
      refine pwn ?_
      intros
      repeat refine pw_seq ?_
      exact pw_ret (ret_pure hd (by simp; rfl) (by simp [oneOf, impN]))
open Go Go.Proofs
structure Pc where
  t : Nat
  f : Nat
  o : Nat
  b : Bool
  deriving DecidableEq
def pc0 : Pc := ⟨0, 0, 0, false⟩
abbrev pcL (p : Pc) : List PV := [I p.t, I p.f, I p.o, B p.b]
structure Rw5 where
  a : Pc
  b : Pc
  c : Pc
  d : Pc
  e : Pc
abbrev rwL (r : Rw5) : List PV := [I r.a.t, I r.a.f, I r.a.o, B r.a.b, I r.b.t, I r.b.f, I r.b.o, B r.b.b, I r.c.t, I r.c.f, I r.c.o, B r.c.b, I r.d.t, I r.d.f, I r.d.o, B r.d.b, I r.e.t, I r.e.f, I r.e.o, B r.e.b]
def Rw5.l (r : Rw5) : List Pc := [r.a, r.b, r.c, r.d, r.e]
def rw0 : Rw5 := ⟨pc0, pc0, pc0, pc0, pc0⟩
structure Mv where
  k : Nat
  a : Nat
  b : Nat
  i : Nat
  j : Nat
  deriving DecidableEq
abbrev mvL (m : Mv) : List PV := [I m.k, I m.a, I m.b, I m.i, I m.j]
abbrev vwL (m : Mv) (la lb : Nat) : List PV := [I m.k, I m.a, I m.b, I m.i, I m.j, I la, I lb]
def mayZ (m : Mv) (la lb : Nat) : Bool :=
  if m.k = 0 then decide (m.b = m.a ∧ m.i < m.j ∧ m.j < la)
  else if m.k = 1 then decide (m.i < la ∧ (if m.a = m.b then m.j < lb else m.j ≤ lb))
  else if m.k = 2 then decide (¬ (m.b < m.a ∨ m.a = m.b ∧ m.j ≤ m.i) ∧ m.i < la ∧ m.j < lb)
  else decide (m.a < m.b ∧ m.i ≤ la ∧ m.j ≤ lb)
def cutZ (m : Mv) (la lb : Nat) : Rw5 × Rw5 :=
  if m.k = 0 then (⟨⟨m.a, 0, m.i, false⟩, ⟨m.a, m.i, m.j + 1, true⟩, ⟨m.a, m.j + 1, la, false⟩, pc0, pc0⟩, rw0)
  else if m.k = 1 then
    (if m.a ≠ m.b then (⟨⟨m.a, 0, m.i, false⟩, ⟨m.a, m.i + 1, la, false⟩, pc0, pc0, pc0⟩, ⟨⟨m.b, 0, m.j, false⟩, ⟨m.a, m.i, m.i + 1, false⟩, ⟨m.b, m.j, lb, false⟩, pc0, pc0⟩)
    else if m.i < m.j then (⟨⟨m.a, 0, m.i, false⟩, ⟨m.a, m.i + 1, m.j + 1, false⟩, ⟨m.a, m.i, m.i + 1, false⟩, ⟨m.a, m.j + 1, la, false⟩, pc0⟩, rw0)
    else (⟨⟨m.a, 0, m.j, false⟩, ⟨m.a, m.i, m.i + 1, false⟩, ⟨m.a, m.j, m.i, false⟩, ⟨m.a, m.i + 1, la, false⟩, pc0⟩, rw0))
  else if m.k = 2 then
    (if m.a = m.b then (⟨⟨m.a, 0, m.i, false⟩, ⟨m.b, m.j, m.j + 1, false⟩, ⟨m.a, m.i + 1, m.j, false⟩, ⟨m.a, m.i, m.i + 1, false⟩, ⟨m.a, m.j + 1, la, false⟩⟩, rw0)
    else (⟨⟨m.a, 0, m.i, false⟩, ⟨m.b, m.j, m.j + 1, false⟩, ⟨m.a, m.i + 1, la, false⟩, pc0, pc0⟩, ⟨⟨m.b, 0, m.j, false⟩, ⟨m.a, m.i, m.i + 1, false⟩, ⟨m.b, m.j + 1, lb, false⟩, pc0, pc0⟩))
  else (⟨⟨m.a, 0, m.i, false⟩, ⟨m.b, m.j, lb, false⟩, pc0, pc0, pc0⟩, ⟨⟨m.b, 0, m.j, false⟩, ⟨m.a, m.i, la, false⟩, pc0, pc0, pc0⟩)
set_option maxRecDepth 20000 in
theorem mayTurn_ok (m : Mv) (la lb : Nat) (hk : m.k = 0) : Pure Tryz.prog 149 [.agg (vwL m la lb)] (B (mayZ m la lb)) := by
  unfold mayZ
  rw [if_pos hk]
  refine pwe Tryz.func149 Tryz.ntmps149 Tryz.results149 fun S nx hd => ?_
  repeat refine pw_seq ?_
  refine pwn ?_
  intro v0
  by_cases h1 : m.b = m.a
  case neg =>
    have h1' : ¬ (m.b : Int) = m.a := by omega
    repeat refine pw_seq ?_
    refine pwN [(7, 10), (13, 16), (22, 25)] (jn2 h1' undef_eq) ?_
    intros
    repeat refine pw_seq ?_
    exact pw_ret (ret_pure hd rfl (by simp [h1, oneOf]))
  have h1' : (m.b : Int) = m.a := by omega
  by_cases h2 : m.i < m.j
  case neg =>
    have h2' : ¬ (m.i : Int) < m.j := by omega
    repeat refine pw_seq ?_
    refine pwN [(7, 10), (13, 16), (22, 25)] (jn3 h1' h2 undef_eq) ?_
    intros
    repeat refine pw_seq ?_
    exact pw_ret (ret_pure hd rfl (by simp [h2, oneOf]))
  by_cases h3 : m.j < la
  case neg =>
    repeat refine pw_seq ?_
    refine pwN [(7, 10), (13, 16), (22, 25)] (jn4 h1' h2 h3 undef_eq) ?_
    intros
    repeat refine pw_seq ?_
    exact pw_ret (ret_pure hd rfl (by simp [h3, oneOf]))
  repeat refine pw_seq ?_
  refine pwN [(7, 10), (13, 16), (22, 25)] (jn3 h1' h2 h3) ?_
  intros
  repeat refine pw_seq ?_
  exact pw_ret (ret_pure hd rfl (by simp [h1, h2, h3, oneOf]))
set_option maxRecDepth 20000 in
theorem mayShift_ok (m : Mv) (la lb : Nat) (hk : m.k = 1) (hlb : lb ≤ 1048576) : Pure Tryz.prog 151 [.agg (vwL m la lb)] (B (mayZ m la lb)) := by
  unfold mayZ
  rw [if_neg (by omega), if_pos hk]
  refine pwe Tryz.func151 Tryz.ntmps151 Tryz.results151 fun S nx hd => ?_
  repeat refine pw_seq ?_
  refine pwn ?_
  intro v0
  repeat refine pw_seq ?_
  refine pwn ?_
  intros
  refine pw_seq ?_
  refine pw_joinK (nx := nx) (fun z : Int => (m.j : Int) ≤ z ↔ (if m.a = m.b then m.j < lb else m.j ≤ lb)) (fun z => [(1, .ptr nx v0 0), (3, I z)]) (fun _ => S) (fun _ => [.cells v0 205 (vwL m la lb)]) ?_ ?_
  · by_cases h1 : m.a = m.b
    · have h1' : (m.a : Int) = m.b := by omega
      have w1 : IntKind.i64.wrap ((lb : Int) - 1) = (lb : Int) - 1 := wr _ (by omega) (by omega)
      repeat refine pw_seq ?_
      refine pwN [] h1' ?_
      intros
      repeat refine pw_seq ?_
      refine pw_ct rfl ?_
      repeat refine pw_seq ?_
      refine pwN [] w1 ?_
      intros
      exact at_mk ((lb : Int) - 1) [] (by rw [if_pos h1]; omega) (by simp) rfl (by simp)
    · have h1' : ¬ (m.a : Int) = m.b := by omega
      repeat refine pw_seq ?_
      refine pwN [] h1' ?_
      intros
      repeat refine pw_seq ?_
      refine pw_cf rfl ?_
      refine pw_skip ?_
      exact at_mk (lb : Int) [] (by rw [if_neg h1]; omega) (by simp) rfl (by simp)
  · intro z hz
    by_cases h2 : m.i < la
    case neg =>
      repeat refine pw_seq ?_
      refine pwN [(4, 19), (12, 27), (18, 33)] (jn2 h2 undef_eq) ?_
      intros
      repeat refine pw_seq ?_
      exact pw_ret (ret_pure hd rfl (by simp [h2, oneOf]))
    by_cases h3 : (m.j : Int) ≤ z
    case neg =>
      have h4 := (not_congr hz).1 h3
      repeat refine pw_seq ?_
      refine pwN [(4, 19), (12, 27), (18, 33)] (jn2 h2 h3) ?_
      intros
      repeat refine pw_seq ?_
      exact pw_ret (ret_pure hd rfl (by simp [h2, h4, oneOf]))
    have h4 := hz.1 h3
    repeat refine pw_seq ?_
    refine pwN [(4, 19), (12, 27), (18, 33)] (jn2 h2 h3) ?_
    intros
    repeat refine pw_seq ?_
    exact pw_ret (ret_pure hd rfl (by simp [h2, h4, oneOf]))
set_option maxRecDepth 20000 in
theorem maySwap_ok (m : Mv) (la lb : Nat) (hk : m.k = 2) : Pure Tryz.prog 153 [.agg (vwL m la lb)] (B (mayZ m la lb)) := by
  unfold mayZ
  rw [if_neg (by omega), if_neg (by omega), if_pos hk]
  refine pwe Tryz.func153 Tryz.ntmps153 Tryz.results153 fun S nx hd => ?_
  repeat refine pw_seq ?_
  refine pwn ?_
  intro v0
  have rest : ∀ (P : Prop), (m.i < la → m.j < lb → P) → (¬ (m.i < la ∧ m.j < lb) → P) → P := fun P a b => by
    by_cases q : m.i < la ∧ m.j < lb
    · exact a q.1 q.2
    · exact b q
  by_cases h1 : m.b < m.a
  · repeat refine pw_seq ?_
    refine pwN [(7, 10), (15, 18)] (jn2 h1 undef_eq) ?_
    intros
    repeat refine pw_seq ?_
    refine pw_ct rfl ?_
    repeat refine pw_seq ?_
    refine pwn ?_
    intros
    repeat refine pw_seq ?_
    exact pw_ret (ret_pure hd rfl (by simp [h1, oneOf]))
  by_cases h2 : m.a = m.b
  · have h2' : (m.a : Int) = m.b := by omega
    by_cases h3 : m.j ≤ m.i
    · have h1' : ¬ m.b < m.b := by omega
      repeat refine pw_seq ?_
      refine pwN [(7, 10), (15, 18)] (jn3 h2' h1' h3) ?_
      intros
      repeat refine pw_seq ?_
      refine pw_ct rfl ?_
      repeat refine pw_seq ?_
      refine pwn ?_
      intros
      repeat refine pw_seq ?_
      exact pw_ret (ret_pure hd rfl (by simp [h2, h3, oneOf]))
    · have h1' : ¬ m.b < m.b := by omega
      have h0 : ¬ (m.b < m.a ∨ m.a = m.b ∧ m.j ≤ m.i) := by omega
      repeat refine pw_seq ?_
      refine pwN [(7, 10), (15, 18)] (jn3 h2' h1' h3) ?_
      intros
      repeat refine pw_seq ?_
      refine pw_cf rfl ?_
      refine pw_skip ?_
      by_cases h4 : m.i < la
      case neg =>
        repeat refine pw_seq ?_
        refine pwN [(4, 32), (12, 40), (18, 46)] (jn2 h4 undef_eq) ?_
        intros
        repeat refine pw_seq ?_
        exact pw_ret (ret_pure hd rfl (by simp [h4, oneOf]))
      by_cases h5 : m.j < lb
      case neg =>
        repeat refine pw_seq ?_
        refine pwN [(4, 32), (12, 40), (18, 46)] (jn2 h4 h5) ?_
        intros
        repeat refine pw_seq ?_
        exact pw_ret (ret_pure hd rfl (by simp [h5, oneOf]))
      repeat refine pw_seq ?_
      refine pwN [(4, 32), (12, 40), (18, 46)] (jn2 h4 h5) ?_
      intros
      repeat refine pw_seq ?_
      exact pw_ret (ret_pure hd rfl (by simp [h0, h4, h5, oneOf]))
  · have h2' : ¬ (m.a : Int) = m.b := by omega
    have h0 : ¬ (m.b < m.a ∨ m.a = m.b ∧ m.j ≤ m.i) := by omega
    repeat refine pw_seq ?_
    refine pwN [(7, 10), (15, 18)] (jn3 h1 h2' undef_eq) ?_
    intros
    repeat refine pw_seq ?_
    refine pw_cf rfl ?_
    refine pw_skip ?_
    by_cases h4 : m.i < la
    case neg =>
      repeat refine pw_seq ?_
      refine pwN [(4, 32), (12, 40), (18, 46)] (jn2 h4 undef_eq) ?_
      intros
      repeat refine pw_seq ?_
      exact pw_ret (ret_pure hd rfl (by simp [h4, oneOf]))
    by_cases h5 : m.j < lb
    case neg =>
      repeat refine pw_seq ?_
      refine pwN [(4, 32), (12, 40), (18, 46)] (jn2 h4 h5) ?_
      intros
      repeat refine pw_seq ?_
      exact pw_ret (ret_pure hd rfl (by simp [h5, oneOf]))
    repeat refine pw_seq ?_
    refine pwN [(4, 32), (12, 40), (18, 46)] (jn2 h4 h5) ?_
    intros
    repeat refine pw_seq ?_
    exact pw_ret (ret_pure hd rfl (by simp [h0, h4, h5, oneOf]))
set_option maxRecDepth 20000 in
theorem mayCross_ok (m : Mv) (la lb : Nat) (hk : 3 ≤ m.k) : Pure Tryz.prog 155 [.agg (vwL m la lb)] (B (mayZ m la lb)) := by
  unfold mayZ
  rw [if_neg (by omega), if_neg (by omega), if_neg (by omega)]
  refine pwe Tryz.func155 Tryz.ntmps155 Tryz.results155 fun S nx hd => ?_
  repeat refine pw_seq ?_
  refine pwn ?_
  intro v0
  by_cases h1 : m.a < m.b
  case neg =>
    repeat refine pw_seq ?_
    refine pwN [(7, 10), (13, 16), (21, 24), (27, 30)] (jn2 h1 undef_eq) ?_
    intros
    repeat refine pw_seq ?_
    exact pw_ret (ret_pure hd rfl (by simp [h1, oneOf]))
  by_cases h2 : m.i ≤ la
  case neg =>
    repeat refine pw_seq ?_
    refine pwN [(7, 10), (13, 16), (21, 24), (27, 30)] (jn3 h1 h2 undef_eq) ?_
    intros
    repeat refine pw_seq ?_
    exact pw_ret (ret_pure hd rfl (by simp [h2, oneOf]))
  by_cases h3 : m.j ≤ lb
  case neg =>
    repeat refine pw_seq ?_
    refine pwN [(7, 10), (13, 16), (21, 24), (27, 30)] (jn3 h1 h2 h3) ?_
    intros
    repeat refine pw_seq ?_
    exact pw_ret (ret_pure hd rfl (by simp [h3, oneOf]))
  repeat refine pw_seq ?_
  refine pwN [(7, 10), (13, 16), (21, 24), (27, 30)] (jn3 h1 h2 h3) ?_
  intros
  repeat refine pw_seq ?_
  exact pw_ret (ret_pure hd rfl (by simp [h1, h2, h3, oneOf]))
set_option maxRecDepth 20000 in
theorem turn_ok (m : Mv) (la lb : Nat) (hk : m.k = 0) (hi : m.i ≤ 1048576) (hj : m.j ≤ 1048576) : Pure Tryz.prog 150 [.agg (vwL m la lb)] (.tup [.agg (rwL (cutZ m la lb).1), .agg (rwL (cutZ m la lb).2)]) := by
  have wi := wrN m.i (by omega)
  have wj := wrN m.j (by omega)
  unfold cutZ
  rw [if_pos hk]
  refine pwe Tryz.func150 Tryz.ntmps150 Tryz.results150 fun S nx hd => ?_
  repeat refine pw_seq ?_
  refine pwn ?_
  intro v0 v1 v2
  repeat refine pw_seq ?_
  refine pwY (some [nx]) (Row.pures [0, 1, 2, 3, 4, 5, 6, 7, 8, 9, 10, 11] .done) mixed trivial ?_
  intros
  repeat refine pw_seq ?_
  refine pwN [] wj ?_
  intros
  repeat refine pw_seq ?_
  exact pw_ret (ret_pure hd (by simp; rfl) (by simp [oneOf, rw0, pc0]))
set_option maxRecDepth 20000 in
theorem cross_ok (m : Mv) (la lb : Nat) (hk : 3 ≤ m.k) : Pure Tryz.prog 156 [.agg (vwL m la lb)] (.tup [.agg (rwL (cutZ m la lb).1), .agg (rwL (cutZ m la lb).2)]) := by
  unfold cutZ
  rw [if_neg (by omega), if_neg (by omega), if_neg (by omega)]
  refine pwe Tryz.func156 Tryz.ntmps156 Tryz.results156 fun S nx hd => ?_
  repeat refine pw_seq ?_
  refine pwn ?_
  intro v0 v1 v2
  repeat refine pw_seq ?_
  refine pwY (some [nx]) (Row.pures [0, 1, 2, 3, 4, 5, 6, 7, 8, 9, 10, 11, 12, 13, 14, 15] .done) mixed trivial ?_
  intros
  repeat refine pw_seq ?_
  refine pwY (some [nx]) (Row.pures [0, 1, 2, 3, 4, 5, 6, 7, 8, 9, 10, 11, 12, 13, 14, 15, 16, 17] (.alt 18 (.alt 19 (.done) .stop) .stop)) mixed trivial ?_
  intros
  repeat refine pw_seq ?_
  exact pw_ret (ret_pure hd (by simp; rfl) (by simp [oneOf, rw0, pc0]))
set_option maxRecDepth 20000 in
theorem shift_ok (m : Mv) (la lb : Nat) (hk : m.k = 1) (hi : m.i ≤ 1048576) (hj : m.j ≤ 1048576) : Pure Tryz.prog 152 [.agg (vwL m la lb)] (.tup [.agg (rwL (cutZ m la lb).1), .agg (rwL (cutZ m la lb).2)]) := by
  have wi := wrN m.i (by omega)
  have wj := wrN m.j (by omega)
  unfold cutZ
  rw [if_neg (by omega), if_pos hk]
  refine pwe Tryz.func152 Tryz.ntmps152 Tryz.results152 fun S nx hd => ?_
  repeat refine pw_seq ?_
  refine pwn ?_
  intro v0 v1 v2
  repeat refine pw_seq ?_
  refine pwY (some [nx]) (Row.pures [0, 1, 2, 3, 4, 5, 6, 7, 8, 9, 10, 11, 12, 13, 14, 15] .done) mixed trivial ?_
  intros
  repeat refine pw_seq ?_
  refine pwN [] wi ?_
  intro v3
  refine pw_seq (pw_block ?_)
  by_cases h1 : m.a = m.b
  case neg =>
    have h1' : ¬ (m.a : Int) = m.b := by omega
    rw [if_pos h1]
    repeat refine pw_seq ?_
    refine pwN [] h1' ?_
    intros
    repeat refine pw_seq ?_
    refine pw_ct rfl ?_
    repeat refine pw_seq ?_
    refine pwY (some [nx, nx + 3]) (Row.pures [0, 1, 2, 3, 4, 5, 6, 7, 8, 9, 10, 11, 12, 13, 14, 15, 16, 17, 18, 19] (.alt 20 (.alt 21 (.done) .stop) .stop)) mixed wi ?_
    intros
    repeat refine pw_seq ?_
    exact pw_ret (ret_pure hd (by simp; rfl) (by simp [oneOf, rw0, pc0]))
  have h1' : (m.a : Int) = m.b := by omega
  rw [if_neg (by simpa using h1)]
  repeat refine pw_seq ?_
  refine pwN [] h1' ?_
  intros
  repeat refine pw_seq ?_
  refine pw_cf rfl ?_
  by_cases h2 : m.i < m.j
  · rw [if_pos h2]
    repeat refine pw_seq ?_
    refine pwN [] h2 ?_
    intros
    repeat refine pw_seq ?_
    refine pw_ct rfl ?_
    repeat refine pw_seq ?_
    refine pwN [] (jn2 wi wj) ?_
    intros
    repeat refine pw_seq ?_
    exact pw_ret (ret_pure hd (by simp; rfl) (by simp [oneOf, rw0, pc0, h1]))
  · rw [if_neg h2]
    repeat refine pw_seq ?_
    refine pwN [] h2 ?_
    intros
    repeat refine pw_seq ?_
    refine pw_cf rfl ?_
    refine pw_skip ?_
    repeat refine pw_seq ?_
    refine pwN [] (jn2 wi wj) ?_
    intros
    repeat refine pw_seq ?_
    exact pw_ret (ret_pure hd (by simp; rfl) (by simp [oneOf, rw0, pc0, h1]))
set_option maxRecDepth 20000 in
theorem swap_ok (m : Mv) (la lb : Nat) (hk : m.k = 2) (hi : m.i ≤ 1048576) (hj : m.j ≤ 1048576) : Pure Tryz.prog 154 [.agg (vwL m la lb)] (.tup [.agg (rwL (cutZ m la lb).1), .agg (rwL (cutZ m la lb).2)]) := by
  have wi := wrN m.i (by omega)
  have wj := wrN m.j (by omega)
  unfold cutZ
  rw [if_neg (by omega), if_neg (by omega), if_pos hk]
  refine pwe Tryz.func154 Tryz.ntmps154 Tryz.results154 fun S nx hd => ?_
  repeat refine pw_seq ?_
  refine pwn ?_
  intro v0 v1 v2
  repeat refine pw_seq ?_
  refine pwY (some [nx]) (Row.pures [0, 1, 2, 3, 4, 5, 6, 7, 8, 9, 10, 11, 12, 13, 14, 15] .done) mixed trivial ?_
  intros
  repeat refine pw_seq ?_
  refine pwN [] (jn2 wi wj) ?_
  intro v3 v4
  by_cases h1 : m.a = m.b
  · have h1' : (m.a : Int) = m.b := by omega
    rw [if_pos h1]
    repeat refine pw_seq ?_
    refine pwN [] h1' ?_
    intros
    repeat refine pw_seq ?_
    refine pw_ct rfl ?_
    repeat refine pw_seq ?_
    refine pwN [] (jn2 wi wj) ?_
    intros
    repeat refine pw_seq ?_
    exact pw_ret (ret_pure hd (by simp; rfl) (by simp [oneOf, rw0, pc0, h1]))
  · have h1' : ¬ (m.a : Int) = m.b := by omega
    rw [if_neg h1]
    repeat refine pw_seq ?_
    refine pwN [] h1' ?_
    intros
    repeat refine pw_seq ?_
    refine pw_cf rfl ?_
    refine pw_skip ?_
    repeat refine pw_seq ?_
    refine pwY (some [nx, nx + 3, nx + 4]) (Row.pures [0, 1, 2, 3, 4, 5, 6, 7, 8, 9, 10, 11, 12, 13, 14, 15, 16, 17, 18, 19, 20, 21] (.alt 22 (.alt 23 (.done) .stop) .stop)) mixed (jn2 wi wj) ?_
    intros
    repeat refine pw_seq ?_
    exact pw_ret (ret_pure hd (by simp; rfl) (by simp [oneOf, rw0, pc0]))
open Go Go.Proofs
abbrev kindsL : List PV := [.fn (.func 149) [] [], .fn (.func 150) [] [], .fn (.func 151) [] [], .fn (.func 152) [] [], .fn (.func 153) [] [], .fn (.func 154) [] [], .fn (.func 155) [] [], .fn (.func 156) [] []]
set_option maxRecDepth 20000 in
theorem kinds_ok : Pure Tryz.prog 139 [] (.agg kindsL) := by
  refine pwe Tryz.func139 Tryz.ntmps139 Tryz.results139 fun S nx hd => ?_
  repeat refine pw_seq ?_
  refine pwn ?_
  intro v0
  repeat refine pw_seq ?_
  refine pwn ?_
  intros
  repeat refine pw_seq ?_
  exact pw_ret (ret_pure hd (by simp; rfl) rfl)
def tlen (d : Day) (t : Nat) : Nat := (d.getD t []).length
def mayM (d : Day) (m : Mv) : Bool := decide (m.k ≤ 3 ∧ m.a < d.length ∧ m.b < d.length) && mayZ m (tlen d m.a) (tlen d m.b)
def cutM (d : Day) (m : Mv) : Rw5 × Rw5 := cutZ m (tlen d m.a) (tlen d m.b)
def lookM (d : Day) (m : Mv) : Rw5 × Rw5 × Bool := if mayM d m = true then ((cutM d m).1, (cutM d m).2, true) else (rw0, rw0, false)
set_option maxRecDepth 20000 in
set_option maxHeartbeats 1600000 in
theorem lookMv_ok (d : Day) (m : Mv) (hdn : d.length ≤ 1048576) (hdt : ∀ t ∈ d, t.length ≤ 1048576) (hk : m.k ≤ 3) (ha : m.a < d.length) (hb : m.b < d.length) (hi : m.i ≤ 1048576) (hj : m.j ≤ 1048576) : Pure Tryz.prog 120 [.agg [L d], .agg (mvL m)]
    (.tup [.agg (rwL (lookM d m).1), .agg (rwL (lookM d m).2.1), B (lookM d m).2.2]) := by
  obtain ⟨ta, xa, a1, -, -, a0⟩ := el1 rfl d m.a ha
  obtain ⟨tb, xb, b1, -, -, b0⟩ := el1 rfl d m.b hb
  have ha1 : 1 ≤ d.length - m.a := by omega
  have hb1 : 1 ≤ d.length - m.b := by omega
  have la : tlen d m.a = ta.length := by unfold tlen; rw [List.getD_eq_getElem?_getD, a1]; rfl
  have lb : tlen d m.b = tb.length := by unfold tlen; rw [List.getD_eq_getElem?_getD, b1]; rfl
  have hbl := hdt tb (List.mem_of_getElem? b1)
  have hmay : mayM d m = mayZ m ta.length tb.length := by unfold mayM; rw [la, lb, decide_eq_true ⟨hk, ha, hb⟩]; rfl
  have hcut : cutM d m = cutZ m ta.length tb.length := by unfold cutM; rw [la, lb]
  unfold lookM
  rw [hmay, hcut]
  clear hmay hcut la lb
  have call : ∀ f g : Nat, m.k = m.k → True := fun _ _ _ => trivial
  clear call
  have g1 : ¬ (m.k : Int) < 0 := by omega
  have g2 : ¬ (3 : Int) < m.k := by omega
  have g3 : ¬ (m.a : Int) < 0 := by omega
  have g4 : ¬ d.length ≤ m.a := by omega
  have g5 : ¬ (m.b : Int) < 0 := by omega
  have g6 : ¬ d.length ≤ m.b := by omega
  refine pwe Tryz.func120 Tryz.ntmps120 Tryz.results120 fun S nx hd => ?_
  repeat refine pw_seq ?_
  refine pwn ?_
  intro v0 v1 v2 v3
  repeat refine pw_seq ?_
  refine pwn ?_
  intros
  repeat refine pw_seq ?_
  refine pwN [(3, 18), (8, 23), (13, 28), (19, 34), (24, 39)] (jn6 g1 g2 g3 g4 g5 g6) ?_
  intros
  repeat refine pw_seq ?_
  refine pw_cf rfl ?_
  refine pw_skip ?_
  repeat refine pw_seq ?_
  refine pwY (some [nx, nx + 1]) (Row.pures [0, 1, 2, 3, 4, 5, 6, 7, 8, 9, 10, 11, 12, 13, 14, 15, 16, 17] (.alt 18 (.alt 19 (.done) .stop) .stop)) mixed (jn6 a0 b0 ha hb ha1 hb1) ?_
  intro v4
  obtain ⟨mf, cf, hmf, hcf, hidx⟩ : ∃ mf cf : Nat, Pure Tryz.prog mf [.agg (vwL m ta.length tb.length)] (B (mayZ m ta.length tb.length)) ∧ Pure Tryz.prog cf [.agg (vwL m ta.length tb.length)] (.tup [.agg (rwL (cutZ m ta.length tb.length).1), .agg (rwL (cutZ m ta.length tb.length).2)]) ∧
      ∃ k : Nat, (k : Int) = m.k ∧ k < 4 ∧ (kindsL.drop (k * 2)).take 2 = [.fn (.func mf) [] [], .fn (.func cf) [] []] := by
    have h4 : m.k = 0 ∨ m.k = 1 ∨ m.k = 2 ∨ m.k = 3 := by omega
    rcases h4 with h | h | h | h
    · exact ⟨_, _, mayTurn_ok m _ _ h, turn_ok m _ _ h hi hj, 0, by omega, by omega, rfl⟩
    · exact ⟨_, _, mayShift_ok m _ _ h hbl, shift_ok m _ _ h hi hj, 1, by omega, by omega, rfl⟩
    · exact ⟨_, _, maySwap_ok m _ _ h, swap_ok m _ _ h hi hj, 2, by omega, by omega, rfl⟩
    · exact ⟨_, _, mayCross_ok m _ _ (by omega), cross_ok m _ _ (by omega), 3, by omega, by omega, rfl⟩
  obtain ⟨k, hkk, hk4, hkt⟩ := hidx
  obtain rfl : k = m.k := by omega
  have hk4' : (m.k : Int) < 4 := by omega
  have hk5 : 2 ≤ 8 - m.k * 2 := by omega
  generalize hmz : mayZ m ta.length tb.length = mz at *
  generalize hcz : cutZ m ta.length tb.length = cz at *
  obtain ⟨r1, r2⟩ := cz
  generalize hkl : kindsL = kl at hkt
  have hkinds := kinds_ok
  rw [hkl] at hkinds
  have hkll : kl.length = 8 := by rw [← hkl]; rfl
  clear hkl
  repeat refine pw_seq ?_
  refine pwY (some [nx + 1]) (Row.pures [0, 1, 2, 3] (.alt 4 (.alt 5 (.done) .stop) .stop)) mixed (jn5 hkt hk4 hk4' hkll hk5) ?_
  refine pwP (hkinds) (jn5 hkt hk4 hk4' hkll hk5) ?_
  intro v5
  intros
  repeat refine pw_seq ?_
  refine pwn ?_
  refine pwc hmf ?_
  intros
  cases mz with
  | false =>
    repeat refine pw_seq ?_
    refine pw_ct rfl ?_
    repeat refine pw_seq ?_
    refine pwn ?_
    intros
    repeat refine pw_seq ?_
    exact pw_ret (ret_pure hd (by simp; rfl) (by simp [oneOf, rw0, pc0]))
  | true =>
    repeat refine pw_seq ?_
    refine pw_cf rfl ?_
    refine pw_skip ?_
    repeat refine pw_seq ?_
    refine pwn ?_
    refine pwc hcf ?_
    intro v6 v7
    intros
    repeat refine pw_seq ?_
    refine pwY (some [nx + 6, nx + 7]) (Row.pures [0, 1] (.alt 2 (.alt 3 (Row.pures [4] .done) .stop) .stop)) mixed trivial ?_
    intros
    repeat refine pw_seq ?_
    exact pw_ret (ret_pure hd (by simp; rfl) (by simp [oneOf]))
open Go Go.Proofs
theorem splice_stop (l : List Stop) (k : Nat) (s : Stop) (h : k < l.length) : splice (l.flatMap Enc.enc) (k * 2) [I s.c, I s.q] = (l.set k s).flatMap Enc.enc := by
  unfold splice
  rw [List.set_eq_take_append_cons_drop, if_pos h, List.flatMap_append, List.flatMap_cons, ← flat_take Enc.enc 2 (fun _ => rfl) l k, ← flat_drop Enc.enc 2 (fun _ => rfl) l (k + 1)]
  simp [show k * 2 + 2 = (k + 1) * 2 by omega]
def revK (l : List Stop) (k : Nat) : List Stop := (List.range l.length).map fun q => if q < k ∨ l.length - 1 - q < k then l.getD (l.length - 1 - q) default else l.getD q default
theorem revK_len (l : List Stop) (k : Nat) : (revK l k).length = l.length := by simp [revK]
theorem revK_at {l : List Stop} {k q : Nat} (hq : q < l.length) : (revK l k)[q]? = some (if q < k ∨ l.length - 1 - q < k then l.getD (l.length - 1 - q) default else l.getD q default) := by
  unfold revK; rw [List.getElem?_map, List.getElem?_range hq]; rfl
theorem revK_zero (l : List Stop) : revK l 0 = l := by
  apply List.ext_getElem?
  intro q
  by_cases h : q < l.length
  · rw [revK_at h, if_neg (by omega), List.getD_eq_getElem?_getD, List.getElem?_eq_getElem h]; rfl
  · rw [List.getElem?_eq_none (by rw [revK_len]; omega), List.getElem?_eq_none (by omega)]
theorem revK_all {l : List Stop} {k : Nat} (hk : l.length - 1 ≤ k + k) : revK l k = l.reverse := by
  apply List.ext_getElem?
  intro q
  by_cases h : q < l.length
  · rw [revK_at h, List.getElem?_reverse h]
    by_cases h1 : q < k ∨ l.length - 1 - q < k
    · rw [if_pos h1, List.getD_eq_getElem?_getD, List.getElem?_eq_getElem (by omega)]; rfl
    · rw [if_neg h1, List.getD_eq_getElem?_getD]
      have : q = l.length - 1 - q := by omega
      rw [← this, List.getElem?_eq_getElem h]; rfl
  · rw [List.getElem?_eq_none (by rw [revK_len]; omega), List.getElem?_eq_none (by simp; omega)]
theorem revK_step {l : List Stop} {k : Nat} (h : k < l.length - 1 - k) {a b : Stop} (ha : (revK l k)[k]? = some a) (hb : (revK l k)[l.length - 1 - k]? = some b) : ((revK l k).set k b).set (l.length - 1 - k) a = revK l (k + 1) := by
  rw [revK_at (by omega), if_neg (by omega)] at ha
  rw [revK_at (by omega), if_neg (by omega)] at hb
  cases ha; cases hb
  apply List.ext_getElem?
  intro q
  by_cases hq : q < l.length
  · rw [revK_at hq, List.getElem?_set, List.getElem?_set]
    by_cases e1 : l.length - 1 - k = q
    · rw [if_pos e1, if_pos (by rw [List.length_set, revK_len]; omega), if_pos (by omega)]
      congr 2; omega
    · rw [if_neg e1]
      by_cases e2 : k = q
      · subst e2
        rw [if_pos rfl, if_pos (by rw [revK_len]; exact hq), if_pos (by omega)]
      · rw [if_neg e2, revK_at hq]
        by_cases h1 : q < k ∨ l.length - 1 - q < k
        · rw [if_pos h1, if_pos (by omega)]
        · rw [if_neg h1, if_neg (by omega)]
  · rw [List.getElem?_eq_none (by rw [List.length_set, List.length_set, revK_len]; omega), List.getElem?_eq_none (by rw [revK_len]; omega)]
theorem set_set2 (S : Store) (i : Nat) (a b : Ob) : (S.set i a).set i b = S.set i b := by
  funext o
  by_cases h : o = i
  · subst h; rw [Store.set_same, Store.set_same]
  · rw [Store.set_other _ _ _ _ h, Store.set_other _ _ _ _ h, Store.set_other _ _ _ _ h]
set_option maxRecDepth 20000 in
set_option maxHeartbeats 1600000 in
theorem revS_ok {S : Store} {id ver : Nat} (pre l : List Stop) (hn : (pre ++ l).length ≤ 1048576) (hid : S id = .cells ver 43 ((pre ++ l).flatMap Enc.enc)) :
    Spec Tryz.prog 132 [.sl id ver 2 (pre.length * 2) l.length] S (fun _ S' => S' = S.set id (.cells ver 43 ((pre ++ l.reverse).flatMap Enc.enc))) := by
  refine pwes Tryz.func132 Tryz.ntmps132 Tryz.results132 fun nx hd => ?_
  have hlt : id < nx := lt_of_live hd hid (by simp)
  simp only [List.length_append] at hn
  have w0 : IntKind.i64.wrap ((l.length : Int) - 1) = (l.length : Int) - 1 := wr _ (by omega) (by omega)
  repeat refine pw_seq ?_
  refine pwN [] w0 ?_
  intros
  repeat refine pw_seq ?_
  refine pw_block (pw_loopB (σ := Nat) (fun k => k ≤ l.length) (fun k => [(0, .sl id ver 2 (pre.length * 2) l.length), (2, I k), (3, I ((l.length : Int) - 1 - k))]) (fun k => S.set id (.cells ver 43 ((pre ++ revK l k).flatMap Enc.enc))) (fun _ => []) (fun k => l.length - k) (at_mk 0 [] (by simp) (by simp) (by rw [revK_zero]; exact set_self S id _ hid) (by simp)) ?_)
  rintro k hk
  show PW _ _ _ _ _ _ _ (ext (S.set id (.cells ver 43 ((pre ++ revK l k).flatMap Enc.enc))) nx [])
  obtain ⟨T, hT⟩ : ∃ T, T = S.set id (.cells ver 43 ((pre ++ revK l k).flatMap Enc.enc)) := ⟨_, rfl⟩
  rw [← hT]
  repeat refine pw_seq ?_
  refine pwn ?_
  intros
  repeat refine pw_seq ?_
  refine pw_cond rfl (fun hc => ?_) (fun hc => ?_)
  · simp at hc
    have h1 : k < l.length - 1 - k := by omega
    have x1 := revK_len l k
    obtain ⟨a, ta, a1, -, -, -, a0⟩ := el 2 rfl (pre ++ revK l k) (pre.length + k) (by simp [revK_len]; omega)
    obtain ⟨b, tb, b1, -, -, -, b0⟩ := el 2 rfl (pre ++ revK l k) (pre.length + (l.length - 1 - k)) (by simp [revK_len]; omega)
    have hst := revK_step h1 (a := a) (b := b) (by rw [← a1, List.getElem?_append_right (by omega), Nat.add_sub_cancel_left]) (by rw [← b1, List.getElem?_append_right (by omega), Nat.add_sub_cancel_left])
    have sp1 := splice_stop (pre ++ revK l k) (pre.length + k) b (by simp [revK_len]; omega)
    have sp2 := splice_stop ((pre ++ revK l k).set (pre.length + k) b) (pre.length + (l.length - 1 - k)) a (by simp [revK_len]; omega)
    have hs2 : ((pre ++ revK l k).set (pre.length + k) b).set (pre.length + (l.length - 1 - k)) a = pre ++ revK l (k + 1) := by
      rw [List.set_append_right _ _ (by omega), List.set_append_right _ _ (by omega), Nat.add_sub_cancel_left, Nat.add_sub_cancel_left, hst]
    rw [hs2] at sp2
    have hjj : (l.length : Int) - 1 - k = ((l.length - 1 - k : Nat) : Int) := by omega
    generalize l.length - 1 - k = j at *
    generalize hw0 : ((pre ++ revK l k).flatMap Enc.enc : List PV) = c0 at *
    generalize hw1 : (((pre ++ revK l k).set (pre.length + k) b).flatMap Enc.enc : List PV) = c1 at *
    have l0 : c0.length = (pre.length + l.length) * 2 := by rw [← hw0, flen_stop]; simp [revK_len]
    have l1 : c1.length = (pre.length + l.length) * 2 := by rw [← hw1, flen_stop]; simp [revK_len]
    have hTid : T id = .cells ver 43 c0 := by rw [hT]; exact Store.set_same _ _ _
    have xid := fun obs => ext_old (S := T) (obs := obs) hlt
    have xid1 := fun obs => ext_old (S := T.set id (.cells ver 43 c1)) (obs := obs) hlt
    have hs1 : (T.set id (.cells ver 43 c1)) id = .cells ver 43 c1 := Store.set_same _ _ _
    have hq1 : k + 1 ≤ l.length := by omega
    have q1 : pre.length * 2 + k * 2 = (pre.length + k) * 2 := by omega
    have q2 : pre.length * 2 + j * 2 = (pre.length + j) * 2 := by omega
    have q3 : j < l.length := by omega
    have q4 : k < l.length := by omega
    have q5 : ¬ nx ≤ id := by omega
    refine pw_skip (pw_seq (pw_block ?_))
    rw [hjj]
    repeat refine pw_seq ?_
    refine pwY (some []) (Row.pures [0, 1, 2, 3, 4, 5, 6, 8, 9, 10] (.alt 7 (.alt 11 (Row.pures [12] (.alt 13 (Row.pures [14] (.alt 15 (.done) .stop)) .stop)) .stop) (.alt 11 (.alt 7 (Row.pures [12] (.alt 13 (Row.pures [14] (.alt 15 (.done) .stop)) .stop)) .stop) .stop))) mixed (jn6 xid hTid q1 q2 a0 (jn2 (jn6 b0 q3 q4 q5 l0 sp1) (jn4 hs1 xid1 sp2 l1))) ?_
    have wj : IntKind.i64.wrap ((j : Int) - 1) = (l.length : Int) - 1 - ((k + 1 : Nat) : Int) := by rw [wr _ (by omega) (by omega)]; omega
    have wk := wrN k (by omega)
    have hfin : S.set id (.cells ver 43 ((pre ++ revK l (k + 1)).flatMap Enc.enc)) = (T.set id (.cells ver 43 c1)).set id (.cells ver 43 ((pre ++ revK l (k + 1)).flatMap Enc.enc)) := by rw [hT, set_set2, set_set2]
    have happ : ((pre ++ revK l (k + 1)).flatMap Enc.enc : List PV) = pre.flatMap Enc.enc ++ (revK l (k + 1)).flatMap Enc.enc := by rw [List.flatMap_append]
    rw [happ] at hfin
    refine ⟨?_, ?_⟩
    · refine ⟨by omega, by omega, ?_⟩
      intros
      repeat refine pw_seq ?_
      refine pwN [] (jn2 wk wj) ?_
      intros
      exact again_mk (k + 1) [] hq1 (by omega) (by simp) (by rw [happ, hT]; simp only [set_set2]) (by simp)
    · refine ⟨by omega, by omega, ?_⟩
      intros
      repeat refine pw_seq ?_
      refine pwN [] (jn2 wk wj) ?_
      intros
      exact again_mk (k + 1) [] hq1 (by omega) (by simp) (by rw [happ, hT]; simp only [set_set2]) (by simp)
  · simp at hc
    refine pw_exit ?_
    refine ⟨[], T, rfl, ?_, ext_kill0 ?_⟩
    · rw [hT, revK_all (by omega)]
    · rw [hT]
      intro i hi
      rw [Store.set_other _ _ _ _ (by omega)]; exact hd i hi
open Go Go.Proofs
def pieceZ (d : Day) (p : Pc) : List Stop := if p.f < p.o then (bif p.b then (((d.getD p.t []).drop p.f).take (p.o - p.f)).reverse else ((d.getD p.t []).drop p.f).take (p.o - p.f)) else []
def gatherZ (d : Day) (r : Rw5) : List Stop := r.l.flatMap (pieceZ d)
def PcOk (d : Day) (p : Pc) : Prop := p.f < p.o → p.t < d.length ∧ p.o ≤ tlen d p.t
def RwOk (d : Day) (r : Rw5) : Prop := ∀ p ∈ r.l, PcOk d p
theorem rw0_ok (d : Day) : RwOk d rw0 := by
  intro p hp h
  simp [Rw5.l, rw0] at hp
  subst hp
  exact absurd h (by decide)
theorem rw_at (r : Rw5) {k : Nat} (h : k < 5) : ∃ p, r.l[k]? = some p ∧ ((rwL r).drop (k * 4)).take 4 = pcL p ∧ r.l.take (k + 1) = r.l.take k ++ [p] := by
  have h5 : k = 0 ∨ k = 1 ∨ k = 2 ∨ k = 3 ∨ k = 4 := by omega
  rcases h5 with rfl | rfl | rfl | rfl | rfl <;> exact ⟨_, rfl, rfl, rfl⟩
theorem piece_len {d : Day} {p : Pc} {m : Nat} (h : ∀ t ∈ d, t.length ≤ m) : (pieceZ d p).length ≤ m := by
  have hg : (d.getD p.t []).length ≤ m := by
    rw [List.getD_eq_getElem?_getD]
    cases hq : d[p.t]? with
    | none => simp
    | some l => exact h l (List.mem_of_getElem? hq)
  unfold pieceZ
  generalize d.getD p.t [] = l at *
  split
  · cases p.b <;> simp <;> omega
  · simp
set_option maxRecDepth 20000 in
set_option maxHeartbeats 1600000 in
theorem gather_ok (d : Day) (r : Rw5) (hdn : d.length ≤ 1048576) (hdt : ∀ t ∈ d, t.length ≤ 1000) (hr : RwOk d r) : Pure Tryz.prog 123 [.agg [L d], .agg (rwL r)] (L (gatherZ d r)) := by
  have hat := fun k (h : k < 5) => rw_at r h
  have hz : gatherZ d r = (r.l.take 5).flatMap (pieceZ d) := by unfold gatherZ; rw [List.take_of_length_le (by simp [Rw5.l])]
  rw [hz]
  clear hz
  have hcl : (rwL r).length = 20 := rfl
  have hct : (rwL r).take 20 = rwL r := rfl
  have hpl := fun p => piece_len (d := d) (p := p) hdt
  have hgl : ∀ k, ((r.l.take k).flatMap (pieceZ d)).length ≤ 1000 * k := by
    intro k
    induction k with
    | zero => simp
    | succ k ih =>
      by_cases hk : k < 5
      · obtain ⟨p, -, -, e⟩ := hat k hk
        rw [e, List.flatMap_append, List.length_append]
        have := hpl p
        simp only [List.flatMap_cons, List.flatMap_nil, List.append_nil]; omega
      · rw [List.take_of_length_le (by simp [Rw5.l]; omega)] at ih ⊢; omega
  have hrl : r.l.length = 5 := rfl
  generalize hrc : rwL r = rc at *
  refine pwe Tryz.func123 Tryz.ntmps123 Tryz.results123 fun S nx hd => ?_
  repeat refine pw_seq ?_
  refine pwn ?_
  intro v0 v1
  repeat refine pw_seq ?_
  refine pwn ?_
  intros
  refine pw_seq (pw_nilX 5 43 2 rfl fun v2 => ?_)
  repeat refine pw_seq ?_
  refine pwN [] (jn2 hcl hct) ?_
  intros
  repeat refine pw_seq ?_
  refine pw_block (pw_loopL (fun s' : Nat × Nat => s'.1 ≤ 5) (fun (k, v2) => [(2, .ptr nx v0 0), (3, .ptr (nx + 1) v1 0), (5, .sl (nx + 2) v2 2 0 ((r.l.take k).flatMap (pieceZ d)).length), (9, .agg rc), (10, I k)]) (fun (k, v2) => [.cells v0 35 [L d], .cells v1 168 rc, .cells v2 43 (((r.l.take k).flatMap (pieceZ d)).flatMap Enc.enc)]) (fun s' => 5 - s'.1) (0, v2) [] (by simp) (by simp) (by simp) ?_)
  rintro ⟨k, v2⟩ hk
  simp only at hk ⊢
  by_cases hk5 : k < 5
  · obtain ⟨p, hp1, hp2, hp3⟩ := hat k hk5
    have hk5' : (k : Int) < 5 := by omega
    have hk6 : 4 ≤ 20 - k * 4 := by omega
    have hok := hr p (List.mem_of_getElem? hp1)
    have hol := hgl k
    have hnx : (r.l.take (k + 1)).flatMap (pieceZ d) = (r.l.take k).flatMap (pieceZ d) ++ pieceZ d p := by rw [hp3, List.flatMap_append]; simp
    have hol2 := hpl p
    generalize (r.l.take k).flatMap (pieceZ d) = out at *
    have wk := wrN k (by omega)
    repeat refine pw_seq ?_
    refine pwN [] hk5' ?_
    intros
    repeat refine pw_seq ?_
    refine pw_ct rfl ?_
    refine pw_skip (pw_seq (pw_block ?_))
    repeat refine pw_seq ?_
    refine pwN [] (jn5 hp2 hk5 hk5' hcl hk6) ?_
    intro v3
    by_cases hfo : p.f < p.o
    case neg =>
      have hpz : pieceZ d p = [] := by unfold pieceZ; rw [if_neg hfo]
      have hfo' : p.o ≤ p.f := by omega
      repeat refine pw_seq ?_
      refine pwN [] hfo' ?_
      intros
      repeat refine pw_seq ?_
      refine pw_ct (by simp [hfo']) ?_
      refine pw_exit ?_
      repeat refine pw_seq ?_
      refine pwn ?_
      intros
      exact again_mk (k + 1, v2) [_] (by simp; omega) (by simp; omega) (by simp [wk, hnx, hpz]) rfl (by simp [hnx, hpz]; rfl)
    obtain ⟨ht, ho⟩ := hok hfo
    obtain ⟨t, tt, t1, -, -, t0⟩ := el1 rfl d p.t ht
    have ht1 : 1 ≤ d.length - p.t := by omega
    have htg : d.getD p.t [] = t := by rw [List.getD_eq_getElem?_getD, t1]; rfl
    unfold tlen at ho
    rw [htg] at ho
    have hpz : pieceZ d p = bif p.b then ((t.drop p.f).take (p.o - p.f)).reverse else (t.drop p.f).take (p.o - p.f) := by unfold pieceZ; rw [if_pos hfo, htg]
    have hfo' : ¬ p.o ≤ p.f := by omega
    have hsl : ((t.flatMap Enc.enc : List PV).drop (p.f * 2)).take ((p.o - p.f) * 2) = ((t.drop p.f).take (p.o - p.f)).flatMap Enc.enc := by rw [flat_drop Enc.enc 2 (fun _ => rfl) t p.f, flat_take Enc.enc 2 (fun _ => rfl) (t.drop p.f) (p.o - p.f)]
    have hsl2 : ((t.drop p.f).take (p.o - p.f)).length = p.o - p.f := by simp; omega
    have hsl3 : (((t.drop p.f).take (p.o - p.f)).flatMap Enc.enc : List PV).length = (p.o - p.f) * 2 := by rw [flen_stop, hsl2]
    generalize (t.drop p.f).take (p.o - p.f) = sg at *
    have hof : (out.flatMap Enc.enc : List PV).length = out.length * 2 := flen_stop out
    have hot : (out.flatMap Enc.enc : List PV).take (out.length * 2) = out.flatMap Enc.enc := List.take_of_length_le (by omega)
    have q1 : p.f ≤ p.o := by omega
    have htl := hdt t (List.mem_of_getElem? t1)
    repeat refine pw_seq ?_
    refine pwN [] hfo' ?_
    intros
    repeat refine pw_seq ?_
    refine pw_cf (by simp [hfo']) ?_
    refine pw_skip ?_
    repeat refine pw_seq ?_
    refine pwn ?_
    intros
    repeat refine pw_seq ?_
    refine pwY (some [nx, nx + 3]) (Row.pures [0, 1, 2, 3, 4, 5, 6, 7, 8, 9, 10, 11, 12] (.alt 13 (Row.pures [14] .done) .stop)) mixed (jn6 t0 ht ht1 hof hot (jn4 hsl hsl2 q1 ho)) ?_
    refine ⟨by omega, ?_⟩
    intros
    have hsgl : sg.length ≤ 1000 := by
      have h1 := hdt t (List.mem_of_getElem? t1)
      omega
    cases hpb : p.b with
    | false =>
      rw [hpb] at hpz
      simp only [cond_false] at hpz
      repeat refine pw_seq ?_
      refine pwN [] hpb ?_
      intros
      repeat refine pw_seq ?_
      refine pw_cf rfl ?_
      refine pw_skip ?_
      repeat refine pw_seq ?_
      refine pwn ?_
      intros
      exact again_mk (k + 1, v2 + 1) [_] (by simp; omega) (by simp; omega) (by simp [wk, hnx, hpz, hsl2]) rfl (by simp [hnx, hpz]; rfl)
    | true =>
      rw [hpb] at hpz
      simp only [cond_true] at hpz
      have hrev := fun (S : Store) (id ver : Nat) h => revS_ok (S := S) (id := id) (ver := ver) out sg (by simp; omega) h
      rw [hsl2] at hrev
      repeat refine pw_seq ?_
      refine pwN [] hpb ?_
      intros
      repeat refine pw_seq ?_
      refine pw_ct rfl ?_
      repeat refine pw_seq ?_
      refine pw_N [] (by rfl) (by rfl) fun K Gc Gh hK hGc hGh X hX0 hX => ?_
      simp -implicitDefEqProofs [hX0, hX]
      try clear hX0 hX X
      refine hGc _ _ _ _ _ _ _ fun hsuf => ((hrev _ _ _ (by rw [ext_at, List.flatMap_append]; rfl)).mono ?_).v
      rintro _ _ rfl
      refine ⟨_, _, ext_set _ (by omega) (by simp), ?_⟩
      clear hGc hGh
      clear Gc Gh
      refine xs_go hsuf (D := []) (by rfl) fun Gc Gh hGc hGh X hX0 hX => ?_
      simp -implicitDefEqProofs [hX0, hX, (show nx + 2 - nx = 2 by omega)]
      clear hX0 hX X
      intros
      refine hK _ _ _ ?_
      clear hK hGc hGh
      clear K Gc Gh
      repeat refine pw_seq ?_
      refine pwn ?_
      intros
      exact again_mk (k + 1, v2 + 1) [_] (by simp; omega) (by simp; omega) (by simp [wk, hnx, hpz, hsl2]) rfl (by simp [hnx, hpz]; rfl)
  · obtain rfl : k = 5 := by omega
    generalize (r.l.take 5).flatMap (pieceZ d) = out at *
    repeat refine pw_seq ?_
    refine pwn ?_
    intros
    repeat refine pw_seq ?_
    refine pw_cf rfl ?_
    refine pw_exit ?_
    refine pw_frz 2 rfl ?_
    repeat refine pw_seq ?_
    refine pwn ?_
    intros
    repeat refine pw_seq ?_
    exact pw_ret (ret_pure hd (by simp; rfl) (by simp [oneOf]))
open Go Hp
theorem nodup_idx {α : Type} {d : List α} (hn : d.Nodup) {i j : Nat} {t : α} (hi : d[i]? = some t) (hj : d[j]? = some t) : i = j := by
  obtain ⟨g1, g2⟩ := List.getElem?_eq_some_iff.1 hi
  obtain ⟨g3, g4⟩ := List.getElem?_eq_some_iff.1 hj
  have hp := List.pairwise_iff_getElem.1 hn
  rcases Nat.lt_trichotomy i j with h | h | h
  · exact absurd (g2.trans g4.symm) (hp i j g1 g3 h)
  · exact h
  · exact absurd (g4.trans g2.symm) (hp j i g3 g1 h)
def lastI (f : Tour → Bool) : Day → Int
  | [] => -1
  | t :: d => if 0 ≤ lastI f d then lastI f d + 1 else if f t then 0 else -1
theorem lastI_snoc (f : Tour → Bool) (t : Tour) : ∀ d : Day, lastI f (d ++ [t]) = if f t then (d.length : Int) else lastI f d
  | [] => by simp [lastI]
  | u :: d => by
    rw [List.cons_append]
    unfold lastI
    rw [lastI_snoc f t d]
    by_cases h : f t = true
    · simp only [h, if_true]; rw [if_pos (by omega)]; simp
    · simp only [h, if_false, Bool.false_eq_true]
theorem lastI_spec (f : Tour → Bool) : ∀ d : Day, (lastI f d = -1 ∧ ∀ t ∈ d, f t = false) ∨ ∃ (k : Nat) (t : Tour), d[k]? = some t ∧ f t = true ∧ lastI f d = k
  | [] => .inl ⟨rfl, fun t h => by cases h⟩
  | u :: d => by
    unfold lastI
    rcases lastI_spec f d with ⟨h1, h2⟩ | ⟨k, t, h1, h2, h3⟩
    · rw [h1, if_neg (by omega)]
      cases hu : f u with
      | true => exact .inr ⟨0, u, rfl, hu, by simp⟩
      | false =>
        refine .inl ⟨by simp, fun t ht => ?_⟩
        rcases List.mem_cons.1 ht with rfl | ht
        · exact hu
        · exact h2 t ht
    · rw [h3, if_pos (by omega)]
      exact .inr ⟨k + 1, t, by simpa using h1, h2, by simp⟩
def nextD (d : Day) (a b : Nat) (t : Tour) (k : Nat) : Day := (List.range k).flatMap fun j => if j = a then [t] else if j = b then [] else [d.getD j []]
theorem nextD_succ (d : Day) (a b : Nat) (t : Tour) (k : Nat) : nextD d a b t (k + 1) = nextD d a b t k ++ (if k = a then [t] else if k = b then [] else [d.getD k []]) := by
  unfold nextD; rw [List.range_succ, List.flatMap_append]; simp
theorem nextD_le (d : Day) (a b : Nat) (t : Tour) : ∀ k, (nextD d a b t k).length ≤ k
  | 0 => by simp [nextD]
  | k + 1 => by
    have := nextD_le d a b t k
    rw [nextD_succ, List.length_append]
    split
    · simp; omega
    · split <;> simp <;> omega
def endF (c : Int) (t : Tour) : Bool := decide (endC t = some c)
def headF (c : Int) (t : Tour) : Bool := decide (headC t = some c)
def joinRS (x : Inst) (d : Day) (p : Pr) : Day :=
  if lastI (endF p.a) d < 0 ∨ lastI (headF p.b) d < 0 ∨ lastI (endF p.a) d = lastI (headF p.b) d ∨ (p.s ≤ 0 ∧ (d.length : Int) ≤ x.veh) then d
  else if mayT x (d.getD (lastI (endF p.a) d).toNat [] ++ d.getD (lastI (headF p.b) d).toNat []) = 0 then
    nextD d (lastI (endF p.a) d).toNat (lastI (headF p.b) d).toNat (d.getD (lastI (endF p.a) d).toNat [] ++ d.getD (lastI (headF p.b) d).toNat []) d.length
  else d
theorem fm_pair {α β γ : Type} {f : α → List γ} {g : β → List γ} : ∀ (A : List α) (B : List β), A.length = B.length → (∀ (j : Nat) a b, A[j]? = some a → B[j]? = some b → f a = g b) → A.flatMap f = B.flatMap g
  | [], [], _, _ => rfl
  | a :: A, b :: B, hl, h => by
    rw [List.flatMap_cons, List.flatMap_cons, h 0 a b rfl rfl, fm_pair A B (by simpa using hl) fun j a b ha hb => h (j + 1) a b (by simpa using ha) (by simpa using hb)]
  | [], _ :: _, hl, _ => by simp at hl
  | _ :: _, [], hl, _ => by simp at hl
theorem filter_fm {α : Type} (p : α → Bool) : ∀ l : List α, l.filter p = l.flatMap fun a => if p a then [a] else []
  | [] => rfl
  | a :: l => by
    rw [List.flatMap_cons, ← filter_fm p l, List.filter_cons]
    cases p a <;> simp
structure Apt (T : Day) : Prop where
  u : ∀ (i j : Nat) t s s', T[i]? = some t → s ∈ t → ∀ t', T[j]? = some t' → s' ∈ t' → s.c = s'.c → i = j
theorem JI.apt {ss : List Stop} {T : Day} {g : Int → Option Int} (h : JI ss T g) : Apt T := ⟨fun i j t s s' hi hs t' hj hs' e => by
  have e1 := h.g i t s hi hs
  have e2 := h.g j t' s' hj hs'
  rw [e, e2] at e1
  have := Option.some.inj e1
  omega⟩
abbrev ne (t : Tour) : Bool := !t.isEmpty
theorem ne_mem {t : Tour} (h : ne t = true) : ∃ s, s ∈ t := by
  cases t with
  | nil => cases h
  | cons s t => exact ⟨s, by simp⟩
theorem ne_of {t : Tour} {s : Stop} (h : s ∈ t) : ne t = true := by
  cases t with
  | nil => cases h
  | cons s t => rfl
def joinF (ta tb u : Tour) : Day := if u = ta then [ta ++ tb] else if u = tb then [] else [u]
theorem join_filter {T : Day} (hA : Apt T) {i k : Nat} {ta tb : Tour} (hi : T[i]? = some ta) (hk : T[k]? = some tb) (hik : i ≠ k) (ha : ne ta = true) (hb : ne tb = true) :
    ((T.set i (ta ++ tb)).set k []).filter ne = (T.filter ne).flatMap (joinF ta tb) := by
  rw [filter_fm ne T, List.flatMap_assoc, filter_fm]
  refine fm_pair _ _ (by simp) fun j u v hu hv => ?_
  obtain ⟨sa, hsa⟩ := ne_mem ha
  obtain ⟨sb, hsb⟩ := ne_mem hb
  have hjl := (List.getElem?_eq_some_iff.1 hv).1
  by_cases h1 : k = j
  · subst h1
    rw [List.getElem?_set_self (by simpa using hjl)] at hu
    cases hu
    obtain rfl : tb = v := by rw [hk] at hv; exact Option.some.inj hv
    have hne : tb ≠ ta := by
      rintro rfl
      exact hik (hA.u i k tb sb sb hi hsb tb hk hsb rfl)
    rw [if_pos hb]
    simp [joinF, hne]
  · rw [List.getElem?_set_ne h1] at hu
    by_cases h2 : i = j
    · subst h2
      rw [List.getElem?_set_self hjl] at hu
      cases hu
      obtain rfl : ta = v := by rw [hi] at hv; exact Option.some.inj hv
      rw [if_pos ha, if_pos (ne_of (s := sa) (by simp [hsa]))]
      simp [joinF]
    · rw [List.getElem?_set_ne h2] at hu
      obtain rfl : u = v := by rw [hv] at hu; exact (Option.some.inj hu).symm
      cases hn : ne u with
      | false => simp
      | true =>
        obtain ⟨su, hsu⟩ := ne_mem hn
        have n1 : u ≠ ta := by rintro rfl; exact h2 (hA.u i j u su su hi hsu u hv hsu rfl)
        have n2 : u ≠ tb := by rintro rfl; exact h1 (hA.u k j u su su hk hsu u hv hsu rfl)
        simp [joinF, n1, n2]
theorem filter_nodup {T : Day} (hA : Apt T) : (T.filter ne).Nodup := by
  rw [List.nodup_iff_pairwise_ne, List.pairwise_filter, List.pairwise_iff_getElem]
  intro i j hi hj hij h1 h2 e
  obtain ⟨s, hs⟩ := ne_mem h1
  have := hA.u i j T[i] s s (List.getElem?_eq_getElem hi) hs T[j] (List.getElem?_eq_getElem hj) (e ▸ hs) rfl
  omega
theorem nextD_eq {d : Day} (hn : d.Nodup) {a b : Nat} {ta tb : Tour} (ha : d[a]? = some ta) (hb : d[b]? = some tb) : nextD d a b (ta ++ tb) d.length = d.flatMap (joinF ta tb) := by
  unfold nextD
  refine fm_pair _ _ (by simp) fun j n u hj hu => ?_
  rw [List.getElem?_range (List.getElem?_eq_some_iff.1 hu).1] at hj
  cases hj
  have same : ∀ {k : Nat} {t : Tour}, d[k]? = some t → (j = k ↔ u = t) := by
    intro k t hk
    constructor
    · rintro rfl; rw [hu] at hk; exact Option.some.inj hk
    · rintro rfl; exact nodup_idx hn hu hk
  have e1 := same ha
  have e2 := same hb
  have hg : d.getD j [] = u := by rw [List.getD_eq_getElem?_getD, hu]; rfl
  unfold joinF
  by_cases h1 : j = a
  · rw [if_pos h1, if_pos (e1.1 h1)]
  · rw [if_neg h1, if_neg fun e => h1 (e1.2 e)]
    by_cases h2 : j = b
    · rw [if_pos h2, if_pos (e2.1 h2)]
    · rw [if_neg h2, if_neg fun e => h2 (e2.2 e), hg]
theorem find_place {T : Day} (hA : Apt T) {i : Nat} {t : Tour} {s : Stop} (hi : T[i]? = some t) (hs : s ∈ t) (f : Tour → Bool) (hf : ∀ u, f u = true → ∃ s' ∈ u, s'.c = s.c) :
    (f t = false ∧ lastI f (T.filter ne) = -1) ∨ (f t = true ∧ ∃ k : Nat, (T.filter ne)[k]? = some t ∧ lastI f (T.filter ne) = k) := by
  have uniq : ∀ u ∈ T.filter ne, f u = true → u = t := by
    intro u hu hfu
    obtain ⟨s', hs', e⟩ := hf u hfu
    obtain ⟨j, hj⟩ := List.mem_iff_getElem?.1 (List.mem_filter.1 hu).1
    have := hA.u i j t s s' hi hs u hj hs' e.symm
    subst this
    rw [hi] at hj; exact (Option.some.inj hj).symm
  have ht : t ∈ T.filter ne := List.mem_filter.2 ⟨List.mem_of_getElem? hi, ne_of hs⟩
  rcases lastI_spec f (T.filter ne) with ⟨h1, h2⟩ | ⟨k, u, h1, h2, h3⟩
  · exact .inl ⟨h2 t ht, h1⟩
  · have := uniq u (List.mem_of_getElem? h1) h2
    subst this
    exact .inr ⟨h2, k, h1, h3⟩
theorem endF_mem {c : Int} {t : Tour} (h : endF c t = true) : ∃ s ∈ t, s.c = c := by
  have h : endC t = some c := of_decide_eq_true h
  unfold endC at h
  obtain ⟨s, h1, h2⟩ := Option.map_eq_some_iff.1 h
  exact ⟨s, List.mem_of_getElem? h1, h2⟩
theorem headF_mem {c : Int} {t : Tour} (h : headF c t = true) : ∃ s ∈ t, s.c = c := by
  have h : headC t = some c := of_decide_eq_true h
  unfold headC at h
  obtain ⟨s, h1, h2⟩ := Option.map_eq_some_iff.1 h
  exact ⟨s, List.mem_of_getElem? h1, h2⟩
theorem count_sum (p : Tour → Bool) : ∀ T : Day, ((T.filter p).length : Int) = (T.map fun t => if p t then (1 : Int) else 0).sum
  | [] => rfl
  | t :: T => by
    rw [List.filter_cons, List.map_cons, List.sum_cons, ← count_sum p T]
    cases p t <;> simp <;> omega
theorem join_count {T : Day} {i k : Nat} {ta tb : Tour} (hi : T[i]? = some ta) (hk : T[k]? = some tb) (hik : i ≠ k) (ha : ne ta = true) (hb : ne tb = true) :
    ((((T.set i (ta ++ tb)).set k []).filter ne).length : Int) = ((T.filter ne).length : Int) - 1 := by
  obtain ⟨sa, hsa⟩ := ne_mem ha
  rw [count_sum, count_sum, sum_set _ _ k tb [] (by rw [List.getElem?_set_ne hik]; exact hk), sum_set _ _ i ta (ta ++ tb) hi]
  have hn : ne (ta ++ tb) = true := ne_of (s := sa) (by simp [hsa])
  simp only [ha, hb, hn, if_true]
  simp
theorem joinRS_eq {x : Inst} {ss : List Stop} {st : Day × Int} {g : Int → Option Int} (h : JI ss st.1 g) (hnum : st.2 = ((st.1.filter ne).length : Int)) {p : Pr} (hpa : p.a ∈ ss.map (·.c)) (hpb : p.b ∈ ss.map (·.c)) :
    joinRS x (st.1.filter ne) p = (joinS x st p).1.filter ne ∧ (joinS x st p).2 = (((joinS x st p).1.filter ne).length : Int) ∧ ∃ g', JI ss (joinS x st p).1 g' := by
  obtain ⟨i, a, sa, hia, hsa, hsac, hga, hpi⟩ := h.there hpa
  obtain ⟨k, b, sb, hkb, hsb, hsbc, hgb, hpk⟩ := h.there hpb
  have hgi : st.1.getD i [] = a := by rw [List.getD_eq_getElem?_getD, hia]; rfl
  have hgk : st.1.getD k [] = b := by rw [List.getD_eq_getElem?_getD, hkb]; rfl
  have hdef : joinS x st p = bif joinC x st.2 p i k a b then ((st.1.set i (a ++ b)).set k [], st.2 - 1) else st := by
    unfold joinS joinAt
    simp only [hpi, hpk, hgi, hgk]
  have hA := h.apt
  have hna := ne_of hsa
  have hnb := ne_of hsb
  have hnd := filter_nodup hA
  rw [hdef]
  have stay : joinC x st.2 p i k a b = false → joinRS x (st.1.filter ne) p = st.1.filter ne → joinRS x (st.1.filter ne) p = (bif joinC x st.2 p i k a b then ((st.1.set i (a ++ b)).set k [], st.2 - 1) else st).1.filter ne ∧ (bif joinC x st.2 p i k a b then ((st.1.set i (a ++ b)).set k [], st.2 - 1) else st).2 = (((bif joinC x st.2 p i k a b then ((st.1.set i (a ++ b)).set k [], st.2 - 1) else st).1.filter ne).length : Int) ∧ ∃ g', JI ss (bif joinC x st.2 p i k a b then ((st.1.set i (a ++ b)).set k [], st.2 - 1) else st).1 g' := by
    intro e1 e2
    rw [e1]
    exact ⟨e2, hnum, g, h⟩
  rcases find_place hA hia hsa (endF p.a) (fun u hu => by rw [hsac]; exact endF_mem hu) with ⟨fa, la⟩ | ⟨fa, ka, ha1, la⟩
  · have e1 : endC a ≠ some p.a := of_decide_eq_false fa
    refine stay (by simp [joinC, e1]) ?_
    unfold joinRS; rw [if_pos (.inl (by omega))]
  rcases find_place hA hkb hsb (headF p.b) (fun u hu => by rw [hsbc]; exact headF_mem hu) with ⟨fb, lb⟩ | ⟨fb, kb, hb1, lb⟩
  · have e1 : headC b ≠ some p.b := of_decide_eq_false fb
    refine stay (by simp [joinC, e1]) ?_
    unfold joinRS; rw [if_pos (.inr (.inl (by omega)))]
  have e1 : endC a = some p.a := of_decide_eq_true fa
  have e2 : headC b = some p.b := of_decide_eq_true fb
  have hab : ka = kb ↔ i = k := by
    constructor
    · rintro rfl
      obtain rfl : a = b := by rw [ha1] at hb1; exact Option.some.inj hb1
      exact hA.u i k a sa sa hia hsa a hkb hsa rfl
    · rintro rfl
      obtain rfl : a = b := by rw [hia] at hkb; exact Option.some.inj hkb
      exact nodup_idx hnd ha1 hb1
  have ga : (st.1.filter ne).getD (ka : Int).toNat [] = a := by rw [Int.toNat_natCast, List.getD_eq_getElem?_getD, ha1]; rfl
  have gb : (st.1.filter ne).getD (kb : Int).toNat [] = b := by rw [Int.toNat_natCast, List.getD_eq_getElem?_getD, hb1]; rfl
  by_cases hik : i = k
  · refine stay (by simp [joinC, hik]) ?_
    unfold joinRS; rw [if_pos (.inr (.inr (.inl (by rw [la, lb, hab.2 hik]))))]
  by_cases hfew : p.s ≤ 0 ∧ st.2 ≤ x.veh
  · refine stay (by simp [joinC, hfew.1, hfew.2]) ?_
    unfold joinRS; rw [if_pos (.inr (.inr (.inr ⟨hfew.1, by omega⟩)))]
  have hcond : ¬ (lastI (endF p.a) (st.1.filter ne) < 0 ∨ lastI (headF p.b) (st.1.filter ne) < 0 ∨ lastI (endF p.a) (st.1.filter ne) = lastI (headF p.b) (st.1.filter ne) ∨ (p.s ≤ 0 ∧ ((st.1.filter ne).length : Int) ≤ x.veh)) := by
    rw [la, lb]
    rintro (q | q | q | q)
    · omega
    · omega
    · exact hik (hab.1 (by omega))
    · exact hfew ⟨q.1, by omega⟩
  by_cases hmay : mayT x (a ++ b) = 0
  · have hc : joinC x st.2 p i k a b = true := by
      unfold joinC
      simp only [hik, e1, e2, hmay, Bool.and_eq_true, decide_eq_true_eq, ne_eq, not_false_eq_true, Bool.not_eq_true', Bool.and_eq_false_iff, decide_eq_false_iff_not, and_true, true_and]
      by_cases q : p.s ≤ 0
      · exact .inr fun e => hfew ⟨q, e⟩
      · exact .inl q
    rw [hc]
    simp only [cond_true]
    refine ⟨?_, ?_, _, h.join hia hkb hik⟩
    · unfold joinRS
      rw [if_neg hcond, la, lb, ga, gb, if_pos hmay, join_filter hA hia hkb hik hna hnb, ← nextD_eq hnd ha1 hb1]
      rfl
    · rw [join_count hia hkb hik hna hnb, hnum]
  · refine stay (by simp [joinC, hmay]) ?_
    unfold joinRS
    rw [if_neg hcond, la, lb, ga, gb, if_neg hmay]
theorem joinR_fold {x : Inst} {ss : List Stop} : ∀ (l : List Pr) (st : Day × Int), (∃ g, JI ss st.1 g) → st.2 = ((st.1.filter ne).length : Int) → (∀ p ∈ l, p.a ∈ ss.map (·.c) ∧ p.b ∈ ss.map (·.c)) →
    l.foldl (joinRS x) (st.1.filter ne) = (l.foldl (joinS x) st).1.filter ne
  | [], _, _, _, _ => rfl
  | p :: l, st, ⟨g, h⟩, hn, hl => by
    obtain ⟨h1, h2⟩ := hl p (by simp)
    obtain ⟨e1, e2, e3⟩ := joinRS_eq (x := x) h hn h1 h2
    rw [List.foldl_cons, List.foldl_cons, e1]
    exact joinR_fold l _ e3 e2 fun q hq => hl q (by simp [hq])
theorem apart_filter (ss : List Stop) : (ss.map fun s => [s]).filter ne = apartD ss := by
  unfold apartD; rw [List.filter_eq_self]; intro t ht; obtain ⟨s, _, rfl⟩ := List.mem_map.1 ht; rfl
theorem joinR_eq {x : Inst} {ss : List Stop} (hn : (ss.map (·.c)).Nodup) : (pairsP x (ss.map (·.c))).foldl (joinRS x) (apartD ss) = joinP x ss := by
  obtain ⟨g, hg⟩ := JI.begin ss [] [] _ JI.nil (by simpa using hn)
  have := joinR_fold (x := x) (ss := ss) (pairsP x (ss.map (·.c))) (ss.map fun s => [s], (ss.length : Int)) ⟨g, by simpa using hg⟩ (by rw [apart_filter]; simp [apartD]) fun p hp => by
    have := prsAll_mem.1 ((pairsP_perm x _).subset hp)
    exact ⟨this.1, this.2.1⟩
  rw [← apart_filter]
  exact this
end Go.Proofs.YtafcjklojnhbnaaGreat.Pv
