/- A part of the proof of the statement that the last text of this claim proves; no condition is added. Packed by a program of the prover. -/
import Derived.Test.YtafcjklojnhbnaaGreatS5
namespace Go.Proofs.YtafcjklojnhbnaaGreat.Pv
open Go Go.Proofs Hp
theorem solveZ_mem (x : Inst) : ∀ (ds : List Day) (st : Day × Int × Bool), (ds.foldl (solveS x) st).2.2 = true → ds.foldl (solveS x) st = st ∨ (∃ d ∈ ds, dayT x d = 0 ∧ ds.foldl (solveS x) st = (d, W (costZ x d), true))
  | [], st, _ => .inl rfl
  | d :: ds, st, h => by
    rw [List.foldl_cons] at h ⊢
    rcases solveZ_mem x ds _ h with e | ⟨d2, h1, h2, h3⟩
    · rw [e]
      unfold solveS
      split
      · rename_i h0
        split
        · exact .inr ⟨d, by simp, h0, rfl⟩
        · exact .inl rfl
      · exact .inl rfl
    · exact .inr ⟨d2, by simp [h1], h2, h3⟩
theorem solveR_mem {x : Inst} {e : Int} {ds : List Day} (h : (solveR x e ds).2 = 0) : e = 0 ∧ (solveR x e ds).1 ∈ ds ∧ dayT x (solveR x e ds).1 = 0 := by
  unfold solveR at h ⊢
  by_cases he : e = 0
  · rw [if_pos he] at h ⊢
    cases hz : (solveZ x ds).2.2 with
    | false => rw [hz] at h; cases h
    | true =>
      refine ⟨he, ?_⟩
      rcases solveZ_mem x ds ([], 0, false) hz with q | ⟨d, h1, h2, h3⟩
      · have : (solveZ x ds).2.2 = false := by unfold solveZ; rw [q]
        rw [this] at hz; cases hz
      · have : solveZ x ds = (d, W (costZ x d), true) := h3
        rw [this]; exact ⟨h1, h2⟩
  · rw [if_neg he] at h; exact absurd h he
theorem goodI_arc (x : Inst) : ArcOk (goodI x) := by
  refine arcOk_of fun row hr d hd => ?_
  simp only [goodI, List.mem_map] at hr
  obtain ⟨a, _, rfl⟩ := hr
  unfold goodRow at hd
  obtain ⟨b, _, rfl⟩ := List.mem_map.1 hd
  split
  · have := rnd_le (arc x a b) 0 60 (by omega); omega
  · omega
theorem goodI_veh (x : Inst) : 0 ≤ (goodI x).veh := (rnd_le x.veh 0 5 (by omega)).1
theorem sok_of {x : Inst} {l : List Stop} (h : Goods (goodI x).cust.length l) : SOk (goodI x) l :=
  ⟨goodI_cust' x, goodI_arc x, goodI_veh x, by have := h.len; omega, fun s hs => by have := h.each s hs; have := goodI_cust x; unfold small; omega, h.nd⟩
open Go Go.Proofs
structure SG (x : Inst) (l : List Stop) (d : Day) : Prop where
  may : ∀ t ∈ d, mayT x t = 0
  perm : d.flatten.Perm l
def goodT (x : Inst) (t : Tour) : Prop := (∀ s ∈ t, goodS x s = true) ∧ (t.map (·.c)).Nodup ∧ t.length ≤ 1000
theorem stops_good {x : Inst} {t : Tour} (h : mayT x t = 0) : (∀ s ∈ t, goodS x s = true) ∧ t ≠ [] := by
  have := ((mayT_zero x t).1 h).1
  unfold stopsB at this
  rw [Bool.and_eq_true, List.all_eq_true] at this
  refine ⟨this.1, fun e => ?_⟩
  subst e
  simp at this
theorem load_bd {x : Inst} : ∀ t : Tour, (∀ s ∈ t, goodS x s = true) → 0 ≤ loadZ t ∧ loadZ t ≤ 2147483648 * (t.length : Int)
  | [], _ => by simp [loadZ]
  | s :: t, h => by
    have h1 := load_bd t fun s hs => h s (by simp [hs])
    have h2 := h s (by simp)
    simp [goodS] at h2
    unfold loadZ at h1 ⊢
    simp only [List.map_cons, List.sum_cons, List.length_cons]
    omega
theorem mayT_good {x : Inst} (hx : ArcOk x) {t : Tour} (h : goodT x t) (hn : t ≠ []) : mayT x t = 0 ↔ loadZ t ≤ x.cap ∧ wayZ x (t.map (·.c)) ≤ x.len := by
  obtain ⟨h1, h2, h3⟩ := h
  have b1 := load_bd t h1
  have b2 := wayZ_bd hx (t.map (·.c))
  rw [List.length_map] at b2
  have w1 : W (loadZ t) = loadZ t := wr _ (by omega) (by omega)
  have w2 : W (wayZ x (t.map (·.c))) = wayZ x (t.map (·.c)) := wr _ (by omega) (by omega)
  rw [mayT_zero, w1, w2]
  have : stopsB x t = true := by
    unfold stopsB
    rw [Bool.and_eq_true, List.all_eq_true]
    exact ⟨h1, by cases t <;> simp at hn ⊢⟩
  exact ⟨fun e => e.2.2, fun e => ⟨this, h2, e⟩⟩
theorem SG.each {x : Inst} {l : List Stop} {d : Day} (g : SG x l d) : ∀ s ∈ l, goodS x s = true := by
  intro s hs
  obtain ⟨t, ht, hst⟩ := List.mem_flatten.1 (g.perm.symm.subset hs)
  exact (stops_good (g.may t ht)).1 s hst
section
variable {x : Inst} {l : List Stop} (h : SOk x l)
include h
theorem SG.len {d : Day} (g : SG x l d) : d.flatten.length ≤ 1000 ∧ d.length ≤ 1000 := by
  have h1 := flat_len_ge d fun t ht => (stops_good (g.may t ht)).2
  have h2 := g.perm.length_eq
  have h3 := h.len
  omega
theorem SG.tour {d : Day} (g : SG x l d) {e : Day} (he : e.flatten.Perm l) {t : Tour} (ht : t ∈ e) : goodT x t := by
  have hs := tour_sub ht
  have hl := h.len
  refine ⟨fun s q => g.each s (he.subset (hs.subset q)), ?_, ?_⟩
  · exact ((he.map _).nodup_iff.2 h.nd).sublist (hs.map _)
  · have := hs.length_le
    have := he.length_eq
    omega
theorem SG.mv {d : Day} (g : SG x l d) : MvDay d := by
  refine ⟨(g.len h).2, fun t ht => (g.tour h g.perm ht).2.2, fun t ht s hs => ?_⟩
  have := (g.tour h g.perm ht).1 s hs
  have hc := h.cust
  simp [goodS] at this
  unfold small
  omega
theorem SG.ok {d : Day} (g : SG x l d) : DayOk d := by
  have h1 := g.len h
  have h2 := g.mv h
  exact ⟨by omega, fun t ht => Nat.le_trans (h2.t t ht) (by decide), fun t ht s hs => (h2.s t ht s hs).1⟩
end
theorem fitR_eq {x : Inst} {d : Day} {r : Rw5} (hr : RwOk d r) (h0 : arc x 0 0 = 0) : fitR x d r ↔ loadZ (gatherZ d r) ≤ x.cap ∧ wayZ x ((gatherZ d r).map (·.c)) ≤ x.len := by
  unfold fitR
  rw [lenR_eq hr h0, ldR_eq hr]
theorem cut_rw0 {d : Day} {m : Mv} (h : mayM d m = true) (hab : m.a = m.b) : gatherZ d (cutM d m).2 = [] := by
  have e0 : gatherZ d rw0 = [] := rfl
  unfold mayM at h
  rw [Bool.and_eq_true] at h
  obtain ⟨-, h2⟩ := h
  unfold mayZ at h2
  unfold cutM cutZ
  by_cases k0 : m.k = 0
  · rw [if_pos k0]; exact e0
  rw [if_neg k0] at h2 ⊢
  by_cases k1 : m.k = 1
  · rw [if_pos k1, if_neg (by simp [hab])]
    split <;> exact e0
  rw [if_neg k1] at h2 ⊢
  by_cases k2 : m.k = 2
  · rw [if_pos k2, if_pos hab]; exact e0
  rw [if_neg k2] at h2
  have h2 := of_decide_eq_true h2
  omega
theorem mk_mem1 {d : Day} {m : Mv} (h : mayM d m = true) (hn : gatherZ d (cutM d m).1 ≠ []) : gatherZ d (cutM d m).1 ∈ mkZ d m := by
  obtain ⟨-, ha, -⟩ := cut_rows h
  refine List.mem_filterMap.2 ⟨m.a, List.mem_range.2 ha, ?_⟩
  have e : mkT d m m.a = gatherZ d (cutM d m).1 := by unfold mkT; rw [if_pos rfl]
  unfold mkT1
  rw [e, if_neg fun q => hn (List.length_eq_zero_iff.1 q)]
theorem mk_mem2 {d : Day} {m : Mv} (h : mayM d m = true) (hab : m.a ≠ m.b) (hn : gatherZ d (cutM d m).2 ≠ []) : gatherZ d (cutM d m).2 ∈ mkZ d m := by
  obtain ⟨-, -, hb, -⟩ := cut_rows h
  refine List.mem_filterMap.2 ⟨m.b, List.mem_range.2 hb, ?_⟩
  have e : mkT d m m.b = gatherZ d (cutM d m).2 := by unfold mkT; rw [if_neg fun q => hab q.symm, if_pos rfl]
  unfold mkT1
  rw [e, if_neg fun q => hn (List.length_eq_zero_iff.1 q)]
theorem fit_iff {x : Inst} {l : List Stop} (h : SOk x l) (h0 : arc x 0 0 = 0) {d : Day} (g : SG x l d) {m : Mv} (hm : mayM d m = true) : (fitR x d (cutM d m).1 ∧ fitR x d (cutM d m).2) ↔ ∀ t ∈ mkZ d m, mayT x t = 0 := by
  obtain ⟨-, ha, hb, r1, r2⟩ := cut_rows hm
  have hp : (mkZ d m).flatten.Perm l := (mk_perm hm).trans g.perm
  rw [fitR_eq r1 h0, fitR_eq r2 h0]
  have hz : 0 ≤ x.cap ∧ 0 ≤ x.len := by
    have ht := g.may _ (List.getElem_mem ha)
    have hg := g.tour h g.perm (List.getElem_mem ha)
    have := (mayT_good h.arc hg (stops_good ht).2).1 ht
    have b1 := load_bd _ hg.1
    have b2 := wayZ_bd h.arc (d[m.a].map (·.c))
    omega
  have e0 : loadZ [] = 0 ∧ wayZ x (([] : Tour).map (·.c)) = 0 := ⟨rfl, rfl⟩
  constructor
  · rintro ⟨q1, q2⟩ t ht
    obtain ⟨hn, h3⟩ := mk_mem ht
    have hg := g.tour h hp ht
    rcases h3 with rfl | rfl | h3
    · exact (mayT_good h.arc hg hn).2 q1
    · exact (mayT_good h.arc hg hn).2 q2
    · exact g.may t h3
  · intro hall
    constructor
    · by_cases hn : gatherZ d (cutM d m).1 = []
      · rw [hn, e0.1, e0.2]; exact hz
      · have ht := mk_mem1 hm hn
        exact (mayT_good h.arc (g.tour h hp ht) hn).1 (hall _ ht)
    · by_cases hn : gatherZ d (cutM d m).2 = []
      · rw [hn, e0.1, e0.2]; exact hz
      · by_cases hab : m.a = m.b
        · exact absurd (cut_rw0 hm hab) hn
        · have ht := mk_mem2 hm hab hn
          exact (mayT_good h.arc (g.tour h hp ht) hn).1 (hall _ ht)
theorem mb_mem (x : Inst) (d : Day) : ∀ (ms : List Mv) (st : Mv × Int), (ms.foldl (mbS x d) st = st) ∨ (∃ m ∈ ms, (ms.foldl (mbS x d) st) = (m, byM x d m) ∧ fitR x d (cutM d m).1 ∧ fitR x d (cutM d m).2)
  | [], st => .inl rfl
  | m :: ms, st => by
    rw [List.foldl_cons]
    rcases mb_mem x d ms (mbS x d st m) with e | ⟨m2, h1, h2, h3⟩
    · rw [e]
      unfold mbS
      split
      · rename_i hc
        exact .inr ⟨m, by simp, rfl, hc.2⟩
      · exact .inl rfl
    · exact .inr ⟨m2, by simp [h1], h2, h3⟩
def stepZ (x : Inst) (d : Day) : Option Day := if (mbZ x d).2 < 0 then some (mkZ d (mbZ x d).1) else none
theorem step_of {x : Inst} {d : Day} (hb : (mbZ x d).2 < 0) : (mbZ x d).1 ∈ movesZ d ∧ byM x d (mbZ x d).1 < 0 ∧ fitR x d (cutM d (mbZ x d).1).1 ∧ fitR x d (cutM d (mbZ x d).1).2 := by
  rcases mb_mem x d (movesZ d) (mv0, 0) with e | ⟨m, h1, h2, h3⟩
  · unfold mbZ at hb; rw [e] at hb; cases hb
  · unfold mbZ at hb ⊢
    rw [h2] at hb ⊢
    exact ⟨h1, hb, h3⟩
theorem step_keeps {x : Inst} {l : List Stop} (h : SOk x l) (h0 : arc x 0 0 = 0) {d e : Day} (g : SG x l d) (hs : stepZ x d = some e) : SG x l e ∧ costZ x e < costZ x d ∧ e.length ≤ d.length := by
  unfold stepZ at hs
  split at hs
  · rename_i hb
    cases hs
    obtain ⟨h1, h2, h3⟩ := step_of hb
    have hm := (movesZ_mem h1).1
    refine ⟨⟨(fit_iff h h0 g hm).1 h3, (mk_perm hm).trans g.perm⟩, ?_, mk_len _ _⟩
    rw [mk_cost hm h0]; omega
  · cases hs
theorem stepP_ok {x : Inst} {l : List Stop} (h : SOk x l) (h0 : arc x 0 0 = 0) : StepP x (stepZ x) (SG x l) := by
  intro d g
  have hv := g.mv h
  have hl : ∀ a, tlen d a ≤ 1000 := by
    intro a
    unfold tlen
    rw [List.getD_eq_getElem?_getD]
    cases hq : d[a]? with
    | none => simp
    | some l => exact hv.t l (List.mem_of_getElem? hq)
  have hd1 : (stepZ x d).isSome = decide ((mbZ x d).2 < 0) := by
    unfold stepZ
    split
    · rename_i q; simp [q]
    · rename_i q; simp [q]
  refine ⟨_, _, _, _, _, _, by rw [hd1]; exact best_ok x d h.arc hv, fun e he => ⟨?_, (step_keeps h h0 g he).1⟩⟩
  unfold stepZ at he
  split at he
  · rename_i hb
    cases he
    obtain ⟨h1, -, -⟩ := step_of hb
    obtain ⟨h1, h2, h3⟩ := movesZ_mem h1
    have := hl (mbZ x d).1.a
    have := hl (mbZ x d).1.b
    exact make_ok x d _ hv.n hv.t h1 (by omega) (by omega)
  · cases he
theorem imp_keeps {x : Inst} {l : List Stop} (h : SOk x l) (h0 : arc x 0 0 = 0) : ∀ (n : Nat) (d : Day), SG x l d → SG x l (impN (stepZ x) n d) ∧ costZ x (impN (stepZ x) n d) ≤ costZ x d ∧ (impN (stepZ x) n d).length ≤ d.length
  | 0, d, g => ⟨g, Int.le_refl _, Nat.le_refl _⟩
  | n + 1, d, g => by
    unfold impN
    cases hs : stepZ x d with
    | none => exact ⟨g, Int.le_refl _, Nat.le_refl _⟩
    | some e =>
      obtain ⟨a, b, c⟩ := step_keeps h h0 g hs
      obtain ⟨a', b', c'⟩ := imp_keeps h h0 n e a
      exact ⟨a', by simp only; omega, by simp only; omega⟩
open Go Go.Proofs Hp
theorem goodI_diag (x : Inst) : arc (goodI x) 0 0 = 0 := by
  have h1 : (goodI x).dist[0]? = some (goodRow x (x.cust.take 6).length 0) := by
    unfold goodI
    rw [List.getElem?_map, List.getElem?_range (by omega)]; rfl
  have h2 : (goodRow x (x.cust.take 6).length 0)[0]? = some 0 := by
    unfold goodRow
    rw [List.getElem?_map, List.getElem?_range (by omega)]; rfl
  unfold arc
  split
  · rfl
  · rw [List.getD_eq_getElem?_getD, List.getD_eq_getElem?_getD]
    show (((goodI x).dist[0]?).getD [])[0]?.getD 0 = 0
    rw [h1]
    show ((goodRow x (x.cust.take 6).length 0)[0]?).getD 0 = 0
    rw [h2]; rfl
theorem fits_zero {x : Inst} {l : List Stop} (h : fitsZ x l = 0) : ∀ s ∈ l, mayT x [s] = 0 := by
  unfold fitsZ at h
  intro s hs
  cases hf : l.find? (fun s => mayT x [s] != 0) with
  | some s2 =>
    have := List.find?_some hf
    rw [hf] at h
    simp only at h
    rw [h] at this; simp at this
  | none =>
    have := List.find?_eq_none.1 hf s hs
    simpa using this
theorem join_may {x : Inst} {l : List Stop} (h : SOk x l) (hf : fitsZ x l = 0) : ∀ t ∈ joinP x l, mayT x t = 0 := by
  have key : ∀ (ps : List Pr) (st : Day × Int), (∀ t ∈ st.1, t.length ≤ 1 ∨ mayT x t = 0) → ∀ t ∈ (ps.foldl (joinS x) st).1, t.length ≤ 1 ∨ mayT x t = 0 := by
    intro ps
    induction ps with
    | nil => intro st h; exact h
    | cons p ps ih =>
      intro st hst
      rw [List.foldl_cons]
      refine ih _ fun t ht => ?_
      unfold joinS joinAt at ht
      generalize placeT st.1 p.a = i at ht
      generalize placeT st.1 p.b = k at ht
      generalize st.1.getD i [] = a at ht
      generalize st.1.getD k [] = b at ht
      cases hc : joinC x st.2 p i k a b with
      | false => rw [hc] at ht; exact hst t ht
      | true =>
        rw [hc] at ht
        simp only [cond_true] at ht
        unfold joinC at hc
        simp only [Bool.and_eq_true, decide_eq_true_eq] at hc
        rcases List.mem_or_eq_of_mem_set ht with ht | ht
        · rcases List.mem_or_eq_of_mem_set ht with ht | ht
          · exact hst t ht
          · rw [ht]; exact .inr hc.2
        · rw [ht]; exact .inl (by simp)
  intro t ht
  obtain ⟨-, hp, -, hne⟩ := h.join
  have hs := tour_sub ht
  have h1 := key (pairsP x (l.map fun s : Stop => s.c)) (l.map fun s => [s], (l.length : Int)) (fun t ht => by obtain ⟨s, _, rfl⟩ := List.mem_map.1 ht; simp) t (List.mem_filter.1 ht).1
  rcases h1 with h1 | h1
  · have := hne t ht
    match t, h1, this with
    | [s], _, _ => exact fits_zero hf s (hp.subset (hs.subset (by simp)))
  · exact h1
theorem base_SG {x : Inst} {l : List Stop} (h : SOk x l) (hf : fitsZ x l = 0) : ∀ d ∈ basesZ x l, SG x l d := by
  intro d hd
  unfold basesZ at hd
  simp only [List.cons_append, List.nil_append, List.mem_cons] at hd
  rcases hd with rfl | rfl | hd
  · exact ⟨join_may h hf, h.join.2.1⟩
  · refine ⟨fun t ht => ?_, by rw [h.apart.2.1]⟩
    obtain ⟨s, hs, rfl⟩ := List.mem_map.1 ht
    exact fits_zero hf s hs
  · cases hall : (regretZ x l).2 with
    | false => rw [hall] at hd; simp at hd
    | true =>
      rw [hall] at hd
      simp at hd; subst hd
      obtain ⟨r, hp⟩ := h.regret
      exact ⟨((dayT_zero x _).1 r.may).1, hp hall⟩
def impZ (x : Inst) (b : Int) (d : Day) : Day := impN (stepZ x) b.toNat d
def solZ (x : Inst) (b : Int) (l : List Stop) : Day × Int := solveR x (fitsZ x l) (triesZ x (impZ x b) l)
theorem impP_of {x : Inst} {l : List Stop} (h : SOk x l) (h0 : arc x 0 0 = 0) (hf : fitsZ x l = 0) {b : Int} (hb : b ≤ 9223372036854775807) : ImpP x b (impZ x b) (basesZ x l) := by
  intro d hd
  have g := base_SG h hf d hd
  obtain ⟨g2, -, -⟩ := imp_keeps h h0 b.toNat d g
  have o := g.ok h
  refine ⟨⟨_, improveP_ok x d b (stepZ x) (SG x l) hb o.n o.t (fun _ => g) (stepP_ok h h0)⟩, g2.ok h, ?_⟩
  have := (g2.len h).1
  show (impN (stepZ x) b.toNat d).flatten.length ≤ 1048576
  omega
theorem solP_ok {x : Inst} {l : List Stop} (h : SOk x l) (h0 : arc x 0 0 = 0) {b : Int} (hb : b ≤ 9223372036854775807) : Pure Tryz.prog 15 [.agg (instL x), L l, I b] (.tup [.agg [L (solZ x b l).1], I (solZ x b l).2]) :=
  solveP_ok x l b _ h fun hf => impP_of h h0 hf hb
theorem try_SG {x : Inst} {l : List Stop} (h : SOk x l) (h0 : arc x 0 0 = 0) (hf : fitsZ x l = 0) (b : Int) : ∀ d ∈ triesZ x (impZ x b) l, SG x l d := by
  have hb := base_SG h hf
  have hi := fun d g => (imp_keeps h h0 b.toNat d g).1
  intro d hd
  unfold triesZ at hd
  unfold basesZ at hb
  simp only [List.cons_append, List.nil_append, List.mem_cons] at hd hb
  rcases hd with rfl | rfl | rfl | hd
  · exact hb _ (.inr (.inl rfl))
  · exact hi _ (hb _ (.inl rfl))
  · exact hi _ (hb _ (.inr (.inl rfl)))
  · cases hall : (regretZ x l).2 with
    | false => rw [hall] at hd; simp at hd
    | true =>
      rw [hall] at hd
      simp at hd; subst hd
      exact hi _ (hb _ (.inr (.inr (by rw [hall]; simp))))
theorem solveZ_min (x : Inst) : ∀ (ds : List Day) (st : Day × Int × Bool), (st.2.2 = true → (ds.foldl (solveS x) st).2.2 = true ∧ (ds.foldl (solveS x) st).2.1 ≤ st.2.1) ∧ ∀ d ∈ ds, dayT x d = 0 → (ds.foldl (solveS x) st).2.2 = true ∧ (ds.foldl (solveS x) st).2.1 ≤ W (costZ x d)
  | [], st => ⟨fun e => ⟨e, Int.le_refl _⟩, by simp⟩
  | d :: ds, st => by
    rw [List.foldl_cons]
    obtain ⟨h1, h2⟩ := solveZ_min x ds (solveS x st d)
    constructor
    · intro e
      have : (solveS x st d).2.2 = true ∧ (solveS x st d).2.1 ≤ st.2.1 := by
        unfold solveS
        split
        · split
          · rename_i hc
            rcases hc with hc | hc
            · rw [e] at hc; cases hc
            · exact ⟨rfl, Int.le_of_lt hc⟩
          · exact ⟨e, Int.le_refl _⟩
        · exact ⟨e, Int.le_refl _⟩
      obtain ⟨a, b⟩ := h1 this.1
      exact ⟨a, Int.le_trans b this.2⟩
    · intro d2 hd hz
      rcases List.mem_cons.1 hd with rfl | hd
      · have : (solveS x st d2).2.2 = true ∧ (solveS x st d2).2.1 ≤ W (costZ x d2) := by
          unfold solveS
          rw [if_pos hz]
          split
          · exact ⟨rfl, Int.le_refl _⟩
          · rename_i hc
            cases hq : st.2.2 with
            | false => exact absurd (.inl hq) hc
            | true => exact ⟨rfl, Int.not_lt.1 fun q => hc (.inr q)⟩
        obtain ⟨a, b⟩ := h1 this.1
        exact ⟨a, Int.le_trans b this.2⟩
      · exact h2 d2 hd hz
theorem solveR_min {x : Inst} {e : Int} {ds : List Day} (he : e = 0) {d : Day} (hd : d ∈ ds) (hz : dayT x d = 0) : (solveR x e ds).2 = 0 ∧ W (costZ x (solveR x e ds).1) ≤ W (costZ x d) := by
  obtain ⟨h1, h2⟩ := (solveZ_min x ds ([], 0, false)).2 d hd hz
  change (solveZ x ds).2.2 = true at h1
  change (solveZ x ds).2.1 ≤ W (costZ x d) at h2
  unfold solveR
  rw [if_pos he, h1]
  refine ⟨rfl, ?_⟩
  rcases solveZ_mem x ds ([], 0, false) h1 with q | ⟨d2, g1, g2, g3⟩
  · have : (solveZ x ds).2.2 = false := by unfold solveZ; rw [q]
    rw [this] at h1; cases h1
  · have : solveZ x ds = (d2, W (costZ x d2), true) := g3
    rw [this] at h2 ⊢; exact h2
theorem solveR_none {x : Inst} {e : Int} {ds : List Day} (h : (solveR x e ds).2 ≠ 0) : (solveR x e ds).1 = [] := by
  unfold solveR at h ⊢
  by_cases he : e = 0
  · rw [if_pos he] at h ⊢
    cases hz : (solveZ x ds).2.2 with
    | true => rw [hz] at h; exact absurd rfl h
    | false => rfl
  · rw [if_neg he]
theorem apart_mem (x : Inst) (imp : Day → Day) (l : List Stop) : apartD l ∈ triesZ x imp l := by simp [triesZ]
section
variable {x : Inst} {l : List Stop} (h : SOk x l) (h0 : arc x 0 0 = 0) (b : Int)
include h h0
theorem sol_ok : DayOk (solZ x b l).1 ∧ (solZ x b l).1.length ≤ 1000 ∧ (solZ x b l).1.flatten.length ≤ 1000 := by
  by_cases he : (solZ x b l).2 = 0
  · obtain ⟨hf, hm, -⟩ := solveR_mem he
    have g := try_SG h h0 hf b _ hm
    exact ⟨g.ok h, (g.len h).2, (g.len h).1⟩
  · have : (solZ x b l).1 = [] := solveR_none he
    rw [this]; exact ⟨⟨by simp, by simp, by simp⟩, by simp, by simp⟩
theorem sol_found (he : (solZ x b l).2 = 0) : fitsZ x l = 0 ∧ dayT x (solZ x b l).1 = 0 ∧ (solZ x b l).1.flatten.Perm l ∧ (dayT x (apartD l) = 0 → W (costZ x (solZ x b l).1) ≤ W (costZ x (apartD l))) := by
  obtain ⟨hf, hm, hz⟩ := solveR_mem he
  have g := try_SG h h0 hf b _ hm
  exact ⟨hf, hz, g.perm, fun q => (solveR_min hf (apart_mem x _ l) q).2⟩
omit h0 in
theorem sol_none (he : (solZ x b l).2 ≠ 0) : (solZ x b l).1 = [] ∧ (fitsZ x l ≠ 0 ∨ x.veh < l.length) := by
  refine ⟨solveR_none he, ?_⟩
  by_cases hf : fitsZ x l = 0
  · refine .inr ?_
    by_cases hv : x.veh < l.length
    · exact hv
    · refine absurd (solveR_min hf (apart_mem x (impZ x b) l) ?_).1 he
      have g := base_SG h hf (apartD l) (by simp [basesZ])
      refine (dayT_zero x _).2 ⟨g.may, by rw [h.apart.2.1]; exact h.nd, ?_⟩
      rw [apartD_len]; omega
  · exact .inl hf
end
open Go Go.Proofs Hp
theorem cnt_snoc (l : List Stop) (t s : Stop) : (l ++ [t]).count s = l.count s + (if t = s then 1 else 0) := by
  rw [List.count_append]
  by_cases h : t = s
  · subst h; simp
  · simp [h, List.count_cons]
theorem cnt_one {s : Stop} : ∀ (l : List Stop), l.Nodup → s ∈ l → l.count s = 1
  | [], _, h => by cases h
  | t :: l, hn, h => by
    have hn' := List.nodup_cons.1 hn
    rw [List.count_cons]
    by_cases e : t = s
    · subst e
      simp [List.count_eq_zero_of_not_mem hn'.1]
    · rcases List.mem_cons.1 h with h | h
      · exact absurd h.symm e
      · simp [cnt_one l hn'.2 h, e]
def bud (b : Int) : Int := if 50 < b then b % 51 else b
set_option maxRecDepth 20000 in
set_option maxHeartbeats 3200000 in
theorem dayFound_ok (x : Inst) (l : List Stop) (b : Int) (hx : InstOk x) (hl : l.length ≤ 9223372036854775807) (hs : ∀ s ∈ l, StopOk s) (hb : I64 b) : Pure Tryz.prog 5 [.agg (instL x), L l, I b] (B true) := by
  have hc := goodI_cust' x
  have hG := goodI_ok x hx
  have hg := goods_of (n := (goodI x).cust.length) hs
  have hgs := goodS_ok (goodI x) l hl hc hs
  have hsok := sok_of hg
  have hdg := goodI_diag x
  have hlv := lives15_ok
  have hg6 := hg.len
  have hgn : (goodL (goodI x).cust.length [] l).Nodup := (List.pairwise_map.1 hg.nd).imp fun h e => h (by rw [e])
  generalize goodL (goodI x).cust.length [] l = g at *
  generalize goodI x = y at *
  have hbb : bud b ≤ 9223372036854775807 := by unfold bud; unfold I64 at hb; split <;> omega
  have s1 := solP_ok hsok hdg (b := bud b) hbb
  have hF := fitsR_ok y g hc (by omega)
  have hA := apartR_ok g (by omega)
  obtain ⟨p1, p2, p3⟩ := sol_ok hsok hdg (bud b)
  obtain ⟨a1, a2, a3⟩ := hsok.apart
  have c1 := costR_ok y _ p1
  have c2 := costR_ok y _ a1
  have t1 := dayR_ok y _ hc p1.n p1.t (by omega)
  have t2 := dayR_ok y _ hc a1.n a1.t (by rw [a2]; omega)
  have hst := stopsR_ok _ p1.n (by omega)
  have hfound := sol_found hsok hdg (bud b)
  have hnone := sol_none hsok (bud b)
  generalize solZ y (bud b) g = p at *
  obtain ⟨d, e⟩ := p
  simp only at s1 p1 p2 p3 c1 t1 hst hfound hnone
  generalize fitsZ y g = fe at *
  generalize apartD g = ad at *
  generalize W (costZ y d) = k1 at *
  generalize W (costZ y ad) = k2 at *
  generalize dayT y ad = te at *
  refine pwe Tryz.func5 Tryz.ntmps5 Tryz.results5 fun S nx hd => ?_
  repeat refine pw_seq ?_
  refine pwn ?_
  intro v0
  repeat refine pw_seq ?_
  refine pwn ?_
  refine pwc hG ?_
  intro v1
  intros
  repeat refine pw_seq ?_
  refine pwn ?_
  refine pwc hgs ?_
  intros
  repeat refine pw_seq ?_
  refine pwn ?_
  intros
  repeat refine pw_seq ?_
  refine pw_joinK (nx := nx) (σ := Unit) (fun _ => True) (fun _ => [(2, I (bud b)), (7, .ptr (nx + 1) v1 0), (8, L g)]) (fun _ => S) (fun _ => [.cells v0 25 (instL x), .cells v1 25 (instL y)]) ?_ ?_
  · by_cases h0 : 50 < b
    · have e : bud b = b % 51 := by unfold bud; rw [if_pos h0]
      have w : b.tmod 51 = b % 51 := Int.tmod_eq_emod_of_nonneg (by omega)
      repeat refine pw_seq ?_
      refine pw_ct (by simp [h0]) ?_
      repeat refine pw_seq ?_
      refine pwN [] w ?_
      intros
      exact at_mk () [] trivial (by simp [e]) rfl (by simp)
    · have e : bud b = b := by unfold bud; rw [if_neg h0]
      repeat refine pw_seq ?_
      refine pw_cf (by simp [h0]) ?_
      refine pw_skip ?_
      exact at_mk () [] trivial (by simp [e]) rfl (by simp)
  rintro ⟨⟩ -
  repeat refine pw_seq ?_
  refine pwn ?_
  refine pwc s1 ?_
  intro v2
  intros
  repeat refine pw_seq ?_
  refine pwn ?_
  refine pwc hF ?_
  intros
  repeat refine pw_seq ?_
  refine pwn ?_
  intros
  by_cases he : e = 0
  case neg =>
    obtain ⟨n1, n2⟩ := hnone he
    subst n1
    repeat refine pw_seq ?_
    refine pw_ct (by simp [he]) ?_
    by_cases hf : fe = 0
    · have hv : y.veh < g.length := by rcases n2 with q | q; exact absurd hf q; exact q
      repeat refine pw_seq ?_
      refine pwN [(4, 42), (7, 45), (15, 53)] (jn2 hf hv) ?_
      refine pwC [(4, 42), (7, 45), (15, 53)] hlv (jn2 hf hv) ?_
      intros
      repeat refine pw_seq ?_
      exact pw_ret (ret_pure hd rfl (by simp [oneOf]))
    · repeat refine pw_seq ?_
      refine pwN [(4, 42), (7, 45), (15, 53)] (jn2 hf undef_eq) ?_
      refine pwC [(4, 42), (7, 45), (15, 53)] hlv (jn2 hf undef_eq) ?_
      intros
      repeat refine pw_seq ?_
      exact pw_ret (ret_pure hd rfl (by simp [oneOf]))
  obtain ⟨h1, h2, h3, h4⟩ := hfound he
  rw [h2] at t1
  repeat refine pw_seq ?_
  refine pw_cf (by simp [he]) ?_
  refine pw_skip ?_
  repeat refine pw_seq ?_
  refine pwn ?_
  refine pwc hst ?_
  intros
  have hcnt : ∀ s ∈ g, d.flatten.count s = 1 := fun s hsg => by rw [h3.count_eq]; exact cnt_one g hgn hsg
  have hall := h3.length_eq
  generalize d.flatten = al at *
  repeat refine pw_seq ?_
  refine pwN [(5, 63)] hall ?_
  refine pwC [(5, 63)] t1 hall ?_
  intros
  repeat refine pw_seq ?_
  refine pw_cf (by simp) ?_
  refine pw_skip ?_
  repeat refine pw_seq ?_
  refine pwn ?_
  intros
  repeat refine pw_seq ?_
  refine pw_block (pw_loopL (fun i : Nat => i ≤ g.length) (fun i => [(7, .ptr (nx + 1) v1 0), (8, L g), (9, .ptr (nx + 2) v2 0), (12, L al), (13, I i)]) (fun _ => [.cells v0 25 (instL x), .cells v1 25 (instL y), .cells v2 35 [L d]]) (fun i => g.length - i) 0 [] (by simp) (by simp) (by simp) ?_)
  rintro i hi
  repeat refine pw_seq ?_
  refine pwn ?_
  intros
  repeat refine pw_seq ?_
  refine pw_cond rfl (fun hq => ?_) (fun hq => ?_)
  · simp at hq
    obtain ⟨s, tl, b1, b2, b3, e1, e0⟩ := el 2 rfl g i hq
    have hcs := hcnt s (List.mem_of_getElem? b1)
    refine pw_skip (pw_seq (pw_block ?_))
    repeat refine pw_seq ?_
    refine pwn ?_
    intros
    repeat refine pw_seq ?_
    refine pwn ?_
    intros
    repeat refine pw_seq ?_
    refine pw_block (pw_loopL (fun k : Nat × Nat => k.1 ≤ al.length ∧ k.2 = (al.take k.1).count s) (fun (k, n) => [(7, .ptr (nx + 1) v1 0), (8, L g), (9, .ptr (nx + 2) v2 0), (12, L al), (13, I i), (14, I n), (15, I k)]) (fun _ => [.cells v0 25 (instL x), .cells v1 25 (instL y), .cells v2 35 [L d]]) (fun k => al.length - k.1) (0, 0) [] ⟨by simp, by simp⟩ (by simp) (by simp) ?_)
    rintro ⟨k, n⟩ ⟨hk, hn⟩
    simp only at hk hn ⊢
    have hnk : n ≤ k := by rw [hn]; exact Nat.le_trans List.count_le_length (by simp; omega)
    repeat refine pw_seq ?_
    refine pwn ?_
    intros
    repeat refine pw_seq ?_
    refine pw_cond rfl (fun hq2 => ?_) (fun hq2 => ?_)
    · simp at hq2
      obtain ⟨t, tl2, b1, b2, b3, f1, f0⟩ := el 2 rfl al k hq2
      have hcn := cnt_snoc (al.take k) t s
      rw [← b3, ← hn] at hcn
      refine pw_skip (pw_seq (pw_block ?_))
      by_cases hts : t = s
      · subst hts
        rw [if_pos rfl] at hcn
        repeat refine pw_seq ?_
        refine pwY none (Row.pures [0, 1, 2, 3, 4, 5, 6, 7, 8] .done) mixed (jn6 e1 e0 f1 f0 hq hq2) ?_
        intros
        repeat refine pw_seq ?_
        refine pw_ct rfl ?_
        repeat refine pw_seq ?_
        refine pwn ?_
        intros
        repeat refine pw_seq ?_
        refine pwn ?_
        intros
        exact again_mk (k + 1, n + 1) [] ⟨hq2, hcn.symm⟩ (by simp; omega) (by simp [wrN n (by omega), wrN k (by omega)]) rfl (by simp)
      · rw [if_neg hts, Nat.add_zero] at hcn
        have hne0 : ¬ (t.c = s.c ∧ t.q = s.q) := fun e => hts (by cases t; cases s; simp only at e; rw [e.1, e.2])
        have hne : (decide (t.c = s.c) && decide (t.q = s.q)) = false := Bool.eq_false_iff.2 fun q => hne0 (by simpa using q)
        repeat refine pw_seq ?_
        refine pwY none (Row.pures [0, 1, 2, 3, 4, 5, 6, 7, 8] .done) mixed (jn6 e1 e0 f1 f0 hq (jn2 hq2 hne)) ?_
        intros
        repeat refine pw_seq ?_
        refine pw_cf rfl ?_
        refine pw_skip ?_
        repeat refine pw_seq ?_
        refine pwn ?_
        intros
        exact again_mk (k + 1, n) [] ⟨hq2, hcn.symm⟩ (by simp; omega) (by simp [wrN k (by omega)]) rfl (by simp)
    · simp at hq2
      obtain rfl : k = al.length := by omega
      rw [List.take_length, hcs] at hn
      subst hn
      refine pw_exit ?_
      repeat refine pw_seq ?_
      refine pwn ?_
      intros
      repeat refine pw_seq ?_
      refine pw_cf rfl ?_
      refine pw_skip ?_
      repeat refine pw_seq ?_
      refine pwn ?_
      intros
      exact again_mk (i + 1) [] hq (by omega) (by simp [wrN i (by omega)]) rfl (by simp)
  · simp at hq
    obtain rfl : i = g.length := by omega
    refine pw_exit ?_
    repeat refine pw_seq ?_
    refine pwn ?_
    refine pwc hA ?_
    intro v3
    intros
    by_cases ht : te = 0
    · have hk := h4 ht
      repeat refine pw_seq ?_
      refine pwY (some [nx + 1, nx + 2, nx + 3]) (Row.pures [0, 1, 2, 3, 4, 5, 6, 7, 8, 9, 10, 11, 12, 13, 14, 15, 16] .done) mixed (jn2 ht hk) ?_
      refine pwP (t2) (jn2 ht hk) ?_
      refine pwP (c1) (jn2 ht hk) ?_
      refine pwP (c2) (jn2 ht hk) ?_
      refine pwP (hlv) (jn2 ht hk) ?_
      intros
      repeat refine pw_seq ?_
      exact pw_ret (ret_pure hd rfl (by simp [oneOf, hk]))
    · repeat refine pw_seq ?_
      refine pwY (some [nx + 1, nx + 2, nx + 3]) (Row.pures [0, 1, 2, 3, 4, 5, 6, 7, 8, 9, 10, 11, 12, 13, 14, 15, 16] .done) mixed (jn2 ht undef_eq) ?_
      refine pwP (t2) (jn2 ht undef_eq) ?_
      refine pwP (hlv) (jn2 ht undef_eq) ?_
      intros
      repeat refine pw_seq ?_
      exact pw_ret (ret_pure hd rfl (by simp [oneOf]))
end Go.Proofs.YtafcjklojnhbnaaGreat.Pv
namespace Go.Proofs.YtafcjklojnhbnaaGreat
open Go Go.ChangeShapes Go.WideShapes Go.ChangeAt Go.RowKit Pv
set_option maxRecDepth 100000 in
theorem dayFound_lifted (os : Os) (started : os.Started) (H : Type) (enc : TypeId × Value → H) :
    ReturnsInHanded {} Tryz.checked os 5 .any (Rows.dayFoundSpec.pre6 enc Tryz.prog Tryz.f5 Rows.dayFoundRow.domain false) (Rows.dayFoundSpec.post enc Tryz.prog Tryz.f5 false true false false) := by
  refine returnsInHanded_of_change (C := Tryz.checked) own0 started (by kernel_rfl) Tryz.func5
    (ChangeSpec.witness6 (enc := enc) (C := Tryz.checked) false ⟨#[], #[.agg #[.int .i64 0, .int .i64 0, .int .i64 0, .int .i64 0, .slice none 0 0, .slice none 0 0], .slice none 0 0, .int .i64 0], []⟩ 8 (by kernel_rfl) (by kernel_rfl) (by kernel_rfl) (by kernel_rfl)) ?_
  intro W base args ds gs before hval0 hW hcnd _
  have hval : ∀ (j : Nat) t v, Tryz.f5.params[j]? = some t → args[j]? = some v → Value.okWide Tryz.prog W .any base t v := hval0
  have hW' := hW
  obtain ⟨p, q, hA0, hV, rfl, hfz, hnd⟩ := hW
  have hA : DataW.TrodAll enc Tryz.prog W 0 (fun _ => true) true Tryz.f5.params.toList args.toList ds p := hA0
  rw [Tryz.params5] at hA hval
  obtain ⟨v0, v1, v2, d0, d1, d2, p0, p1, p2, rfl, rfl, rfl, h0, h1, h2⟩ := trodAll_three hA
  obtain ⟨rfl, rfl⟩ := trodVars_none hV
  obtain ⟨c0, rfl, _⟩ := okWide_struct Tryz.underlying25 (hval 0 _ v0 rfl rfl)
  obtain ⟨a0, k0, r0⟩ := rel_agg (opens_inst W) h0
  obtain ⟨b1, n1, m1, rfl⟩ := okWide_slice Tryz.underlying26 (hval 1 _ v1 rfl rfl)
  obtain ⟨a1, k1, r1⟩ := rel_cell (opens_stops W) rfl h1
  have r1 := r1 _ rfl
  obtain ⟨z2, rfl⟩ := okWide_int Tryz.underlying3 (hval 2 _ v2 rfl rfl)
  obtain ⟨a2, k2, r2⟩ := rel_cell ((opens_int Tryz.underlying3 : Opens Tryz.prog W 3 Int I64)) rfl h2
  have r2 := r2 _ rfl
  refine (pure_true ((dayFound_ok a0 a1 a2 k0 k1.1 k1.2 k2)) rfl (fun i c v hc hv => ?_)).mono fun e W' hq => ?_
  · match i with
    | 0 => cases hc; cases hv; exact r0
    | 1 => cases hc; cases hv; exact r1
    | 2 => cases hc; cases hv; exact r2
    | i + 3 => cases hc
  exact ⟨_, hq.1, law_end rfl rfl (of_decide_eq_true (by kernel_rfl)) hW' rfl rfl rfl hq.2⟩
theorem dayFound_holds : Rows.DayFoundSaid :=
  OpenClaim.holds_of_wide 5 Tryz.f5 rfl rfl rfl rfl rfl rfl rfl ⟨rfl, rfl, rfl, rfl, rfl⟩ rfl rfl rfl rfl rfl (by kernel_rfl) Tryz.func5 (by kernel_rfl)
    (of_decide_eq_true (by kernel_rfl)) (by unfold Func.isWrapper; first | (rw [if_pos (by decide +kernel)]; kernel_rfl) | (rw [if_neg (by decide +kernel)]; exact ⟨rfl, rfl⟩))
    (fun os started H enc _ => dayFound_lifted os started H enc)
end Go.Proofs.YtafcjklojnhbnaaGreat
