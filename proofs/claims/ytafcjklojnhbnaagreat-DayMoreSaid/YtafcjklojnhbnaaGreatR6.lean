/- A part of the proof of the statement that the last text of this claim proves; no condition is added. Packed by a program of the prover. -/
import Derived.Test.YtafcjklojnhbnaaGreatR5
namespace Go.Proofs.YtafcjklojnhbnaaGreat.Pv
open Go Go.Proofs Hp
theorem goodI_diag (x : Inst) : arc (goodI x) 0 0 = 0 := by
  have h1 : (goodI x).dist[0]? = some (goodRow x (x.cust.take 6).length 0) := by
    unfold goodI
    rw [List.getElem?_map, List.getElem?_range (by omega)]; rfl
  have h2 : (goodRow x (x.cust.take 6).length 0)[0]? = some 0 := by
    unfold goodRow
    rw [List.getElem?_map, List.getElem?_range (by omega)]; rfl
  unfold arc
  split
  · rfl
  · rw [List.getD_eq_getElem?_getD, List.getD_eq_getElem?_getD]
    show (((goodI x).dist[0]?).getD [])[0]?.getD 0 = 0
    rw [h1]
    show ((goodRow x (x.cust.take 6).length 0)[0]?).getD 0 = 0
    rw [h2]; rfl
theorem fits_zero {x : Inst} {l : List Stop} (h : fitsZ x l = 0) : ∀ s ∈ l, mayT x [s] = 0 := by
  unfold fitsZ at h
  intro s hs
  cases hf : l.find? (fun s => mayT x [s] != 0) with
  | some s2 =>
    have := List.find?_some hf
    rw [hf] at h
    simp only at h
    rw [h] at this; simp at this
  | none =>
    have := List.find?_eq_none.1 hf s hs
    simpa using this
theorem join_may {x : Inst} {l : List Stop} (h : SOk x l) (hf : fitsZ x l = 0) : ∀ t ∈ joinP x l, mayT x t = 0 := by
  have key : ∀ (ps : List Pr) (st : Day × Int), (∀ t ∈ st.1, t.length ≤ 1 ∨ mayT x t = 0) → ∀ t ∈ (ps.foldl (joinS x) st).1, t.length ≤ 1 ∨ mayT x t = 0 := by
    intro ps
    induction ps with
    | nil => intro st h; exact h
    | cons p ps ih =>
      intro st hst
      rw [List.foldl_cons]
      refine ih _ fun t ht => ?_
      unfold joinS joinAt at ht
      generalize placeT st.1 p.a = i at ht
      generalize placeT st.1 p.b = k at ht
      generalize st.1.getD i [] = a at ht
      generalize st.1.getD k [] = b at ht
      cases hc : joinC x st.2 p i k a b with
      | false => rw [hc] at ht; exact hst t ht
      | true =>
        rw [hc] at ht
        simp only [cond_true] at ht
        unfold joinC at hc
        simp only [Bool.and_eq_true, decide_eq_true_eq] at hc
        rcases List.mem_or_eq_of_mem_set ht with ht | ht
        · rcases List.mem_or_eq_of_mem_set ht with ht | ht
          · exact hst t ht
          · rw [ht]; exact .inr hc.2
        · rw [ht]; exact .inl (by simp)
  intro t ht
  obtain ⟨-, hp, -, hne⟩ := h.join
  have hs := tour_sub ht
  have h1 := key (pairsP x (l.map fun s : Stop => s.c)) (l.map fun s => [s], (l.length : Int)) (fun t ht => by obtain ⟨s, _, rfl⟩ := List.mem_map.1 ht; simp) t (List.mem_filter.1 ht).1
  rcases h1 with h1 | h1
  · have := hne t ht
    match t, h1, this with
    | [s], _, _ => exact fits_zero hf s (hp.subset (hs.subset (by simp)))
  · exact h1
theorem base_SG {x : Inst} {l : List Stop} (h : SOk x l) (hf : fitsZ x l = 0) : ∀ d ∈ basesZ x l, SG x l d := by
  intro d hd
  unfold basesZ at hd
  simp only [List.cons_append, List.nil_append, List.mem_cons] at hd
  rcases hd with rfl | rfl | hd
  · exact ⟨join_may h hf, h.join.2.1⟩
  · refine ⟨fun t ht => ?_, by rw [h.apart.2.1]⟩
    obtain ⟨s, hs, rfl⟩ := List.mem_map.1 ht
    exact fits_zero hf s hs
  · cases hall : (regretZ x l).2 with
    | false => rw [hall] at hd; simp at hd
    | true =>
      rw [hall] at hd
      simp at hd; subst hd
      obtain ⟨r, hp⟩ := h.regret
      exact ⟨((dayT_zero x _).1 r.may).1, hp hall⟩
def impZ (x : Inst) (b : Int) (d : Day) : Day := impN (stepZ x) b.toNat d
def solZ (x : Inst) (b : Int) (l : List Stop) : Day × Int := solveR x (fitsZ x l) (triesZ x (impZ x b) l)
theorem impP_of {x : Inst} {l : List Stop} (h : SOk x l) (h0 : arc x 0 0 = 0) (hf : fitsZ x l = 0) {b : Int} (hb : b ≤ 9223372036854775807) : ImpP x b (impZ x b) (basesZ x l) := by
  intro d hd
  have g := base_SG h hf d hd
  obtain ⟨g2, -, -⟩ := imp_keeps h h0 b.toNat d g
  have o := g.ok h
  refine ⟨⟨_, improveP_ok x d b (stepZ x) (SG x l) hb o.n o.t (fun _ => g) (stepP_ok h h0)⟩, g2.ok h, ?_⟩
  have := (g2.len h).1
  show (impN (stepZ x) b.toNat d).flatten.length ≤ 1048576
  omega
theorem solP_ok {x : Inst} {l : List Stop} (h : SOk x l) (h0 : arc x 0 0 = 0) {b : Int} (hb : b ≤ 9223372036854775807) : Pure Tryz.prog 15 [.agg (instL x), L l, I b] (.tup [.agg [L (solZ x b l).1], I (solZ x b l).2]) :=
  solveP_ok x l b _ h fun hf => impP_of h h0 hf hb
theorem try_SG {x : Inst} {l : List Stop} (h : SOk x l) (h0 : arc x 0 0 = 0) (hf : fitsZ x l = 0) (b : Int) : ∀ d ∈ triesZ x (impZ x b) l, SG x l d := by
  have hb := base_SG h hf
  have hi := fun d g => (imp_keeps h h0 b.toNat d g).1
  intro d hd
  unfold triesZ at hd
  unfold basesZ at hb
  simp only [List.cons_append, List.nil_append, List.mem_cons] at hd hb
  rcases hd with rfl | rfl | rfl | hd
  · exact hb _ (.inr (.inl rfl))
  · exact hi _ (hb _ (.inl rfl))
  · exact hi _ (hb _ (.inr (.inl rfl)))
  · cases hall : (regretZ x l).2 with
    | false => rw [hall] at hd; simp at hd
    | true =>
      rw [hall] at hd
      simp at hd; subst hd
      exact hi _ (hb _ (.inr (.inr (by rw [hall]; simp))))
theorem solveZ_min (x : Inst) : ∀ (ds : List Day) (st : Day × Int × Bool), (st.2.2 = true → (ds.foldl (solveS x) st).2.2 = true ∧ (ds.foldl (solveS x) st).2.1 ≤ st.2.1) ∧ ∀ d ∈ ds, dayT x d = 0 → (ds.foldl (solveS x) st).2.2 = true ∧ (ds.foldl (solveS x) st).2.1 ≤ W (costZ x d)
  | [], st => ⟨fun e => ⟨e, Int.le_refl _⟩, by simp⟩
  | d :: ds, st => by
    rw [List.foldl_cons]
    obtain ⟨h1, h2⟩ := solveZ_min x ds (solveS x st d)
    constructor
    · intro e
      have : (solveS x st d).2.2 = true ∧ (solveS x st d).2.1 ≤ st.2.1 := by
        unfold solveS
        split
        · split
          · rename_i hc
            rcases hc with hc | hc
            · rw [e] at hc; cases hc
            · exact ⟨rfl, Int.le_of_lt hc⟩
          · exact ⟨e, Int.le_refl _⟩
        · exact ⟨e, Int.le_refl _⟩
      obtain ⟨a, b⟩ := h1 this.1
      exact ⟨a, Int.le_trans b this.2⟩
    · intro d2 hd hz
      rcases List.mem_cons.1 hd with rfl | hd
      · have : (solveS x st d2).2.2 = true ∧ (solveS x st d2).2.1 ≤ W (costZ x d2) := by
          unfold solveS
          rw [if_pos hz]
          split
          · exact ⟨rfl, Int.le_refl _⟩
          · rename_i hc
            cases hq : st.2.2 with
            | false => exact absurd (.inl hq) hc
            | true => exact ⟨rfl, Int.not_lt.1 fun q => hc (.inr q)⟩
        obtain ⟨a, b⟩ := h1 this.1
        exact ⟨a, Int.le_trans b this.2⟩
      · exact h2 d2 hd hz
theorem solveR_min {x : Inst} {e : Int} {ds : List Day} (he : e = 0) {d : Day} (hd : d ∈ ds) (hz : dayT x d = 0) : (solveR x e ds).2 = 0 ∧ W (costZ x (solveR x e ds).1) ≤ W (costZ x d) := by
  obtain ⟨h1, h2⟩ := (solveZ_min x ds ([], 0, false)).2 d hd hz
  change (solveZ x ds).2.2 = true at h1
  change (solveZ x ds).2.1 ≤ W (costZ x d) at h2
  unfold solveR
  rw [if_pos he, h1]
  refine ⟨rfl, ?_⟩
  rcases solveZ_mem x ds ([], 0, false) h1 with q | ⟨d2, g1, g2, g3⟩
  · have : (solveZ x ds).2.2 = false := by unfold solveZ; rw [q]
    rw [this] at h1; cases h1
  · have : solveZ x ds = (d2, W (costZ x d2), true) := g3
    rw [this] at h2 ⊢; exact h2
theorem solveR_none {x : Inst} {e : Int} {ds : List Day} (h : (solveR x e ds).2 ≠ 0) : (solveR x e ds).1 = [] := by
  unfold solveR at h ⊢
  by_cases he : e = 0
  · rw [if_pos he] at h ⊢
    cases hz : (solveZ x ds).2.2 with
    | true => rw [hz] at h; exact absurd rfl h
    | false => rfl
  · rw [if_neg he]
theorem apart_mem (x : Inst) (imp : Day → Day) (l : List Stop) : apartD l ∈ triesZ x imp l := by simp [triesZ]
section
variable {x : Inst} {l : List Stop} (h : SOk x l) (h0 : arc x 0 0 = 0) (b : Int)
include h h0
theorem sol_ok : DayOk (solZ x b l).1 ∧ (solZ x b l).1.length ≤ 1000 ∧ (solZ x b l).1.flatten.length ≤ 1000 := by
  by_cases he : (solZ x b l).2 = 0
  · obtain ⟨hf, hm, -⟩ := solveR_mem he
    have g := try_SG h h0 hf b _ hm
    exact ⟨g.ok h, (g.len h).2, (g.len h).1⟩
  · have : (solZ x b l).1 = [] := solveR_none he
    rw [this]; exact ⟨⟨by simp, by simp, by simp⟩, by simp, by simp⟩
theorem sol_more (he : (solZ x 0 l).2 = 0) : (solZ x b l).2 = 0 ∧ W (costZ x (solZ x b l).1) ≤ W (costZ x (solZ x 0 l).1) := by
  obtain ⟨hf, hm, hz⟩ := solveR_mem he
  have key : ∀ d ∈ basesZ x l, dayT x d = 0 → impZ x b d ∈ triesZ x (impZ x b) l → (solZ x b l).2 = 0 ∧ W (costZ x (solZ x b l).1) ≤ W (costZ x d) := by
    intro d hd hz ht
    have g := base_SG h hf d hd
    obtain ⟨g2, hc, hl⟩ := imp_keeps h h0 b.toNat d g
    change SG x l (impZ x b d) at g2
    change costZ x (impZ x b d) ≤ _ at hc
    change (impZ x b d).length ≤ _ at hl
    obtain ⟨z1, z2, z3⟩ := (dayT_zero x d).1 hz
    obtain ⟨a1, a2⟩ := solveR_min hf ht ((dayT_zero x _).2 ⟨g2.may, ((g2.perm.map _).nodup_iff).2 h.nd, by omega⟩)
    refine ⟨a1, Int.le_trans a2 ?_⟩
    have l1 := g.len h
    have l2 := g2.len h
    rw [costZ_W h.arc (by omega) (by omega), costZ_W h.arc (by omega) (by omega)]
    exact hc
  have hmem : ∀ d ∈ triesZ x (impZ x 0) l, dayT x d = 0 → (solZ x b l).2 = 0 ∧ W (costZ x (solZ x b l).1) ≤ W (costZ x d) := by
    intro d hd hz
    unfold triesZ basesZ at key
    unfold triesZ at hd
    simp only [List.cons_append, List.nil_append, List.mem_cons] at hd key
    rcases hd with rfl | rfl | rfl | hd
    · exact solveR_min hf (apart_mem x _ l) hz
    · exact key _ (.inl rfl) hz (.inr (.inl rfl))
    · exact key _ (.inr (.inl rfl)) hz (.inr (.inr (.inl rfl)))
    · cases hall : (regretZ x l).2 with
      | false => rw [hall] at hd; simp at hd
      | true =>
        rw [hall] at hd key
        simp only [cond_true, List.mem_cons, List.not_mem_nil, or_false] at hd key
        subst hd
        exact key _ (.inr (.inr rfl)) hz (.inr (.inr (.inr rfl)))
  exact hmem _ hm hz
end
open Go Go.Proofs Hp
set_option maxRecDepth 20000 in
set_option maxHeartbeats 1600000 in
theorem dayMore_ok (x : Inst) (l : List Stop) (b : Int) (hx : InstOk x) (hl : l.length ≤ 9223372036854775807) (hs : ∀ s ∈ l, StopOk s) (hb : I64 b) : Pure Tryz.prog 6 [.agg (instL x), L l, I b] (B true) := by
  have hc := goodI_cust' x
  have hG := goodI_ok x hx
  have hg := goods_of (n := (goodI x).cust.length) hs
  have hgs := goodS_ok (goodI x) l hl hc hs
  have hsok := sok_of hg
  have hdg := goodI_diag x
  have hlv := lives15_ok
  generalize goodL (goodI x).cust.length [] l = good at *
  generalize goodI x = y at *
  have hab := absq_ok hb
  obtain ⟨m, hm⟩ : ∃ m, m = absq b % 21 := ⟨_, rfl⟩
  have hm0 : (absq b).tmod 21 = m := by rw [hm]; exact Int.tmod_eq_emod_of_nonneg hab.1
  have s1 := solP_ok hsok hdg (b := 0) (by decide)
  have s2 := solP_ok hsok hdg (b := m) (by omega)
  have c1 := costR_ok y _ (sol_ok hsok hdg 0).1
  have c2 := costR_ok y _ (sol_ok hsok hdg m).1
  have hmore := sol_more hsok hdg m
  generalize solZ y 0 good = p at *
  generalize solZ y m good = q at *
  obtain ⟨d1, e1⟩ := p
  obtain ⟨d2, e2⟩ := q
  simp only at s1 s2 c1 c2 hmore
  generalize W (costZ y d1) = k1 at *
  generalize W (costZ y d2) = k2 at *
  refine pwe Tryz.func6 Tryz.ntmps6 Tryz.results6 fun S nx hd => ?_
  repeat refine pw_seq ?_
  refine pwn ?_
  intro v0
  repeat refine pw_seq ?_
  refine pwn ?_
  refine pwc hG ?_
  intro v1
  intros
  repeat refine pw_seq ?_
  refine pwn ?_
  refine pwc hgs ?_
  intros
  repeat refine pw_seq ?_
  refine pwn ?_
  intros
  repeat refine pw_seq ?_
  refine pw_joinK (nx := nx) (σ := Unit) (fun _ => True) (fun _ => [(2, I (absq b)), (7, .ptr (nx + 1) v1 0), (8, L good)]) (fun _ => S) (fun _ => [.cells v0 25 (instL x), .cells v1 25 (instL y)]) ?_ ?_
  · by_cases h0 : b < 0
    · have e : absq b = -(b + 1) := by unfold absq; rw [if_pos h0]
      have hb' := hb
      unfold I64 at hb'
      have w1 : IntKind.i64.wrap (b + 1) = b + 1 := wr _ (by omega) (by omega)
      have w2 : IntKind.i64.wrap (-(b + 1)) = -(b + 1) := wr _ (by omega) (by omega)
      repeat refine pw_seq ?_
      refine pw_ct (by simp [h0]) ?_
      repeat refine pw_seq ?_
      refine pwN [] (jn2 w1 w2) ?_
      intros
      exact at_mk () [] trivial (by simp [e]) rfl (by simp)
    · have e : absq b = b := by unfold absq; rw [if_neg h0]
      repeat refine pw_seq ?_
      refine pw_cf (by simp [h0]) ?_
      refine pw_skip ?_
      exact at_mk () [] trivial (by simp [e]) rfl (by simp)
  · rintro ⟨⟩ -
    repeat refine pw_seq ?_
    refine pwn ?_
    refine pwc s1 ?_
    intro v2
    intros
    repeat refine pw_seq ?_
    refine pwN [] hm0 ?_
    refine pwC [] s2 hm0 ?_
    intro v3
    intros
    repeat refine pw_seq ?_
    refine pwn ?_
    intros
    by_cases he1 : e1 = 0
    case neg =>
      repeat refine pw_seq ?_
      refine pw_ct (by simp [he1]) ?_
      repeat refine pw_seq ?_
      refine pwn ?_
      refine pwc hlv ?_
      intros
      repeat refine pw_seq ?_
      exact pw_ret (ret_pure hd rfl rfl)
    obtain ⟨he2, hk⟩ := hmore he1
    repeat refine pw_seq ?_
    refine pw_cf (by simp [he1]) ?_
    refine pw_skip ?_
    repeat refine pw_seq ?_
    refine pwY (some [nx + 1, nx + 2, nx + 3]) (Row.pures [0, 1, 2, 3, 4, 5, 6, 7, 8, 9, 10, 11, 12, 13, 14] .done) mixed (jn2 he2 hk) ?_
    refine pwP (c2) (jn2 he2 hk) ?_
    refine pwP (c1) (jn2 he2 hk) ?_
    refine pwP (hlv) (jn2 he2 hk) ?_
    intros
    repeat refine pw_seq ?_
    exact pw_ret (ret_pure hd rfl (by simp [he2, hk, oneOf]))
end Go.Proofs.YtafcjklojnhbnaaGreat.Pv
namespace Go.Proofs.YtafcjklojnhbnaaGreat
open Go Go.ChangeShapes Go.WideShapes Go.ChangeAt Go.RowKit Pv
set_option maxRecDepth 100000 in
theorem dayMore_lifted (os : Os) (started : os.Started) (H : Type) (enc : TypeId × Value → H) :
    ReturnsInHanded {} Tryz.checked os 6 .any (Rows.dayMoreSpec.pre6 enc Tryz.prog Tryz.f6 Rows.dayMoreRow.domain false) (Rows.dayMoreSpec.post enc Tryz.prog Tryz.f6 false true false false) := by
  refine returnsInHanded_of_change (C := Tryz.checked) own0 started (by kernel_rfl) Tryz.func6
    (ChangeSpec.witness6 (enc := enc) (C := Tryz.checked) false ⟨#[], #[.agg #[.int .i64 0, .int .i64 0, .int .i64 0, .int .i64 0, .slice none 0 0, .slice none 0 0], .slice none 0 0, .int .i64 0], []⟩ 8 (by kernel_rfl) (by kernel_rfl) (by kernel_rfl) (by kernel_rfl)) ?_
  intro W base args ds gs before hval0 hW hcnd _
  have hval : ∀ (j : Nat) t v, Tryz.f6.params[j]? = some t → args[j]? = some v → Value.okWide Tryz.prog W .any base t v := hval0
  have hW' := hW
  obtain ⟨p, q, hA0, hV, rfl, hfz, hnd⟩ := hW
  have hA : DataW.TrodAll enc Tryz.prog W 0 (fun _ => true) true Tryz.f6.params.toList args.toList ds p := hA0
  rw [Tryz.params6] at hA hval
  obtain ⟨v0, v1, v2, d0, d1, d2, p0, p1, p2, rfl, rfl, rfl, h0, h1, h2⟩ := trodAll_three hA
  obtain ⟨rfl, rfl⟩ := trodVars_none hV
  obtain ⟨c0, rfl, _⟩ := okWide_struct Tryz.underlying25 (hval 0 _ v0 rfl rfl)
  obtain ⟨a0, k0, r0⟩ := rel_agg (opens_inst W) h0
  obtain ⟨b1, n1, m1, rfl⟩ := okWide_slice Tryz.underlying26 (hval 1 _ v1 rfl rfl)
  obtain ⟨a1, k1, r1⟩ := rel_cell (opens_stops W) rfl h1
  have r1 := r1 _ rfl
  obtain ⟨z2, rfl⟩ := okWide_int Tryz.underlying3 (hval 2 _ v2 rfl rfl)
  obtain ⟨a2, k2, r2⟩ := rel_cell ((opens_int Tryz.underlying3 : Opens Tryz.prog W 3 Int I64)) rfl h2
  have r2 := r2 _ rfl
  refine (pure_true ((dayMore_ok a0 a1 a2 k0 k1.1 k1.2 k2)) rfl (fun i c v hc hv => ?_)).mono fun e W' hq => ?_
  · match i with
    | 0 => cases hc; cases hv; exact r0
    | 1 => cases hc; cases hv; exact r1
    | 2 => cases hc; cases hv; exact r2
    | i + 3 => cases hc
  exact ⟨_, hq.1, law_end rfl rfl (of_decide_eq_true (by kernel_rfl)) hW' rfl rfl rfl hq.2⟩
theorem dayMore_holds : Rows.DayMoreSaid :=
  OpenClaim.holds_of_wide 6 Tryz.f6 rfl rfl rfl rfl rfl rfl rfl ⟨rfl, rfl, rfl, rfl, rfl⟩ rfl rfl rfl rfl rfl (by kernel_rfl) Tryz.func6 (by kernel_rfl)
    (of_decide_eq_true (by kernel_rfl)) (by unfold Func.isWrapper; first | (rw [if_pos (by decide +kernel)]; kernel_rfl) | (rw [if_neg (by decide +kernel)]; exact ⟨rfl, rfl⟩))
    (fun os started H enc _ => dayMore_lifted os started H enc)
end Go.Proofs.YtafcjklojnhbnaaGreat
