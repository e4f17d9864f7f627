/- check.Plan and tranterref16.Plan tell the same; Holding, Cost, Days, Tours. -/
import Derived.Test.YtlkcdaeknioanaaGreatLt
namespace Go.Proofs.YtlkcdaeknioanaaGreat.Pv
open Go

def firstE : List Int → Int
  | [] => 0
  | e :: l => if e ≠ 0 then e else firstE l
theorem firstE_zero {l : List Int} (h : ∀ e ∈ l, e = 0) : firstE l = 0 := by
  induction l with
  | nil => rfl
  | cons e l ih => simp only [firstE, h e (by simp), ne_eq, not_true, if_false]; exact ih fun x hx => h x (by simp [hx])
theorem firstE_at {l : List Int} {k : Nat} {e : Int} (h : ∀ e ∈ l.take k, e = 0) (hk : l[k]? = some e) (he : e ≠ 0) : firstE l = e := by
  induction l generalizing k with
  | nil => cases hk
  | cons a l ih =>
    cases k with
    | zero => simp at hk; subst hk; simp [firstE, he]
    | succ k =>
      simp only [firstE, h a (by simp), ne_eq, not_true, if_false]
      exact ih (k := k) (fun x hx => h x (by rw [List.take_succ_cons]; simp [hx])) (by simpa using hk)
theorem firstE_iff (l : List Int) : firstE l = 0 ↔ ∀ e ∈ l, e = 0 := by
  refine ⟨fun h => ?_, firstE_zero⟩
  induction l with
  | nil => intro e he; cases he
  | cons a l ih =>
    simp only [firstE] at h
    split at h
    · rename_i hne; exact absurd h hne
    · rename_i hne
      intro e he
      rcases List.mem_cons.1 he with rfl | he
      · simpa using hne
      · exact ih h e he

def planE (x : Inst) (p : Plan) : Int :=
  if mayI x = false then 3 else if (p.length : Int) ≠ x.days then 1 else if firstE (p.map (dayT x)) ≠ 0 then firstE (p.map (dayT x)) else firstE ((List.range x.cust.length).map (custE x p))

structure PlanSz (p : Plan) : Prop where
  ok : PlanOk p
  f : ∀ d ∈ p, d.flatten.length ≤ 1048576

theorem told_stop : ∀ (p : Plan) (i : Nat) (x : Stop × Nat), x ∈ told i p → ∃ d ∈ p, x.1 ∈ d.flatten
  | [], _, _, h => by cases h
  | d :: p, i, x, h => by
    simp only [told, List.mem_append, List.mem_map] at h
    rcases h with ⟨s, hs, rfl⟩ | h
    · exact ⟨d, by simp, hs⟩
    · obtain ⟨d', h1, h2⟩ := told_stop p (i + 1) x h; exact ⟨d', by simp [h1], h2⟩

theorem day_stops {x : Inst} {d : Day} (h : dayT x d = 0) : ∀ s ∈ d.flatten, goodS x s = true := by
  intro s hs
  obtain ⟨t, ht, hst⟩ := List.mem_flatten.1 hs
  have hm : mayT x t = 0 := by
    unfold dayT at h
    split at h
    · rename_i u hu
      have := List.find?_some hu
      simp [h] at this
    · rename_i hn
      rw [List.find?_eq_none] at hn
      simpa using hn t ht
  have : stopsB x t = true := by
    by_cases q : stopsB x t = true
    · exact q
    · simp [mayT, q] at hm
  unfold stopsB at this
  simp only [Bool.and_eq_true, List.all_eq_true] at this
  exact this.1 s hst

theorem serves_of {x : Inst} {p : Plan} (hp : PlanSz p) (_ : InstOk x) (hm : mayI x = true) (hd : (p.length : Int) = x.days) (h0 : ∀ d ∈ p, dayT x d = 0) : Serves x p := by
  have hdays : 1 ≤ x.days ∧ x.days ≤ 64 := by
    unfold mayI at hm; simp only [Bool.and_eq_true] at hm
    have := hm.1.1.1.1.1.1; simpa [fromB] using this
  refine ⟨hp.ok, fun s hs => ?_, by omega⟩
  obtain ⟨d, hd, hsd⟩ := told_stop p 0 s hs
  have := day_stops (h0 d hd) s.1 hsd
  simp [goodS] at this
  omega

theorem custs_of {x : Inst} (hx : InstOk x) (hm : mayI x = true) : CustsOk x := by
  unfold mayI at hm
  simp only [Bool.and_eq_true, decide_eq_true_eq, List.all_eq_true] at hm
  obtain ⟨⟨⟨⟨⟨⟨_, h1⟩, _⟩, _⟩, _⟩, h2⟩, _⟩ := hm
  have hk : ∀ c ∈ x.cust, c.kind = 1 ∨ c.kind = 2 := fun c hc => by
    have := h2 c hc
    by_cases k1 : c.kind = 1
    · exact .inl k1
    · by_cases k2 : c.kind = 2
      · exact .inr k2
      · rw [custMay0 c _ k1 k2] at this; cases this
  refine ⟨by omega, hk, fun c hc => ?_, fun c hc => ?_, fun c hc => (hx.cust c hc).pats⟩
  · have hb := h2 c hc
    rcases hk c hc with k | k
    · rw [custMay1 c _ k] at hb
      simp only [Bool.and_eq_true, tanklessB, decide_eq_true_eq] at hb
      obtain ⟨_, a, b, c, _⟩ := hb
      exact ⟨by omega, by omega, by omega⟩
    · rw [custMay2 c _ k] at hb
      simp only [Bool.and_eq_true, fromB, decide_eq_true_eq] at hb
      obtain ⟨⟨⟨⟨⟨a, b⟩, c⟩, _⟩, _⟩, _⟩ := hb
      exact ⟨by omega, by omega, by omega⟩
  · have hb := h2 c hc
    rcases hk c hc with k | k
    · rw [custMay1 c _ k] at hb
      simp only [Bool.and_eq_true, patB, fromB, decide_eq_true_eq] at hb
      omega
    · rw [custMay2 c _ k] at hb
      simp only [Bool.and_eq_true, patlessB, decide_eq_true_eq] at hb
      omega

set_option maxRecDepth 20000 in
theorem planP_ok (x : Inst) (p : Plan) (hx : InstOk x) (hp : PlanSz p) : Pure Tryz.prog 10 [.agg (instL x), .agg [L p]] (I (planE x p)) := by
  have hpn := hp.ok.n
  refine pure_enter Tryz.func10 (by rfl) rfl Tryz.ntmps10 (congrArg Array.toList Tryz.results10) (by simp) fun S nx hd => ?_
  repeat refine pw_seq ?_
  refine pw_N [] (by rfl) (by rfl) fun K Gc Gh hK hGc hGh X hX0 hX => ?_
  simp -implicitDefEqProofs [hX0, hX]
  try clear hX0 hX X
  intro v0 v1
  refine hK _ _ _ ?_
  clear hK hGc hGh
  clear K Gc Gh
  repeat refine pw_seq ?_
  refine pw_N [] (by rfl) (by rfl) fun K Gc Gh hK hGc hGh X hX0 hX => ?_
  simp -implicitDefEqProofs [hX]
  try clear hX0 hX X
  refine hGc _ _ _ _ _ _ _ fun hsuf => ((mayIP_ok x hx _).mono ?_).v
  rintro _ _ ⟨rfl, rfl⟩
  refine ⟨_, _, rfl, ?_⟩
  clear hGc hGh
  clear Gc Gh
  refine xs_go hsuf (D := []) (by rfl) fun Gc Gh hGc hGh X hX0 hX => ?_
  simp -implicitDefEqProofs [hX0, hX]
  try clear hX0 hX X
  intros
  refine hK _ _ _ ?_
  clear hK hGc hGh
  clear K Gc Gh
  cases hm : mayI x with
  | false =>
    repeat refine pw_seq ?_
    refine pw_ct (by simp) ?_
    repeat refine pw_seq ?_
    refine pw_N [] (by rfl) (by rfl) fun K Gc Gh hK hGc hGh X hX0 hX => ?_
    simp -implicitDefEqProofs [hX0, hX]
    try clear hX0 hX X
    intros
    refine hK _ _ _ ?_
    clear hK hGc hGh
    clear K Gc Gh
    repeat refine pw_seq ?_
    exact pw_ret (ret_pure hd (by simp; rfl) (by simp [planE, hm, oneOf]))
  | true =>
    have hcs := custs_of hx hm
    have hcn := hcs.n
    repeat refine pw_seq ?_
    refine pw_cf (by simp) ?_
    refine pw_skip ?_
    by_cases hpd : (p.length : Int) = x.days
    case neg =>
      repeat refine pw_seq ?_
      refine pw_N [] (by rfl) (by rfl) fun K Gc Gh hK hGc hGh X hX0 hX => ?_
      simp -implicitDefEqProofs [hX0, hX, hpd]
      try clear hX0 hX X
      intros
      refine hK _ _ _ ?_
      clear hK hGc hGh
      clear K Gc Gh
      repeat refine pw_seq ?_
      refine pw_ct (by simp) ?_
      repeat refine pw_seq ?_
      refine pw_N [] (by rfl) (by rfl) fun K Gc Gh hK hGc hGh X hX0 hX => ?_
      simp -implicitDefEqProofs [hX0, hX]
      try clear hX0 hX X
      intros
      refine hK _ _ _ ?_
      clear hK hGc hGh
      clear K Gc Gh
      repeat refine pw_seq ?_
      exact pw_ret (ret_pure hd (by simp; rfl) (by simp [planE, hm, hpd, oneOf]))
    have hres : planE x p = if firstE (p.map (dayT x)) ≠ 0 then firstE (p.map (dayT x)) else firstE ((List.range x.cust.length).map (custE x p)) := by simp [planE, hm, hpd]
    repeat refine pw_seq ?_
    refine pw_N [] (by rfl) (by rfl) fun K Gc Gh hK hGc hGh X hX0 hX => ?_
    simp -implicitDefEqProofs [hX0, hX, hpd]
    try clear hX0 hX X
    intros
    refine hK _ _ _ ?_
    clear hK hGc hGh
    clear K Gc Gh
    repeat refine pw_seq ?_
    refine pw_cf (by simp) ?_
    refine pw_skip ?_
    repeat refine pw_seq ?_
    refine pw_N [] (by rfl) (by rfl) fun K Gc Gh hK hGc hGh X hX0 hX => ?_
    simp -implicitDefEqProofs [hX0, hX]
    try clear hX0 hX X
    intros
    refine hK _ _ _ ?_
    clear hK hGc hGh
    clear K Gc Gh
    repeat refine pw_seq ?_
    refine pw_joinK (nx := nx) (σ := Unit) (fun _ => ∀ d ∈ p, dayT x d = 0) (fun _ => [(2, .ptr nx v0 0), (3, .ptr (nx + 1) v1 0)]) (fun _ => S) (fun _ => [.cells v0 25 (instL x), .cells v1 30 [L p]]) ?_ ?_
    · refine pw_block (pw_loopL (fun s : Nat => s ≤ p.length ∧ ∀ d ∈ p.take s, dayT x d = 0) (fun k => [(2, .ptr nx v0 0), (3, .ptr (nx + 1) v1 0), (20, L p), (21, I p.length), (22, I k)]) (fun _ => [.cells v0 25 (instL x), .cells v1 30 [L p]]) (fun s => p.length - s) 0 [] (by simp) (by simp [hpd]) (by simp) ?_)
      rintro k ⟨hk, ho⟩
      repeat refine pw_seq ?_
      refine pw_N [] (by rfl) (by rfl) fun K Gc Gh hK hGc hGh X hX0 hX => ?_
      simp -implicitDefEqProofs [hX0, hX]
      try clear hX0 hX X
      intros
      refine hK _ _ _ ?_
      clear hK hGc hGh
      clear K Gc Gh
      repeat refine pw_seq ?_
      refine pw_cond rfl (fun hc => ?_) (fun hc => ?_)
      · simp at hc
        obtain ⟨d, tl, a1, a2, a3, e0⟩ := el1 rfl p k hc
        have hdm := List.mem_of_getElem? a1
        refine pw_skip (pw_seq (pw_block ?_))
        repeat refine pw_seq ?_
        refine pw_N [] (by rfl) (by rfl) fun K Gc Gh hK hGc hGh X hX0 hX => ?_
        simp -implicitDefEqProofs [hX0, hX, hc, e0]
        try clear hX0 hX X
        intro v2
        refine hK _ _ _ ?_
        clear hK hGc hGh
        clear K Gc Gh
        repeat refine pw_seq ?_
        refine pw_N [] (by rfl) (by rfl) fun K Gc Gh hK hGc hGh X hX0 hX => ?_
        simp -implicitDefEqProofs [hX]
        try clear hX0 hX X
        refine hGc _ _ _ _ _ _ _ fun hsuf => ((dayP_ok x d hcn (hp.ok.d d hdm) (hp.ok.t d hdm) (hp.f d hdm) _).mono ?_).v
        rintro _ _ ⟨rfl, rfl⟩
        refine ⟨_, _, rfl, ?_⟩
        clear hGc hGh
        clear Gc Gh
        refine xs_go hsuf (D := []) (by rfl) fun Gc Gh hGc hGh X hX0 hX => ?_
        simp -implicitDefEqProofs [hX0, hX]
        try clear hX0 hX X
        intros
        refine hK _ _ _ ?_
        clear hK hGc hGh
        clear K Gc Gh
        by_cases h0 : dayT x d = 0
        · repeat refine pw_seq ?_
          refine pw_N [] (by rfl) (by rfl) fun K Gc Gh hK hGc hGh X hX0 hX => ?_
          simp -implicitDefEqProofs [hX0, hX, h0]
          try clear hX0 hX X
          intros
          refine hK _ _ _ ?_
          clear hK hGc hGh
          clear K Gc Gh
          repeat refine pw_seq ?_
          refine pw_cf (by simp) ?_
          refine pw_skip ?_
          repeat refine pw_seq ?_
          refine pw_N [] (by rfl) (by rfl) fun K Gc Gh hK hGc hGh X hX0 hX => ?_
          simp -implicitDefEqProofs [hX0, hX]
          try clear hX0 hX X
          intros
          refine hK _ _ _ ?_
          clear hK hGc hGh
          clear K Gc Gh
          exact again_mk (k + 1) [_] ⟨hc, fun e he => by rw [a3] at he; rcases List.mem_append.1 he with he | he; exact ho e he; rw [List.mem_singleton.1 he]; exact h0⟩ (by omega) (by simp [wrN k (by omega)]) rfl rfl
        · have hf : firstE (p.map (dayT x)) = dayT x d := firstE_at (k := k) (fun e he => by rw [← List.map_take] at he; obtain ⟨u, hu, rfl⟩ := List.mem_map.1 he; exact ho u hu) (by rw [List.getElem?_map, a1]; rfl) h0
          repeat refine pw_seq ?_
          refine pw_N [] (by rfl) (by rfl) fun K Gc Gh hK hGc hGh X hX0 hX => ?_
          simp -implicitDefEqProofs [hX0, hX, h0]
          try clear hX0 hX X
          intros
          refine hK _ _ _ ?_
          clear hK hGc hGh
          clear K Gc Gh
          repeat refine pw_seq ?_
          refine pw_ct (by simp) ?_
          repeat refine pw_seq ?_
          refine pw_N [] (by rfl) (by rfl) fun K Gc Gh hK hGc hGh X hX0 hX => ?_
          simp -implicitDefEqProofs [hX0, hX]
          try clear hX0 hX X
          intros
          refine hK _ _ _ ?_
          clear hK hGc hGh
          clear K Gc Gh
          repeat refine pw_seq ?_
          exact pw_ret (ret_pure hd (by simp; rfl) (by rw [hres, hf]; simp [h0, oneOf]))
      · simp at hc
        obtain rfl : k = p.length := by omega
        rw [List.take_length] at ho
        exact pw_exit (at_mk () [] ho (by simp) rfl (by simp))
    intro _ hall
    have hsv := serves_of hp hx hm hpd hall
    have hf0 : firstE (p.map (dayT x)) = 0 := firstE_zero fun e he => by obtain ⟨u, hu, rfl⟩ := List.mem_map.1 he; exact hall u hu
    rw [hf0] at hres
    simp only [ne_eq, not_true, if_false] at hres
    rw [hres]
    repeat refine pw_seq ?_
    refine pw_N [] (by rfl) (by rfl) fun K Gc Gh hK hGc hGh X hX0 hX => ?_
    simp -implicitDefEqProofs [hX0, hX]
    try clear hX0 hX X
    intros
    refine hK _ _ _ ?_
    clear hK hGc hGh
    clear K Gc Gh
    repeat refine pw_seq ?_
    refine pw_block (pw_loopL (fun s : Nat => s ≤ x.cust.length ∧ ∀ i < s, custE x p i = 0) (fun k => [(2, .ptr nx v0 0), (3, .ptr (nx + 1) v1 0), (35, I x.cust.length), (36, I k)]) (fun _ => [.cells v0 25 (instL x), .cells v1 30 [L p]]) (fun s => x.cust.length - s) 0 [] (by simp) (by simp) (by simp) ?_)
    rintro k ⟨hk, ho⟩
    repeat refine pw_seq ?_
    refine pw_N [] (by rfl) (by rfl) fun K Gc Gh hK hGc hGh X hX0 hX => ?_
    simp -implicitDefEqProofs [hX0, hX]
    try clear hX0 hX X
    intros
    refine hK _ _ _ ?_
    clear hK hGc hGh
    clear K Gc Gh
    repeat refine pw_seq ?_
    refine pw_cond rfl (fun hc => ?_) (fun hc => ?_)
    · simp at hc
      refine pw_skip (pw_seq (pw_block ?_))
      repeat refine pw_seq ?_
      refine pw_N [] (by rfl) (by rfl) fun K Gc Gh hK hGc hGh X hX0 hX => ?_
      simp -implicitDefEqProofs [hX0, hX]
      try clear hX0 hX X
      intros
      refine hK _ _ _ ?_
      clear hK hGc hGh
      clear K Gc Gh
      repeat refine pw_seq ?_
      refine pw_N [] (by rfl) (by rfl) fun K Gc Gh hK hGc hGh X hX0 hX => ?_
      simp -implicitDefEqProofs [hX]
      try clear hX0 hX X
      refine hGc _ _ _ _ _ _ _ fun hsuf => ((checkCust_ok x p k hsv hcs hc _).mono ?_).v
      rintro _ _ ⟨rfl, rfl⟩
      refine ⟨_, _, rfl, ?_⟩
      clear hGc hGh
      clear Gc Gh
      refine xs_go hsuf (D := []) (by rfl) fun Gc Gh hGc hGh X hX0 hX => ?_
      simp -implicitDefEqProofs [hX0, hX]
      try clear hX0 hX X
      intros
      refine hK _ _ _ ?_
      clear hK hGc hGh
      clear K Gc Gh
      by_cases h0 : custE x p k = 0
      · repeat refine pw_seq ?_
        refine pw_N [] (by rfl) (by rfl) fun K Gc Gh hK hGc hGh X hX0 hX => ?_
        simp -implicitDefEqProofs [hX0, hX, h0]
        try clear hX0 hX X
        intros
        refine hK _ _ _ ?_
        clear hK hGc hGh
        clear K Gc Gh
        repeat refine pw_seq ?_
        refine pw_cf (by simp) ?_
        refine pw_skip ?_
        repeat refine pw_seq ?_
        refine pw_N [] (by rfl) (by rfl) fun K Gc Gh hK hGc hGh X hX0 hX => ?_
        simp -implicitDefEqProofs [hX0, hX]
        try clear hX0 hX X
        intros
        refine hK _ _ _ ?_
        clear hK hGc hGh
        clear K Gc Gh
        exact again_mk (k + 1) [] ⟨hc, fun i hi => by by_cases q : i = k; rw [q]; exact h0; exact ho i (by omega)⟩ (by omega) (by simp [wrN k (by omega)]) rfl (by simp)
      · have hf : firstE ((List.range x.cust.length).map (custE x p)) = custE x p k := firstE_at (k := k) (fun e he => by rw [← List.map_take] at he; obtain ⟨u, hu, rfl⟩ := List.mem_map.1 he; rw [List.take_range] at hu; have := List.mem_range.1 hu; exact ho u (by omega)) (by rw [List.getElem?_map, List.getElem?_range hc]; rfl) h0
        repeat refine pw_seq ?_
        refine pw_N [] (by rfl) (by rfl) fun K Gc Gh hK hGc hGh X hX0 hX => ?_
        simp -implicitDefEqProofs [hX0, hX, h0]
        try clear hX0 hX X
        intros
        refine hK _ _ _ ?_
        clear hK hGc hGh
        clear K Gc Gh
        repeat refine pw_seq ?_
        refine pw_ct (by simp) ?_
        repeat refine pw_seq ?_
        refine pw_N [] (by rfl) (by rfl) fun K Gc Gh hK hGc hGh X hX0 hX => ?_
        simp -implicitDefEqProofs [hX0, hX]
        try clear hX0 hX X
        intros
        refine hK _ _ _ ?_
        clear hK hGc hGh
        clear K Gc Gh
        repeat refine pw_seq ?_
        exact pw_ret (ret_pure hd (by simp; rfl) (by rw [hf]; rfl))
    · simp at hc
      obtain rfl : k = x.cust.length := by omega
      refine pw_exit ?_
      repeat refine pw_seq ?_
      refine pw_N [] (by rfl) (by rfl) fun K Gc Gh hK hGc hGh X hX0 hX => ?_
      simp -implicitDefEqProofs [hX0, hX]
      try clear hX0 hX X
      intros
      refine hK _ _ _ ?_
      clear hK hGc hGh
      clear K Gc Gh
      repeat refine pw_seq ?_
      exact pw_ret (ret_pure hd (by simp; rfl) (by rw [firstE_zero fun e he => by obtain ⟨u, hu, rfl⟩ := List.mem_map.1 he; exact ho u (List.mem_range.1 hu)]; rfl))

set_option maxRecDepth 20000 in
theorem planR_ok (x : Inst) (p : Plan) (hx : InstOk x) (hp : PlanSz p) : Pure Tryz.prog 11 [.agg (instL x), .agg [L p]] (I (planE x p)) := by
  have hpn := hp.ok.n
  refine pure_enter Tryz.func11 (by rfl) rfl Tryz.ntmps11 (congrArg Array.toList Tryz.results11) (by simp) fun S nx hd => ?_
  repeat refine pw_seq ?_
  refine pw_N [] (by rfl) (by rfl) fun K Gc Gh hK hGc hGh X hX0 hX => ?_
  simp -implicitDefEqProofs [hX0, hX]
  try clear hX0 hX X
  intro v0 v1
  refine hK _ _ _ ?_
  clear hK hGc hGh
  clear K Gc Gh
  repeat refine pw_seq ?_
  refine pw_N [] (by rfl) (by rfl) fun K Gc Gh hK hGc hGh X hX0 hX => ?_
  simp -implicitDefEqProofs [hX]
  try clear hX0 hX X
  refine hGc _ _ _ _ _ _ _ fun hsuf => ((mayIR_ok x hx _).mono ?_).v
  rintro _ _ ⟨rfl, rfl⟩
  refine ⟨_, _, rfl, ?_⟩
  clear hGc hGh
  clear Gc Gh
  refine xs_go hsuf (D := []) (by rfl) fun Gc Gh hGc hGh X hX0 hX => ?_
  simp -implicitDefEqProofs [hX0, hX]
  try clear hX0 hX X
  intros
  refine hK _ _ _ ?_
  clear hK hGc hGh
  clear K Gc Gh
  cases hm : mayI x with
  | false =>
    repeat refine pw_seq ?_
    refine pw_N [] (by rfl) (by rfl) fun K Gc Gh hK hGc hGh X hX0 hX => ?_
    simp -implicitDefEqProofs [hX0, hX]
    try clear hX0 hX X
    intros
    refine hK _ _ _ ?_
    clear hK hGc hGh
    clear K Gc Gh
    repeat refine pw_seq ?_
    refine pw_ct rfl ?_
    repeat refine pw_seq ?_
    refine pw_N [] (by rfl) (by rfl) fun K Gc Gh hK hGc hGh X hX0 hX => ?_
    simp -implicitDefEqProofs [hX0, hX]
    try clear hX0 hX X
    intros
    refine hK _ _ _ ?_
    clear hK hGc hGh
    clear K Gc Gh
    repeat refine pw_seq ?_
    exact pw_ret (ret_pure hd (by simp; rfl) (by simp [planE, hm, oneOf]))
  | true =>
    have hcs := custs_of hx hm
    have hcn := hcs.n
    repeat refine pw_seq ?_
    refine pw_N [] (by rfl) (by rfl) fun K Gc Gh hK hGc hGh X hX0 hX => ?_
    simp -implicitDefEqProofs [hX0, hX]
    try clear hX0 hX X
    intros
    refine hK _ _ _ ?_
    clear hK hGc hGh
    clear K Gc Gh
    repeat refine pw_seq ?_
    refine pw_cf rfl ?_
    refine pw_skip ?_
    by_cases hpd : (p.length : Int) = x.days
    case neg =>
      repeat refine pw_seq ?_
      refine pw_N [] (by rfl) (by rfl) fun K Gc Gh hK hGc hGh X hX0 hX => ?_
      simp -implicitDefEqProofs [hX0, hX, hpd]
      try clear hX0 hX X
      intros
      refine hK _ _ _ ?_
      clear hK hGc hGh
      clear K Gc Gh
      repeat refine pw_seq ?_
      refine pw_ct (by simp) ?_
      repeat refine pw_seq ?_
      refine pw_N [] (by rfl) (by rfl) fun K Gc Gh hK hGc hGh X hX0 hX => ?_
      simp -implicitDefEqProofs [hX0, hX]
      try clear hX0 hX X
      intros
      refine hK _ _ _ ?_
      clear hK hGc hGh
      clear K Gc Gh
      repeat refine pw_seq ?_
      exact pw_ret (ret_pure hd (by simp; rfl) (by simp [planE, hm, hpd, oneOf]))
    have hres : planE x p = if firstE (p.map (dayT x)) ≠ 0 then firstE (p.map (dayT x)) else firstE ((List.range x.cust.length).map (custE x p)) := by simp [planE, hm, hpd]
    repeat refine pw_seq ?_
    refine pw_N [] (by rfl) (by rfl) fun K Gc Gh hK hGc hGh X hX0 hX => ?_
    simp -implicitDefEqProofs [hX0, hX, hpd]
    try clear hX0 hX X
    intros
    refine hK _ _ _ ?_
    clear hK hGc hGh
    clear K Gc Gh
    repeat refine pw_seq ?_
    refine pw_cf (by simp) ?_
    refine pw_skip ?_
    repeat refine pw_seq ?_
    refine pw_N [] (by rfl) (by rfl) fun K Gc Gh hK hGc hGh X hX0 hX => ?_
    simp -implicitDefEqProofs [hX0, hX]
    try clear hX0 hX X
    intros
    refine hK _ _ _ ?_
    clear hK hGc hGh
    clear K Gc Gh
    repeat refine pw_seq ?_
    refine pw_joinK (nx := nx) (σ := Unit) (fun _ => ∀ d ∈ p, dayT x d = 0) (fun _ => [(2, .ptr nx v0 0), (3, .ptr (nx + 1) v1 0)]) (fun _ => S) (fun _ => [.cells v0 25 (instL x), .cells v1 30 [L p]]) ?_ ?_
    · refine pw_block (pw_loopL (fun s : Nat => s ≤ p.length ∧ ∀ d ∈ p.take s, dayT x d = 0) (fun k => [(2, .ptr nx v0 0), (3, .ptr (nx + 1) v1 0), (6, I k)]) (fun _ => [.cells v0 25 (instL x), .cells v1 30 [L p]]) (fun s => p.length - s) 0 [] (by simp) (by simp) (by simp) ?_)
      rintro k ⟨hk, ho⟩
      repeat refine pw_seq ?_
      refine pw_N [] (by rfl) (by rfl) fun K Gc Gh hK hGc hGh X hX0 hX => ?_
      simp -implicitDefEqProofs [hX0, hX]
      try clear hX0 hX X
      intros
      refine hK _ _ _ ?_
      clear hK hGc hGh
      clear K Gc Gh
      repeat refine pw_seq ?_
      refine pw_cond rfl (fun hc => ?_) (fun hc => ?_)
      · simp at hc
        obtain ⟨d, tl, a1, a2, a3, e0⟩ := el1 rfl p k hc
        have hdm := List.mem_of_getElem? a1
        refine pw_skip (pw_seq (pw_block ?_))
        repeat refine pw_seq ?_
        refine pw_Y (some [nx, nx + 1]) (Row.pures [0, 1, 2, 3, 4, 5, 6, 7] .done) mixed (by rfl) (by rfl) (by rfl) fun K Gp Gc Gh hK hGp hGc hGh X hX0 hX1 hX2 hX => ?_
        simp -implicitDefEqProofs [hX2, hc, e0]
        try clear hX0 hX1 hX2 hX X
        refine hGp _ _ _ _ _ _ _ _ (dayR_ok x d hcn (hp.ok.d d hdm) (hp.ok.t d hdm) (hp.f d hdm)) ?_
        clear hGp hGc hGh
        clear Gp Gc Gh
        refine px_go fun Gp Gc Gh hGp hGc hGh X hX0 hX1 hX2 hX => ?_
        simp -implicitDefEqProofs [hX0, hX2]
        try clear hX0 hX1 hX2 hX X
        refine hK _ _ _ ?_
        clear hK hGp hGc hGh
        clear K Gp Gc Gh
        by_cases h0 : dayT x d = 0
        · repeat refine pw_seq ?_
          refine pw_N [] (by rfl) (by rfl) fun K Gc Gh hK hGc hGh X hX0 hX => ?_
          simp -implicitDefEqProofs [hX0, hX, h0]
          try clear hX0 hX X
          intros
          refine hK _ _ _ ?_
          clear hK hGc hGh
          clear K Gc Gh
          repeat refine pw_seq ?_
          refine pw_cf (by simp) ?_
          refine pw_skip ?_
          repeat refine pw_seq ?_
          refine pw_N [] (by rfl) (by rfl) fun K Gc Gh hK hGc hGh X hX0 hX => ?_
          simp -implicitDefEqProofs [hX0, hX]
          try clear hX0 hX X
          intros
          refine hK _ _ _ ?_
          clear hK hGc hGh
          clear K Gc Gh
          exact again_mk (k + 1) [] ⟨hc, fun e he => by rw [a3] at he; rcases List.mem_append.1 he with he | he; exact ho e he; rw [List.mem_singleton.1 he]; exact h0⟩ (by omega) (by simp [wrN k (by omega)]) rfl (by simp)
        · have hf : firstE (p.map (dayT x)) = dayT x d := firstE_at (k := k) (fun e he => by rw [← List.map_take] at he; obtain ⟨u, hu, rfl⟩ := List.mem_map.1 he; exact ho u hu) (by rw [List.getElem?_map, a1]; rfl) h0
          repeat refine pw_seq ?_
          refine pw_N [] (by rfl) (by rfl) fun K Gc Gh hK hGc hGh X hX0 hX => ?_
          simp -implicitDefEqProofs [hX0, hX, h0]
          try clear hX0 hX X
          intros
          refine hK _ _ _ ?_
          clear hK hGc hGh
          clear K Gc Gh
          repeat refine pw_seq ?_
          refine pw_ct (by simp) ?_
          repeat refine pw_seq ?_
          refine pw_N [] (by rfl) (by rfl) fun K Gc Gh hK hGc hGh X hX0 hX => ?_
          simp -implicitDefEqProofs [hX0, hX]
          try clear hX0 hX X
          intros
          refine hK _ _ _ ?_
          clear hK hGc hGh
          clear K Gc Gh
          repeat refine pw_seq ?_
          exact pw_ret (ret_pure hd (by simp; rfl) (by rw [hres, hf]; simp [h0, oneOf]))
      · simp at hc
        obtain rfl : k = p.length := by omega
        rw [List.take_length] at ho
        exact pw_exit (at_mk () [] ho (by simp) rfl (by simp))
    intro _ hall
    have hsv := serves_of hp hx hm hpd hall
    have hf0 : firstE (p.map (dayT x)) = 0 := firstE_zero fun e he => by obtain ⟨u, hu, rfl⟩ := List.mem_map.1 he; exact hall u hu
    rw [hf0] at hres
    simp only [ne_eq, not_true, if_false] at hres
    rw [hres]
    repeat refine pw_seq ?_
    refine pw_N [] (by rfl) (by rfl) fun K Gc Gh hK hGc hGh X hX0 hX => ?_
    simp -implicitDefEqProofs [hX0, hX]
    try clear hX0 hX X
    intros
    refine hK _ _ _ ?_
    clear hK hGc hGh
    clear K Gc Gh
    repeat refine pw_seq ?_
    refine pw_block (pw_loopL (fun s : Nat => s ≤ x.cust.length ∧ ∀ i < s, custE x p i = 0) (fun k => [(2, .ptr nx v0 0), (3, .ptr (nx + 1) v1 0), (8, I k)]) (fun _ => [.cells v0 25 (instL x), .cells v1 30 [L p]]) (fun s => x.cust.length - s) 0 [] (by simp) (by simp) (by simp) ?_)
    rintro k ⟨hk, ho⟩
    repeat refine pw_seq ?_
    refine pw_N [] (by rfl) (by rfl) fun K Gc Gh hK hGc hGh X hX0 hX => ?_
    simp -implicitDefEqProofs [hX0, hX]
    try clear hX0 hX X
    intros
    refine hK _ _ _ ?_
    clear hK hGc hGh
    clear K Gc Gh
    repeat refine pw_seq ?_
    refine pw_cond rfl (fun hc => ?_) (fun hc => ?_)
    · simp at hc
      refine pw_skip (pw_seq (pw_block ?_))
      repeat refine pw_seq ?_
      refine pw_N [] (by rfl) (by rfl) fun K Gc Gh hK hGc hGh X hX0 hX => ?_
      simp -implicitDefEqProofs [hX]
      try clear hX0 hX X
      refine hGc _ _ _ _ _ _ _ fun hsuf => ((refCust_ok x p k hsv hcs hc _).mono ?_).v
      rintro _ _ ⟨rfl, rfl⟩
      refine ⟨_, _, rfl, ?_⟩
      clear hGc hGh
      clear Gc Gh
      refine xs_go hsuf (D := []) (by rfl) fun Gc Gh hGc hGh X hX0 hX => ?_
      simp -implicitDefEqProofs [hX0, hX]
      try clear hX0 hX X
      intros
      refine hK _ _ _ ?_
      clear hK hGc hGh
      clear K Gc Gh
      by_cases h0 : custE x p k = 0
      · repeat refine pw_seq ?_
        refine pw_N [] (by rfl) (by rfl) fun K Gc Gh hK hGc hGh X hX0 hX => ?_
        simp -implicitDefEqProofs [hX0, hX, h0]
        try clear hX0 hX X
        intros
        refine hK _ _ _ ?_
        clear hK hGc hGh
        clear K Gc Gh
        repeat refine pw_seq ?_
        refine pw_cf (by simp) ?_
        refine pw_skip ?_
        repeat refine pw_seq ?_
        refine pw_N [] (by rfl) (by rfl) fun K Gc Gh hK hGc hGh X hX0 hX => ?_
        simp -implicitDefEqProofs [hX0, hX]
        try clear hX0 hX X
        intros
        refine hK _ _ _ ?_
        clear hK hGc hGh
        clear K Gc Gh
        exact again_mk (k + 1) [] ⟨hc, fun i hi => by by_cases q : i = k; rw [q]; exact h0; exact ho i (by omega)⟩ (by omega) (by simp [wrN k (by omega)]) rfl (by simp)
      · have hf : firstE ((List.range x.cust.length).map (custE x p)) = custE x p k := firstE_at (k := k) (fun e he => by rw [← List.map_take] at he; obtain ⟨u, hu, rfl⟩ := List.mem_map.1 he; rw [List.take_range] at hu; have := List.mem_range.1 hu; exact ho u (by omega)) (by rw [List.getElem?_map, List.getElem?_range hc]; rfl) h0
        repeat refine pw_seq ?_
        refine pw_N [] (by rfl) (by rfl) fun K Gc Gh hK hGc hGh X hX0 hX => ?_
        simp -implicitDefEqProofs [hX0, hX, h0]
        try clear hX0 hX X
        intros
        refine hK _ _ _ ?_
        clear hK hGc hGh
        clear K Gc Gh
        repeat refine pw_seq ?_
        refine pw_ct (by simp) ?_
        repeat refine pw_seq ?_
        refine pw_N [] (by rfl) (by rfl) fun K Gc Gh hK hGc hGh X hX0 hX => ?_
        simp -implicitDefEqProofs [hX0, hX]
        try clear hX0 hX X
        intros
        refine hK _ _ _ ?_
        clear hK hGc hGh
        clear K Gc Gh
        repeat refine pw_seq ?_
        exact pw_ret (ret_pure hd (by simp; rfl) (by rw [hf]; rfl))
    · simp at hc
      obtain rfl : k = x.cust.length := by omega
      refine pw_exit ?_
      repeat refine pw_seq ?_
      refine pw_N [] (by rfl) (by rfl) fun K Gc Gh hK hGc hGh X hX0 hX => ?_
      simp -implicitDefEqProofs [hX0, hX]
      try clear hX0 hX X
      intros
      refine hK _ _ _ ?_
      clear hK hGc hGh
      clear K Gc Gh
      repeat refine pw_seq ?_
      exact pw_ret (ret_pure hd (by simp; rfl) (by rw [firstE_zero fun e he => by obtain ⟨u, hu, rfl⟩ := List.mem_map.1 he; exact ho u (List.mem_range.1 hu)]; rfl))

end Go.Proofs.YtlkcdaeknioanaaGreat.Pv
