/- Ghost layer, part 9: regions that draw their order. -/
import Derived.Test.YtdmmihkmcennpaaGh
namespace Go.Proofs.Ytdmmihkmcennpaa.Pv
open Go

/-- The operations that an operation comes behind, at once. -/
def edgesOf (o : Oper) : List Nat := (o.after.toList.filter (Region.binds .any)).map (·.on)

/-- The slots that an operation reads. -/
def readsOf (ops : Array Oper) (o : Oper) : List Nat :=
  (o.op.operands.toList.filterMap fun | .tmp t => some t | _ => none) ++
  (match o.guard with
    | none => []
    | some (j, _) => match (ops[j]?).bind (·.dst) with | some d => [d] | none => [])

/-- All that each operation comes behind. -/
def ancs : List Oper → List (List Nat) → List (List Nat)
  | [], acc => acc
  | o :: os, acc => ancs os (acc ++ [((edgesOf o).flatMap fun e => e :: acc.getD e []).eraseDups])

def ancOf (ops : Array Oper) : List (List Nat) := ancs ops.toList []

def pairOk (ops : Array Oper) (A : List (List Nat)) (i j : Nat) : Bool :=
  match ops[i]?, ops[j]? with
  | some oi, some oj =>
    match oj.dst with
    | none => true
    | some d =>
      if i = j then !(readsOf ops oi).contains d
      else decide (oi.dst ≠ some d) && (!(readsOf ops oi).contains d || (if j < i then (A.getD i []).contains j else (A.getD j []).contains i))
  | _, _ => true

def regOk (ops : Array Oper) : Bool :=
  let A := ancOf ops
  (List.range ops.size).all fun i =>
    (match ops[i]? with | some o => (edgesOf o).all (· < i) | none => true) &&
    (List.range ops.size).all fun j => pairOk ops A i j

/-- In which row the operations are looked at: those that turn nothing, one behind the other; where the others may come in more than one row, each of these. -/
inductive Row where
  | done
  | pure (i : Nat) (r : Row)
  | alt (i : Nat) (r more : Row)
  | stop

/-- A row of operations that turn nothing. -/
def Row.pures : List Nat → Row → Row
  | [], r => r
  | i :: is, r => .pure i (Row.pures is r)

/-- Does a row begin with operations that may turn objects? -/
def Row.chain : Row → Bool
  | .alt _ _ _ => true
  | .stop => true
  | _ => false

def readyIn (ops : Array Oper) (pre : List Nat) (i : Nat) : Bool :=
  match ops[i]? with
  | some o => (edgesOf o).all (pre.contains ·) && !pre.contains i
  | none => false

/-- A fit row: each behind what it must come behind; where an operation may turn objects, all that may come there are looked at. -/
def rowOk (ops : Array Oper) : List Nat → List Nat → Row → Bool
  | pre, _, .done => (List.range ops.size).all (pre.contains ·)
  | pre, _, .pure i r => readyIn ops pre i && rowOk ops (i :: pre) [] r
  | pre, acc, .alt i r more => readyIn ops pre i && rowOk ops (i :: pre) [] r && rowOk ops pre (i :: acc) more && more.chain
  | pre, acc, .stop => !acc.isEmpty && (List.range ops.size).all fun j => pre.contains j || acc.contains j || !readyIn ops pre j

def Closed (ops : Array Oper) (L : Nat → Prop) : Prop := ∀ j o, L j → ops[j]? = some o → ∀ e ∈ edgesOf o, L e

theorem ancs_len : ∀ (l : List Oper) (acc : List (List Nat)), (ancs l acc).length = acc.length + l.length
  | [], acc => by simp [ancs]
  | o :: os, acc => by simp only [ancs, ancs_len os, List.length_append, List.length_cons, List.length_nil]; omega

/-- What an operation comes behind lies in whatever holds all that it comes behind at once, and is closed. -/
theorem ancs_spec (L : Nat → Prop) (whole : List Oper) (hL : ∀ j o, L j → whole[j]? = some o → ∀ e ∈ edgesOf o, L e) :
    ∀ (l : List Oper) (pre : List Oper) (acc : List (List Nat)), whole = pre ++ l → acc.length = pre.length →
      (∀ (j : Nat) (o : List Nat), acc[j]? = some o → ∀ p, whole[j]? = some p → (∀ e ∈ edgesOf p, L e) → ∀ k ∈ o, L k) →
      ∀ (j : Nat) (o : List Nat), (ancs l acc)[j]? = some o → ∀ p, whole[j]? = some p → (∀ e ∈ edgesOf p, L e) → ∀ k ∈ o, L k
  | [], _, _, _, _, h => h
  | x :: xs, pre, acc, hw, hl, h => by
    simp only [ancs]
    refine ancs_spec L whole hL xs (pre ++ [x]) _ (by rw [hw]; simp) (by simp [hl]) ?_
    intro j o hj p hp he k hk
    by_cases hlt : j < acc.length
    · rw [List.getElem?_append_left hlt] at hj
      exact h j o hj p hp he k hk
    · rw [List.getElem?_append_right (by omega)] at hj
      have hje : j = acc.length := by
        rcases Nat.lt_or_ge (j - acc.length) 1 with q | q
        · omega
        · rw [List.getElem?_eq_none (by simpa using q)] at hj; cases hj
      subst hje
      simp only [Nat.sub_self, List.getElem?_cons_zero, Option.some.injEq] at hj
      subst hj
      have hpx : p = x := by
        rw [hw, List.getElem?_append_right (by omega), hl, Nat.sub_self] at hp
        simpa using hp.symm
      subst hpx
      rw [List.mem_eraseDups, List.mem_flatMap] at hk
      obtain ⟨e, heM, hk⟩ := hk
      rw [List.mem_cons] at hk
      rcases hk with rfl | hk
      · exact he k heM
      · cases hg : acc[e]? with
        | none => rw [List.getD_eq_getElem?_getD, hg] at hk; cases hk
        | some ae =>
          rw [List.getD_eq_getElem?_getD, hg] at hk
          have hew : ∃ q, whole[e]? = some q := by
            have : e < acc.length := (List.getElem?_eq_some_iff.1 hg).1
            exact ⟨_, List.getElem?_eq_getElem (by rw [hw]; simp; omega)⟩
          obtain ⟨q, hq⟩ := hew
          exact h e ae hg q hq (hL e q (he e heM) hq) k hk

theorem anc_mem {ops : Array Oper} {L : Nat → Prop} (hL : Closed ops L) {j : Nat} {o : Oper} (ho : ops[j]? = some o) (he : ∀ e ∈ edgesOf o, L e) {k : Nat} (hk : k ∈ (ancOf ops).getD j []) : L k := by
  have := ancs_spec L ops.toList (fun j o h1 h2 => hL j o h1 (by rw [← Array.getElem?_toList]; exact h2)) ops.toList [] [] (by simp) rfl (fun j o h => by cases h)
  cases hg : (ancOf ops)[j]? with
  | none => rw [List.getD_eq_getElem?_getD, hg] at hk; cases hk
  | some x =>
    rw [List.getD_eq_getElem?_getD, hg] at hk
    exact this j x hg o (by rw [Array.getElem?_toList]; exact ho) he k hk

section
variable {P : Program} {r : Option Nat} {n N : Nat} {Q : Exit → (Nat → PV) → Store → Prop} {F : Nat → PV} {S : Store}

/-- What is left as it was while the region runs: all, or these objects. -/
def Agree (ids : Option (List Nat)) (S0 S : Store) : Prop :=
  match ids with
  | none => S = S0
  | some l => ∀ x ∈ l, S x = S0 x

/-- A load from what is left as it was. -/
def loadT (P : Program) (ids : Option (List Nat)) (S0 : Store) (F : Nat → PV) (o : Oper) : Option PV :=
  match o.op with
  | .load t x =>
    match ev F x with
    | .ptr id ver off =>
      match ids with
      | none => loadP P t S0 (.ptr id ver off)
      | some l => if id ∈ l then loadP P t S0 (.ptr id ver off) else none
    | _ => none
  | _ => none

theorem loadT_sound {ids : Option (List Nat)} {S0 : Store} {o : Oper} {p : PV} (h : loadT P ids S0 F o = some p) (S' : Store) (hS : Agree ids S0 S') : PO P r n o F S' (fun q S'' => q = p ∧ S'' = S') := by
  unfold loadT at h
  split at h
  · rename_i t x ho
    split at h
    · rename_i id ver off hx
      have hl : loadP P t S' (.ptr id ver off) = some p := by
        cases ids with
        | none => cases hS; exact h
        | some l =>
          simp only at h
          split at h
          · rename_i hm
            have := hS id hm
            unfold loadP at h ⊢
            simp only [this] at h ⊢
            exact h
          · cases h
      exact PO_S (p := p) (S' := S') (by unfold popS; rw [ho]; simp only [hx, hl, Option.map_some]) ⟨rfl, rfl⟩
    · cases h
  · cases h

/-- The operations in a fit row: most of them turn nothing and look at no object that is turned; the others one behind the other. -/
def PX (P : Program) (r : Option Nat) (n : Nat) (ops : Array Oper) (ids : Option (List Nat)) (S0 : Store) : Row → (Nat → PV) → Store → ((Nat → PV) → Store → Prop) → Prop
  | .done, F, S, K => K F S
  | .stop, _, _, _ => True
  | .pure i is, F, S, K =>
    match ops[i]? with
    | none => False
    | some o =>
      match gd ops F o with
      | none => False
      | some false => PX P r n ops ids S0 is (updO F o.dst (.sc undef)) S K
      | some true =>
        match popI P F o with
        | some p => PX P r n ops ids S0 is (updO F o.dst p) S K
        | none =>
          match loadT P ids S0 F o with
          | some p => PX P r n ops ids S0 is (updO F o.dst p) S K
          | none => ∃ p, (∀ S', Agree ids S0 S' → PO P r n o F S' (fun q S'' => q = p ∧ S'' = S')) ∧ PX P r n ops ids S0 is (updO F o.dst p) S K
  | .alt i is more, F, S, K =>
    (match ops[i]? with
    | none => False
    | some o =>
      match gd ops F o with
      | none => False
      | some false => PX P r n ops ids S0 is (updO F o.dst (.sc undef)) S K
      | some true =>
        match popS P F S o with
        | some (p, S') => Agree ids S0 S' ∧ PX P r n ops ids S0 is (updO F o.dst p) S' K
        | none => PO P r n o F S (fun p S' => Agree ids S0 S' ∧ PX P r n ops ids S0 is (updO F o.dst p) S' K)) ∧
    PX P r n ops ids S0 more F S K

/-- What slot t holds, as operation j meets it. -/
def Sees (ops : Array Oper) (val : Nat → PV) (F0 : Nat → PV) (j : Nat) (o : Oper) (G : Nat → PV) : Prop :=
  ∀ t ∈ readsOf ops o, (∀ j' o', ops[j']? = some o' → o'.dst = some t → j' < j → G t = val j') ∧ ((∀ j' o', ops[j']? = some o' → o'.dst = some t → ¬ j' < j) → G t = F0 t)

/-- The frame when the operations of L have been carried out. -/
def Frm (ops : Array Oper) (val : Nat → PV) (F0 : Nat → PV) (L : Nat → Prop) (G : Nat → PV) : Prop :=
  ∀ t, (∀ j o, L j → ops[j]? = some o → o.dst = some t → G t = val j) ∧ ((∀ j o, L j → ops[j]? = some o → o.dst ≠ some t) → G t = F0 t)

structure RegOk (ops : Array Oper) : Prop where
  edge : ∀ (i : Nat) (o : Oper), ops[i]? = some o → ∀ e ∈ edgesOf o, e < i
  dst : ∀ (i j : Nat) (oi oj : Oper) (d : Nat), ops[i]? = some oi → ops[j]? = some oj → i ≠ j → oi.dst = some d → oj.dst ≠ some d
  self : ∀ (i : Nat) (o : Oper) (d : Nat), ops[i]? = some o → o.dst = some d → d ∉ readsOf ops o
  before : ∀ (i j : Nat) (oi oj : Oper) (d : Nat), ops[i]? = some oi → ops[j]? = some oj → oj.dst = some d → d ∈ readsOf ops oi → j < i → j ∈ (ancOf ops).getD i []
  behind : ∀ (i j : Nat) (oi oj : Oper) (d : Nat), ops[i]? = some oi → ops[j]? = some oj → oj.dst = some d → d ∈ readsOf ops oi → i < j → i ∈ (ancOf ops).getD j []

theorem regOk_spec {ops : Array Oper} (h : regOk ops = true) : RegOk ops := by
  unfold regOk at h
  simp only [List.all_eq_true, List.mem_range, Bool.and_eq_true] at h
  have lt : ∀ {i o}, ops[i]? = some o → i < ops.size := fun h => (Array.getElem?_eq_some_iff.1 h).1
  have pair : ∀ {i j oi oj d}, ops[i]? = some oi → ops[j]? = some oj → oj.dst = some d →
      (if i = j then !(readsOf ops oi).contains d else decide (oi.dst ≠ some d) && (!(readsOf ops oi).contains d || (if j < i then ((ancOf ops).getD i []).contains j else ((ancOf ops).getD j []).contains i))) = true := by
    intro i j oi oj d hi hj hd
    have := (h i (lt hi)).2 j (lt hj)
    unfold pairOk at this
    rw [hi, hj] at this
    simp only [hd] at this
    exact this
  refine ⟨?_, ?_, ?_, ?_, ?_⟩
  · intro i o hi e he
    have := (h i (lt hi)).1
    rw [hi] at this
    simp only [List.all_eq_true, decide_eq_true_eq] at this
    exact this e he
  · intro i j oi oj d hi hj hne hd hd'
    have := pair hi hj hd'
    rw [if_neg hne] at this
    simp [hd] at this
  · intro i o d hi hd hmem
    have := pair hi hi hd
    rw [if_pos rfl] at this
    simp [hmem] at this
  · intro i j oi oj d hi hj hd hmem hlt
    have := pair hi hj hd
    rw [if_neg (by omega)] at this
    simp only [Bool.and_eq_true, Bool.or_eq_true] at this
    rcases this.2 with q | q
    · simp [hmem] at q
    · rw [if_pos hlt] at q; simpa using q
  · intro i j oi oj d hi hj hd hmem hlt
    have := pair hi hj hd
    rw [if_neg (by omega)] at this
    simp only [Bool.and_eq_true, Bool.or_eq_true] at this
    rcases this.2 with q | q
    · simp [hmem] at q
    · rw [if_neg (by omega)] at q; simpa using q

theorem sees_of_frm {ops : Array Oper} (R : RegOk ops) {val F0 G : Nat → PV} {L : Nat → Prop} (hL : Closed ops L) (hG : Frm ops val F0 L G) {i : Nat} {o : Oper} (hi : ops[i]? = some o) (hn : ¬ L i)
    (he : ∀ e ∈ edgesOf o, L e) : Sees ops val F0 i o G := by
  intro t ht
  refine ⟨fun j o' hj hd hlt => ?_, fun hno => ?_⟩
  · exact (hG t).1 j o' (anc_mem hL hi he (R.before i j o o' t hi hj hd ht hlt)) hj hd
  · refine (hG t).2 fun j o' hLj hj hd => ?_
    have h1 := hno j o' hj hd
    rcases Nat.lt_or_ge i j with q | q
    · exact hn (anc_mem hL hj (hL j o' hLj hj) (R.behind i j o o' t hi hj hd ht q))
    · have : i = j := by omega
      subst this
      rw [hi] at hj; cases hj
      exact R.self i o t hi hd ht

theorem sees_eq {ops : Array Oper} {val F0 G G' : Nat → PV} {i : Nat} {o : Oper} (h : Sees ops val F0 i o G) (h' : Sees ops val F0 i o G') : ∀ t ∈ readsOf ops o, G t = G' t := by
  intro t ht
  by_cases hx : ∃ j o', ops[j]? = some o' ∧ o'.dst = some t ∧ j < i
  · obtain ⟨j, o', h1, h2, h3⟩ := hx
    rw [(h t ht).1 j o' h1 h2 h3, (h' t ht).1 j o' h1 h2 h3]
  · have hno : ∀ j' o', ops[j']? = some o' → o'.dst = some t → ¬ j' < i := fun j' o' h1 h2 h3 => hx ⟨j', o', h1, h2, h3⟩
    rw [(h t ht).2 hno, (h' t ht).2 hno]

theorem ev_of_reads {ops : Array Oper} {o : Oper} {G G' : Nat → PV} (h : ∀ t ∈ readsOf ops o, G t = G' t) : ∀ x ∈ o.op.operands, ev G x = ev G' x := by
  intro x hx
  cases x with
  | tmp t =>
    refine h t ?_
    unfold readsOf
    rw [List.mem_append]
    left
    rw [List.mem_filterMap]
    exact ⟨.tmp t, Array.mem_toList_iff.2 hx, rfl⟩
  | _ => rfl

theorem gd_of_reads {ops : Array Oper} {o : Oper} {G G' : Nat → PV} (h : ∀ t ∈ readsOf ops o, G t = G' t) : gd ops G o = gd ops G' o := by
  unfold gd
  unfold readsOf at h
  cases hg : o.guard with
  | none => rfl
  | some jw =>
    obtain ⟨j, want⟩ := jw
    simp only [hg] at h ⊢
    cases hd : (ops[j]?).bind (·.dst) with
    | none => rfl
    | some d =>
      simp only [hd] at h ⊢
      rw [h d (by simp)]

/-- An operation that has been looked at ahead, whatever the real order. -/
def Evid (P : Program) (r : Option Nat) (n : Nat) (ops : Array Oper) (T : Store → Prop) (val F0 : Nat → PV) (j : Nat) : Prop :=
  ∃ o, ops[j]? = some o ∧ ∀ G, Sees ops val F0 j o G → (gd ops G o = some false ∧ val j = .sc undef) ∨ (gd ops G o = some true ∧ ∀ S', T S' → PO P r n o G S' (fun q S'' => q = val j ∧ S'' = S'))

theorem po_agree {o : Oper} {F G : Nat → PV} {S : Store} {K : PV → Store → Prop} (h : PO P r n o F S K) (hG : ∀ x ∈ o.op.operands, ev G x = ev F x) : PO P r n o G S K :=
  fun G' hG' => h G' (fun x hx => (hG' x hx).trans (hG x hx))

theorem frm_more {ops : Array Oper} (R : RegOk ops) {val F0 G : Nat → PV} {L : Nat → Prop} (h : Frm ops val F0 L G) {i : Nat} {o : Oper} (hi : ops[i]? = some o) {p : PV} {val' : Nat → PV} (hp : val' i = p) (hv : ∀ j, L j → val' j = val j) :
    Frm ops val' F0 (fun j => j = i ∨ L j) (updO G o.dst p) := by
  intro t
  by_cases hd : o.dst = some t
  · rw [hd]
    simp only [updO, upd, if_pos]
    refine ⟨fun j oj hj ho hdj => ?_, fun hno => absurd hd (hno i o (.inl rfl) hi)⟩
    rcases hj with rfl | hj
    · exact hp.symm
    · by_cases hne : j = i
      · subst hne; exact hp.symm
      · exact absurd hdj (R.dst i j o oj t hi ho (fun e => hne e.symm) hd)
  · have e : updO G o.dst p t = G t := by
      cases hq : o.dst with
      | none => rfl
      | some d => simp only [updO, upd]; rw [if_neg (fun e => hd (by rw [hq, e]))]
    rw [e]
    refine ⟨fun j oj hj ho hdj => ?_, fun hno => (h t).2 fun j oj hj ho => hno j oj (.inr hj) ho⟩
    rcases hj with rfl | hj
    · rw [hi] at ho; cases ho; exact absurd hdj hd
    · rw [hv j hj]; exact (h t).1 j oj hj ho hdj

theorem evid_same {ops : Array Oper} (R : RegOk ops) {T : Store → Prop} {val val' F0 : Nat → PV} {L : Nat → Prop} (hL : Closed ops L) (hv : ∀ j, L j → val' j = val j) {j : Nat} (hj : L j) (h : Evid P r n ops T val F0 j) : Evid P r n ops T val' F0 j := by
  obtain ⟨o, ho, h⟩ := h
  refine ⟨o, ho, fun G hG => ?_⟩
  rw [hv j hj]
  refine h G fun t ht => ⟨fun j' o' h1 h2 h3 => ?_, (hG t ht).2⟩
  have hl : L j' := anc_mem hL ho (hL j o hj ho) (R.before j j' o o' t ho h1 h2 ht h3)
  rw [← hv j' hl]
  exact (hG t ht).1 j' o' h1 h2 h3

/-- Where the real run and the pure one stand. -/
structure Mid (P : Program) (r : Option Nat) (n : Nat) (ops : Array Oper) (ids : Option (List Nat)) (S0 : Store) (F0 : Nat → PV) (K : (Nat → PV) → Store → Prop) (E : Nat → Prop) (G : Nat → PV) (S : Store) (val : Nat → PV) (pre : List Nat) (row : Row) (Fp : Nat → PV) : Prop where
  closedE : Closed ops E
  closedP : Closed ops (· ∈ pre)
  frmE : Frm ops val F0 E G
  frmP : Frm ops val F0 (· ∈ pre) Fp
  sub : ∀ j, E j → j ∈ pre
  evid : ∀ j, j ∈ pre → ¬ E j → Evid P r n ops (Agree ids S0) val F0 j
  px : PX P r n ops ids S0 row Fp S K
  row : rowOk ops pre [] row = true
  t : Agree ids S0 S

theorem readyIn_spec {ops : Array Oper} {pre : List Nat} {i : Nat} (h : readyIn ops pre i = true) : ∃ o, ops[i]? = some o ∧ (∀ e ∈ edgesOf o, e ∈ pre) ∧ i ∉ pre := by
  unfold readyIn at h
  cases ho : ops[i]? with
  | none => rw [ho] at h; cases h
  | some o =>
    rw [ho] at h
    simp only [Bool.and_eq_true, List.all_eq_true] at h
    exact ⟨o, rfl, fun e he => by simpa using h.1 e he, by simpa using h.2⟩

/-- The pure run takes one operation ahead that turns nothing. -/
theorem mid_ahead {ops : Array Oper} (R : RegOk ops) {ids : Option (List Nat)} {S0 : Store} {F0 : Nat → PV} {K : (Nat → PV) → Store → Prop} {E : Nat → Prop} {G Fp : Nat → PV} {val : Nat → PV} {pre : List Nat} {rest : Row} {i : Nat} {o : Oper}
    (h : Mid P r n ops ids S0 F0 K E G S val pre (.pure i rest) Fp) (ho : ops[i]? = some o) {p : PV} (hx : PX P r n ops ids S0 rest (updO Fp o.dst p) S K)
    (hev : (gd ops Fp o = some false ∧ p = .sc undef) ∨ (gd ops Fp o = some true ∧ ∀ S', Agree ids S0 S' → PO P r n o Fp S' (fun q S'' => q = p ∧ S'' = S'))) :
    Mid P r n ops ids S0 F0 K E G S (fun j => if j = i then p else val j) (i :: pre) rest (updO Fp o.dst p) := by
  have hrow0 := h.row
  simp only [rowOk, Bool.and_eq_true] at hrow0
  obtain ⟨o', ho', hedge, hni⟩ := readyIn_spec hrow0.1
  rw [ho] at ho'; cases ho'
  have hnE : ∀ j, E j → j ≠ i := fun j hj e => hni (e ▸ h.sub j hj)
  have hclP : Closed ops (· ∈ i :: pre) := by
    intro j oj hj hoj e he
    rw [List.mem_cons] at hj ⊢
    rcases hj with rfl | hj
    · rw [ho] at hoj; cases hoj; exact .inr (hedge e he)
    · exact .inr (h.closedP j oj hj hoj e he)
  have hval : ∀ j, j ∈ pre → (fun j => if j = i then p else val j) j = val j := fun j hj => if_neg (fun (e : j = i) => hni (e ▸ hj))
  refine ⟨h.closedE, hclP, ?_, ?_, fun j hj => List.mem_cons_of_mem _ (h.sub j hj), ?_, hx, hrow0.2, h.t⟩
  · intro t
    refine ⟨fun j oj hj hoj hd => ?_, (h.frmE t).2⟩
    simp only [if_neg (hnE j hj)]
    exact (h.frmE t).1 j oj hj hoj hd
  · have := frm_more (val' := fun j => if j = i then p else val j) R h.frmP ho (p := p) (by simp) hval
    intro t
    refine ⟨fun j oj hj hoj hd => (this t).1 j oj (List.mem_cons.1 hj) hoj hd, fun hno => (this t).2 fun j oj hj hoj => hno j oj (List.mem_cons.2 hj) hoj⟩
  · intro j hj hnj
    rw [List.mem_cons] at hj
    by_cases hji : j = i
    · subst hji
      refine ⟨o, ho, fun G' hG' => ?_⟩
      have s1 : Sees ops (fun j' => if j' = j then p else val j') F0 j o Fp := by
        have := sees_of_frm R h.closedP h.frmP ho hni hedge
        intro t ht
        refine ⟨fun j' o' h1 h2 h3 => ?_, (this t ht).2⟩
        simp only [if_neg (Nat.ne_of_lt h3)]
        exact (this t ht).1 j' o' h1 h2 h3
      have eq := sees_eq hG' s1
      simp only [if_pos]
      rcases hev with ⟨e1, e2⟩ | ⟨e1, e2⟩
      · exact .inl ⟨by rw [gd_of_reads eq]; exact e1, e2⟩
      · exact .inr ⟨by rw [gd_of_reads eq]; exact e1, fun S' hS' => po_agree (e2 S' hS') (ev_of_reads eq)⟩
    · rcases hj with hj | hj
      · exact absurd hj hji
      · exact evid_same R h.closedP hval hj (h.evid j hj hnj)

theorem px_pure {ops : Array Oper} {ids : Option (List Nat)} {S0 : Store} {i : Nat} {is : Row} {K : (Nat → PV) → Store → Prop} {o : Oper} (ho : ops[i]? = some o) (h : PX P r n ops ids S0 (.pure i is) F S K) :
    (gd ops F o = some false ∧ PX P r n ops ids S0 is (updO F o.dst (.sc undef)) S K) ∨
    (gd ops F o = some true ∧ ∃ p, (∀ S', Agree ids S0 S' → PO P r n o F S' (fun q S'' => q = p ∧ S'' = S')) ∧ PX P r n ops ids S0 is (updO F o.dst p) S K) := by
  simp only [PX, ho] at h
  split at h
  · exact h.elim
  · rename_i hg; exact .inl ⟨hg, h⟩
  · rename_i hg
    refine .inr ⟨hg, ?_⟩
    split at h
    · rename_i p hp; exact ⟨p, fun S' _ => PO_I hp ⟨rfl, rfl⟩, h⟩
    · split at h
      · rename_i p hp; exact ⟨p, fun S' hS' => loadT_sound hp S' hS', h⟩
      · exact h

/-- Where operations may come that turn objects: the one that comes is looked at. -/
theorem px_alt {ops : Array Oper} {ids : Option (List Nat)} {S0 : Store} {K : (Nat → PV) → Store → Prop} {pre : List Nat} {i : Nat} {o : Oper} (ho : ops[i]? = some o) (hr : readyIn ops pre i = true) :
    ∀ (row : Row) (acc : List Nat), i ∉ acc → row.chain = true → rowOk ops pre acc row = true → PX P r n ops ids S0 row F S K →
      ∃ rest, rowOk ops (i :: pre) [] rest = true ∧
        ((gd ops F o = some false ∧ PX P r n ops ids S0 rest (updO F o.dst (.sc undef)) S K) ∨ (gd ops F o = some true ∧ PO P r n o F S (fun p S' => Agree ids S0 S' ∧ PX P r n ops ids S0 rest (updO F o.dst p) S' K))) := by
  intro row
  induction row with
  | done => intro acc _ h; cases h
  | pure j r _ => intro acc _ h; cases h
  | stop =>
    intro acc hacc _ hrow _
    simp only [rowOk, Bool.and_eq_true, List.all_eq_true, List.mem_range] at hrow
    have := hrow.2 i (Array.getElem?_eq_some_iff.1 ho).1
    obtain ⟨_, _, _, hni⟩ := readyIn_spec hr
    simp [hr, hni, hacc] at this
  | alt j rest more ih1 ih2 =>
    intro acc hacc _ hrow hpx
    simp only [rowOk, Bool.and_eq_true] at hrow
    simp only [PX] at hpx
    by_cases hij : i = j
    · subst hij
      refine ⟨rest, hrow.1.1.2, ?_⟩
      have h := hpx.1
      simp only [ho] at h
      split at h
      · exact h.elim
      · rename_i hg; exact .inl ⟨hg, h⟩
      · rename_i hg
        refine .inr ⟨hg, ?_⟩
        split at h
        · rename_i p S' hp; exact PO_S hp h
        · exact h
    · exact ih2 (j :: acc) (by simp [hij, hacc]) hrow.2 hrow.1.2 hpx.2

theorem mid_end {ops : Array Oper} {ids : Option (List Nat)} {S0 : Store} {F0 : Nat → PV} {K : (Nat → PV) → Store → Prop} {E : Nat → Prop} {G Fp : Nat → PV} {val : Nat → PV} {pre : List Nat} {row : Row}
    (h : Mid P r n ops ids S0 F0 K E G S val pre row Fp) (hE : ∀ i, i < ops.size → E i) : K G S := by
  have hpre : ∀ i, i < ops.size → i ∈ pre := fun i hi => h.sub i (hE i hi)
  have noready : ∀ i, readyIn ops pre i = true → False := by
    intro i hi
    obtain ⟨o, ho, _, hni⟩ := readyIn_spec hi
    exact hni (hpre i (Array.getElem?_eq_some_iff.1 ho).1)
  have hK : K Fp S := by
    have hrow := h.row
    have hpx := h.px
    cases row with
    | done => exact hpx
    | pure i r' => simp only [rowOk, Bool.and_eq_true] at hrow; exact (noready i hrow.1).elim
    | alt i r' m => simp only [rowOk, Bool.and_eq_true] at hrow; exact (noready i hrow.1.1.1).elim
    | stop => simp [rowOk] at hrow
  have : G = Fp := by
    funext t
    by_cases hx : ∃ (j : Nat) (o : Oper), ops[j]? = some o ∧ o.dst = some t
    · obtain ⟨j, o, h1, h2⟩ := hx
      have hj := hE j (Array.getElem?_eq_some_iff.1 h1).1
      rw [(h.frmE t).1 j o hj h1 h2, (h.frmP t).1 j o (h.sub j hj) h1 h2]
    · rw [(h.frmE t).2 fun j o _ h1 h2 => hx ⟨j, o, h1, h2⟩, (h.frmP t).2 fun j o _ h1 h2 => hx ⟨j, o, h1, h2⟩]
  rw [this]; exact hK

theorem draw_sound {ops : Array Oper} {Q' : Exit → Act → World → Prop} (hN : ∀ o ∈ ops, ∀ d, o.dst = some d → d < N) (R : RegOk ops) {ids : Option (List Nat)} {Sb : Store} {F0 : Nat → PV} {K : (Nat → PV) → Store → Prop}
    {C0 : Ctx} {S0 : Store} {w0 : World} {ds : List Deferred}
    (hQ : ∀ F' S' C' w' a', K F' S' → St C' S' w' N F' a' → a'.defers = ds → Step C0 S0 w0 C' S' w' → Q' .normal a' w') :
    ∀ (fuel : Nat) (listed : Array Bool) (U : List Nat) (G : Nat → PV) (S : Store) (C : Ctx) (w : World) (a : Act) (val : Nat → PV) (pre : List Nat) (row : Row) (Fp : Nat → PV),
      listed.size = ops.size → U.length = fuel → (∀ i, i < ops.size → listed.getD i false = false → i ∈ U) →
      Mid P r n ops ids Sb F0 K (fun j => listed.getD j false = true) G S val pre row Fp →
      St C S w N G a → a.defers = ds → Step C0 S0 w0 C S w → wpAnyIn (Fe r) n P .any ops Q' fuel listed a w := by
  intro fuel
  induction fuel with
  | zero =>
    intro listed U G S C w a val pre row Fp hsz hU hcov hmid st hd step
    have hUe : U = [] := List.eq_nil_of_length_eq_zero hU
    have hlisted : ∀ i, i < ops.size → listed.getD i false = true := by
      intro i hi
      cases hb : listed.getD i false with
      | false => have := hcov i hi hb; rw [hUe] at this; cases this
      | true => rfl
    refine ⟨?_, hQ G S C w a (mid_end hmid hlisted) st hd step⟩
    rw [List.eq_nil_iff_forall_not_mem]
    intro i hi
    obtain ⟨h1, o, ho, _⟩ := mem_ready.1 hi
    have hlt := (Array.getElem?_eq_some_iff.1 ho).1
    have := hlisted i hlt
    rw [Array.getD_eq_getD_getElem?] at h1 this
    rw [Array.getElem?_eq_getElem (by omega)] at h1 this
    simp only [Option.getD_some] at h1 this
    rw [h1] at this; cases this
  | succ fuel ih =>
    intro listed U G S C w a val pre row Fp hsz hU hcov hmid st hd step
    refine ⟨fun hr => ?_, fun i hi => ?_⟩
    · have hlisted : ∀ i, i < ops.size → listed.getD i false = true := by
        intro i
        induction i using Nat.strongRecOn with
        | _ i ihi =>
          intro hi
          cases hb : listed.getD i false with
          | true => rfl
          | false =>
            have ho : ops[i]? = some (ops[i]'hi) := by simp
            have : i ∈ Region.ready .any ops listed := by
              refine mem_ready.2 ⟨?_, ops[i]'hi, ho, fun e he hbd => ?_⟩
              · rw [Array.getD_eq_getD_getElem?] at hb ⊢
                rw [Array.getElem?_eq_getElem (by omega)] at hb ⊢
                simpa using hb
              · have hlt := R.edge i _ ho e.on (by unfold edgesOf; rw [List.mem_map]; exact ⟨e, by rw [List.mem_filter]; exact ⟨Array.mem_toList_iff.2 he, hbd⟩, rfl⟩)
                exact ihi e.on hlt (by omega)
            rw [hr] at this; cases this
      exact hQ G S C w a (mid_end hmid hlisted) st hd step
    · obtain ⟨h1, o, ho, hafter⟩ := mem_ready.1 hi
      have hlt : i < ops.size := (Array.getElem?_eq_some_iff.1 ho).1
      have hnE : ¬ (listed.getD i false = true) := by
        rw [Array.getD_eq_getD_getElem?] at h1 ⊢
        rw [Array.getElem?_eq_getElem (by omega)] at h1 ⊢
        simp only [Option.getD_some] at h1 ⊢
        rw [h1]; simp
      have hedge : ∀ e ∈ edgesOf o, listed.getD e false = true := by
        intro e he
        unfold edgesOf at he
        rw [List.mem_map] at he
        obtain ⟨x, hx, rfl⟩ := he
        rw [List.mem_filter] at hx
        exact hafter x (Array.mem_toList_iff.1 hx.1) hx.2
      have hdst : ∀ x, o.dst = some x → x < N := by
        have : o ∈ ops := by
          obtain ⟨h, rfl⟩ := Array.getElem?_eq_some_iff.1 ho
          exact Array.getElem_mem h
        exact hN o this
      have hiU : i ∈ U := hcov i hlt (by simpa using hnE)
      have hset : ∀ j, (listed.setIfInBounds i true).getD j false = true ↔ j = i ∨ listed.getD j false = true := by
        intro j
        rw [Array.getD_eq_getD_getElem?, Array.getD_eq_getD_getElem?, Array.getElem?_setIfInBounds]
        by_cases hji : i = j
        · subst hji; simp [hsz, hlt]
        · rw [if_neg hji]
          constructor
          · exact .inr
          · rintro (rfl | h)
            · exact absurd rfl hji
            · exact h
      have hpred : (fun j => (listed.setIfInBounds i true).getD j false = true) = (fun j => j = i ∨ listed.getD j false = true) := funext fun j => propext (hset j)
      have hcl' : Closed ops (fun j => j = i ∨ listed.getD j false = true) := by
        intro j oj hj hoj e he
        rcases hj with rfl | hj
        · rw [ho] at hoj; cases hoj; exact .inr (hedge e he)
        · exact .inr (hmid.closedE j oj hj hoj e he)
      -- what follows, whichever way operation i has been carried out
      have cont : ∀ (val' : Nat → PV) (pre' : List Nat) (row' : Row) (Fp' : Nat → PV) (p : PV) (S' : Store) (C' : Ctx) (w' : World) (v : Value),
          Mid P r n ops ids Sb F0 K (fun j => j = i ∨ listed.getD j false = true) (updO G o.dst p) S' val' pre' row' Fp' → Rel C' S' w' p v → Sim C' S' w' → Step C S w C' S' w' →
          wpAnyIn (Fe r) n P .any ops Q' fuel (listed.setIfInBounds i true) (a.put o.dst v) w' := by
        intro val' pre' row' Fp' p S' C' w' v hmid' hrel hs hstep
        refine ih _ (U.erase i) (updO G o.dst p) S' C' w' _ val' pre' row' Fp' (by simp [hsz]) (by rw [List.length_erase_of_mem hiU, hU]; rfl) ?_ (by rw [hpred]; exact hmid') (st.put hstep hs hdst hrel) (by rw [put_defers]; exact hd) (step.trans hstep)
        intro j hj hjl
        have hne : j ≠ i := by
          intro e
          have := (hset j).2 (.inl e)
          rw [this] at hjl; cases hjl
        have hjl' : listed.getD j false = false := by
          cases hb : listed.getD j false with
          | false => rfl
          | true => have := (hset j).2 (.inr hb); rw [this] at hjl; cases hjl
        exact (List.mem_erase_of_ne hne).2 (hcov j hj hjl')
      -- operation i has been looked at ahead
      have known : ∀ (pre : List Nat) (row : Row) (val : Nat → PV) (Fp : Nat → PV), i ∈ pre → Mid P r n ops ids Sb F0 K (fun j => listed.getD j false = true) G S val pre row Fp →
          wpOpIn (Fe r) n P ops Q' i (wpAnyIn (Fe r) n P .any ops Q' fuel (listed.setIfInBounds i true)) a w := by
        intro pre row val Fp hip hmid
        obtain ⟨o', ho', hev⟩ := hmid.evid i hip hnE
        rw [ho] at ho'; cases ho'
        have hsee := sees_of_frm R hmid.closedE hmid.frmE ho hnE hedge
        unfold wpOpIn
        rw [ho]
        dsimp only
        have newmid : ∀ p, val i = p → Mid P r n ops ids Sb F0 K (fun j => j = i ∨ listed.getD j false = true) (updO G o.dst p) S val pre row Fp := fun p hp =>
          ⟨hcl', hmid.closedP, frm_more R hmid.frmE ho hp (fun _ _ => rfl), hmid.frmP, fun j hj => hj.elim (fun e => e ▸ hip) (hmid.sub j), fun j hj hn => hmid.evid j hj (fun h => hn (.inr h)), hmid.px, hmid.row, hmid.t⟩
        rcases hev G hsee with ⟨e1, e2⟩ | ⟨e1, e2⟩
        · rw [gd_sound st e1]
          exact ⟨fun _ _ => trivial, cont val pre row Fp _ S C w _ (newmid _ e2) (.sc _) st.sim (.refl _ _ _)⟩
        · rw [gd_sound st e1]
          refine e2 S hmid.t G (fun _ _ => rfl) C w a N st _ _ ?_
          rintro v w' C' S' p ⟨rfl, rfl⟩ hrel hs hstep
          exact cont val pre row Fp _ _ C' w' _ (newmid _ rfl) hrel hs hstep
      -- operation i is one that comes where operations may turn objects
      have chain : ∀ (pre : List Nat) (row : Row) (val : Nat → PV) (Fp : Nat → PV), row.chain = true → i ∉ pre → Mid P r n ops ids Sb F0 K (fun j => listed.getD j false = true) G S val pre row Fp →
          wpOpIn (Fe r) n P ops Q' i (wpAnyIn (Fe r) n P .any ops Q' fuel (listed.setIfInBounds i true)) a w := by
        intro pre row val Fp hch hip hmid
        have hiedge : ∀ e ∈ edgesOf o, e ∈ pre := fun e he => hmid.sub e (hedge e he)
        have hready : readyIn ops pre i = true := by
          unfold readyIn
          rw [ho]
          simp only [Bool.and_eq_true, List.all_eq_true]
          exact ⟨fun e he => by simpa using hiedge e he, by simpa using hip⟩
        obtain ⟨rest, hrow, hx⟩ := px_alt ho hready row [] (by simp) hch hmid.row hmid.px
        have s1 := sees_of_frm R hmid.closedE hmid.frmE ho hnE hedge
        have s2 := sees_of_frm R hmid.closedP hmid.frmP ho hip hiedge
        have eq := sees_eq s1 s2
        have newmid : ∀ (p : PV) (S' : Store), PX P r n ops ids Sb rest (updO Fp o.dst p) S' K → Agree ids Sb S' → Mid P r n ops ids Sb F0 K (fun j => j = i ∨ listed.getD j false = true) (updO G o.dst p) S' (fun j => if j = i then p else val j) (i :: pre) rest (updO Fp o.dst p) := by
          intro p S' hp hag
          have hvE : ∀ j, listed.getD j false = true → (fun j => if j = i then p else val j) j = val j := fun j hj => if_neg (fun (e : j = i) => hnE (e ▸ hj))
          have hvP : ∀ j, j ∈ pre → (fun j => if j = i then p else val j) j = val j := fun j hj => if_neg (fun (e : j = i) => hip (e ▸ hj))
          refine ⟨hcl', ?_, frm_more R hmid.frmE ho (by simp) hvE, ?_, ?_, ?_, hp, hrow, hag⟩
          · intro j oj hj hoj e he
            rw [List.mem_cons] at hj ⊢
            rcases hj with rfl | hj
            · rw [ho] at hoj; cases hoj; exact .inr (hiedge e he)
            · exact .inr (hmid.closedP j oj hj hoj e he)
          · have := frm_more (val' := fun j => if j = i then p else val j) R hmid.frmP ho (p := p) (by simp) hvP
            intro t
            exact ⟨fun j oj hj hoj hd => (this t).1 j oj (List.mem_cons.1 hj) hoj hd, fun hno => (this t).2 fun j oj hj hoj => hno j oj (List.mem_cons.2 hj) hoj⟩
          · intro j hj
            rw [List.mem_cons]
            exact hj.imp id (hmid.sub j)
          · intro j hj hn
            rw [List.mem_cons] at hj
            rcases hj with hj | hj
            · exact absurd (.inl hj) hn
            · exact evid_same R hmid.closedP hvP hj (hmid.evid j hj (fun h => hn (.inr h)))
        unfold wpOpIn
        rw [ho]
        dsimp only
        rcases hx with ⟨e1, hx⟩ | ⟨e1, hx⟩
        · rw [gd_sound st ((gd_of_reads eq).trans e1)]
          exact ⟨fun _ _ => trivial, cont _ _ _ _ _ S C w _ (newmid _ S hx hmid.t) (.sc _) st.sim (.refl _ _ _)⟩
        · rw [gd_sound st ((gd_of_reads eq).trans e1)]
          refine hx G (ev_of_reads eq) C w a N st _ _ ?_
          rintro v w' C' S' p ⟨hag, hp⟩ hrel hsim hstep
          exact cont _ _ _ _ p S' C' w' v (newmid p S' hp hag) hrel hsim hstep
      -- the pure run is taken ahead until operation i has been met
      have adv : ∀ (row : Row) (pre : List Nat) (val : Nat → PV) (Fp : Nat → PV), Mid P r n ops ids Sb F0 K (fun j => listed.getD j false = true) G S val pre row Fp →
          wpOpIn (Fe r) n P ops Q' i (wpAnyIn (Fe r) n P .any ops Q' fuel (listed.setIfInBounds i true)) a w := by
        intro row
        induction row with
        | done =>
          intro pre val Fp hmid
          have hrow := hmid.row
          simp only [rowOk, List.all_eq_true, List.mem_range] at hrow
          exact known pre _ val Fp (by simpa using hrow i hlt) hmid
        | stop =>
          intro pre val Fp hmid
          by_cases hip : i ∈ pre
          · exact known pre _ val Fp hip hmid
          · exact chain pre _ val Fp rfl hip hmid
        | alt j r1 m _ _ =>
          intro pre val Fp hmid
          by_cases hip : i ∈ pre
          · exact known pre _ val Fp hip hmid
          · exact chain pre _ val Fp rfl hip hmid
        | pure j rest ihr =>
          intro pre val Fp hmid
          by_cases hip : i ∈ pre
          · exact known pre _ val Fp hip hmid
          · have hrow := hmid.row
            simp only [rowOk, Bool.and_eq_true] at hrow
            obtain ⟨oj, hoj, _, _⟩ := readyIn_spec hrow.1
            rcases px_pure hoj hmid.px with ⟨e1, hx⟩ | ⟨e1, p, e2, hx⟩
            · exact ihr _ _ _ (mid_ahead R hmid hoj hx (.inl ⟨e1, rfl⟩))
            · exact ihr _ _ _ (mid_ahead R hmid hoj hx (.inr ⟨e1, e2⟩))
      exact adv row pre val Fp hmid

/-- A region that draws its order. -/
theorem pw_draw {id : Nat} {ops : Array Oper} (ids : Option (List Nat)) (row : Row) (hm : P.follows .mixedOrders = true) (hN : dstsBelow N ops = true) (hR : regOk ops = true) (hrow : rowOk ops [] [] row = true)
    (h : PX P r n ops ids S row F S (Q .normal)) : PW P r n N (.region id ops true) Q F S := by
  intro C w a st
  have R := regOk_spec hR
  refine wpIn_region_any hm ?_
  obtain ⟨hs, hstep⟩ := st.sim.drew
  have st' : St C S w.drew N F a := ⟨hs, st.size, fun i => (st.fr i).mono hstep⟩
  have hnone : ∀ j, (Array.replicate ops.size false).getD j false = false := by
    intro j
    rw [Array.getD_eq_getD_getElem?, Array.getElem?_replicate]
    split <;> rfl
  refine draw_sound (Q' := fun e a' w' => ∃ F' S' C', Q e F' S' ∧ St C' S' w' N F' a' ∧ a'.defers = a.defers ∧ Step C S w C' S' w') (dstsBelow_spec hN) R (ids := ids) (Sb := S) (F0 := F) (K := Q .normal) (C0 := C) (S0 := S) (w0 := w) (ds := a.defers)
    (fun F' S' C' w' a' hk hst hd hst2 => ⟨F', S', C', hk, hst, hd, hst2⟩) ops.size _ (List.range ops.size) F S C w.drew a (fun _ => .junk) [] row F (by simp) (by simp) (fun i hi _ => List.mem_range.2 hi) ?_ st' rfl hstep
  have hno : ∀ j, ¬ ((Array.replicate ops.size false).getD j false = true) := fun j h => by rw [hnone j] at h; cases h
  refine ⟨fun j o hj => absurd hj (hno j), (fun j o hj => nomatch hj), ?_, ?_, fun j hj => absurd hj (hno j), (fun j hj => nomatch hj), h, hrow, ?_⟩
  · exact fun t => ⟨fun j o hj => absurd hj (hno j), fun _ => rfl⟩
  · exact fun t => ⟨(fun j o hj => nomatch hj), fun _ => rfl⟩
  · cases ids with
    | none => rfl
    | some l => exact fun _ _ => rfl

end
end Go.Proofs.Ytdmmihkmcennpaa.Pv
