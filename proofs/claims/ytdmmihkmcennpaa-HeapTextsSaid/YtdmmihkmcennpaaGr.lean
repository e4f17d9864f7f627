/- Ghost layer, part 18: what the reckoning rewrites with, once more. -/
import Derived.Test.YtdmmihkmcennpaaGq
namespace Go.Proofs.Ytdmmihkmcennpaa.Pv
open Go

attribute [simp] pstr eqF gsl gdD xrs xdp xda memX newX calleeX elemX fr frzP frzO

/-- Integers and truth values, as they stand in a frame. -/
abbrev I (x : Int) : PV := .sc (.int .i64 x)
abbrev B (b : Bool) : PV := .sc (.bool b)

def PV.nosl : PV → Bool
  | .sl _ _ _ _ _ => false
  | _ => true

/-- How a type's values lie in cells. -/
class Enc (α : Type) where
  enc : α → List PV
  sz : Nat
  len : ∀ x, (enc x).length = sz
  nosl : ∀ x, (enc x).all PV.nosl = true

theorem frz_nosl (id v : Nat) (cs : List PV) (p : PV) (h : p.nosl = true) : frzP id v cs p = p := by
  cases p <;> first | rfl | cases h
@[simp] theorem frz_flat {α : Type} [Enc α] (id v : Nat) (cs : List PV) (l : List α) : (l.flatMap Enc.enc).map (frzP id v cs) = l.flatMap Enc.enc := by
  rw [List.map_congr_left (g := fun p => p), List.map_id']
  intro p hp
  obtain ⟨x, _, hx⟩ := List.mem_flatMap.1 hp
  exact frz_nosl _ _ _ _ (List.all_eq_true.1 (Enc.nosl x) p hx)

/-- A list whose elements take sz cells each. -/
abbrev L {α : Type} [Enc α] (l : List α) : PV := .lst l.length (l.flatMap Enc.enc)

theorem flat_length {α : Type} [Enc α] (l : List α) : (l.flatMap Enc.enc).length = l.length * Enc.sz α := flat_len Enc.enc _ Enc.len l
theorem flat_take' {α : Type} [Enc α] (l : List α) : (l.flatMap Enc.enc).take (l.length * Enc.sz α) = l.flatMap Enc.enc := by
  rw [flat_take Enc.enc _ Enc.len, List.take_length]
theorem flat_dr {α : Type} [Enc α] {l : List α} {k : Nat} (h : k < l.length) : (l.flatMap Enc.enc).drop (k * Enc.sz α) = Enc.enc l[k] ++ (l.drop (k + 1)).flatMap Enc.enc := flat_at Enc.enc _ Enc.len l k h

instance : Enc Int := ⟨fun x => [I x], 1, fun _ => rfl, fun _ => rfl⟩
@[simp] theorem enc_int (x : Int) : Enc.enc x = [I x] := rfl
@[simp high] theorem flen_int (l : List Int) : (l.flatMap Enc.enc).length = l.length := (flat_length l).trans (Nat.mul_one _)
@[simp high] theorem ftake_int (l : List Int) : (l.flatMap Enc.enc).take l.length = l.flatMap Enc.enc := List.take_of_length_le (Nat.le_of_eq (flen_int l))

/-- What stands at a place of a list. -/
theorem el {α : Type} [Enc α] (n : Nat) (hn : Enc.sz α = n) (l : List α) (k : Nat) (h : k < l.length) :
    ∃ s tl, l[k]? = some s ∧ l.drop k = s :: l.drop (k + 1) ∧ l.take (k + 1) = l.take k ++ [s] ∧ (∀ j, j ≤ n → (l.flatMap Enc.enc).drop (k * n + j) = (Enc.enc s).drop j ++ tl) ∧ (l.flatMap Enc.enc).drop (k * n) = Enc.enc s ++ tl := by
  subst hn
  have h0 := flat_dr h
  refine ⟨l[k], (l.drop (k + 1)).flatMap Enc.enc, List.getElem?_eq_getElem h, List.drop_eq_getElem_cons h, by rw [List.take_succ_eq_append_getElem h], fun j hj => ?_, h0⟩
  rw [← List.drop_drop, h0, List.drop_append_of_le_length (by rw [Enc.len]; exact hj)]

theorem el1 {α : Type} [Enc α] (hn : Enc.sz α = 1) (l : List α) (k : Nat) (h : k < l.length) :
    ∃ s tl, l[k]? = some s ∧ l.drop k = s :: l.drop (k + 1) ∧ l.take (k + 1) = l.take k ++ [s] ∧ (l.flatMap Enc.enc).drop k = Enc.enc s ++ tl := by
  obtain ⟨s, tl, a1, a2, a3, _, e0⟩ := el 1 hn l k h
  exact ⟨s, tl, a1, a2, a3, by rw [← e0, Nat.mul_one]⟩

theorem pw_ct {P : Program} {r : Option Nat} {n N : Nat} {Q : Exit → (Nat → PV) → Store → Prop} {F : Nat → PV} {S : Store} {c : Operand} {x y : Code} (hc : ev F c = .sc (.bool true)) (h : PW P r n N x Q F S) : PW P r n N (.cond c x y) Q F S :=
  pw_cond hc (fun _ => h) (fun e => nomatch e)
theorem pw_cf {P : Program} {r : Option Nat} {n N : Nat} {Q : Exit → (Nat → PV) → Store → Prop} {F : Nat → PV} {S : Store} {c : Operand} {x y : Code} (hc : ev F c = .sc (.bool false)) (h : PW P r n N y Q F S) : PW P r n N (.cond c x y) Q F S :=
  pw_cond hc (fun e => nomatch e) (fun _ => h)

theorem wr (x : Int) (h1 : -9223372036854775808 ≤ x) (h2 : x ≤ 9223372036854775807) : IntKind.i64.wrap x = x := wrap64 x h1 h2
theorem wrN (k : Nat) (h : k < 9223372036854775807) : IntKind.i64.wrap ((k : Int) + 1) = ((k + 1 : Nat) : Int) := by rw [wrap64 _ (by omega) (by omega)]; omega

/-- Into the range of int. -/
abbrev W (x : Int) : Int := IntKind.i64.wrap x
@[simp] theorem W_zero : W 0 = 0 := rfl
theorem W_add (a b : Int) : W (W a + b) = W (a + b) := by simp only [W, IntKind.wrap_i64]; omega
theorem W_add' (a b : Int) : W (a + W b) = W (a + b) := by simp only [W, IntKind.wrap_i64]; omega
theorem W_sub (a b : Int) : W (W a - b) = W (a - b) := by simp only [W, IntKind.wrap_i64]; omega
theorem W_sub' (a b : Int) : W (a - W b) = W (a - b) := by simp only [W, IntKind.wrap_i64]; omega
theorem W_neg (a : Int) : W (- W a) = W (- a) := by simp only [W, IntKind.wrap_i64]; omega
theorem W_W (a : Int) : W (W a) = W a := by simp only [W, IntKind.wrap_i64]; omega

/-- What is given as an object of one's own may be taken for a list. -/
theorem own_pure {P : Program} {f : FuncId} {args : List PV} {sz k e : Nat} {cs : List PV} (j : Nat)
    (h : ∀ S nx, DeadFrom nx S → Spec P f args S (fun p S' => ∃ v, p = .sl (nx + j) v sz 0 k ∧ S' = S.set (nx + j) (.cells v e cs))) (hk : k * sz = cs.length) : Pure P f args (.lst k cs) := by
  intro S
  refine ⟨(h (fun _ => .dead) 0 (fun _ _ => rfl)).1, ?_⟩
  intro C w vs hS hl hr
  have hd : DeadFrom C.next S := fun i hi => by
    cases hs : S i with
    | dead => rfl
    | cells v e cs => have := hS.lt i (by rw [hs]; simp); omega
    | map v es => have := hS.lt i (by rw [hs]; simp); omega
  refine ((h S C.next hd).2 C w vs hS hl hr).mono ?_
  rintro e' w' ⟨p, u, S', C', rfl, ⟨v, rfl, rfl⟩, hrel, hsim, hstep⟩
  have hdj := hd (C.next + j) (by omega)
  have hkk : ∀ o, S o = S.set (C.next + j) (.cells v e cs) o ∨ S o = .dead := by
    intro o
    by_cases ho : o = C.next + j
    · subst ho; exact .inr hdj
    · exact .inl (Store.set_other _ _ _ _ ho).symm
  obtain ⟨k1, k2⟩ := hsim.kill hkk
  refine ⟨.lst k cs, u, S, C', rfl, ⟨rfl, rfl⟩, ?_, k1, hstep.trans k2⟩
  have := frz_rel hsim (Store.set_same _ _ _) hdj (fun o ho => by
    rcases hkk o with q | q
    · rw [← q]; exact ho
    · exact absurd q ho) k2 hrel
  simpa [frzP, hk] using this

theorem ext_push1 {S : Store} {nx : Nat} {obs : List Ob} (x : Ob) : (ext S nx obs).set (nx + obs.length + 1) x = ext S nx (obs ++ [.dead, x]) := by
  have e : ext S nx obs = ext S nx (obs ++ [.dead]) := by
    funext i
    simp only [ext]
    split
    · rfl
    · rw [List.getD_eq_getElem?_getD, List.getD_eq_getElem?_getD]
      by_cases h3 : i - nx < obs.length
      · rw [List.getElem?_append_left h3]
      · rw [List.getElem?_eq_none (by omega)]
        by_cases h4 : i - nx = obs.length
        · rw [List.getElem?_append_right (by omega), h4]; simp
        · rw [List.getElem?_eq_none (by simp; omega)]
  rw [e]
  have := ext_push (S := S) (nx := nx) (obs := obs ++ [.dead]) x
  simpa [Nat.add_assoc] using this

/-- A nil slice in an object's cell is an empty list. -/
theorem pw_nilC {P : Program} {r : Option Nat} {n nx N : Nat} {Q : Exit → (Nat → PV) → Store → Prop} {F : Nat → PV} {S : Store} {obs : List Ob} {c : Code} {ver e0 : Nat} {cs : List PV} (j i : Nat) (hj : obs[j]? = some (.cells ver e0 cs)) (hi : cs[i]? = some (.sc (.slice none 0 0)))
    (h : PW P r n N c Q F (ext S nx (obs.set j (.cells ver e0 (cs.set i (.lst 0 [])))))) : PW P r n N c Q F (ext S nx obs) := by
  have hjl : j < obs.length := (List.getElem?_eq_some_iff.1 hj).1
  refine pw_ghost (F' := F) (S' := ext S nx (obs.set j (.cells ver e0 (cs.set i (.lst 0 []))))) (fun C w a st => ?_) h
  have hs : ext S nx obs (nx + j) = .cells ver e0 cs := by rw [ext_at, List.getD_eq_getElem?_getD, hj]; rfl
  have := st.sim.relabel (cs' := cs.set i (.lst 0 [])) hs (by simp) (by
    intro k p' hp'
    rw [List.getElem?_set] at hp'
    split at hp'
    · rename_i hij
      subst hij
      split at hp'
      · cases hp'
        refine .inr ⟨_, hi, fun v hv => ?_⟩
        cases hv
        exact .lst0
      · cases hp'
    · exact .inl hp')
  rw [ext_set _ (by omega) (by omega), Nat.add_sub_cancel_left] at this
  exact ⟨C, ⟨this.1, st.size, fun k => (st.fr k).mono this.2⟩, this.2⟩

/-- Ways meet ahead of what follows. -/
theorem pw_joinK {P : Program} {r : Option Nat} {n nx N : Nat} {Q Q2 : Exit → (Nat → PV) → Store → Prop} {F : Nat → PV} {σ : Type} (I : σ → Prop) (L : σ → List (Nat × PV)) (B : σ → Store) (T : σ → List Ob) {x y : Code} {S0 : Store}
    (h1 : PW P r n N x (thenQ (At nx I L B T) Q) F S0) (h2 : ∀ s, I s → PW P r n N y Q2 (fr (L s)) (ext (B s) nx (T s))) : PW P r n N x (thenQ (PW P r n N y Q2) Q) F S0 := by
  refine pw_mono h1 ?_
  intro e F' S' hq
  cases e with
  | normal =>
    obtain ⟨s, more, hI, hL, rfl⟩ := hq
    exact pw_to (L s) hL (h2 s hI)
  | _ => exact hq

theorem pw_drop {P : Program} {r : Option Nat} {n nx N : Nat} {Q : Exit → (Nat → PV) → Store → Prop} {F : Nat → PV} {S : Store} {obs : List Ob} {c : Code} (obs' more : List Ob) (he : obs = obs' ++ more) (h : PW P r n N c Q F (ext S nx obs')) : PW P r n N c Q F (ext S nx obs) := by subst he; exact pw_kill (ext_kill more) h

/-- What follows is shown once; each way goes on to it. -/
theorem pw_cutK {P : Program} {r : Option Nat} {n nx N : Nat} {Q Q2 : Exit → (Nat → PV) → Store → Prop} {F : Nat → PV} {σ : Type} (I : σ → Prop) (L : σ → List (Nat × PV)) (B : σ → Store) (T : σ → List Ob) {x y : Code} {S0 : Store}
    (h1 : (∀ s more F' S' obs', I s → (∀ z ∈ L s, F' z.1 = z.2) → B s = S' → T s ++ more = obs' → PW P r n N y Q2 F' (ext S' nx obs')) → PW P r n N x (thenQ (PW P r n N y Q2) Q) F S0)
    (h2 : ∀ s, I s → PW P r n N y Q2 (fr (L s)) (ext (B s) nx (T s))) : PW P r n N x (thenQ (PW P r n N y Q2) Q) F S0 :=
  h1 fun s more F' S' obs' hI hL hB hT => by subst hB; subst hT; exact pw_to (L s) hL (h2 s hI)

/-- Whatever stands for p stands for q. -/
def Wk (p q : PV) : Prop := ∀ (C : Ctx) (S : Store) (w : World) (v : Value), Rel C S w p v → Rel C S w q v
theorem Wk.rfl {p : PV} : Wk p p := fun _ _ _ _ h => h
theorem Wk.nil : Wk (.sc (.slice none 0 0)) (.lst 0 []) := fun _ _ _ _ h => by cases h; exact .lst0

inductive WkL : List PV → List PV → Prop where
  | nil : WkL [] []
  | cons {p q : PV} {l m : List PV} (h : Wk p q) (t : WkL l m) : WkL (p :: l) (q :: m)

theorem WkL.rfl : ∀ {l : List PV}, WkL l l
  | [] => .nil
  | _ :: _ => .cons Wk.rfl WkL.rfl
theorem WkL.len {l m : List PV} (h : WkL l m) : l.length = m.length := by induction h <;> simp_all
theorem WkL.at {l m : List PV} (h : WkL l m) : ∀ (i : Nat) (q : PV), m[i]? = some q → ∃ p, l[i]? = some p ∧ Wk p q := by
  induction h with
  | nil => intro i q hq; cases hq
  | cons h t ih =>
    intro i q hq
    cases i with
    | zero => simp at hq; subst hq; exact ⟨_, by simp, h⟩
    | succ i => simpa using ih i q (by simpa using hq)
theorem Wk.agg {cs ds : List PV} (h : WkL cs ds) : Wk (.agg cs) (.agg ds) := by
  intro C S w v hr
  cases hr with
  | agg hl h1 h2 =>
    refine .agg (h.len ▸ hl) h1 fun i q v hq hv => ?_
    obtain ⟨p, hp, hw⟩ := h.at i q hq
    exact hw _ _ _ _ (h2 i p v hp hv)
theorem Wk.lst {n : Nat} {cs ds : List PV} (h : WkL cs ds) : Wk (.lst n cs) (.lst n ds) := by
  intro C S w v hr
  cases hr with
  | lst0 => cases h; exact .lst0
  | lst1 hn hm hb hM hs h1 h2 =>
    refine .lst1 hn hm hb hM (fun hne => ?_) (fun i v hi hv => h1 i v (by rw [h.len]; exact hi) hv) fun i q v hq hv => ?_
    · rw [← h.len]; exact hs (by intro e; subst e; cases h; exact hne _root_.rfl)
    · obtain ⟨p, hp, hw⟩ := h.at i q hq
      exact hw _ _ _ _ (h2 i p v hp hv)

theorem spec_wk {P : Program} {f : FuncId} {args args' : List PV} {S : Store} {Q : PV → Store → Prop} (hw : WkL args args') (h : Spec P f args' S Q) : Spec P f args S Q := by
  refine ⟨h.1, fun C w vs hS hl hr => h.2 C w vs hS (hw.len ▸ hl) fun i q v hq hv => ?_⟩
  obtain ⟨p, hp, hk⟩ := hw.at i q hq
  exact hk _ _ _ _ (hr i p v hp hv)
theorem pure_wk {P : Program} {f : FuncId} {args args' : List PV} {v : PV} (hw : WkL args args') (h : Pure P f args' v) : Pure P f args v := fun S => spec_wk hw (h S)

end Go.Proofs.Ytdmmihkmcennpaa.Pv
