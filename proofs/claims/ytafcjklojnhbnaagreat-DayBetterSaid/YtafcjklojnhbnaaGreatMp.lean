/- What a map holds, as a function. -/
import Derived.Test.YtafcjklojnhbnaaGreatGo
namespace Go.Proofs.YtafcjklojnhbnaaGreat.Pv
open Go

/-- Keys that are compared as what they stand for. -/
structure KeyOk {α : Type} [DecidableEq α] (d : TypeDesc) (key : α → Value) : Prop where
  same : ∀ a b, Instr.sameNow d (key a) (key b) = some (decide (a = b))

theorem keyOk_int (k : IntKind) : KeyOk (.int k) (fun i : Int => Value.int k i) := ⟨fun a b => by
  simp only [Instr.sameNow]
  by_cases e : a = b <;> simp [e]⟩

def MapIs {α β : Type} (key : α → Value) (enc : β → PV) (es : List (Value × PV)) (g : α → Option β) : Prop :=
  ∃ l : List (α × β), es = l.map (fun x => (key x.1, enc x.2)) ∧ (l.map (·.1)).Nodup ∧ (∀ a b, (a, b) ∈ l ↔ g a = some b)

def updM {α β : Type} [DecidableEq α] (g : α → Option β) (a : α) (v : Option β) : α → Option β := fun x => if x = a then v else g x

theorem mapIs_nil {α β : Type} (key : α → Value) (enc : β → PV) : MapIs key enc [] (fun _ => none) := ⟨[], rfl, by simp, by simp⟩

theorem find_none {α β : Type} [DecidableEq α] {d : TypeDesc} {key : α → Value} {enc : β → PV} (hk : KeyOk d key) (a : α) : ∀ (l : List (α × β)) (i : Nat), a ∉ l.map (·.1) → findP d (key a) (l.map fun x => (key x.1, enc x.2)) i = some none
  | [], _, _ => rfl
  | x :: l, i, h => by
    simp only [List.map_cons, List.mem_cons, not_or] at h
    simp only [List.map_cons, findP, hk.same, decide_eq_false h.1]
    exact find_none hk a l (i + 1) h.2

theorem find_some {α β : Type} [DecidableEq α] {d : TypeDesc} {key : α → Value} {enc : β → PV} (hk : KeyOk d key) (a : α) (b : β) : ∀ (l : List (α × β)) (i : Nat), (l.map (·.1)).Nodup → (a, b) ∈ l →
    ∃ j, l[j]? = some (a, b) ∧ findP d (key a) (l.map fun x => (key x.1, enc x.2)) i = some (some (i + j, enc b))
  | [], _, _, h => by cases h
  | x :: l, i, hn, h => by
    simp only [List.map_cons, List.nodup_cons] at hn
    by_cases e : a = x.1
    · have hx : x = (a, b) := by
        rcases List.mem_cons.1 h with h | h
        · exact h.symm
        · exact absurd (List.mem_map.2 ⟨_, h, e⟩) hn.1
      subst hx
      exact ⟨0, rfl, by simp [findP, hk.same]⟩
    · have hm : (a, b) ∈ l := by
        rcases List.mem_cons.1 h with h | h
        · exact absurd (by rw [← h]) e
        · exact h
      obtain ⟨j, h1, h2⟩ := find_some hk a b l (i + 1) hn.2 hm
      refine ⟨j + 1, by simpa using h1, ?_⟩
      simp only [List.map_cons, findP, hk.same, decide_eq_false e]
      rw [h2, show i + 1 + j = i + (j + 1) by omega]

theorem MapIs.find {α β : Type} [DecidableEq α] {d : TypeDesc} {key : α → Value} {enc : β → PV} {es : List (Value × PV)} {g : α → Option β} (hk : KeyOk d key) (h : MapIs key enc es g) (a : α) :
    ∃ res, findP d (key a) es 0 = some res ∧ (g a = none → res = none) ∧ (∀ b, g a = some b → ∃ j, res = some (j, enc b)) ∧ (∀ b, MapIs key enc (putP (key a) (enc b) es res) (updM g a (some b))) ∧ MapIs key enc (delP es res) (updM g a none) := by
  obtain ⟨l, rfl, hn, hg⟩ := h
  cases hga : g a with
  | none =>
    have hna : a ∉ l.map (·.1) := by
      intro hm
      obtain ⟨x, hx, rfl⟩ := List.mem_map.1 hm
      have := (hg x.1 x.2).1 hx
      rw [hga] at this; cases this
    have q1 : ∀ b, MapIs key enc (putP (key a) (enc b) (l.map fun x => (key x.1, enc x.2)) none) (updM g a (some b)) := fun b => by
      refine ⟨l ++ [(a, b)], by simp [putP], ?_, fun a' b' => ?_⟩
      rotate_left
      focus
        unfold updM
        by_cases e : a' = a
        · subst e
          simp only [if_pos, List.mem_append, List.mem_singleton, hg, hga]
          simp [eq_comm]
        · simp [List.mem_append, hg, e]
      rw [List.map_append, List.nodup_append]
      refine ⟨hn, by simp, fun x hx y hy => ?_⟩
      simp at hy; subst hy
      exact fun e => hna (e ▸ hx)
    refine ⟨none, find_none hk a l 0 hna, (by intro _; rfl), (by intro b hb; cases hb), q1, l, by simp [delP], hn, fun a' b' => ?_⟩
    · unfold updM
      by_cases e : a' = a
      · subst e; simp [hg, hga]
      · simp [if_neg e, hg]
  | some b0 =>
    obtain ⟨j, h1, h2⟩ := find_some (enc := enc) hk a b0 l 0 hn ((hg a b0).2 hga)
    have hj : j < l.length := (List.getElem?_eq_some_iff.1 h1).1
    have hja : l[j] = (a, b0) := (List.getElem?_eq_some_iff.1 h1).2
    have huniq : ∀ (i : Nat) (hi : i < l.length), l[i].1 = a → i = j := by
      intro i hi he
      have hp := List.pairwise_iff_getElem.1 hn
      rcases Nat.lt_trichotomy i j with h | h | h
      · exact absurd (show (l.map (·.1))[i]'(by simpa using hi) = (l.map (·.1))[j]'(by simpa using hj) by rw [List.getElem_map, List.getElem_map, he, hja]) (hp i j (by simpa using hi) (by simpa using hj) h)
      · exact h
      · exact absurd (show (l.map (·.1))[j]'(by simpa using hj) = (l.map (·.1))[i]'(by simpa using hi) by rw [List.getElem_map, List.getElem_map, he, hja]) (hp j i (by simpa using hj) (by simpa using hi) h)
    suffices hh : (∀ b, MapIs key enc (putP (key a) (enc b) (l.map fun x => (key x.1, enc x.2)) (some (0 + j, enc b0))) (updM g a (some b))) ∧ MapIs key enc (delP (l.map fun x => (key x.1, enc x.2)) (some (0 + j, enc b0))) (updM g a none) from
      ⟨some (0 + j, enc b0), h2, (by intro h; cases h), (by intro b hb; cases hb; exact ⟨_, rfl⟩), hh.1, hh.2⟩
    refine ⟨fun b => ⟨l.set j (a, b), ?_, ?_, fun a' b' => ?_⟩, l.eraseIdx j, ?_, ?_, fun a' b' => ?_⟩
    · simp [putP, List.map_set]
    · rw [List.map_set]
      have : (l.map (·.1)).set j a = l.map (·.1) := by
        apply List.ext_getElem?
        intro i
        rw [List.getElem?_set]
        split
        · rename_i e; subst e; simp [hj, hja]
        · rfl
      rw [this]; exact hn
    · unfold updM
      rw [List.mem_iff_getElem?]
      constructor
      · rintro ⟨i, hi⟩
        rw [List.getElem?_set] at hi
        by_cases hij : j = i
        · subst hij
          simp [hj] at hi
          rw [if_pos hi.1.symm, hi.2]
        · have hne := hij
          rw [if_neg hij] at hi
          have hil := (List.getElem?_eq_some_iff.1 hi).1
          have hie := (List.getElem?_eq_some_iff.1 hi).2
          by_cases e : a' = a
          · exact absurd (huniq i hil (by rw [hie]; exact e)).symm hne
          · rw [if_neg e]; exact (hg a' b').1 (List.mem_of_getElem? hi)
      · intro h
        by_cases e : a' = a
        · rw [if_pos e] at h; cases h
          exact ⟨j, by rw [List.getElem?_set]; simp [hj, e]⟩
        · rw [if_neg e] at h
          obtain ⟨i, hi⟩ := List.mem_iff_getElem?.1 ((hg a' b').2 h)
          refine ⟨i, ?_⟩
          rw [List.getElem?_set]
          rw [if_neg]
          · exact hi
          · rintro rfl; rw [h1] at hi; cases hi; exact e rfl
    · simp only [delP, Nat.zero_add]
      apply List.ext_getElem?
      intro i
      simp only [List.getElem?_eraseIdx, List.getElem?_map]
      split <;> rfl
    · refine hn.sublist ?_
      exact (List.eraseIdx_sublist l j).map _
    · unfold updM
      by_cases e : a' = a
      · rw [if_pos e]
        refine ⟨fun h => ?_, fun h => by cases h⟩
        obtain ⟨i, hi⟩ := List.mem_iff_getElem?.1 h
        rw [List.getElem?_eraseIdx] at hi
        split at hi
        · have hil := (List.getElem?_eq_some_iff.1 hi).1
          have := huniq i hil (by rw [(List.getElem?_eq_some_iff.1 hi).2]; exact e)
          omega
        · have hil := (List.getElem?_eq_some_iff.1 hi).1
          have := huniq (i + 1) hil (by rw [(List.getElem?_eq_some_iff.1 hi).2]; exact e)
          omega
      · rw [if_neg e, ← hg]
        refine ⟨fun h => (List.eraseIdx_sublist l j).subset h, fun h => ?_⟩
        obtain ⟨i, hi⟩ := List.mem_iff_getElem?.1 h
        have hij : i ≠ j := by rintro rfl; rw [h1] at hi; cases hi; exact e rfl
        rw [List.mem_iff_getElem?]
        by_cases hlt : i < j
        · exact ⟨i, by rw [List.getElem?_eraseIdx, if_pos hlt]; exact hi⟩
        · refine ⟨i - 1, ?_⟩
          rw [List.getElem?_eraseIdx, if_neg (by omega)]
          rw [show i - 1 + 1 = i by omega]; exact hi

end Go.Proofs.YtafcjklojnhbnaaGreat.Pv
