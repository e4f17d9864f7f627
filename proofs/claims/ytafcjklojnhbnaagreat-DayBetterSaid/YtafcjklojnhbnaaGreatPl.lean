/- Plain laws of tours and days. -/
import Derived.Test.YtafcjklojnhbnaaGreatIj
namespace Go.Proofs.YtafcjklojnhbnaaGreat.Pv
open Go

theorem goodI_cust (x : Inst) : (goodI x).cust.length ≤ 6 := by simp [goodI]; omega
theorem goodI_cust' (x : Inst) : (goodI x).cust.length ≤ 1048576 := Nat.le_trans (goodI_cust x) (by decide)

/-- Good stops. -/
structure Goods (n : Int) (l : List Stop) : Prop where
  each : ∀ s ∈ l, 0 ≤ s.c ∧ s.c < n ∧ 1 ≤ s.q ∧ s.q ≤ 12
  nd : (l.map (·.c)).Nodup
  len : l.length ≤ 6

theorem goods_step {n : Int} {out : List Stop} (h : Goods n out) (h6 : out.length < 6) (s : Stop) (hs : StopOk s) : Goods n (goodStop n out s) := by
  unfold goodStop
  split
  · exact h
  · split
    · exact h
    · rename_i h1 h2
      have hq := absq_ok hs.q
      refine ⟨fun t ht => ?_, ?_, by simp; omega⟩
      · rw [List.mem_append] at ht
        rcases ht with ht | ht
        · exact h.each t ht
        · simp at ht; subst ht; simp only; omega
      · rw [List.map_append]
        refine nodup_snoc _ _ h.nd fun hc => h2 ?_
        obtain ⟨t, ht, e⟩ := List.mem_map.1 hc
        exact List.any_eq_true.2 ⟨t, ht, by simpa using e⟩
theorem goods_goodL {n : Int} : ∀ (l out : List Stop), (∀ s ∈ l, StopOk s) → Goods n out → Goods n (goodL n out l)
  | [], _, _, h => h
  | s :: l, out, hs, h => by
    unfold goodL
    split
    · rename_i h6
      exact goods_goodL l _ (fun t ht => hs t (by simp [ht])) (goods_step h h6 s (hs s (by simp)))
    · exact h
theorem goods_of {n : Int} {l : List Stop} (hs : ∀ s ∈ l, StopOk s) : Goods n (goodL n [] l) := goods_goodL l [] hs ⟨by simp, by simp, by simp⟩

/-- What a day made of good stops is. -/
structure Made (n : Int) (d : Day) : Prop where
  goods : Goods n d.flatten
  ne : ∀ t ∈ d, t ≠ []

theorem toursG_flat (cuts : List Bool) : ∀ (rest : List Stop) (i : Nat) (dn : Day) (c : List Stop), (toursG cuts i dn c rest).flatten = dn.flatten ++ c ++ rest
  | [], i, dn, c => by simp [toursG]
  | s :: rest, i, dn, c => by
    unfold toursG
    cases cuts.getD i false
    · simp [toursG_flat cuts rest]
    · simp [toursG_flat cuts rest]
theorem toursG_ne (cuts : List Bool) : ∀ (rest : List Stop) (i : Nat) (dn : Day) (c : List Stop), (∀ t ∈ dn, t ≠ []) → c ≠ [] → ∀ t ∈ toursG cuts i dn c rest, t ≠ []
  | [], i, dn, c, h, hc => by
    intro t ht
    simp only [toursG, List.mem_append, List.mem_singleton] at ht
    rcases ht with ht | rfl
    · exact h t ht
    · exact hc
  | s :: rest, i, dn, c, h, hc => by
    unfold toursG
    cases cuts.getD i false
    · exact toursG_ne cuts rest _ dn (c ++ [s]) h (by simp)
    · refine toursG_ne cuts rest _ (dn ++ [c]) [s] (fun t ht => ?_) (by simp)
      rw [List.mem_append] at ht
      rcases ht with ht | ht
      · exact h t ht
      · simp at ht; subst ht; exact hc
theorem made_of {n : Int} (cuts : List Bool) {g : List Stop} (hg : Goods n g) : Made n (toursOf cuts g) := by
  cases g with
  | nil => exact ⟨hg, by simp [toursOf]⟩
  | cons s rest => exact ⟨by simp only [toursOf, toursG_flat]; simpa using hg, toursG_ne cuts rest 1 [] [s] (by simp) (by simp)⟩

theorem flat_len_ge : ∀ (d : Day), (∀ t ∈ d, t ≠ []) → d.length ≤ d.flatten.length
  | [], _ => by simp
  | t :: d, h => by
    have := flat_len_ge d fun t ht => h t (by simp [ht])
    have h1 : t.length ≠ 0 := by simpa using h t (by simp)
    rw [List.flatten_cons, List.length_append, List.length_cons]; omega
theorem tour_sub {d : Day} {t : Tour} (h : t ∈ d) : t.Sublist d.flatten := by
  obtain ⟨a, b, rfl⟩ := List.append_of_mem h
  rw [List.flatten_append, List.flatten_cons]
  exact (List.sublist_append_left t b.flatten).trans (List.sublist_append_right a.flatten _)

section
variable {n : Int} {d : Day} (h : Made n d)
include h
theorem Made.len : d.length ≤ 6 := Nat.le_trans (flat_len_ge d h.ne) h.goods.len
theorem Made.tlen {t : Tour} (ht : t ∈ d) : t.length ≤ 6 := Nat.le_trans (tour_sub ht).length_le h.goods.len
theorem Made.stop {t : Tour} (ht : t ∈ d) {s : Stop} (hs : s ∈ t) : 0 ≤ s.c ∧ s.c < n ∧ 1 ≤ s.q ∧ s.q ≤ 12 := h.goods.each s ((tour_sub ht).subset hs)
theorem Made.dayOk (hn : n ≤ 6) : DayOk d := ⟨Nat.le_trans h.len (by decide), fun _ ht => Nat.le_trans (h.tlen ht) (by decide), fun t ht s hs => by have := h.stop ht hs; unfold small; omega⟩
theorem Made.small (hn : n ≤ 6) {t : Tour} (ht : t ∈ d) : ∀ s ∈ t, small s.c := fun s hs => by have := h.stop ht hs; unfold Pv.small; omega
end

theorem flatten_sub {α : Type} {a b : List (List α)} (h : a.Sublist b) : a.flatten.Sublist b.flatten := by
  induction h with
  | slnil => exact List.Sublist.refl _
  | cons x _ ih => rw [List.flatten_cons]; exact ih.trans (List.sublist_append_right _ _)
  | cons_cons x _ ih => rw [List.flatten_cons, List.flatten_cons]; exact List.Sublist.append_left ih x
theorem sum_perm {a b : List Int} (h : a.Perm b) : a.sum = b.sum := by
  induction h with
  | nil => rfl
  | cons x _ ih => simp [ih]
  | swap x y l => simp; omega
  | trans _ _ ih1 ih2 => exact ih1.trans ih2

theorem Made.sub {n : Int} {d e : Day} (h : Made n d) (hs : e.Sublist d) : Made n e := by
  have hf : e.flatten.Sublist d.flatten := flatten_sub hs
  exact ⟨⟨fun s q => h.goods.each s (hf.subset q), h.goods.nd.sublist (hf.map _), Nat.le_trans hf.length_le h.goods.len⟩, fun t ht => h.ne t (hs.subset ht)⟩
theorem Made.perm {n : Int} {d e : Day} (h : Made n d) (hp : e.Perm d) : Made n e := by
  have hf : e.flatten.Perm d.flatten := hp.flatten
  exact ⟨⟨fun s q => h.goods.each s (hf.subset q), (hf.map _).nodup_iff.2 h.goods.nd, by rw [hf.length_eq]; exact h.goods.len⟩, fun t ht => h.ne t (hp.subset ht)⟩

theorem dayT_zero (x : Inst) (d : Day) : dayT x d = 0 ↔ (∀ t ∈ d, mayT x t = 0) ∧ (d.flatten.map (·.c)).Nodup ∧ (d.length : Int) ≤ x.veh := by
  unfold dayT
  cases hf : d.find? (fun t => mayT x t != 0) with
  | some t =>
    have h1 := List.find?_some hf
    have h2 := List.mem_of_find?_eq_some hf
    simp only
    constructor
    · intro e; simp [e] at h1
    · rintro ⟨h, _⟩; exact h t h2
  | none =>
    rw [List.find?_eq_none] at hf
    simp only
    constructor
    · intro e
      refine ⟨fun t ht => by simpa using hf t ht, ?_⟩
      split at e
      · cases e
      · split at e
        · cases e
        · rename_i h1 h2; exact ⟨by simpa using h1, by omega⟩
    · rintro ⟨_, h1, h2⟩
      rw [if_neg (by simpa using h1), if_neg (by omega)]

theorem mayT_zero (x : Inst) (t : Tour) : mayT x t = 0 ↔ stopsB x t = true ∧ (t.map (·.c)).Nodup ∧ W (loadZ t) ≤ x.cap ∧ W (wayZ x (t.map (·.c))) ≤ x.len := by
  unfold mayT
  constructor
  · intro e
    split at e
    · cases e
    · split at e
      · cases e
      · split at e
        · cases e
        · split at e
          · cases e
          · rename_i h1 h2 h3 h4
            exact ⟨by simpa using h1, by simpa using h2, by omega, by omega⟩
  · rintro ⟨h1, h2, h3, h4⟩
    rw [if_neg (by simp [h1]), if_neg (by simpa using h2), if_neg (by omega), if_neg (by omega)]

theorem costZ_perm {x : Inst} {d e : Day} (h : d.Perm e) : costZ x d = costZ x e := by
  unfold costZ
  exact sum_perm (h.map _)
theorem dayT_perm {x : Inst} {d e : Day} (h : d.Perm e) : (dayT x d = 0) = (dayT x e = 0) := by
  rw [eq_iff_iff, dayT_zero, dayT_zero]
  rw [(h.flatten.map (·.c)).nodup_iff, h.length_eq]
  constructor
  · rintro ⟨a, b⟩; exact ⟨fun t ht => a t (h.symm.subset ht), b⟩
  · rintro ⟨a, b⟩; exact ⟨fun t ht => a t (h.subset ht), b⟩

theorem load_le {t : Tour} (h : ∀ s ∈ t, 0 ≤ s.q ∧ s.q ≤ 2147483648) : 0 ≤ loadZ t ∧ loadZ t ≤ 2147483648 * t.length := by
  induction t with
  | nil => simp [loadZ]
  | cons s t ih =>
    have := ih fun a ha => h a (by simp [ha])
    have := h s (by simp)
    simp only [loadZ, List.map_cons, List.sum_cons, List.length_cons] at *
    omega
theorem load_app (a b : Tour) : loadZ (a ++ b) = loadZ a + loadZ b := by simp [loadZ]

end Go.Proofs.YtafcjklojnhbnaaGreat.Pv
