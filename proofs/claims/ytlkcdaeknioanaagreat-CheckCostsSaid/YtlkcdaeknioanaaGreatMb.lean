/- Good instances: what plans made of any need of them. -/
import Derived.Test.YtlkcdaeknioanaaGreatLw
namespace Go.Proofs.YtlkcdaeknioanaaGreat.Pv
open Go

theorem patTo_bits (p : Nat) : ∀ k : Nat, k ≤ 64 → ∀ i : Nat, bitN (patTo p k) i = 1 → i < k
  | 0, _, i, h => by simp [patTo, bitN] at h
  | k + 1, hk, i, h => by
    have ih := patTo_bits p k (by omega) i
    unfold patTo at h
    split at h
    · rw [putB_with _ _ (patTo_lt p k) (by omega)] at h
      have h2 : ((patTo p k ||| 2 ^ k).testBit i) = true := by
        rw [bitN_test]; unfold withD at h; rw [if_pos (by omega), Int.toNat_natCast] at h; simp [h]
      rw [Nat.testBit_or, Nat.testBit_two_pow, Bool.or_eq_true] at h2
      rcases h2 with h2 | h2
      · rw [bitN_test] at h2
        have := ih (by simpa using h2); omega
      · have : k = i := by simpa using h2
        omega
    · have := ih h; omega

theorem daysTo_bit {p a k : Nat} {d : Int} (h : d ∈ daysTo p a k) : ∃ i : Nat, d = i ∧ i < k ∧ bitN p i = 1 := by
  simp only [daysTo, List.mem_map, List.mem_filter, List.mem_range, Bool.and_eq_true, decide_eq_true_eq] at h
  obtain ⟨i, ⟨h1, _, h3⟩, rfl⟩ := h
  exact ⟨i, rfl, h1, h3⟩

theorem custMade_good (c : Cust) (days : Int) (h1 : 1 ≤ days) (h7 : days ≤ 7) : CustMade (goodC c days) days.toNat := by
  unfold goodC
  split
  · have a := rnd_le c.rate 0 9 (by omega)
    have b := rnd_le c.size 1 30 (by omega)
    have d := rnd_le c.start 0 (rnd c.size 1 30) (by omega)
    exact ⟨⟨by dsimp only; omega, by dsimp only; omega, by dsimp only; omega⟩, by simp, by simp, fun h => by simp at h⟩
  · have a := rnd_le c.demand 1 15 (by omega)
    refine ⟨⟨by simp, by simp, by simp⟩, ?_, ?_, fun _ => ⟨?_, by dsimp only; omega, by dsimp only; omega⟩⟩
    · intro p hp
      simp only [patsG] at hp
      split at hp
      · simp only [List.mem_singleton] at hp; omega
      · obtain ⟨q, _, rfl⟩ := List.mem_map.1 hp; exact patTo_lt q _
    · simp only [patsG]; split
      · simp
      · simp; omega
    · intro p hp d hd
      obtain ⟨i, rfl, _, hb⟩ := daysTo_bit hd
      simp only [patsG] at hp
      split at hp
      · simp only [List.mem_singleton] at hp; subst hp
        have := (bit1 i).1 hb; omega
      · obtain ⟨q, _, rfl⟩ := List.mem_map.1 hp
        have := patTo_bits q days.toNat (by omega) i hb; omega

theorem custOk_good (c : Cust) (days : Int) : CustOk (goodC c days) := by
  unfold goodC
  split
  · have a := rnd_le c.rate 0 9 (by omega)
    have b := rnd_le c.size 1 30 (by omega)
    have d := rnd_le c.start 0 (rnd c.size 1 30) (by omega)
    have e := rnd_le c.rule 1 2 (by omega)
    have f := rnd_le c.hold 0 4 (by omega)
    refine ⟨?_, ?_, by simp, by simp, ?_, ?_, ?_, ?_, ?_⟩ <;> (unfold I64; dsimp only; omega)
  · have a := rnd_le c.demand 1 15 (by omega)
    refine ⟨?_, ?_, ?_, ?_, ?_, ?_, ?_, ?_, ?_⟩
    · unfold I64; dsimp only; omega
    · unfold I64; dsimp only; omega
    · intro p hp
      simp only [patsG] at hp
      split at hp
      · simp only [List.mem_singleton] at hp; omega
      · obtain ⟨q, _, rfl⟩ := List.mem_map.1 hp; exact patTo_lt q _
    · simp only [patsG]; split
      · simp
      · simp; omega
    all_goals (unfold I64; dsimp only; omega)

theorem good_days (x : Inst) : 1 ≤ (goodI x).days ∧ (goodI x).days ≤ 7 := rnd_le x.days 1 7 (by omega)
theorem good_cap (x : Inst) : 0 ≤ (goodI x).cap ∧ (goodI x).cap ≤ 40 := rnd_le x.cap 0 40 (by omega)
theorem good_veh (x : Inst) : 0 ≤ (goodI x).veh ∧ (goodI x).veh ≤ 5 := rnd_le x.veh 0 5 (by omega)
theorem good_len (x : Inst) : 0 ≤ (goodI x).len ∧ (goodI x).len ≤ 300 := rnd_le x.len 0 300 (by omega)
theorem good_cust (x : Inst) : (goodI x).cust.length ≤ 6 := by simp [goodI]; omega
theorem good_mem (x : Inst) {c : Cust} (h : c ∈ (goodI x).cust) : ∃ c0, c = goodC c0 (goodI x).days := by
  simp only [goodI, List.mem_map] at h
  obtain ⟨c0, _, rfl⟩ := h
  exact ⟨c0, rfl⟩

/-- A good instance of which the vehicles, the capacity and the length are others. -/
def goodV (x : Inst) (v c l : Int) : Inst := ⟨(goodI x).days, v, c, l, (goodI x).cust, (goodI x).dist⟩
theorem goodV_self (x : Inst) : goodV x (goodI x).veh (goodI x).cap (goodI x).len = goodI x := rfl

theorem instMade_good (x : Inst) (v c l : Int) (hc : c ≤ 2147483648) : InstMade (goodV x v c l) (goodI x).days.toNat := by
  have h := good_days x
  refine ⟨?_, by omega, ?_, ?_, hc⟩
  · show (goodI x).days = _; omega
  · have := good_cust x; show (goodI x).cust.length ≤ 1000; omega
  · intro d hd
    obtain ⟨c0, rfl⟩ := good_mem x hd
    exact custMade_good c0 _ h.1 h.2

theorem instOk_good (x : Inst) (v c l : Int) (hv : I64 v) (hc : I64 c) (hl : I64 l) : InstOk (goodV x v c l) := by
  have h := good_days x
  refine ⟨by unfold I64; show -9223372036854775808 ≤ (goodI x).days ∧ (goodI x).days ≤ _; omega, hv, hc, hl, ?_, ?_, ?_, ?_⟩
  · have := good_cust x; show (goodI x).cust.length ≤ _; omega
  · intro d hd
    obtain ⟨c0, rfl⟩ := good_mem x hd
    exact custOk_good c0 _
  · show (goodI x).dist.length ≤ _; simp [goodI]; omega
  · intro r hr
    have hr : r ∈ (goodI x).dist := hr
    simp only [goodI, List.mem_map] at hr
    obtain ⟨a, _, rfl⟩ := hr
    refine ⟨by simp [goodRow]; omega, fun d hd => ?_⟩
    simp only [goodRow, List.mem_map] at hd
    obtain ⟨b, _, rfl⟩ := hd
    split
    · have := rnd_le (arc x a b) 0 60 (by omega); unfold I64; omega
    · unfold I64; omega

theorem custFits_good (x : Inst) : ∀ c ∈ (goodI x).cust, CustFits c := by
  intro c hc
  obtain ⟨c0, rfl⟩ := good_mem x hc
  exact (custMade_good c0 _ (good_days x).1 (good_days x).2).fits

/-! ### Plans that are made -/

theorem stop_tour {d : Day} {t : Tour} (ht : t ∈ d) {s : Stop} (hs : s ∈ t) : s ∈ d.flatten := List.mem_flatten.2 ⟨t, ht, hs⟩

theorem nodup_lt {m : Nat} : ∀ (l : List Int), l.Nodup → (∀ c ∈ l, 0 ≤ c ∧ c < m) → l.length ≤ m := by
  intro l hn hl
  have h1 : (l.map Int.toNat).Nodup := by
    refine List.Pairwise.map _ ?_ (List.Pairwise.and_mem.1 hn)
    rintro a b ⟨ha, hb, hab⟩ e
    have := hl a ha; have := hl b hb
    exact hab (by omega)
  have h2 : ∀ c ∈ l.map Int.toNat, c ∈ List.range m := by
    intro c hc
    obtain ⟨z, hz, rfl⟩ := List.mem_map.1 hc
    have := hl z hz
    exact List.mem_range.2 (by omega)
  have := h1.length_le_of_subset h2
  simpa using this

theorem made_day {m n : Nat} {p : Plan} (h : MadeP m n p) {d : Day} (hd : d ∈ p) : d.flatten.length ≤ m ∧ d.length ≤ m ∧ ∀ t ∈ d, t.length ≤ m := by
  have h1 := nodup_lt (m := m) _ (h.nd d hd) (fun c hc => by
    obtain ⟨s, hs, rfl⟩ := List.mem_map.1 hc
    exact (h.ok d hd s hs).1)
  rw [List.length_map] at h1
  have h2 := ne_len d (h.ne d hd)
  exact ⟨h1, by omega, fun t ht => by have := tour_le d t ht; omega⟩

theorem made_sz {m n : Nat} {p : Plan} (h : MadeP m n p) (hm : m ≤ 1000) (hn : n ≤ 64) (hc : cntP p ≤ 64000) : PlanSz p := by
  have hl := h.len
  refine ⟨⟨by omega, fun d hd => by have := (made_day h hd).2.1; omega, fun d hd t ht => by have := (made_day h hd).2.2 t ht; omega, by rw [told_cnt]; omega⟩, fun d hd => by have := (made_day h hd).1; omega⟩

theorem made_dayOk {m n : Nat} {p : Plan} (h : MadeP m n p) (hm : m ≤ 1000) : ∀ d ∈ p, DayOk d := by
  intro d hd
  refine ⟨by have := (made_day h hd).2.1; omega, fun t ht => by have := (made_day h hd).2.2 t ht; omega, fun t ht s hs => ?_⟩
  have := (h.ok d hd s (stop_tour ht hs)).1
  unfold small; omega

theorem made_serves {x : Inst} {m n : Nat} {p : Plan} (h : MadeP m n p) (hm : m ≤ 1000) (hn : n ≤ 64) (hc : cntP p ≤ 64000) : Serves x p := by
  refine ⟨(made_sz h hm hn hc).ok, fun s hs => ?_, by have := h.len; omega⟩
  obtain ⟨d, hd, hsd⟩ := told_stop p 0 s hs
  have := (h.ok d hd s.1 hsd).2
  omega

theorem made_cut {m n : Nat} {p : Plan} (h : MadeP m n p) (hm : m ≤ 6) (hn : n ≤ 8) : cutP p = p := by
  have hl := h.len
  unfold cutP
  rw [List.take_of_length_le (by omega)]
  refine (List.map_congr_left fun d hd => ?_).trans (List.map_id p)
  obtain ⟨_, h2, h3⟩ := made_day h hd
  unfold cutD
  rw [List.take_of_length_le (by omega)]
  exact (List.map_congr_left fun t ht => List.take_of_length_le (by have := h3 t ht; omega)).trans (List.map_id d)

end Go.Proofs.YtlkcdaeknioanaaGreat.Pv
