/- What comes in, opened: stops, customers, instances. -/
import Derived.Test.YtafcjklojnhbnaaGreatRa
import Derived.Test.YtafcjklojnhbnaaGreatJd
namespace Go.Proofs.YtafcjklojnhbnaaGreat.Pv
open Go
set_option maxRecDepth 100000

theorem opens_stop (w : World) : Opens Tryz.prog w 43 Stop StopOk := by
  intro H enc fuel cs x h
  obtain ⟨hl, n, hf⟩ := trod_fields Tryz.underlying43 h
  simp only [c43] at hl
  match cs, hl with
  | [a, b], _ =>
    obtain ⟨y0, h0⟩ := hf 0 _ rfl
    obtain ⟨y1, h1⟩ := hf 1 _ rfl
    simp at h0 h1
    obtain ⟨z0, k0, r0⟩ := opens_int Tryz.underlying3 H enc n _ _ h0
    obtain ⟨z1, k1, r1⟩ := opens_int Tryz.underlying3 H enc n _ _ h1
    exact ⟨⟨z0, z1⟩, ⟨k0, k1⟩, relL_app (vs := [a]) (us := [b]) r0 r1⟩

theorem opens_cust (w : World) : Opens Tryz.prog w 60 Cust CustOk := by
  intro H enc fuel cs x h
  obtain ⟨hl, n, hf⟩ := trod_fields Tryz.underlying60 h
  simp only [c60] at hl
  match cs, hl with
  | [v0, v1, v2, v3, v4, v5, v6, v7], _ =>
    obtain ⟨y0, h0⟩ := hf 0 _ rfl
    obtain ⟨y1, h1⟩ := hf 1 _ rfl
    obtain ⟨y2, h2⟩ := hf 2 _ rfl
    obtain ⟨y3, h3⟩ := hf 3 _ rfl
    obtain ⟨y4, h4⟩ := hf 4 _ rfl
    obtain ⟨y5, h5⟩ := hf 5 _ rfl
    obtain ⟨y6, h6⟩ := hf 6 _ rfl
    obtain ⟨y7, h7⟩ := hf 7 _ rfl
    simp at h0 h1 h2 h3 h4 h5 h6 h7
    obtain ⟨z0, k0, r0⟩ := opens_int Tryz.underlying3 H enc n _ _ h0
    obtain ⟨z1, k1, r1⟩ := opens_int Tryz.underlying3 H enc n _ _ h1
    obtain ⟨z2, k2, r2⟩ := opens_list (α := Nat) Tryz.underlying58 (by simp; rfl) (by decide) (opens_u64 Tryz.underlying70) H enc n _ _ h2
    obtain ⟨z3, k3, r3⟩ := opens_int Tryz.underlying3 H enc n _ _ h3
    obtain ⟨z4, k4, r4⟩ := opens_int Tryz.underlying3 H enc n _ _ h4
    obtain ⟨z5, k5, r5⟩ := opens_int Tryz.underlying3 H enc n _ _ h5
    obtain ⟨z6, k6, r6⟩ := opens_int Tryz.underlying3 H enc n _ _ h6
    obtain ⟨z7, k7, r7⟩ := opens_int Tryz.underlying3 H enc n _ _ h7
    exact ⟨⟨z0, z1, z2, z3, z4, z5, z6, z7⟩, ⟨k0, k1, k2.2, k2.1, k3, k4, k5, k6, k7⟩,
      relL_app (vs := [v0]) r0 (relL_app (vs := [v1]) r1 (relL_app (vs := [v2]) r2 (relL_app (vs := [v3]) r3 (relL_app (vs := [v4]) r4 (relL_app (vs := [v5]) r5 (relL_app (vs := [v6]) (us := [v7]) r6 r7))))))⟩

instance : Enc Inst := ⟨instL, 6, fun _ => rfl, fun _ => rfl⟩

theorem opens_inst (w : World) : Opens Tryz.prog w 25 Inst InstOk := by
  intro H enc fuel cs x h
  obtain ⟨hl, n, hf⟩ := trod_fields Tryz.underlying25 h
  simp only [c25] at hl
  match cs, hl with
  | [v0, v1, v2, v3, v4, v5], _ =>
    obtain ⟨y0, h0⟩ := hf 0 _ rfl
    obtain ⟨y1, h1⟩ := hf 1 _ rfl
    obtain ⟨y2, h2⟩ := hf 2 _ rfl
    obtain ⟨y3, h3⟩ := hf 3 _ rfl
    obtain ⟨y4, h4⟩ := hf 4 _ rfl
    obtain ⟨y5, h5⟩ := hf 5 _ rfl
    simp at h0 h1 h2 h3 h4 h5
    obtain ⟨z0, k0, r0⟩ := opens_int Tryz.underlying3 H enc n _ _ h0
    obtain ⟨z1, k1, r1⟩ := opens_int Tryz.underlying3 H enc n _ _ h1
    obtain ⟨z2, k2, r2⟩ := opens_int Tryz.underlying3 H enc n _ _ h2
    obtain ⟨z3, k3, r3⟩ := opens_int Tryz.underlying3 H enc n _ _ h3
    obtain ⟨z4, k4, r4⟩ := opens_list (α := Cust) Tryz.underlying22 (by simp; rfl) (by decide) (opens_cust w) H enc n _ _ h4
    obtain ⟨z5, k5, r5⟩ := opens_list (α := List Int) Tryz.underlying23 (by simp; rfl) (by decide) (opens_list (α := Int) Tryz.underlying62 (by simp; rfl) (by decide) (opens_int Tryz.underlying3)) H enc n _ _ h5
    exact ⟨⟨z0, z1, z2, z3, z4, z5⟩, ⟨k0, k1, k2, k3, k4.1, k4.2, k5.1, k5.2⟩,
      relL_app (vs := [v0]) r0 (relL_app (vs := [v1]) r1 (relL_app (vs := [v2]) r2 (relL_app (vs := [v3]) r3 (relL_app (vs := [v4]) (us := [v5]) r4 r5))))⟩

theorem opens_stops (w : World) : Opens Tryz.prog w 26 (List Stop) (fun l => l.length ≤ 9223372036854775807 ∧ ∀ s ∈ l, StopOk s) :=
  opens_list Tryz.underlying26 (by simp; rfl) (by decide) (opens_stop w)

theorem opens_tour (w : World) : Opens Tryz.prog w 66 Tour (fun l => l.length ≤ 9223372036854775807 ∧ ∀ s ∈ l, StopOk s) := by
  intro H enc fuel cs x h
  obtain ⟨hl, n, hf⟩ := trod_fields Tryz.underlying66 h
  simp only [c66] at hl
  match cs, hl with
  | [v0], _ =>
    obtain ⟨y0, h0⟩ := hf 0 _ rfl
    simp at h0
    exact opens_stops w H enc n _ _ h0

theorem opens_bools (w : World) : Opens Tryz.prog w 46 (List Bool) (fun l => l.length ≤ 9223372036854775807 ∧ ∀ s ∈ l, True) := opens_list Tryz.underlying46 (by simp; rfl) (by decide) (opens_bool Tryz.underlying4)

end Go.Proofs.YtafcjklojnhbnaaGreat.Pv
