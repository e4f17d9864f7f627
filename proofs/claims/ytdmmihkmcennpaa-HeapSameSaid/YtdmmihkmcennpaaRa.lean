/- From a walk over the ghost store to a row. -/
import Derived.Test.YtdmmihkmcennpaaGo
import Derived.Test.YtdmmihkmcennpaaRows
import Derived.ProofKit
namespace Go.Proofs.Ytdmmihkmcennpaa.Pv
open Go Go.ChangeShapes Go.WideShapes Go.ChangeAt Go.RowKit

def S0 : Store := fun _ => .dead
def C0 : Ctx := ⟨fun _ => none, 0⟩

theorem sim0 (w : World) : Sim C0 S0 w := by
  refine ⟨fun o h => absurd rfl h, fun o o' b k k' h => absurd rfl h, fun o ver e cs h => ?_, fun o es h => ?_⟩
  · cases h
  · cases h

theorem notM0 (b : Nat) : ¬ C0.M S0 b := by rintro ⟨o, k, h, _⟩; exact h rfl

theorem below_of_step {C' : Ctx} {S' : Store} {w w' : World} (h : Step C0 S0 w C' S' w') : Below w.heap.size w w' :=
  ⟨h.os, h.tape, h.output, h.size, fun b hb => (h.blocks b hb (notM0 b)).1⟩

/-- A slice of integers that came in. -/
theorem rel_ints {H : Type} {enc : TypeId × Value → H} {P : Program} {t e : TypeId} {base fuel : Nat} {w : World} {a0 : Option Addr} {len cap : Nat} {x : DataW H × List MemPlace} (ht : P.underlying t = some (.slice e)) (he : P.underlying e = some (.int .i64)) (hc : P.cellsOf e = 1)
    (h : DataW.trod enc P w base (fun _ => true) true fuel t (Value.slice a0 len cap).cells.toList = some x) :
    ∃ xs : List Int, Rel C0 S0 w (.lst xs.length (xs.flatMap fun z => [.sc (.int .i64 z)])) (.slice a0 len cap) := by
  have e0 : (Value.slice a0 len cap).cells.toList = [.slice a0 len cap] := rfl
  rw [e0] at h
  rcases open_ints ht he hc h with ⟨hcs, hx⟩ | ⟨a, len', cap', zs, hcs, _, hl, hm, hz, hx, hcell, hwz⟩
  · cases hcs
    exact ⟨[], .lst0⟩
  · cases hcs
    rw [if_pos rfl] at hz
    refine ⟨zs.take len, ?_⟩
    have hlen : (zs.take len).length = len := by simp; omega
    rw [hlen]
    rcases Nat.eq_zero_or_pos len with h0 | h0
    · subst h0; simp; exact .lst0
    · have h1 := hcell 0 (by omega)
      obtain ⟨b, off, spot⟩ := a
      unfold World.cell? at h1
      split at h1
      · rename_i c e1 fz hb
        split at h1
        · cases h1
        · rename_i hsp
          have hspot : spot = none := by
            cases spot with
            | none => rfl
            | some s => exact absurd rfl hsp
          subst hspot
          have key : ∀ i, i < len → c[off + i]? = some (.int .i64 (zs.getD i 0)) := by
            intro i hi
            have h2 := hcell i (by omega)
            unfold World.cell? at h2
            have q1 : ((⟨b, off, none⟩ : Addr).add i).block = b := by unfold Addr.add; split <;> simp_all
            have q2 : ((⟨b, off, none⟩ : Addr).add i).off = off + i := by unfold Addr.add; split <;> simp_all
            have q3 : ((⟨b, off, none⟩ : Addr).add i).spot = none := by unfold Addr.add; split <;> simp_all
            have hb2 : w.heap[b]? = some (.cells c e1 fz) := by simpa [Addr.add] using hb
            rw [q1, hb2, q2, q3] at h2
            exact h2
          have hfl : ((zs.take len).flatMap fun z => [PV.sc (.int .i64 z)]).length = len := by
            have : ∀ l : List Int, (l.flatMap fun z => [PV.sc (.int .i64 z)]).length = l.length := fun l => by induction l <;> simp_all
            rw [this, hlen]
          refine .lst1 hl (by unfold maxN; unfold maxLen at hm; omega) hb (notM0 b) (fun _ => ?_) (fun i v hi hv => ?_) (fun i p v hp hv => ?_)
          · rw [hfl]
            have := (Array.getElem?_eq_some_iff.1 (key (len - 1) (by omega))).1
            omega
          · rw [hfl] at hi
            rw [key i hi] at hv; cases hv; rfl
          · have hi : i < len := by
              have := (List.getElem?_eq_some_iff.1 hp).1
              rw [hfl] at this; exact this
            rw [key i hi] at hv; cases hv
            have hp2 : ((zs.take len).flatMap fun z => [PV.sc (.int .i64 z)]) = (zs.take len).map fun z => PV.sc (.int .i64 z) := by
              induction (zs.take len) <;> simp_all
            rw [hp2, List.getElem?_map, List.getElem?_take, if_pos hi] at hp
            rw [List.getD_eq_getElem?_getD]
            cases hz2 : zs[i]? with
            | none => rw [hz2] at hp; cases hp
            | some z => rw [hz2] at hp; cases hp; exact .sc _
      · cases h1

/-- The row's end: nothing that was there has turned. -/
theorem post_of_below {H : Type} {enc : TypeId × Value → H} {P : Program} {f : Func} {s : ChangeSpec} {apart fresh handsOn again : Bool} {W W' : World} {args : Array Value} {v : Value} {ds gs : List (DataW H)} {before pa pv : List MemPlace}
    (hW : DataW.Whole enc P f.params.toList s.vars apart W args.toList ds gs before)
    (hres : ∀ (b : Nat) (sp : Nat → Bool) (hd : Bool), DataW.TrodAll enc P W' b sp hd f.resultTypes.toList (v.resultList f.resultTypes.size) (s.fn H (ds ++ gs)).results [])
    (hargs : ∀ sp : Nat → Bool, (∀ p ∈ before, sp p.block = true) → DataW.TrodAll enc P W' 0 sp true f.params.toList args.toList (s.fn H (ds ++ gs)).args pa)
    (hvars : ∀ sp : Nat → Bool, (∀ p ∈ before, sp p.block = true) → DataW.TrodVars enc P W' sp s.vars (s.fn H (ds ++ gs)).vars pv)
    (hps : before = pa ++ pv) (hb : Below W.heap.size W W')
    (hok : ∀ (j : Nat) (t : TypeId) (r : Value), f.resultTypes[j]? = some t → (v.resultList f.resultTypes.size)[j]? = some r → Value.okWide P W' .any 0 t r) :
    s.post enc P f apart fresh handsOn again W args v W' := by
  have hold : ∀ p ∈ before, (fun b => decide (b < W.heap.size)) p.block = true := fun p hp => by simpa using hW.lt p hp
  have hlt := hW.lt
  refine ⟨ds, gs, before, [], pa, pv, hW, hres _ _ _, hargs _ hold, hvars _ hold, hb.frame _, fun _ => ?_⟩
  obtain ⟨_, _, _, _, _, hz, hn⟩ := hW
  refine ⟨hok, _, _, ([] ++ pa) ++ pv, ⟨[] ++ pa, pv, trodAll_append (hargs _ (fun _ _ => rfl)) (hres _ _ _), hvars _ (fun _ _ => rfl), rfl, ?_, ?_⟩, ?_⟩
  · intro b off hp
    have hp' : MemPlace.cell b off ∈ before := by rw [hps]; simpa using hp
    rw [hb.frozen (hlt _ hp')]
    exact hz b off hp'
  · intro ha
    have := hn ha
    rw [hps] at this
    simpa using this
  · intro p hp _
    rw [hps]
    simpa using hp

end Go.Proofs.Ytdmmihkmcennpaa.Pv
