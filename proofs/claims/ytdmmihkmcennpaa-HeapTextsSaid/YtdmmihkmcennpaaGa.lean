/- Ghost layer, part 1: pure values, ghost stores, and how real memory stands for them. No program in sight. -/
import Derived.WalkKit
import Derived.OrdersIn
import Derived.ControlIn
namespace Go.Proofs.Ytdmmihkmcennpaa.Pv
open Go

/-- A pure value: what a real value stands for. -/
inductive PV where
  | junk
  | sc (v : Value)
  | agg (cs : List PV)
  | tup (vs : List PV)
  | lst (n : Nat) (cs : List PV)
  | ip (cs : List PV)
  | ptr (o ver off : Nat)
  | sl (o ver sz off n : Nat)
  | fn (f : Fn) (first cap : List PV)
  | ifc (t : TypeId) (v : PV)
  | mp (o ver : Nat)

/-- A ghost object. -/
inductive Ob where
  | dead
  | cells (ver : Nat) (e : TypeId) (cs : List PV)
  | map (ver : Nat) (es : List (Value × PV))

abbrev Store := Nat → Ob

def Ob.ver : Ob → Option Nat
  | .dead => none
  | .cells v _ _ => some v
  | .map v _ => some v

def Store.set (S : Store) (o : Nat) (x : Ob) : Store := fun i => if i = o then x else S i

theorem Store.set_same (S : Store) (o : Nat) (x : Ob) : S.set o x o = x := by simp [Store.set]
theorem Store.set_other (S : Store) (o i : Nat) (x : Ob) (h : i ≠ o) : S.set o x i = S i := by simp [Store.set, h]
theorem Store.set_set (S : Store) (o : Nat) (x y : Ob) : (S.set o x).set o y = S.set o y := by
  funext i; simp only [Store.set]; split <;> rfl
theorem Store.set_dead (S : Store) (o : Nat) (x : Ob) (h : S o = .dead) : (S.set o x).set o .dead = S := by
  funext i; simp only [Store.set]; split
  · rename_i e; rw [e, h]
  · rfl
theorem Store.set_comm (S : Store) (o i : Nat) (x y : Ob) (h : i ≠ o) : (S.set o x).set i y = (S.set i y).set o x := by
  funext j; simp only [Store.set]; split <;> split <;> simp_all

/-- Where the objects lie: the block (none: a nil slice), and its size in cells; the first number that was never used; the first version that was never used. -/
structure Ctx where
  loc : Nat → Option (Nat × Nat)
  next : Nat
  clock : Nat

/-- The blocks that may be written. -/
def Ctx.M (C : Ctx) (S : Store) (b : Nat) : Prop := ∃ o k, S o ≠ .dead ∧ C.loc o = some (b, k)

def maxN : Nat := 9223372036854775807

inductive Rel (C : Ctx) (S : Store) (w : World) : PV → Value → Prop where
  | junk (v : Value) : Rel C S w .junk v
  | sc (v : Value) : Rel C S w (.sc v) v
  | agg {cs : List PV} {vs : Array Value} (hl : cs.length = vs.size) (h1 : ∀ (i : Nat) (v : Value), vs[i]? = some v → v.oneCell' = true) (h : ∀ (i : Nat) (c : PV) (v : Value), cs[i]? = some c → vs[i]? = some v → Rel C S w c v) : Rel C S w (.agg cs) (.agg vs)
  | tup {cs : List PV} {vs : Array Value} (hl : cs.length = vs.size) (h : ∀ (i : Nat) (c : PV) (v : Value), cs[i]? = some c → vs[i]? = some v → Rel C S w c v) : Rel C S w (.tup cs) (.tuple vs)
  | lst0 {cap : Nat} {a : Option Addr} : Rel C S w (.lst 0 []) (.slice a 0 cap)
  | lst1 {n cap b o : Nat} {cs : List PV} {c : Array Value} {e : TypeId} {fz : Nat × Nat} (hn : n ≤ cap) (hm : n ≤ maxN) (hb : w.heap[b]? = some (.cells c e fz)) (hM : ¬ C.M S b)
      (hs : cs ≠ [] → o + cs.length ≤ c.size) (h1 : ∀ (i : Nat) (v : Value), i < cs.length → c[o + i]? = some v → v.oneCell' = true) (h : ∀ (i : Nat) (p : PV) (v : Value), cs[i]? = some p → c[o + i]? = some v → Rel C S w p v) : Rel C S w (.lst n cs) (.slice (some ⟨b, o, none⟩) n cap)
  | ip {b o : Nat} {cs : List PV} {c : Array Value} {e : TypeId} {fz : Nat × Nat} (hb : w.heap[b]? = some (.cells c e fz)) (hM : ¬ C.M S b)
      (hs : cs ≠ [] → o + cs.length ≤ c.size) (h1 : ∀ (i : Nat) (v : Value), i < cs.length → c[o + i]? = some v → v.oneCell' = true) (h : ∀ (i : Nat) (p : PV) (v : Value), cs[i]? = some p → c[o + i]? = some v → Rel C S w p v) : Rel C S w (.ip cs) (.pointer (some ⟨b, o, none⟩))
  | ptr {o ver off : Nat} {v : Value} (h1 : ∃ a, v = .pointer (some a)) (ho : o < C.next ∧ ver < C.clock) (h : ∀ v0, (S o).ver = some v0 → ver ≤ v0 ∧ (ver = v0 → ∃ b k, C.loc o = some (b, k) ∧ v = .pointer (some ⟨b, off, none⟩))) : Rel C S w (.ptr o ver off) v
  | sl {o ver sz off n : Nat} {v : Value} (h1 : ∃ a cap, v = .slice a n cap ∧ n ≤ cap ∧ n ≤ maxN ∧ cap ≤ maxLen ∧ (n ≠ 0 → ∃ b f, a = some ⟨b, f, none⟩)) (ho : o < C.next ∧ ver < C.clock) (h : ∀ v0, (S o).ver = some v0 → ver ≤ v0 ∧ (ver = v0 →
      (C.loc o = none ∧ n = 0 ∧ off = 0 ∧ v = .slice none 0 0) ∨ ∃ b k a cap, C.loc o = some (b, k) ∧ v = .slice a n cap ∧ (off = 0 → a = some ⟨b, 0, none⟩ ∧ cap * sz = k) ∧ (n ≠ 0 → a = some ⟨b, off, none⟩))) :
      Rel C S w (.sl o ver sz off n) v
  | fn {f : Fn} {fs cs : List PV} {fv cv : Array Value} (hf : fs.length = fv.size) (hc : cs.length = cv.size) (h : ∀ (i : Nat) (c : PV) (v : Value), fs[i]? = some c → fv[i]? = some v → Rel C S w c v)
      (h' : ∀ (i : Nat) (c : PV) (v : Value), cs[i]? = some c → cv[i]? = some v → Rel C S w c v) : Rel C S w (.fn f fs cs) (.func f fv cv)
  | ifc {t : TypeId} {p : PV} {v : Value} (h : Rel C S w p v) : Rel C S w (.ifc t p) (.iface t v)
  | mp {o ver : Nat} {v : Value} (h1 : ∃ b, v = .map (some b)) (ho : o < C.next ∧ ver < C.clock) (h : ∀ v0, (S o).ver = some v0 → ver ≤ v0 ∧ (ver = v0 → ∃ b k, C.loc o = some (b, k) ∧ v = .map (some b))) : Rel C S w (.mp o ver) v

/-- Real memory stands for the ghost store. -/
structure Sim (C : Ctx) (S : Store) (w : World) : Prop where
  lt : ∀ o, S o ≠ .dead → o < C.next
  clk : ∀ o v, (S o).ver = some v → v < C.clock
  dist : ∀ o o' b k k', S o ≠ .dead → S o' ≠ .dead → C.loc o = some (b, k) → C.loc o' = some (b, k') → o = o'
  cells : ∀ o ver e cs, S o = .cells ver e cs → (C.loc o = none ∧ cs = []) ∨ ∃ (b k : Nat) (c : Array Value), C.loc o = some (b, k) ∧ w.heap[b]? = some (.cells c e (0, 0)) ∧ c.size = k ∧ cs.length ≤ k ∧
    (∀ (i : Nat) (v : Value), i < cs.length → c[i]? = some v → v.oneCell' = true) ∧ ∀ (i : Nat) (p : PV) (v : Value), cs[i]? = some p → c[i]? = some v → Rel C S w p v
  maps : ∀ o ver es, S o = .map ver es → ∃ (b k : Nat) (ms : Array MapEntry) (cl : Nat), C.loc o = some (b, k) ∧ w.heap[b]? = some (.map ms cl) ∧ es.length = ms.size ∧
    (∀ (i : Nat) (e : Value × PV) (m : MapEntry), es[i]? = some e → ms[i]? = some m → m.key = e.1 ∧ Rel C S w e.2 m.val)

/-- What may have become of the world, of the store and of the places. -/
structure Step (C : Ctx) (S : Store) (w : World) (C' : Ctx) (S' : Store) (w' : World) : Prop where
  os : w'.os = w.os
  tape : w'.tape = w.tape
  output : w'.output = w.output
  size : w.heap.size ≤ w'.heap.size
  next : C.next ≤ C'.next
  clock : C.clock ≤ C'.clock
  blocks : ∀ b, b < w.heap.size → ¬ C.M S b → w'.heap[b]? = w.heap[b]? ∧ ¬ C'.M S' b
  vers : ∀ o v1, (S' o).ver = some v1 → (C.next ≤ o ∨ C.clock ≤ v1) ∨ ∃ v0, (S o).ver = some v0 ∧ v0 ≤ v1 ∧ (v0 = v1 → C'.loc o = C.loc o)

theorem lt_of_heap {w : World} {b : Nat} {o : Obj} (h : w.heap[b]? = some o) : b < w.heap.size := (Array.getElem?_eq_some_iff.1 h).1

theorem Step.refl (C : Ctx) (S : Store) (w : World) : Step C S w C S w :=
  ⟨rfl, rfl, rfl, Nat.le_refl _, Nat.le_refl _, Nat.le_refl _, fun _ _ h => ⟨rfl, h⟩, fun _ v1 h => .inr ⟨v1, h, Nat.le_refl _, fun _ => rfl⟩⟩

theorem Step.trans {C C' C'' : Ctx} {S S' S'' : Store} {w w' w'' : World} (h : Step C S w C' S' w') (k : Step C' S' w' C'' S'' w'') : Step C S w C'' S'' w'' :=
  ⟨k.os.trans h.os, k.tape.trans h.tape, k.output.trans h.output, Nat.le_trans h.size k.size, Nat.le_trans h.next k.next, Nat.le_trans h.clock k.clock,
   fun b hb hM => by
     obtain ⟨h1, h2⟩ := h.blocks b hb hM
     obtain ⟨k1, k2⟩ := k.blocks b (Nat.lt_of_lt_of_le hb h.size) h2
     exact ⟨k1.trans h1, k2⟩,
   fun o v1 hv => by
     have hn := h.next
     have hk := h.clock
     rcases k.vers o v1 hv with q | ⟨v0, a, b, c⟩
     · exact .inl (q.imp (Nat.le_trans hn) (Nat.le_trans hk))
     · rcases h.vers o v0 a with q | ⟨u, a', b', c'⟩
       · exact .inl (q.imp id (fun x => Nat.le_trans x b))
       · exact .inr ⟨u, a', Nat.le_trans b' b, fun e => (c (by omega)).trans (c' (by omega))⟩⟩

theorem Rel.mono {C C' : Ctx} {S S' : Store} {w w' : World} (st : Step C S w C' S' w') {p : PV} {v : Value} (h : Rel C S w p v) : Rel C' S' w' p v := by
  induction h with
  | junk v => exact .junk v
  | sc v => exact .sc v
  | agg hl h1 _ ih => exact .agg hl h1 ih
  | tup hl _ ih => exact .tup hl ih
  | lst0 => exact .lst0
  | lst1 hn hm hb hM hs h1 _ ih =>
    obtain ⟨k1, k2⟩ := st.blocks _ (lt_of_heap hb) hM
    exact .lst1 hn hm (k1.trans hb) k2 hs h1 ih
  | ip hb hM hs h1 _ ih =>
    obtain ⟨k1, k2⟩ := st.blocks _ (lt_of_heap hb) hM
    exact .ip (k1.trans hb) k2 hs h1 ih
  | ptr h1 ho h =>
    refine .ptr h1 ⟨Nat.lt_of_lt_of_le ho.1 st.next, Nat.lt_of_lt_of_le ho.2 st.clock⟩ fun v1 hv => ?_
    rcases st.vers _ v1 hv with q | ⟨v0, a, b, c⟩
    · exact ⟨by omega, fun _ => by omega⟩
    obtain ⟨d, e⟩ := h v0 a
    refine ⟨by omega, fun q => ?_⟩
    obtain ⟨bb, k, x, y⟩ := e (by omega)
    exact ⟨bb, k, (c (by omega)).trans x, y⟩
  | sl h1 ho h =>
    refine .sl h1 ⟨Nat.lt_of_lt_of_le ho.1 st.next, Nat.lt_of_lt_of_le ho.2 st.clock⟩ fun v1 hv => ?_
    rcases st.vers _ v1 hv with q | ⟨v0, a, b, c⟩
    · exact ⟨by omega, fun _ => by omega⟩
    obtain ⟨d, e⟩ := h v0 a
    refine ⟨by omega, fun q => ?_⟩
    rw [c (by omega)]
    exact e (by omega)
  | fn hf hc _ _ ih ih' => exact .fn hf hc ih ih'
  | ifc _ ih => exact .ifc ih
  | mp h1 ho h =>
    refine .mp h1 ⟨Nat.lt_of_lt_of_le ho.1 st.next, Nat.lt_of_lt_of_le ho.2 st.clock⟩ fun v1 hv => ?_
    rcases st.vers _ v1 hv with q | ⟨v0, a, b, c⟩
    · exact ⟨by omega, fun _ => by omega⟩
    obtain ⟨d, e⟩ := h v0 a
    refine ⟨by omega, fun q => ?_⟩
    obtain ⟨bb, k, x, y⟩ := e (by omega)
    exact ⟨bb, k, (c (by omega)).trans x, y⟩

end Go.Proofs.Ytdmmihkmcennpaa.Pv
