/- Ghost layer, part 3: what the operations that turn nothing give, on pure values; and that the model's do just that. -/
import Derived.Test.YtdmmihkmcennpaaGb
namespace Go.Proofs.Ytdmmihkmcennpaa.Pv
open Go

def ofV (v : Value) : PV :=
  match v with
  | .agg cs => if cs.all (·.oneCell') then .agg (cs.toList.map .sc) else .sc v
  | v => .sc v

def ev (F : Nat → PV) : Operand → PV
  | .tmp t => F t
  | .const v => ofV v
  | .global g => .sc (.pointer (some ⟨g, 0, none⟩))
  | .func f => .fn (.func f) [] []

def upd (F : Nat → PV) (d : Nat) (p : PV) : Nat → PV := fun i => if i = d then p else F i
def updO (F : Nat → PV) (d : Option Nat) (p : PV) : Nat → PV :=
  match d with
  | some d => upd F d p
  | none => F

theorem upd_same (F : Nat → PV) (d : Nat) (p : PV) : upd F d p d = p := by simp [upd]
theorem upd_other (F : Nat → PV) (d i : Nat) (p : PV) (h : i ≠ d) : upd F d p i = F i := by simp [upd, h]

def PV.cells : PV → List PV
  | .agg cs => cs
  | p => [p]

def PV.one : PV → Bool
  | .junk | .agg _ | .tup _ => false
  | .sc v => v.oneCell'
  | _ => true

theorem rel_ofV {C : Ctx} {S : Store} {w : World} (v : Value) : Rel C S w (ofV v) v := by
  unfold ofV
  split
  · split
    · rename_i cs h
      refine .agg (by simp) ?_ ?_
      · intro i v hv
        rw [Array.all_eq_true_iff_forall_mem] at h
        exact h v (Array.mem_of_getElem? hv)
      · intro i c v hc hv
        simp only [List.getElem?_map, Array.getElem?_toList, hv, Option.map_some, Option.some.injEq] at hc
        subst hc; exact .sc v
    · exact .sc _
  · exact .sc _

theorem Rel.one {C : Ctx} {S : Store} {w : World} {p : PV} {v : Value} (h : Rel C S w p v) (h1 : p.one = true) : v.oneCell' = true := by
  cases h with
  | junk => cases h1
  | sc v => exact h1
  | agg => cases h1
  | tup => cases h1
  | lst0 => rfl
  | lst1 => rfl
  | ip => rfl
  | ptr h => obtain ⟨a, rfl⟩ := h; rfl
  | sl h => obtain ⟨a, c, rfl, _⟩ := h; rfl
  | fn => rfl
  | ifc => rfl
  | mp h => obtain ⟨a, rfl⟩ := h; rfl

/-- A value's cells stand for the pure value's cells. -/
theorem Rel.cells {C : Ctx} {S : Store} {w : World} {p : PV} {v : Value} (h : Rel C S w p v) (h1 : p.cells.all PV.one = true) :
    p.cells.length = v.cells.size ∧ (∀ (i : Nat) (u : Value), v.cells[i]? = some u → u.oneCell' = true) ∧ ∀ (i : Nat) (c : PV) (u : Value), p.cells[i]? = some c → v.cells[i]? = some u → Rel C S w c u := by
  cases h with
  | agg hl h2 hr => exact ⟨hl, h2, hr⟩
  | junk => simp [PV.cells, PV.one] at h1
  | tup => simp [PV.cells, PV.one] at h1
  | sc v =>
    simp only [PV.cells, PV.one, List.all_cons, List.all_nil, Bool.and_true] at h1
    have hv : v.cells = #[v] := by cases v <;> first | rfl | cases h1
    rw [hv]
    refine ⟨rfl, ?_, ?_⟩
    · intro i u hu
      rcases i with _ | i
      · simp at hu; subst hu; exact h1
      · simp at hu
    · intro i c u hc hu
      rcases i with _ | i
      · simp [PV.cells] at hc hu; subst hc; subst hu; exact .sc _
      · simp at hu
  | lst0 => exact ⟨rfl, by intro i u hu; rcases i with _ | i <;> simp [Value.cells] at hu; subst hu; rfl, by intro i c u hc hu; rcases i with _ | i <;> simp [PV.cells, Value.cells] at hc hu; subst hc; subst hu; exact .lst0⟩
  | lst1 a1 a2 a3 a4 a5 a6 a7 => exact ⟨rfl, by intro i u hu; rcases i with _ | i <;> simp [Value.cells] at hu; subst hu; rfl, by intro i c u hc hu; rcases i with _ | i <;> simp [PV.cells, Value.cells] at hc hu; subst hc; subst hu; exact .lst1 a1 a2 a3 a4 a5 a6 a7⟩
  | ip a3 a4 a5 a6 a7 => exact ⟨rfl, by intro i u hu; rcases i with _ | i <;> simp [Value.cells] at hu; subst hu; rfl, by intro i c u hc hu; rcases i with _ | i <;> simp [PV.cells, Value.cells] at hc hu; subst hc; subst hu; exact .ip a3 a4 a5 a6 a7⟩
  | ptr a b c =>
    obtain ⟨x, rfl⟩ := a
    exact ⟨rfl, by intro i u hu; rcases i with _ | i <;> simp [Value.cells] at hu; subst hu; rfl, by intro i c u hc hu; rcases i with _ | i <;> simp [PV.cells, Value.cells] at hc hu; subst hc; subst hu; exact .ptr ⟨_, rfl⟩ b c⟩
  | sl a b c =>
    obtain ⟨x, y, rfl, z⟩ := a
    exact ⟨rfl, by intro i u hu; rcases i with _ | i <;> simp [Value.cells] at hu; subst hu; rfl, by intro i c u hc hu; rcases i with _ | i <;> simp [PV.cells, Value.cells] at hc hu; subst hc; subst hu; exact .sl ⟨_, _, rfl, z⟩ b c⟩
  | fn a b c d => exact ⟨rfl, by intro i u hu; rcases i with _ | i <;> simp [Value.cells] at hu; subst hu; rfl, by intro i c u hc hu; rcases i with _ | i <;> simp [PV.cells, Value.cells] at hc hu; subst hc; subst hu; exact .fn a b ‹_› d⟩
  | ifc a => exact ⟨rfl, by intro i u hu; rcases i with _ | i <;> simp [Value.cells] at hu; subst hu; rfl, by intro i c u hc hu; rcases i with _ | i <;> simp [PV.cells, Value.cells] at hc hu; subst hc; subst hu; exact .ifc a⟩
  | mp a b c =>
    obtain ⟨x, rfl⟩ := a
    exact ⟨rfl, by intro i u hu; rcases i with _ | i <;> simp [Value.cells] at hu; subst hu; rfl, by intro i c u hc hu; rcases i with _ | i <;> simp [PV.cells, Value.cells] at hc hu; subst hc; subst hu; exact .mp ⟨_, rfl⟩ b c⟩

/-! ### The operations -/

def isAgg' (d : Option TypeDesc) : Bool :=
  match d with
  | some (.struct _) => true
  | some (.array _ _) => true
  | _ => false

/-- A value of a type out of cells. -/
def partP (P : Program) (t : TypeId) (cs : List PV) : Option PV :=
  if isAgg' (P.underlying t) then (if P.cellsOf t ≤ cs.length then some (.agg (cs.take (P.cellsOf t))) else none) else cs.head?

def pbinInt (op : BinOp) (k : IntKind) (a : Int) (k' : IntKind) (b : Int) : Option Value :=
  match op with
  | .shl => if b < 0 then none else some (.int k (k.wrap (a * 2 ^ (min b.toNat k.bits))))
  | .shr => if b < 0 then none else some (.int k (a.fdiv (2 ^ (min b.toNat k.bits))))
  | .add => if k = k' then some (.int k (k.wrap (a + b))) else none
  | .sub => if k = k' then some (.int k (k.wrap (a - b))) else none
  | .mul => if k = k' then some (.int k (k.wrap (a * b))) else none
  | .quo => if k = k' ∧ b ≠ 0 then some (.int k (k.wrap (a.tdiv b))) else none
  | .rem => if k = k' ∧ b ≠ 0 then some (.int k (a.tmod b)) else none
  | .and => if k = k' then some (.int k (bits .and k a b)) else none
  | .or => if k = k' then some (.int k (bits .or k a b)) else none
  | .xor => if k = k' then some (.int k (bits .xor k a b)) else none
  | .andNot => if k = k' then some (.int k (bits .andNot k a b)) else none
  | .eql => if k = k' then some (.bool (a == b)) else none
  | .neq => if k = k' then some (.bool (a != b)) else none
  | .lss => if k = k' then some (.bool (decide (a < b))) else none
  | .leq => if k = k' then some (.bool (decide (a ≤ b))) else none
  | .gtr => if k = k' then some (.bool (decide (a > b))) else none
  | .geq => if k = k' then some (.bool (decide (a ≥ b))) else none

theorem pbinInt_sound {P : Program} {w : World} {op : BinOp} {k k' : IntKind} {a b : Int} {v : Value} (t : TypeId) (h : pbinInt op k a k' b = some v) :
    (binOp op t (.int k a) (.int k' b)).run P w = .ok v w := by
  cases op <;> simp only [pbinInt, Option.ite_none_right_eq_some, Option.ite_none_left_eq_some, Option.some.injEq] at h
  case shl => obtain ⟨h0, rfl⟩ := h; simp [binOp, Op.shift, h0]
  case shr => obtain ⟨h0, rfl⟩ := h; simp [binOp, Op.shift, h0]
  case quo => obtain ⟨⟨rfl, h0⟩, rfl⟩ := h; simp [binOp, Op.intDiv, h0]
  case rem => obtain ⟨⟨rfl, h0⟩, rfl⟩ := h; simp [binOp, Op.intDiv, h0]
  all_goals
    obtain ⟨rfl, rfl⟩ := h
    simp [binOp, Op.intArith, Op.intCmp, Op.intBits, bits]

def pbinStr (op : BinOp) (x y : ByteArray) : Option Value :=
  match op with
  | .add => if x.size + y.size ≤ 9223372036854775807 then some (.string (x ++ y)) else none
  | .eql => some (.bool (x.toList == y.toList))
  | .neq => some (.bool (!(x.toList == y.toList)))
  | .lss => some (.bool (Op.bytesLess x.toList y.toList))
  | .leq => some (.bool (Op.bytesLess x.toList y.toList || x.toList == y.toList))
  | .gtr => some (.bool (!(Op.bytesLess x.toList y.toList || x.toList == y.toList)))
  | .geq => some (.bool (!(Op.bytesLess x.toList y.toList)))
  | _ => none

theorem pbinStr_sound {P : Program} {w : World} {op : BinOp} {x y : ByteArray} {v : Value} (t : TypeId) (h : pbinStr op x y = some v) :
    (binOp op t (.string x) (.string y)).run P w = .ok v w := by
  cases op <;> simp only [pbinStr, Option.ite_none_right_eq_some, Option.some.injEq, reduceCtorEq] at h
  case add =>
    obtain ⟨h0, rfl⟩ := h
    simp only [binOp, Op.stringOp, IntKind.max_i64]
    rw [if_neg (by omega)]
    rfl
  all_goals (subst h; simp [binOp, Op.stringOp])

theorem run_equal_bool {P : Program} {t : TypeId} (hb : P.underlying t = some .bool) (w : World) (a b : Bool) : (Op.equal t (.bool a) (.bool b)).run P w = .ok (a == b) w := by
  unfold Op.equal Op.maxDepth
  show (Op.equalIn (9999 + 1) _ _ _).run P w = _
  unfold Op.equalIn
  simp [run_underlying hb]
theorem run_equal_pnil {P : Program} {t e : TypeId} (hb : P.underlying t = some (.pointer e)) (w : World) (a : Option Addr) : (Op.equal t (.pointer a) (.pointer none)).run P w = .ok a.isNone w := by
  unfold Op.equal Op.maxDepth
  show (Op.equalIn (9999 + 1) _ _ _).run P w = _
  unfold Op.equalIn
  cases a <;> simp [run_underlying hb]

def pbin (P : Program) (op : BinOp) (t : TypeId) (x y : PV) : Option PV :=
  match x, y with
  | .sc (.int k a), .sc (.int k' b) => (pbinInt op k a k' b).map .sc
  | .sc (.string a), .sc (.string b) => (pbinStr op a b).map .sc
  | .sc (.bool a), .sc (.bool b) =>
    match P.underlying t, op with
    | some .bool, .eql => some (.sc (.bool (a == b)))
    | some .bool, .neq => some (.sc (.bool (!(a == b))))
    | _, _ => none
  | .ptr _ _ _, .sc (.pointer none) =>
    match P.underlying t, op with
    | some (.pointer _), .eql => some (.sc (.bool false))
    | some (.pointer _), .neq => some (.sc (.bool true))
    | _, _ => none
  | .sc (.pointer none), .sc (.pointer none) =>
    match P.underlying t, op with
    | some (.pointer _), .eql => some (.sc (.bool true))
    | some (.pointer _), .neq => some (.sc (.bool false))
    | _, _ => none
  | _, _ => none

theorem pbin_sound {P : Program} {C : Ctx} {S : Store} {w : World} {op : BinOp} {t : TypeId} {x y : PV} {p : PV} {u v : Value} (X Y : Operand) (h : pbin P op t x y = some p)
    (hu : Rel C S w x u) (hv : Rel C S w y v) :
    ∃ r, (do eqGuard op t X Y u v; binOp op t u v : Sem Value).run P w = .ok r w ∧ Rel C S w p r := by
  unfold pbin at h
  split at h
  · cases hu; cases hv
    obtain ⟨r, hr, rfl⟩ := Option.map_eq_some_iff.1 h
    exact ⟨r, by simp [eqGuard_at_int, pbinInt_sound t hr], .sc _⟩
  · cases hu; cases hv
    obtain ⟨r, hr, rfl⟩ := Option.map_eq_some_iff.1 h
    exact ⟨r, by simp [eqGuard_at_string, pbinStr_sound t hr], .sc _⟩
  · cases hu; cases hv
    split at h
    · rename_i hb; cases h
      exact ⟨_, by simp [eqGuard_at_bool, binOp, run_equal_bool hb], .sc _⟩
    · rename_i hb; cases h
      exact ⟨_, by simp [eqGuard_at_bool, binOp, run_equal_bool hb], .sc _⟩
    · cases h
  · cases hv
    cases hu with
    | ptr h1 h2 h3 =>
      obtain ⟨a, rfl⟩ := h1
      split at h
      · rename_i e hb; cases h
        exact ⟨_, by simp [eqGuard_at_pointer, binOp, run_equal_pnil hb], .sc _⟩
      · rename_i e hb; cases h
        exact ⟨_, by simp [eqGuard_at_pointer, binOp, run_equal_pnil hb], .sc _⟩
      · cases h
  · cases hu; cases hv
    split at h
    · rename_i e hb; cases h
      exact ⟨_, by simp [eqGuard_at_pointer, binOp, run_equal_pnil hb], .sc _⟩
    · rename_i e hb; cases h
      exact ⟨_, by simp [eqGuard_at_pointer, binOp, run_equal_pnil hb], .sc _⟩
    · cases h
  · cases h

end Go.Proofs.Ytdmmihkmcennpaa.Pv
