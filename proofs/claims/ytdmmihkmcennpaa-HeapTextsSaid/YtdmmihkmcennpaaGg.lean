/- Ghost layer, part 7: all operations that turn nothing, in one function; and that the model's do just that. -/
import Derived.Test.YtdmmihkmcennpaaGf
import Derived.Laws.StructEq
namespace Go.Proofs.Ytdmmihkmcennpaa.Pv
open Go

def lenP (P : Program) (t : TypeId) (x : PV) : Option PV :=
  match P.underlying t with
  | some (.slice _) =>
    match x with
    | .lst n _ => some (.sc (.int .i64 n))
    | .sl _ _ _ _ n => some (.sc (.int .i64 n))
    | .sc (.slice _ n _) => some (.sc (.int .i64 n))
    | _ => none
  | some .string =>
    match x with
    | .sc (.string s) => some (.sc (.int .i64 s.size))
    | _ => none
  | _ => none

def unP (op : UnOp) (x : PV) : Option PV :=
  match x with
  | .sc (.bool b) => match op with | .not => some (.sc (.bool (!b))) | _ => none
  | .sc (.int k n) => match op with | .neg => some (.sc (.int k (k.wrap (0 - n)))) | _ => none
  | _ => none

def convP (P : Program) (src dst : TypeId) (x : PV) : Option PV :=
  match P.underlying src with
  | none => none
  | some _ =>
    match x with
    | .sc (.int _ n) => match P.underlying dst with | some (.int k) => some (.sc (.int k (k.wrap n))) | _ => none
    | .sc (.string s) => match P.underlying dst with | some .string => some (.sc (.string s)) | _ => none
    | _ => none

def elemP (P : Program) (t : TypeId) (x i : PV) : Option PV :=
  match i with
  | .sc (.int _ n) =>
    match P.underlying t with
    | some (.array len e) =>
      match x with
      | .agg cs => if (0 ≤ n ∧ n < (len : Int)) ∧ P.cellsOf e ≠ 0 ∧ (P.underlying e).isSome = true then partP P e (cs.drop (n.toNat * P.cellsOf e)) else none
      | _ => none
    | some .string =>
      match x with
      | .sc (.string s) => if 0 ≤ n then (s[n.toNat]?).map fun b => .sc (.int .u8 b.toNat) else none
      | _ => none
    | _ => none
  | _ => none

def fieldVP (P : Program) (t : TypeId) (x : PV) (f : Nat) : Option PV :=
  match P.underlying t with
  | some (.struct fs) =>
    match fs[f]? with
    | some fd => if (P.underlying fd.type).isSome = true then (match x with | .agg cs => partP P fd.type (cs.drop fd.offset) | _ => none) else none
    | none => none
  | _ => none

def nilP (x : PV) : Option PV :=
  match x with
  | .ptr _ _ _ => some x
  | .ip _ => some x
  | .fn (.func _) _ _ => some x
  | _ => none

def twoP (f : Int → Int → Int) (x y : PV) : Option PV :=
  match x, y with
  | .sc (.int k a), .sc (.int _ b) => some (.sc (.int k (f a b)))
  | _, _ => none

def minI (x y : Int) : Int := if y < x then y else x
def maxI (x y : Int) : Int := if x < y then y else x

def callP (P : Program) (F : Nat → PV) (c : Call) : Option PV :=
  match c.callee with
  | .builtin .len => match c.args.toList, c.argTypes.toList with | [x], [t] => lenP P t (ev F x) | _, _ => none
  | .builtin .min => match c.args.toList with | [x, y] => twoP minI (ev F x) (ev F y) | _ => none
  | .builtin .max => match c.args.toList with | [x, y] => twoP maxI (ev F x) (ev F y) | _ => none
  | _ => none

/-- Two structs, field by field. -/
def eqF (P : Program) : List Field → List PV → List PV → Option Bool
  | [], [], [] => some true
  | f :: fs, .sc (.int k a) :: cs, .sc (.int k' b) :: ds =>
    match P.underlying f.type with
    | some (.int _) => if k = k' then (eqF P fs cs ds).map (a == b && ·) else none
    | _ => none
  | f :: fs, .sc (.bool a) :: cs, .sc (.bool b) :: ds =>
    match P.underlying f.type with
    | some .bool => (eqF P fs cs ds).map (a == b && ·)
    | _ => none
  | _, _, _ => none

def okFields : Nat → List Field → Bool
  | _, [] => true
  | i, f :: fs => f.name != "_" && f.offset == i && okFields (i + 1) fs

/-- May structs of this type be held against each other field by field? -/
def eqOkP (P : Program) (t : TypeId) : Bool := !P.stoodInHeld t && !P.eqGuardType P.depth t && okFields 0 (P.fieldsOf t).toList

def pstr (P : Program) (op : BinOp) (t : TypeId) (x y : PV) : Option PV :=
  match x, y with
  | .agg cs, .agg ds =>
    match P.underlying t with
    | some (.struct fs) =>
      if eqOkP P t = true then
        match eqF P fs.toList cs ds, op with
        | some b, .eql => some (.sc (.bool b))
        | some b, .neq => some (.sc (.bool (!b)))
        | _, _ => none
      else none
    | _ => none
  | _, _ => none

theorem eqF_sound {P : Program} {C : Ctx} {S : Store} {w : World} {CS DS : List PV} {xs ys : Array Value} (hx : Rel C S w (.agg CS) (.agg xs)) (hy : Rel C S w (.agg DS) (.agg ys)) (d : Nat) :
    ∀ (fs : List Field) (i : Nat) (b : Bool), okFields i fs = true → eqF P fs (CS.drop i) (DS.drop i) = some b → (Op.eqFields (d + 1) xs ys fs).run P w = .ok b w
  | [], i, b, _, h => by
    generalize CS.drop i = cs at h
    generalize DS.drop i = ds at h
    cases cs with
    | nil =>
      cases ds with
      | nil => simp [eqF] at h; subst h; simp [Op.eqFields]
      | cons => simp [eqF] at h
    | cons => cases ds <;> simp [eqF] at h
  | f :: fs, i, b, hok, h => by
    simp only [okFields, Bool.and_eq_true, bne_iff_ne, beq_iff_eq] at hok
    obtain ⟨⟨hn, rfl⟩, hok⟩ := hok
    have step : ∀ (p q : PV) (ps qs : List PV), CS.drop f.offset = p :: ps → DS.drop f.offset = q :: qs → CS.drop (f.offset + 1) = ps ∧ DS.drop (f.offset + 1) = qs := by
      intro p q ps qs h1 h2
      have e1 : CS.drop (f.offset + 1) = (CS.drop f.offset).drop 1 := by rw [List.drop_drop]
      have e2 : DS.drop (f.offset + 1) = (DS.drop f.offset).drop 1 := by rw [List.drop_drop]
      rw [e1, e2, h1, h2]; exact ⟨rfl, rfl⟩
    have fin : ∀ (e : TypeDesc) (p q : PV) (ps qs : List PV) (u v : Value) (c b' : Bool), P.underlying f.type = some e → isAgg' (some e) = false → CS.drop f.offset = p :: ps → DS.drop f.offset = q :: qs → (∀ r, Rel C S w p r → r = u) → (∀ r, Rel C S w q r → r = v) →
        (Op.equalIn (d + 1) f.type u v).run P w = .ok c w → eqF P fs ps qs = some b' → b = (c && b') → (Op.eqFields (d + 1) xs ys (f :: fs)).run P w = .ok b w := by
      intro e p q ps qs u v c b' ht hag h1 h2 hu hv hrun hrest hb
      cases hx with
      | agg lx ox rx =>
        cases hy with
        | agg ly oy ry =>
          obtain ⟨r1, k1, k2⟩ := run_part (P := P) (w := w) (t := f.type) ht lx ox rx (o := f.offset) (p := p) (by unfold partP; rw [ht, hag, h1]; rfl)
          obtain ⟨r2, k3, k4⟩ := run_part (P := P) (w := w) (t := f.type) ht ly oy ry (o := f.offset) (p := q) (by unfold partP; rw [ht, hag, h2]; rfl)
          cases hu r1 k2
          cases hv r2 k4
          obtain ⟨g1, g2⟩ := step _ _ _ _ h1 h2
          have ih := eqF_sound (.agg lx ox rx) (.agg ly oy ry) d fs (f.offset + 1) b' hok (by rw [g1, g2]; exact hrest)
          unfold Op.eqFields
          rw [if_pos hn]
          simp only [Sem.run_bind, k1, k3, Result.andThen_ok, hrun]
          cases c
          · simp [hb]
          · simp [hb, ih]
    unfold eqF at h
    split at h
    · rename_i h1 _ _ ; cases h1
    · rename_i k a ps k' c qs h1 h2 h3
      cases h1
      split at h
      · rename_i k2 ht
        split at h
        · rename_i hk
          subst hk
          obtain ⟨b', hb', rfl⟩ := Option.map_eq_some_iff.1 h
          exact fin _ _ _ _ _ _ _ _ _ ht rfl h2 h3 (fun r hr => by cases hr; rfl) (fun r hr => by cases hr; rfl) (run_equalIn_int w d f.type k k2 a c ht) hb' rfl
        · cases h
      · cases h
    · rename_i a ps c qs h1 h2 h3
      cases h1
      split at h
      · rename_i ht
        obtain ⟨b', hb', rfl⟩ := Option.map_eq_some_iff.1 h
        exact fin _ _ _ _ _ _ _ _ _ ht rfl h2 h3 (fun r hr => by cases hr; rfl) (fun r hr => by cases hr; rfl) (run_equalIn_bool' w d f.type a c ht) hb' rfl
      · cases h
    · cases h

theorem pstr_sound {P : Program} {C : Ctx} {S : Store} {w : World} {op : BinOp} {t : TypeId} {x y : PV} {p : PV} {u v : Value} (X Y : Operand) (h : pstr P op t x y = some p)
    (hu : Rel C S w x u) (hv : Rel C S w y v) : ∃ r, (do eqGuard op t X Y u v; binOp op t u v : Sem Value).run P w = .ok r w ∧ Rel C S w p r := by
  unfold pstr at h
  split at h
  · rename_i cs ds
    split at h
    · rename_i fs ht
      split at h
      · rename_i hok
        unfold eqOkP at hok
        simp only [Bool.and_eq_true, Bool.not_eq_true'] at hok
        obtain ⟨⟨h1, h2⟩, h3⟩ := hok
        have hf : P.fieldsOf t = fs := by unfold Program.fieldsOf; rw [ht]
        have ht' : P.underlying t = some (.struct (P.fieldsOf t)) := by rw [hf]; exact ht
        have hu0 := hu
        have hv0 := hv
        cases hu with
        | agg a1 a2 a3 =>
          cases hv with
          | agg b1 b2 b3 =>
            rename_i xs ys
            have key : ∀ b, eqF P fs.toList cs ds = some b → (Op.equalIn 10000 t (.agg xs) (.agg ys)).run P w = .ok b w := by
              intro b hb
              show (Op.equalIn (9999 + 1) _ _ _).run P w = _
              rw [run_equalIn_struct w 9999 t xs ys ht' h1, hf]
              show (Op.eqFields (9998 + 1) xs ys fs.toList).run P w = _
              rw [hf] at h3
              exact eqF_sound hu0 hv0 9998 fs.toList 0 b h3 (by simpa using hb)
            split at h
            · rename_i b hb
              cases h
              exact ⟨_, by simp only [Sem.run_bind, run_eqGuard_agg w _ t X Y xs ys h2, Result.andThen_ok, run_eql_struct, key b hb], .sc _⟩
            · rename_i b hb
              cases h
              exact ⟨_, by simp only [Sem.run_bind, run_eqGuard_agg w _ t X Y xs ys h2, Result.andThen_ok, run_neq_struct, key b hb], .sc _⟩
            · cases h
      · cases h
    · cases h
  · cases h

def popI (P : Program) (F : Nat → PV) (o : Oper) : Option PV :=
  match o.op with
  | .move x => some (ev F x)
  | .assign x => some (ev F x)
  | .pick c a b => match ev F c with | .sc (.bool t) => some (bif t then ev F a else ev F b) | _ => none
  | .build t parts => buildP P t (parts.toList.map fun x => (x.1, ev F x.2))
  | .buildSlice t len parts =>
    match P.underlying t with
    | some (.slice e) => (litP P e len (parts.toList.map fun x => (x.1, ev F x.2))).map (.lst len)
    | _ => none
  | .load t x => match ev F x with | .ip cs => if (P.underlying t).isSome = true then partP P t cs else none | _ => none
  | .nilCheck x => nilP (ev F x)
  | .binOp op t x y _ =>
    match pbin P op t (ev F x) (ev F y) with
    | some p => some p
    | none => pstr P op t (ev F x) (ev F y)
  | .unOp op _ x => unP op (ev F x)
  | .convert src dst x => convP P src dst (ev F x)
  | .makeInterface t x => match P.underlying t with | some (.interface _) => none | some _ => some (.ifc t (ev F x)) | none => none
  | .makeFunc fn first cap => some (.fn fn (first.toList.map (ev F)) (cap.toList.map (ev F)))
  | .slice t x lo hi mx => sliceP P t (ev F x) (lo.map (ev F)) (hi.map (ev F)) (mx.map (ev F))
  | .fieldAddr t x f => fieldP P t (ev F x) f
  | .field t x f => fieldVP P t (ev F x) f
  | .indexAddr t x i => indexP P t (ev F x) (ev F i)
  | .index t x i => elemP P t (ev F x) (ev F i)
  | .extract t i => match ev F t with | .tup ps => ps[i]? | _ => none
  | .call c => callP P F c
  | _ => none

section
variable {P : Program} {C : Ctx} {S : Store} {w : World} {F : Nat → PV} {ρ : Operand → Value} {p : PV}

theorem rel_bif {b : Bool} {x y : PV} {u v : Value} (h1 : Rel C S w x u) (h2 : Rel C S w y v) : Rel C S w (bif b then x else y) (if b = true then u else v) := by
  cases b
  · exact h2
  · exact h1

theorem lenP_sound {t ty : TypeId} {x : PV} {u : Value} (h : lenP P t x = some p) (hu : Rel C S w x u) : ∃ r, (Builtin.len_ #[t] ty #[u]).run P w = .ok r w ∧ Rel C S w p r := by
  unfold lenP at h
  split at h
  · rename_i e ht
    split at h
    · cases h; cases hu <;> exact ⟨_, by simp [Builtin.len_, run_underlying ht]; rfl, .sc _⟩
    · cases h; cases hu with | sl h1 => obtain ⟨a, c, rfl, _⟩ := h1; exact ⟨_, by simp [Builtin.len_, run_underlying ht]; rfl, .sc _⟩
    · cases h; cases hu; exact ⟨_, by simp [Builtin.len_, run_underlying ht]; rfl, .sc _⟩
    · cases h
  · rename_i ht
    split at h
    · cases h; cases hu; exact ⟨_, by simp [Builtin.len_, run_underlying ht]; rfl, .sc _⟩
    · cases h
  · cases h

theorem unP_sound {op : UnOp} {x : PV} {u : Value} (h : unP op x = some p) (hu : Rel C S w x u) : ∃ r, (Op.unary op u).run P w = .ok r w ∧ Rel C S w p r := by
  unfold unP at h
  split at h
  · cases hu; split at h
    · cases h; exact ⟨_, by simp [Op.unary], .sc _⟩
    · cases h
  · cases hu; split at h
    · cases h; exact ⟨_, by simp [Op.unary, Op.intArith], .sc _⟩
    · cases h
  · cases h

theorem convP_sound {src dst : TypeId} {x : PV} {u : Value} (h : convP P src dst x = some p) (hu : Rel C S w x u) : ∃ r, (convert src dst u).run P w = .ok r w ∧ Rel C S w p r := by
  unfold convP at h
  split at h
  · cases h
  · rename_i d hs
    split at h
    · cases hu; split at h
      · rename_i k hd
        cases h
        exact ⟨_, by simp [convert, run_underlying hs, run_underlying hd, Conv.intToInt], .sc _⟩
      · cases h
    · cases hu; split at h
      · rename_i hd
        cases h
        refine ⟨_, ?_, .sc _⟩
        simp only [convert, Sem.run_bind, run_underlying hs, run_underlying hd, Result.andThen_ok, Sem.run_pure]
      · cases h
    · cases h

theorem elemP_sound {t : TypeId} {x i : PV} {u v : Value} (h : elemP P t x i = some p) (hu : Rel C S w x u) (hv : Rel C S w i v) : ∃ r, (Instr.index t u v).run P w = .ok r w ∧ Rel C S w p r := by
  unfold elemP at h
  split at h
  · cases hv
    rename_i k n
    split at h
    · rename_i len e ht
      split at h
      · split at h
        · rename_i hc
          obtain ⟨c1, c2, c3⟩ := hc
          cases hd : P.underlying e with
          | none => rw [hd] at c3; cases c3
          | some d =>
            cases hu with
            | agg hl h1 h2 =>
              obtain ⟨r, hr, hrel⟩ := run_part hd hl h1 h2 h
              exact ⟨r, by simp [Instr.index, asIntOf, run_underlying ht, c1, run_sizeOf' c2, hr], hrel⟩
        · cases h
      · cases h
    · rename_i ht
      split at h
      · cases hu
        split at h
        · rename_i hn
          obtain ⟨b, hb, rfl⟩ := Option.map_eq_some_iff.1 h
          exact ⟨_, by simp [Instr.index, asIntOf, run_underlying ht, hn, hb], .sc _⟩
        · cases h
      · cases h
    · cases h
  · cases h

theorem fieldVP_sound {t : TypeId} {x : PV} {f : Nat} {u : Value} (h : fieldVP P t x f = some p) (hu : Rel C S w x u) : ∃ r, (Instr.field t u f).run P w = .ok r w ∧ Rel C S w p r := by
  unfold fieldVP at h
  split at h
  · rename_i fs ht
    split at h
    · rename_i fd hf
      split at h
      · rename_i hd0
        split at h
        · cases hd : P.underlying fd.type with
          | none => rw [hd] at hd0; cases hd0
          | some d =>
            cases hu with
            | agg hl h1 h2 =>
              obtain ⟨r, hr, hrel⟩ := run_part hd hl h1 h2 h
              exact ⟨r, by simp [Instr.field, run_underlying ht, hf, asAgg, hr], hrel⟩
        · cases h
      · cases h
    · cases h
  · cases h

theorem relList {l : List Operand} (hρ : ∀ x, Rel C S w (ev F x) (ρ x)) : (l.map (ev F)).length = (l.toArray.map ρ).size ∧ ∀ (i : Nat) (c : PV) (v : Value), (l.map (ev F))[i]? = some c → (l.toArray.map ρ)[i]? = some v → Rel C S w c v := by
  refine ⟨by simp, fun i c v hc hv => ?_⟩
  rw [List.getElem?_map, Option.map_eq_some_iff] at hc
  rw [Array.getElem?_map, Option.map_eq_some_iff] at hv
  obtain ⟨x, hx, rfl⟩ := hc
  obtain ⟨y, hy, rfl⟩ := hv
  simp only [List.getElem?_toArray] at hy
  rw [hx] at hy; cases hy
  exact hρ x

theorem optRel {x : Option Operand} (hρ : ∀ x, Rel C S w (ev F x) (ρ x)) : (∀ p, x.map (ev F) = some p → ∃ v, x.map ρ = some v ∧ Rel C S w p v) ∧ (x.map (ev F) = none → x.map ρ = none) := by
  cases x with
  | none => exact ⟨fun p h => absurd h (by simp), fun _ => rfl⟩
  | some x =>
    refine ⟨fun p h => ?_, fun h => absurd h (by simp)⟩
    cases h
    exact ⟨_, rfl, hρ x⟩

theorem twoP_sound {x y : PV} {u v : Value} (hu : Rel C S w x u) (hv : Rel C S w y v) :
    (twoP minI x y = some p → ∃ r, (Builtin.min2 u v).run P w = .ok r w ∧ Rel C S w p r) ∧ (twoP maxI x y = some p → ∃ r, (Builtin.max2 u v).run P w = .ok r w ∧ Rel C S w p r) := by
  constructor <;>
  · intro h
    unfold twoP at h
    split at h
    · cases h; cases hu; cases hv
      exact ⟨_, rfl, .sc _⟩
    · cases h

theorem popI_sound {o : Oper} (h : popI P F o = some p) (hS : Sim C S w) (hρ : ∀ x, Rel C S w (ev F x) (ρ x)) :
    ∃ v w', (execOp ρ o).run P w = .ok (.value v) w' ∧ Rel C S w' p v ∧ Sim C S w' ∧ Step C S w C S w' := by
  have fin : (∃ v, (execOp ρ o).run P w = .ok (.value v) w ∧ Rel C S w p v) → ∃ v w', (execOp ρ o).run P w = .ok (.value v) w' ∧ Rel C S w' p v ∧ Sim C S w' ∧ Step C S w C S w' :=
    fun ⟨v, h1, h2⟩ => ⟨v, w, h1, h2, hS, .refl _ _ _⟩
  unfold popI at h
  unfold execOp at fin ⊢
  cases ho : o.op <;> simp only [ho] at h fin ⊢ <;> try (cases h; done)
  case move x => cases h; exact fin ⟨_, rfl, hρ x⟩
  case assign x => cases h; exact fin ⟨_, rfl, hρ x⟩
  case pick c a b =>
    split at h
    · rename_i t hc
      cases h
      have := hρ c
      rw [hc] at this
      generalize ρ c = v at this fin ⊢
      cases this
      exact fin ⟨_, by simp [asBool], rel_bif (hρ a) (hρ b)⟩
    · cases h
  case build t parts =>
    obtain ⟨r, hr, hrel⟩ := buildP_sound (ev F) ρ hρ h
    refine fin ⟨r, ?_, hrel⟩
    have e : (parts.map fun (x : Nat × Operand) => (x.1, ρ x.2)) = (parts.toList.map fun x => (x.1, ρ x.2)).toArray := by apply Array.toList_inj.1; simp
    simp only [Sem.run_bind]
    rw [e, hr]; rfl
  case buildSlice t len parts =>
    split at h
    · rename_i e ht
      obtain ⟨cs, hl, rfl⟩ := Option.map_eq_some_iff.1 h
      obtain ⟨vs, hr, hrel, hsz⟩ := litP_sound ht (ev F) ρ hρ hl
      have eq : (parts.map fun (x : Nat × Operand) => (x.1, ρ x.2)) = (parts.toList.map fun x => (x.1, ρ x.2)).toArray := by apply Array.toList_inj.1; simp
      obtain ⟨g1, g2, g3⟩ := hS.alloc (.cells vs e)
      refine ⟨_, _, by simp only [Sem.run_bind]; rw [eq, hr]; rfl, ?_, g1, g2⟩
      have hlen : len ≤ maxN := by
        unfold litP at hl
        split at hl
        · cases hl
        · split at hl
          · rename_i hc
            obtain ⟨_, _, c3, c4⟩ := hc
            have : len * 1 ≤ len * P.cellsOf e := Nat.mul_le_mul_left _ (Nat.pos_of_ne_zero c3)
            unfold maxN; omega
          · cases hl
      obtain ⟨r1, r2, r3⟩ := hrel.mono g2
      exact .lst1 (Nat.le_refl _) hlen (heap_alloc_new' _ _) g3 (fun _ => by omega) (fun i v _ hv => r2 i v (by simpa using hv)) (fun i q v hq hv => r3 i q v hq (by simpa using hv))
    · cases h
  case load t x =>
    split at h
    · rename_i cs hx
      split at h
      · rename_i hd0
        cases hd : P.underlying t with
        | none => rw [hd] at hd0; cases hd0
        | some d =>
          have := hρ x
          rw [hx] at this
          generalize ρ x = v at this fin ⊢
          cases this with
          | ip hb hM hs h1 hr =>
            obtain ⟨r, hrr, hrel⟩ := run_loadVar hd hb hs h1 hr h
            exact fin ⟨r, by simp [Instr.loadAt, Instr.sureAddr, hrr], hrel⟩
      · cases h
    · cases h
  case nilCheck x =>
    have hx := hρ x
    unfold nilP at h
    generalize ρ x = v at hx fin ⊢
    split at h
    · rename_i he
      cases h; rw [he] at hx fin ⊢
      cases hx with
      | ptr h1 h2 h3 => obtain ⟨a, rfl⟩ := h1; exact fin ⟨_, rfl, .ptr ⟨_, rfl⟩ h2 h3⟩
    · rename_i he
      cases h; rw [he] at hx fin ⊢
      cases hx with
      | ip a b c d e => exact fin ⟨_, rfl, .ip a b c d e⟩
    · rename_i he
      cases h; rw [he] at hx fin ⊢
      cases hx with
      | fn a b c d => exact fin ⟨_, rfl, .fn a b c d⟩
    · cases h
  case binOp op t x y ty =>
    split at h
    · rename_i p' hp
      cases h
      obtain ⟨r, hr, hrel⟩ := pbin_sound (w := w) x y hp (hρ x) (hρ y)
      refine fin ⟨r, ?_, hrel⟩
      rw [Sem.run_bind, hr]; rfl
    · obtain ⟨r, hr, hrel⟩ := pstr_sound (w := w) x y h (hρ x) (hρ y)
      refine fin ⟨r, ?_, hrel⟩
      rw [Sem.run_bind, hr]; rfl
  case unOp op t x =>
    obtain ⟨r, hr, hrel⟩ := unP_sound (P := P) h (hρ x)
    exact fin ⟨r, by rw [Sem.run_bind, hr]; rfl, hrel⟩
  case convert src dst x =>
    obtain ⟨r, hr, hrel⟩ := convP_sound h (hρ x)
    exact fin ⟨r, by rw [Sem.run_bind, hr]; rfl, hrel⟩
  case makeInterface t x =>
    split at h
    · cases h
    · rename_i d hne hd
      cases h
      refine fin ⟨_, ?_, .ifc (hρ x)⟩
      simp only [Instr.makeInterface, Sem.run_bind, run_underlying hd, Result.andThen_ok]
      cases d <;> first | rfl | exact absurd hd (hne _)
    · cases h
  case makeFunc fn first cap =>
    cases h
    have h1 := relList (l := first.toList) hρ
    have h2 := relList (l := cap.toList) hρ
    simp only [Array.toArray_toList] at h1 h2
    exact fin ⟨_, rfl, .fn h1.1 h2.1 h1.2 h2.2⟩
  case slice t x lo hi mx =>
    obtain ⟨r, hr, hrel⟩ := sliceP_sound h (hρ x) (optRel hρ) (optRel hρ) (optRel hρ)
    exact fin ⟨r, by rw [Sem.run_bind, hr]; rfl, hrel⟩
  case fieldAddr t x f =>
    obtain ⟨r, hr, hrel⟩ := fieldP_sound h (hρ x)
    exact fin ⟨r, by rw [Sem.run_bind, hr]; rfl, hrel⟩
  case field t x f =>
    obtain ⟨r, hr, hrel⟩ := fieldVP_sound h (hρ x)
    exact fin ⟨r, by rw [Sem.run_bind, hr]; rfl, hrel⟩
  case indexAddr t x i =>
    obtain ⟨r, hr, hrel⟩ := indexP_sound h (hρ x) (hρ i)
    exact fin ⟨r, by rw [Sem.run_bind, hr]; rfl, hrel⟩
  case index t x i =>
    obtain ⟨r, hr, hrel⟩ := elemP_sound h (hρ x) (hρ i)
    exact fin ⟨r, by rw [Sem.run_bind, hr]; rfl, hrel⟩
  case extract t i =>
    split at h
    · rename_i ps hx
      have := hρ t
      rw [hx] at this
      generalize ρ t = v at this fin ⊢
      cases this with
      | tup hl hr =>
        rename_i vs
        obtain ⟨hi, _⟩ := List.getElem?_eq_some_iff.1 h
        have hvi : vs[i]? = some (vs[i]'(by omega)) := by simp
        exact fin ⟨_, by simp [Instr.extract, hvi], hr i p _ h hvi⟩
    · cases h
  case call c =>
    unfold callP at h
    split at h
    · rename_i hc
      split at h
      · rename_i x t hx ht
        have ex : c.args = #[x] := by apply Array.toList_inj.1; simpa using hx
        have et : c.argTypes = #[t] := by apply Array.toList_inj.1; simpa using ht
        obtain ⟨r, hr, hrel⟩ := lenP_sound (ty := o.type) h (hρ x)
        refine fin ⟨r, ?_, hrel⟩
        simp only [resolve, hc, invoke, builtin, ex, et, Sem.run_bind, Sem.run_pure, Result.andThen_ok, List.map_toArray, List.map_cons, List.map_nil]
        rw [hr]; rfl
      · cases h
    · rename_i hc
      split at h
      · rename_i x y hx
        have ex : c.args = #[x, y] := by apply Array.toList_inj.1; simpa using hx
        obtain ⟨r, hr, hrel⟩ := (twoP_sound (P := P) (hρ x) (hρ y)).1 h
        refine fin ⟨r, ?_, hrel⟩
        simp only [resolve, hc, invoke, builtin, ex, Sem.run_bind, Sem.run_pure, Result.andThen_ok, List.map_toArray, List.map_cons, List.map_nil, Builtin.min_, List.foldlM, hr]
      · cases h
    · rename_i hc
      split at h
      · rename_i x y hx
        have ex : c.args = #[x, y] := by apply Array.toList_inj.1; simpa using hx
        obtain ⟨r, hr, hrel⟩ := (twoP_sound (P := P) (hρ x) (hρ y)).2 h
        refine fin ⟨r, ?_, hrel⟩
        simp only [resolve, hc, invoke, builtin, ex, Sem.run_bind, Sem.run_pure, Result.andThen_ok, List.map_toArray, List.map_cons, List.map_nil, Builtin.max_, List.foldlM, hr]
      · cases h
    · cases h

end
end Go.Proofs.Ytdmmihkmcennpaa.Pv
